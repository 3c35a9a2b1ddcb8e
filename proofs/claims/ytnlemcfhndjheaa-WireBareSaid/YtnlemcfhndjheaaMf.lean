import Derived.Test.YtnlemcfhndjheaaMe
import Derived.Test.YtnlemcfhndjheaaMc
/- wire: hashes; with. -/
namespace Go.Proofs.Ytnlemcfhndjheaa.AM
open Go
set_option maxRecDepth 100000
set_option maxHeartbeats 4000000
set_option linter.unusedSimpArgs false
set_option linter.unusedVariables false
def h32S (b : List Int) : H32 := if h : b.length = 32 then ⟨b, h⟩ else zero32
def part (b : List Int) (i : Nat) : List Int := b.take i ++ List.replicate (32 - i) 0
theorem part_len {b : List Int} {i : Nat} (hb : b.length = 32) (hi : i ≤ 32) : (part b i).length = 32 := by simp [part]; omega
theorem part_step {b : List Int} {i : Nat} (hb : b.length = 32) (hi : i < 32) : ((part b i).map u8).set i (u8 (b[i]'(by omega))) = (part b (i + 1)).map u8 := by
  rw [← List.map_set]
  congr 1
  unfold part
  rw [List.set_append_right _ _ (by simp; omega)]
  have e : i - (b.take i).length = 0 := by simp; omega
  rw [e, show 32 - i = (32 - (i + 1)) + 1 by omega, List.replicate_succ, List.set_cons_zero, List.take_succ_eq_append_getElem (by omega), List.append_assoc]
  rfl
theorem part_end {b : List Int} (hb : b.length = 32) : part b 32 = b := by unfold part; rw [List.take_of_length_le (by omega)]; simp
theorem hash_okH (b : List Int) (hb : Bytes b) (hn : b.length ≤ 140737488351232) (o : AOwn) : prun T F45 [.slice o none (b.map u8)] = some (.tup [.agg ((h32S b).1.map u8), .sc (.bool (decide (b.length = 32)))]) := by
  refine WP_eq (prun_wp ?_)
  by_cases h32 : b.length = 32
  · obtain ⟨x, rfl⟩ : ∃ x : H32, x.1 = b := ⟨⟨b, h32⟩, rfl⟩
    have hS : h32S x.1 = x := by simp [h32S, h32]
    rw [hS, decide_eq_true h32]
    generalize hbx : x.1 = b at *
    first | have hb := hb | have hb := trivial
    repeat' (first | (simp -implicitDefEqProofs (disch := omega) only [hb, F45, wG, z32, wC, wO, initE, aop, Nat.reduceEqDiff, ↓reduceIte, Nat.reduceAdd, finish, resOf, tupOf, AM.freeze, freeze1, freezeL, closed, nam, namL, if_true, if_false, deref, boxAt, exAt, ldCells, oneL, oneCell, Nat.reduceLeDiff, evL, adopt, rigid, rigidL, trim, Int.reduceEq, Int.reduceMod, Int.reduceDiv, if_pos, if_neg, asI, forall_const, implies_true, chkD, chkO, chkW, effB, reB, vEq, beq_self_eq_true, Nat.reduceSub, Nat.reduceLT, Int.reduceSub, Int.reduceAdd, Int.reduceMul, Int.reduceLT, Int.reduceLE, Int.reduceToNat, optI, aslice, cutSl, cutMs, cutStr, cutOwn]) | ((first | rw [WP_condK] | rw [WP_opsG] | rw [WP_quiG] | rw [WP_dG]); refine And.intro (fun hb => ?_) (fun hb => ?_) <;> (first | have hd := dq1 hb | have hd := dq2 hb | have hd := dq3 hb | have hd := dq4 hb | skip)))
    refine WP_loop (I := fun n e h => ∃ i : Nat, n + i = 32 ∧ h = [.cells (zero32.1.map u8), .cells ((part b i).map u8)] ∧ getE e 0 = .slice o none (b.map u8) ∧ getE e 2 = .ptr 0 0 ∧ getE e 4 = .ptr 1 0 ∧ getE e 5 = i64 i) ?_ 32 _ _ ⟨0, by omega, rfl, rfl, rfl, rfl, rfl⟩
    rintro n e h ⟨i, hn, rfl, h0, h2, h4, h5⟩
    rw [trim_same' (by simp)]
    have hpl := part_len h32 (i := i) (by omega)
    by_cases hlt : i < 32
    · have hg := get_u8 (l := b) (i := i) (by omega)
      have hst := part_step h32 hlt
      first | have hb := hb | have hb := trivial
      repeat' (first | (simp -implicitDefEqProofs (disch := omega) only [hb, L45_0, h0, h2, h4, h5, hg, hpl, hst, splice_one, wC, wO, initE, aop, Nat.reduceEqDiff, ↓reduceIte, Nat.reduceAdd, finish, resOf, tupOf, AM.freeze, freeze1, freezeL, closed, nam, namL, if_true, if_false, deref, boxAt, exAt, ldCells, oneL, oneCell, Nat.reduceLeDiff, evL, adopt, rigid, rigidL, trim, Int.reduceEq, Int.reduceMod, Int.reduceDiv, if_pos, if_neg, asI, forall_const, implies_true, chkD, chkO, chkW, effB, reB, vEq, beq_self_eq_true, Nat.reduceSub, Nat.reduceLT, Int.reduceSub, Int.reduceAdd, Int.reduceMul, Int.reduceLT, Int.reduceLE, Int.reduceToNat, optI, aslice, cutSl, cutMs, cutStr, cutOwn]) | ((first | rw [WP_condK] | rw [WP_opsG] | rw [WP_quiG] | rw [WP_dG]); refine And.intro (fun hb => ?_) (fun hb => ?_) <;> (first | have hd := dq1 hb | have hd := dq2 hb | have hd := dq3 hb | have hd := dq4 hb | skip)))
      exact ⟨n - 1, by omega, i + 1, by omega, rfl, rfl⟩
    · have hi : i = 32 := by omega
      subst hi
      have hp : (part b 32).map u8 = x.1.map u8 := by rw [part_end h32, hbx]
      rw [hp]
      first | have hb := hb | have hb := trivial
      repeat' (first | (simp -implicitDefEqProofs (disch := omega) only [hb, L45_0, wG, h0, h2, h4, h5, strip_u8, namL_u8, wC, wO, initE, aop, Nat.reduceEqDiff, ↓reduceIte, Nat.reduceAdd, finish, resOf, tupOf, AM.freeze, freeze1, freezeL, closed, nam, namL, if_true, if_false, deref, boxAt, exAt, ldCells, oneL, oneCell, Nat.reduceLeDiff, evL, adopt, rigid, rigidL, trim, Int.reduceEq, Int.reduceMod, Int.reduceDiv, if_pos, if_neg, asI, forall_const, implies_true, chkD, chkO, chkW, effB, reB, vEq, beq_self_eq_true, Nat.reduceSub, Nat.reduceLT, Int.reduceSub, Int.reduceAdd, Int.reduceMul, Int.reduceLT, Int.reduceLE, Int.reduceToNat, optI, aslice, cutSl, cutMs, cutStr, cutOwn]) | ((first | rw [WP_condK] | rw [WP_opsG] | rw [WP_quiG] | rw [WP_dG]); refine And.intro (fun hb => ?_) (fun hb => ?_) <;> (first | have hd := dq1 hb | have hd := dq2 hb | have hd := dq3 hb | have hd := dq4 hb | skip)))
      rw [hbx]
  · have hS : h32S b = zero32 := by simp [h32S, h32]
    rw [hS, decide_eq_false h32]
    first | have hb := hb | have hb := trivial
    repeat' (first | (simp -implicitDefEqProofs (disch := omega) only [hb, F45, wG, z32, strip_u8, namL_u8, wC, wO, initE, aop, Nat.reduceEqDiff, ↓reduceIte, Nat.reduceAdd, finish, resOf, tupOf, AM.freeze, freeze1, freezeL, closed, nam, namL, if_true, if_false, deref, boxAt, exAt, ldCells, oneL, oneCell, Nat.reduceLeDiff, evL, adopt, rigid, rigidL, trim, Int.reduceEq, Int.reduceMod, Int.reduceDiv, if_pos, if_neg, asI, forall_const, implies_true, chkD, chkO, chkW, effB, reB, vEq, beq_self_eq_true, Nat.reduceSub, Nat.reduceLT, Int.reduceSub, Int.reduceAdd, Int.reduceMul, Int.reduceLT, Int.reduceLE, Int.reduceToNat, optI, aslice, cutSl, cutMs, cutStr, cutOwn]) | ((first | rw [WP_condK] | rw [WP_opsG] | rw [WP_quiG] | rw [WP_dG]); refine And.intro (fun hb => ?_) (fun hb => ?_) <;> (first | have hd := dq1 hb | have hd := dq2 hb | have hd := dq3 hb | have hd := dq4 hb | skip)))
theorem u8_cl (b : List Int) (o : AOwn) (ho : stripO o = o) (hno : (match o with | .tok _ => false | _ => true) = true) : closedL [.slice o none (b.map u8)] = true := by
  have := u8_closed b
  simp only [closedL, namL, nam, Bool.and_true] at this ⊢
  rw [this, Bool.and_true]
  cases o <;> first | rfl | cases hno
theorem call_readN (b : List Int) (hb : Bytes b) (hn : b.length ≤ 140737488351232) (h : Heap) : ag T 46 [.slice .none none (b.map u8)] h = some (i64 (rdN b), h) := call_sc rfl t46 rfl rfl rfl (u8_cl b .none rfl rfl) (read_okN b hb hn .none)
theorem call_hashH (b : List Int) (hb : Bytes b) (hn : b.length ≤ 140737488351232) (h : Heap) : ag T 45 [.slice .none none (b.map u8)] h = some (.tup [.agg ((h32S b).1.map u8), .sc (.bool (decide (b.length = 32)))], h) := by
  have := call_pure (T := T) (args := [.slice .none none (b.map u8)]) (h := h) rfl t45 rfl rfl (u8_cl b .none rfl rfl) (hash_okH b hb hn .none)
  exact this
def setNum (m : Pm) (t x : Int) : Pm := if t = 1 then { m with c := x } else if t = 3 then { m with i := x } else if t = 5 then { m with a := x } else if t = 7 then { m with e := x } else if t = 19 then { m with n := x } else if t = 21 then { m with d := x } else m
def setHash (m : Pm) (t : Int) (x : H32) : Pm := if t = 9 then { m with h := x } else if t = 13 then { m with s := x } else if t = 15 then { m with p := x } else if t = 17 then { m with t := x } else m
def setText (m : Pm) (t : Int) (x : List Int) : Pm := if t = 11 then { m with o := x } else if t = 23 then { m with r := x } else m
/-- a message with a field of some bytes -/
def setM (m : Pm) (t : Int) (b : List Int) : Option Pm :=
  if (numOff t).isSome then (if okN b then some (setNum m t (be b)) else none)
  else if (hashOff t).isSome then (if b.length = 32 then some (setHash m t (h32S b)) else none)
  else some (setText m t b)
theorem rdN_ok {b : List Int} (hb : Bytes b) (h : okN b) : rdN b = be b ∧ 0 ≤ be b := ⟨if_pos h, (be_bound b hb).1⟩
theorem rdN_bad {b : List Int} (h : ¬ okN b) : rdN b = -1 := if_neg h
theorem with_ok (m : Pm) (vo vr : AV) {lo lr : List Int} (to : Tx vo lo) (tr : Tx vr lr) (b : List Int) (hb : Bytes b) (hn : b.length ≤ 140737488351232) (t : Int) (ht : t ∈ allT) :
    ∃ m' vo' vr', prun T F26 [.agg (msC m vo vr), u64 t, .slice .none none (b.map u8)] = some (.tup [.agg (msC m' vo' vr'), .sc (.bool (setM m t b).isSome)]) ∧ (∀ q, setM m t b = some q → msC m' vo' vr' = msC q vo' vr' ∧ vo' = (if t = 11 then .slice .none none (b.map u8) else vo) ∧ vr' = (if t = 23 then .slice .none none (b.map u8) else vr)) ∧ (closed vo' = true ∧ one vo' = true) ∧ (closed vr' = true ∧ one vr' = true) := by
  suffices h : WP (fun v => ∃ m' vo' vr', v = .tup [.agg (msC m' vo' vr'), .sc (.bool (setM m t b).isSome)] ∧ (∀ q, setM m t b = some q → msC m' vo' vr' = msC q vo' vr' ∧ vo' = (if t = 11 then .slice .none none (b.map u8) else vo) ∧ vr' = (if t = 23 then .slice .none none (b.map u8) else vr)) ∧ (closed vo' = true ∧ one vo' = true) ∧ (closed vr' = true ∧ one vr' = true)) (prun T F26 [.agg (msC m vo vr), u64 t, .slice .none none (b.map u8)]) by
    obtain ⟨v, h1, m', vo', vr', rfl, h2⟩ := WP_ex h
    exact ⟨m', vo', vr', h1, h2⟩
  have kr := fun h => call_readN b hb hn h
  have kh := fun h => call_hashH b hb hn h
  have tb := tx_slice b
  simp only [allT, List.mem_cons, List.not_mem_nil, or_false] at ht
  refine prun_wp ?_
  rcases ht with rfl | rfl | rfl | rfl | rfl | rfl | rfl | rfl | rfl | rfl | rfl | rfl
  · first | have hb := hb | have hb := trivial
    repeat' (first | (simp -implicitDefEqProofs (disch := omega) only [hb, F26, wG, z32, kr, kh, to.strip, tr.strip, to.one, tr.one, to.cells, tr.cells, to.cl, tr.cl, tb.cl, strip_u8, namL_u8, wC, wO, initE, aop, Nat.reduceEqDiff, ↓reduceIte, Nat.reduceAdd, finish, resOf, tupOf, AM.freeze, freeze1, freezeL, closed, nam, namL, if_true, if_false, deref, boxAt, exAt, ldCells, oneL, oneCell, Nat.reduceLeDiff, evL, adopt, rigid, rigidL, trim, Int.reduceEq, Int.reduceMod, Int.reduceDiv, if_pos, if_neg, asI, forall_const, implies_true, chkD, chkO, chkW, effB, reB, vEq, beq_self_eq_true, Nat.reduceSub, Nat.reduceLT, Int.reduceSub, Int.reduceAdd, Int.reduceMul, Int.reduceLT, Int.reduceLE, Int.reduceToNat, optI, aslice, cutSl, cutMs, cutStr, cutOwn]) | ((first | rw [WP_condK] | rw [WP_opsG] | rw [WP_quiG] | rw [WP_dG]); refine And.intro (fun hb => ?_) (fun hb => ?_) <;> (first | have hd := dq1 hb | have hd := dq2 hb | have hd := dq3 hb | have hd := dq4 hb | skip)))
    by_cases hok : okN b
    · obtain ⟨e1, e2⟩ := rdN_ok hb hok
      have e : setM m 1 b = some (setNum m 1 (be b)) := by simp [setM, numOff, hok]
      rw [e1, e, decide_eq_true e2]
      exact ⟨setNum m 1 (be b), vo, vr, rfl, fun q hq => by cases hq; exact ⟨rfl, rfl, rfl⟩, ⟨to.cl, to.one⟩, ⟨tr.cl, tr.one⟩⟩
    · have e : setM m 1 b = none := by simp [setM, numOff, hok]
      rw [rdN_bad hok, e]
      exact ⟨setNum m 1 (-1), vo, vr, rfl, fun q hq => (by cases hq), ⟨to.cl, to.one⟩, ⟨tr.cl, tr.one⟩⟩
  · first | have hb := hb | have hb := trivial
    repeat' (first | (simp -implicitDefEqProofs (disch := omega) only [hb, F26, wG, z32, kr, kh, to.strip, tr.strip, to.one, tr.one, to.cells, tr.cells, to.cl, tr.cl, tb.cl, strip_u8, namL_u8, wC, wO, initE, aop, Nat.reduceEqDiff, ↓reduceIte, Nat.reduceAdd, finish, resOf, tupOf, AM.freeze, freeze1, freezeL, closed, nam, namL, if_true, if_false, deref, boxAt, exAt, ldCells, oneL, oneCell, Nat.reduceLeDiff, evL, adopt, rigid, rigidL, trim, Int.reduceEq, Int.reduceMod, Int.reduceDiv, if_pos, if_neg, asI, forall_const, implies_true, chkD, chkO, chkW, effB, reB, vEq, beq_self_eq_true, Nat.reduceSub, Nat.reduceLT, Int.reduceSub, Int.reduceAdd, Int.reduceMul, Int.reduceLT, Int.reduceLE, Int.reduceToNat, optI, aslice, cutSl, cutMs, cutStr, cutOwn]) | ((first | rw [WP_condK] | rw [WP_opsG] | rw [WP_quiG] | rw [WP_dG]); refine And.intro (fun hb => ?_) (fun hb => ?_) <;> (first | have hd := dq1 hb | have hd := dq2 hb | have hd := dq3 hb | have hd := dq4 hb | skip)))
    by_cases hok : okN b
    · obtain ⟨e1, e2⟩ := rdN_ok hb hok
      have e : setM m 3 b = some (setNum m 3 (be b)) := by simp [setM, numOff, hok]
      rw [e1, e, decide_eq_true e2]
      exact ⟨setNum m 3 (be b), vo, vr, rfl, fun q hq => by cases hq; exact ⟨rfl, rfl, rfl⟩, ⟨to.cl, to.one⟩, ⟨tr.cl, tr.one⟩⟩
    · have e : setM m 3 b = none := by simp [setM, numOff, hok]
      rw [rdN_bad hok, e]
      exact ⟨setNum m 3 (-1), vo, vr, rfl, fun q hq => (by cases hq), ⟨to.cl, to.one⟩, ⟨tr.cl, tr.one⟩⟩
  · first | have hb := hb | have hb := trivial
    repeat' (first | (simp -implicitDefEqProofs (disch := omega) only [hb, F26, wG, z32, kr, kh, to.strip, tr.strip, to.one, tr.one, to.cells, tr.cells, to.cl, tr.cl, tb.cl, strip_u8, namL_u8, wC, wO, initE, aop, Nat.reduceEqDiff, ↓reduceIte, Nat.reduceAdd, finish, resOf, tupOf, AM.freeze, freeze1, freezeL, closed, nam, namL, if_true, if_false, deref, boxAt, exAt, ldCells, oneL, oneCell, Nat.reduceLeDiff, evL, adopt, rigid, rigidL, trim, Int.reduceEq, Int.reduceMod, Int.reduceDiv, if_pos, if_neg, asI, forall_const, implies_true, chkD, chkO, chkW, effB, reB, vEq, beq_self_eq_true, Nat.reduceSub, Nat.reduceLT, Int.reduceSub, Int.reduceAdd, Int.reduceMul, Int.reduceLT, Int.reduceLE, Int.reduceToNat, optI, aslice, cutSl, cutMs, cutStr, cutOwn]) | ((first | rw [WP_condK] | rw [WP_opsG] | rw [WP_quiG] | rw [WP_dG]); refine And.intro (fun hb => ?_) (fun hb => ?_) <;> (first | have hd := dq1 hb | have hd := dq2 hb | have hd := dq3 hb | have hd := dq4 hb | skip)))
    by_cases hok : okN b
    · obtain ⟨e1, e2⟩ := rdN_ok hb hok
      have e : setM m 5 b = some (setNum m 5 (be b)) := by simp [setM, numOff, hok]
      rw [e1, e, decide_eq_true e2]
      exact ⟨setNum m 5 (be b), vo, vr, rfl, fun q hq => by cases hq; exact ⟨rfl, rfl, rfl⟩, ⟨to.cl, to.one⟩, ⟨tr.cl, tr.one⟩⟩
    · have e : setM m 5 b = none := by simp [setM, numOff, hok]
      rw [rdN_bad hok, e]
      exact ⟨setNum m 5 (-1), vo, vr, rfl, fun q hq => (by cases hq), ⟨to.cl, to.one⟩, ⟨tr.cl, tr.one⟩⟩
  · first | have hb := hb | have hb := trivial
    repeat' (first | (simp -implicitDefEqProofs (disch := omega) only [hb, F26, wG, z32, kr, kh, to.strip, tr.strip, to.one, tr.one, to.cells, tr.cells, to.cl, tr.cl, tb.cl, strip_u8, namL_u8, wC, wO, initE, aop, Nat.reduceEqDiff, ↓reduceIte, Nat.reduceAdd, finish, resOf, tupOf, AM.freeze, freeze1, freezeL, closed, nam, namL, if_true, if_false, deref, boxAt, exAt, ldCells, oneL, oneCell, Nat.reduceLeDiff, evL, adopt, rigid, rigidL, trim, Int.reduceEq, Int.reduceMod, Int.reduceDiv, if_pos, if_neg, asI, forall_const, implies_true, chkD, chkO, chkW, effB, reB, vEq, beq_self_eq_true, Nat.reduceSub, Nat.reduceLT, Int.reduceSub, Int.reduceAdd, Int.reduceMul, Int.reduceLT, Int.reduceLE, Int.reduceToNat, optI, aslice, cutSl, cutMs, cutStr, cutOwn]) | ((first | rw [WP_condK] | rw [WP_opsG] | rw [WP_quiG] | rw [WP_dG]); refine And.intro (fun hb => ?_) (fun hb => ?_) <;> (first | have hd := dq1 hb | have hd := dq2 hb | have hd := dq3 hb | have hd := dq4 hb | skip)))
    by_cases hok : okN b
    · obtain ⟨e1, e2⟩ := rdN_ok hb hok
      have e : setM m 7 b = some (setNum m 7 (be b)) := by simp [setM, numOff, hok]
      rw [e1, e, decide_eq_true e2]
      exact ⟨setNum m 7 (be b), vo, vr, rfl, fun q hq => by cases hq; exact ⟨rfl, rfl, rfl⟩, ⟨to.cl, to.one⟩, ⟨tr.cl, tr.one⟩⟩
    · have e : setM m 7 b = none := by simp [setM, numOff, hok]
      rw [rdN_bad hok, e]
      exact ⟨setNum m 7 (-1), vo, vr, rfl, fun q hq => (by cases hq), ⟨to.cl, to.one⟩, ⟨tr.cl, tr.one⟩⟩
  · first | have hb := hb | have hb := trivial
    repeat' (first | (simp -implicitDefEqProofs (disch := omega) only [hb, F26, wG, z32, kr, kh, to.strip, tr.strip, to.one, tr.one, to.cells, tr.cells, to.cl, tr.cl, tb.cl, strip_u8, namL_u8, wC, wO, initE, aop, Nat.reduceEqDiff, ↓reduceIte, Nat.reduceAdd, finish, resOf, tupOf, AM.freeze, freeze1, freezeL, closed, nam, namL, if_true, if_false, deref, boxAt, exAt, ldCells, oneL, oneCell, Nat.reduceLeDiff, evL, adopt, rigid, rigidL, trim, Int.reduceEq, Int.reduceMod, Int.reduceDiv, if_pos, if_neg, asI, forall_const, implies_true, chkD, chkO, chkW, effB, reB, vEq, beq_self_eq_true, Nat.reduceSub, Nat.reduceLT, Int.reduceSub, Int.reduceAdd, Int.reduceMul, Int.reduceLT, Int.reduceLE, Int.reduceToNat, optI, aslice, cutSl, cutMs, cutStr, cutOwn]) | ((first | rw [WP_condK] | rw [WP_opsG] | rw [WP_quiG] | rw [WP_dG]); refine And.intro (fun hb => ?_) (fun hb => ?_) <;> (first | have hd := dq1 hb | have hd := dq2 hb | have hd := dq3 hb | have hd := dq4 hb | skip)))
    by_cases hl : b.length = 32
    · have e : setM m 9 b = some (setHash m 9 (h32S b)) := by simp [setM, numOff, hashOff, hl]
      rw [e, decide_eq_true hl]
      exact ⟨setHash m 9 (h32S b), vo, vr, rfl, fun q hq => by cases hq; exact ⟨rfl, rfl, rfl⟩, ⟨to.cl, to.one⟩, ⟨tr.cl, tr.one⟩⟩
    · have e : setM m 9 b = none := by simp [setM, numOff, hashOff, hl]
      rw [e, decide_eq_false hl]
      exact ⟨setHash m 9 (h32S b), vo, vr, rfl, fun q hq => (by cases hq), ⟨to.cl, to.one⟩, ⟨tr.cl, tr.one⟩⟩
  · first | have hb := hb | have hb := trivial
    repeat' (first | (simp -implicitDefEqProofs (disch := omega) only [hb, F26, wG, z32, kr, kh, to.strip, tr.strip, to.one, tr.one, to.cells, tr.cells, to.cl, tr.cl, tb.cl, strip_u8, namL_u8, wC, wO, initE, aop, Nat.reduceEqDiff, ↓reduceIte, Nat.reduceAdd, finish, resOf, tupOf, AM.freeze, freeze1, freezeL, closed, nam, namL, if_true, if_false, deref, boxAt, exAt, ldCells, oneL, oneCell, Nat.reduceLeDiff, evL, adopt, rigid, rigidL, trim, Int.reduceEq, Int.reduceMod, Int.reduceDiv, if_pos, if_neg, asI, forall_const, implies_true, chkD, chkO, chkW, effB, reB, vEq, beq_self_eq_true, Nat.reduceSub, Nat.reduceLT, Int.reduceSub, Int.reduceAdd, Int.reduceMul, Int.reduceLT, Int.reduceLE, Int.reduceToNat, optI, aslice, cutSl, cutMs, cutStr, cutOwn]) | ((first | rw [WP_condK] | rw [WP_opsG] | rw [WP_quiG] | rw [WP_dG]); refine And.intro (fun hb => ?_) (fun hb => ?_) <;> (first | have hd := dq1 hb | have hd := dq2 hb | have hd := dq3 hb | have hd := dq4 hb | skip)))
    have e : setM m 11 b = some (setText m 11 b) := by simp [setM, numOff, hashOff]
    rw [e]
    exact ⟨m, .slice .none none (b.map u8), vr, rfl, fun q hq => by cases hq; exact ⟨rfl, rfl, rfl⟩, ⟨tb.cl, tb.one⟩, ⟨tr.cl, tr.one⟩⟩
  · first | have hb := hb | have hb := trivial
    repeat' (first | (simp -implicitDefEqProofs (disch := omega) only [hb, F26, wG, z32, kr, kh, to.strip, tr.strip, to.one, tr.one, to.cells, tr.cells, to.cl, tr.cl, tb.cl, strip_u8, namL_u8, wC, wO, initE, aop, Nat.reduceEqDiff, ↓reduceIte, Nat.reduceAdd, finish, resOf, tupOf, AM.freeze, freeze1, freezeL, closed, nam, namL, if_true, if_false, deref, boxAt, exAt, ldCells, oneL, oneCell, Nat.reduceLeDiff, evL, adopt, rigid, rigidL, trim, Int.reduceEq, Int.reduceMod, Int.reduceDiv, if_pos, if_neg, asI, forall_const, implies_true, chkD, chkO, chkW, effB, reB, vEq, beq_self_eq_true, Nat.reduceSub, Nat.reduceLT, Int.reduceSub, Int.reduceAdd, Int.reduceMul, Int.reduceLT, Int.reduceLE, Int.reduceToNat, optI, aslice, cutSl, cutMs, cutStr, cutOwn]) | ((first | rw [WP_condK] | rw [WP_opsG] | rw [WP_quiG] | rw [WP_dG]); refine And.intro (fun hb => ?_) (fun hb => ?_) <;> (first | have hd := dq1 hb | have hd := dq2 hb | have hd := dq3 hb | have hd := dq4 hb | skip)))
    by_cases hl : b.length = 32
    · have e : setM m 13 b = some (setHash m 13 (h32S b)) := by simp [setM, numOff, hashOff, hl]
      rw [e, decide_eq_true hl]
      exact ⟨setHash m 13 (h32S b), vo, vr, rfl, fun q hq => by cases hq; exact ⟨rfl, rfl, rfl⟩, ⟨to.cl, to.one⟩, ⟨tr.cl, tr.one⟩⟩
    · have e : setM m 13 b = none := by simp [setM, numOff, hashOff, hl]
      rw [e, decide_eq_false hl]
      exact ⟨setHash m 13 (h32S b), vo, vr, rfl, fun q hq => (by cases hq), ⟨to.cl, to.one⟩, ⟨tr.cl, tr.one⟩⟩
  · first | have hb := hb | have hb := trivial
    repeat' (first | (simp -implicitDefEqProofs (disch := omega) only [hb, F26, wG, z32, kr, kh, to.strip, tr.strip, to.one, tr.one, to.cells, tr.cells, to.cl, tr.cl, tb.cl, strip_u8, namL_u8, wC, wO, initE, aop, Nat.reduceEqDiff, ↓reduceIte, Nat.reduceAdd, finish, resOf, tupOf, AM.freeze, freeze1, freezeL, closed, nam, namL, if_true, if_false, deref, boxAt, exAt, ldCells, oneL, oneCell, Nat.reduceLeDiff, evL, adopt, rigid, rigidL, trim, Int.reduceEq, Int.reduceMod, Int.reduceDiv, if_pos, if_neg, asI, forall_const, implies_true, chkD, chkO, chkW, effB, reB, vEq, beq_self_eq_true, Nat.reduceSub, Nat.reduceLT, Int.reduceSub, Int.reduceAdd, Int.reduceMul, Int.reduceLT, Int.reduceLE, Int.reduceToNat, optI, aslice, cutSl, cutMs, cutStr, cutOwn]) | ((first | rw [WP_condK] | rw [WP_opsG] | rw [WP_quiG] | rw [WP_dG]); refine And.intro (fun hb => ?_) (fun hb => ?_) <;> (first | have hd := dq1 hb | have hd := dq2 hb | have hd := dq3 hb | have hd := dq4 hb | skip)))
    by_cases hl : b.length = 32
    · have e : setM m 15 b = some (setHash m 15 (h32S b)) := by simp [setM, numOff, hashOff, hl]
      rw [e, decide_eq_true hl]
      exact ⟨setHash m 15 (h32S b), vo, vr, rfl, fun q hq => by cases hq; exact ⟨rfl, rfl, rfl⟩, ⟨to.cl, to.one⟩, ⟨tr.cl, tr.one⟩⟩
    · have e : setM m 15 b = none := by simp [setM, numOff, hashOff, hl]
      rw [e, decide_eq_false hl]
      exact ⟨setHash m 15 (h32S b), vo, vr, rfl, fun q hq => (by cases hq), ⟨to.cl, to.one⟩, ⟨tr.cl, tr.one⟩⟩
  · first | have hb := hb | have hb := trivial
    repeat' (first | (simp -implicitDefEqProofs (disch := omega) only [hb, F26, wG, z32, kr, kh, to.strip, tr.strip, to.one, tr.one, to.cells, tr.cells, to.cl, tr.cl, tb.cl, strip_u8, namL_u8, wC, wO, initE, aop, Nat.reduceEqDiff, ↓reduceIte, Nat.reduceAdd, finish, resOf, tupOf, AM.freeze, freeze1, freezeL, closed, nam, namL, if_true, if_false, deref, boxAt, exAt, ldCells, oneL, oneCell, Nat.reduceLeDiff, evL, adopt, rigid, rigidL, trim, Int.reduceEq, Int.reduceMod, Int.reduceDiv, if_pos, if_neg, asI, forall_const, implies_true, chkD, chkO, chkW, effB, reB, vEq, beq_self_eq_true, Nat.reduceSub, Nat.reduceLT, Int.reduceSub, Int.reduceAdd, Int.reduceMul, Int.reduceLT, Int.reduceLE, Int.reduceToNat, optI, aslice, cutSl, cutMs, cutStr, cutOwn]) | ((first | rw [WP_condK] | rw [WP_opsG] | rw [WP_quiG] | rw [WP_dG]); refine And.intro (fun hb => ?_) (fun hb => ?_) <;> (first | have hd := dq1 hb | have hd := dq2 hb | have hd := dq3 hb | have hd := dq4 hb | skip)))
    by_cases hl : b.length = 32
    · have e : setM m 17 b = some (setHash m 17 (h32S b)) := by simp [setM, numOff, hashOff, hl]
      rw [e, decide_eq_true hl]
      exact ⟨setHash m 17 (h32S b), vo, vr, rfl, fun q hq => by cases hq; exact ⟨rfl, rfl, rfl⟩, ⟨to.cl, to.one⟩, ⟨tr.cl, tr.one⟩⟩
    · have e : setM m 17 b = none := by simp [setM, numOff, hashOff, hl]
      rw [e, decide_eq_false hl]
      exact ⟨setHash m 17 (h32S b), vo, vr, rfl, fun q hq => (by cases hq), ⟨to.cl, to.one⟩, ⟨tr.cl, tr.one⟩⟩
  · first | have hb := hb | have hb := trivial
    repeat' (first | (simp -implicitDefEqProofs (disch := omega) only [hb, F26, wG, z32, kr, kh, to.strip, tr.strip, to.one, tr.one, to.cells, tr.cells, to.cl, tr.cl, tb.cl, strip_u8, namL_u8, wC, wO, initE, aop, Nat.reduceEqDiff, ↓reduceIte, Nat.reduceAdd, finish, resOf, tupOf, AM.freeze, freeze1, freezeL, closed, nam, namL, if_true, if_false, deref, boxAt, exAt, ldCells, oneL, oneCell, Nat.reduceLeDiff, evL, adopt, rigid, rigidL, trim, Int.reduceEq, Int.reduceMod, Int.reduceDiv, if_pos, if_neg, asI, forall_const, implies_true, chkD, chkO, chkW, effB, reB, vEq, beq_self_eq_true, Nat.reduceSub, Nat.reduceLT, Int.reduceSub, Int.reduceAdd, Int.reduceMul, Int.reduceLT, Int.reduceLE, Int.reduceToNat, optI, aslice, cutSl, cutMs, cutStr, cutOwn]) | ((first | rw [WP_condK] | rw [WP_opsG] | rw [WP_quiG] | rw [WP_dG]); refine And.intro (fun hb => ?_) (fun hb => ?_) <;> (first | have hd := dq1 hb | have hd := dq2 hb | have hd := dq3 hb | have hd := dq4 hb | skip)))
    by_cases hok : okN b
    · obtain ⟨e1, e2⟩ := rdN_ok hb hok
      have e : setM m 19 b = some (setNum m 19 (be b)) := by simp [setM, numOff, hok]
      rw [e1, e, decide_eq_true e2]
      exact ⟨setNum m 19 (be b), vo, vr, rfl, fun q hq => by cases hq; exact ⟨rfl, rfl, rfl⟩, ⟨to.cl, to.one⟩, ⟨tr.cl, tr.one⟩⟩
    · have e : setM m 19 b = none := by simp [setM, numOff, hok]
      rw [rdN_bad hok, e]
      exact ⟨setNum m 19 (-1), vo, vr, rfl, fun q hq => (by cases hq), ⟨to.cl, to.one⟩, ⟨tr.cl, tr.one⟩⟩
  · first | have hb := hb | have hb := trivial
    repeat' (first | (simp -implicitDefEqProofs (disch := omega) only [hb, F26, wG, z32, kr, kh, to.strip, tr.strip, to.one, tr.one, to.cells, tr.cells, to.cl, tr.cl, tb.cl, strip_u8, namL_u8, wC, wO, initE, aop, Nat.reduceEqDiff, ↓reduceIte, Nat.reduceAdd, finish, resOf, tupOf, AM.freeze, freeze1, freezeL, closed, nam, namL, if_true, if_false, deref, boxAt, exAt, ldCells, oneL, oneCell, Nat.reduceLeDiff, evL, adopt, rigid, rigidL, trim, Int.reduceEq, Int.reduceMod, Int.reduceDiv, if_pos, if_neg, asI, forall_const, implies_true, chkD, chkO, chkW, effB, reB, vEq, beq_self_eq_true, Nat.reduceSub, Nat.reduceLT, Int.reduceSub, Int.reduceAdd, Int.reduceMul, Int.reduceLT, Int.reduceLE, Int.reduceToNat, optI, aslice, cutSl, cutMs, cutStr, cutOwn]) | ((first | rw [WP_condK] | rw [WP_opsG] | rw [WP_quiG] | rw [WP_dG]); refine And.intro (fun hb => ?_) (fun hb => ?_) <;> (first | have hd := dq1 hb | have hd := dq2 hb | have hd := dq3 hb | have hd := dq4 hb | skip)))
    by_cases hok : okN b
    · obtain ⟨e1, e2⟩ := rdN_ok hb hok
      have e : setM m 21 b = some (setNum m 21 (be b)) := by simp [setM, numOff, hok]
      rw [e1, e, decide_eq_true e2]
      exact ⟨setNum m 21 (be b), vo, vr, rfl, fun q hq => by cases hq; exact ⟨rfl, rfl, rfl⟩, ⟨to.cl, to.one⟩, ⟨tr.cl, tr.one⟩⟩
    · have e : setM m 21 b = none := by simp [setM, numOff, hok]
      rw [rdN_bad hok, e]
      exact ⟨setNum m 21 (-1), vo, vr, rfl, fun q hq => (by cases hq), ⟨to.cl, to.one⟩, ⟨tr.cl, tr.one⟩⟩
  · first | have hb := hb | have hb := trivial
    repeat' (first | (simp -implicitDefEqProofs (disch := omega) only [hb, F26, wG, z32, kr, kh, to.strip, tr.strip, to.one, tr.one, to.cells, tr.cells, to.cl, tr.cl, tb.cl, strip_u8, namL_u8, wC, wO, initE, aop, Nat.reduceEqDiff, ↓reduceIte, Nat.reduceAdd, finish, resOf, tupOf, AM.freeze, freeze1, freezeL, closed, nam, namL, if_true, if_false, deref, boxAt, exAt, ldCells, oneL, oneCell, Nat.reduceLeDiff, evL, adopt, rigid, rigidL, trim, Int.reduceEq, Int.reduceMod, Int.reduceDiv, if_pos, if_neg, asI, forall_const, implies_true, chkD, chkO, chkW, effB, reB, vEq, beq_self_eq_true, Nat.reduceSub, Nat.reduceLT, Int.reduceSub, Int.reduceAdd, Int.reduceMul, Int.reduceLT, Int.reduceLE, Int.reduceToNat, optI, aslice, cutSl, cutMs, cutStr, cutOwn]) | ((first | rw [WP_condK] | rw [WP_opsG] | rw [WP_quiG] | rw [WP_dG]); refine And.intro (fun hb => ?_) (fun hb => ?_) <;> (first | have hd := dq1 hb | have hd := dq2 hb | have hd := dq3 hb | have hd := dq4 hb | skip)))
    have e : setM m 23 b = some (setText m 23 b) := by simp [setM, numOff, hashOff]
    rw [e]
    exact ⟨m, vo, .slice .none none (b.map u8), rfl, fun q hq => by cases hq; exact ⟨rfl, rfl, rfl⟩, ⟨to.cl, to.one⟩, ⟨tb.cl, tb.one⟩⟩
end Go.Proofs.Ytnlemcfhndjheaa.AM

/- wire: set. -/
namespace Go.Proofs.Ytnlemcfhndjheaa.AM
open Go
set_option maxRecDepth 100000
set_option maxHeartbeats 4000000
set_option linter.unusedSimpArgs false
set_option linter.unusedVariables false
theorem setNum_get (m : Pm) (t x : Int) (vo vr : AV) {o : Nat} (h : numOff t = some o) : (msC (setNum m t x) vo vr)[o]? = some (i64 x) ∧ (∀ y, (msC (setNum m t x) vo vr).set o (i64 y) = msC (setNum m t y) vo vr) ∧ o < 137 := by
  unfold numOff at h
  repeat' split at h
  all_goals first
  | (cases h; done)
  | (rename_i hh; subst hh; cases h; first
     | exact ⟨rfl, fun y => rfl, by omega⟩
     | exact ⟨mg134 _ _ _, fun y => mset134 _ _ _ y, by omega⟩
     | exact ⟨mg135 _ _ _, fun y => mset135 _ _ _ y, by omega⟩)
theorem set_loop (m : Pm) (t : Int) (vo vr : AV) {o : Nat} (ho : numOff t = some o) (b : List Int) (hb : Bytes b) (hok : okN b) (ow : AOwn) (id : Nat) (h0 : Heap) (hid : id < h0.length) (Q : Res → Prop) (e : Env)
    (h7 : getE e 7 = .ptr id o) (h42 : getE e 42 = .slice ow none (b.map u8)) (h43 : getE e 43 = i64 b.length) (h44 : getE e 44 = i64 0) (m0 : Nat) (hm0 : h0.length ≤ m0)
    (hst : h0.set id (.cells (msC (setNum m t 0) vo vr)) = h0)
    (hq : ∀ e, Q (.exit 0, e, h0.set id (.cells (msC (setNum m t (be b)) vo vr)))) : WP Q (axl T [7, 42, 43, 44] true L23_0 m0 e h0) := by
  suffices hsuf : WP Q (axl T [7, 42, 43, 44] true L23_0 m0 e (h0.set id (.cells (msC (setNum m t 0) vo vr)))) by rwa [hst] at hsuf
  refine WP_loop (I := fun n e h => ∃ i : Nat, n + i = b.length ∧ h = h0.set id (.cells (msC (setNum m t (be (b.take i))) vo vr)) ∧ getE e 7 = .ptr id o ∧ getE e 42 = .slice ow none (b.map u8) ∧ getE e 43 = i64 b.length ∧ getE e 44 = i64 i) ?_ b.length _ _ ⟨0, by omega, rfl, h7, h42, h43, h44⟩
  rintro n e h ⟨i, hn, rfl, h7, h42, h43, h44⟩
  rw [trim_same' (by rw [List.length_set]; exact hm0)]
  by_cases hlt : i < b.length
  · have hg := get_u8 hlt
    obtain ⟨s0, s1⟩ := be_step hb hok hlt
    have hbi := bytes_get hb hlt
    have hb8 := hok.1
    obtain ⟨q1, q2, q3⟩ := setNum_get m t (be (b.take i)) vo vr ho
    have hsl : abin .shl (.int .i64 (be (b.take i))) (.int .u64 8) = some (.int .i64 (be (b.take i) * 256)) := by
      have := shl_c .i64 .u64 (be (b.take i)) 8 (by decide)
      rw [show ((8 : Nat) : Int) = 8 from rfl] at this
      rw [this]
      congr 2
      show IntKind.i64.wrap (be (b.take i) * 256) = _
      rw [IntWalk.i64_in _ ⟨by omega, by omega⟩]
    have hor := or_byte_i (be (b.take i)) b[i] s0 s1 hbi.1 hbi.2
    have hcv : IntKind.i64.wrap b[i] = b[i] := IntWalk.i64_in _ ⟨by omega, by omega⟩
    first | have hb := hb | have hb := trivial
    repeat' (first | (simp -implicitDefEqProofs (disch := omega) only [hb, L23_0, ms_len, h7, h42, h43, h44, hg, hsl, hor, hcv, q1, q2, List.getElem?_set_self, List.set_set, splice_one, wC, wO, initE, aop, Nat.reduceEqDiff, ↓reduceIte, Nat.reduceAdd, finish, resOf, tupOf, AM.freeze, freeze1, freezeL, closed, nam, namL, if_true, if_false, deref, boxAt, exAt, ldCells, oneL, oneCell, Nat.reduceLeDiff, evL, adopt, rigid, rigidL, trim, Int.reduceEq, Int.reduceMod, Int.reduceDiv, if_pos, if_neg, asI, forall_const, implies_true, chkD, chkO, chkW, effB, reB, vEq, beq_self_eq_true, Nat.reduceSub, Nat.reduceLT, Int.reduceSub, Int.reduceAdd, Int.reduceMul, Int.reduceLT, Int.reduceLE, Int.reduceToNat, optI, aslice, cutSl, cutMs, cutStr, cutOwn]) | ((first | rw [WP_condK] | rw [WP_opsG] | rw [WP_quiG] | rw [WP_dG]); refine And.intro (fun hb => ?_) (fun hb => ?_) <;> (first | have hd := dq1 hb | have hd := dq2 hb | have hd := dq3 hb | have hd := dq4 hb | skip)))
    exact ⟨n - 1, by omega, i + 1, by omega, by rw [be_take_le hb hlt], rfl⟩
  · have hi : i = b.length := by omega
    subst hi
    rw [List.take_length]
    first | have hb := hb | have hb := trivial
    repeat' (first | (simp -implicitDefEqProofs (disch := omega) only [hb, L23_0, h7, h42, h43, h44, wC, wO, initE, aop, Nat.reduceEqDiff, ↓reduceIte, Nat.reduceAdd, finish, resOf, tupOf, AM.freeze, freeze1, freezeL, closed, nam, namL, if_true, if_false, deref, boxAt, exAt, ldCells, oneL, oneCell, Nat.reduceLeDiff, evL, adopt, rigid, rigidL, trim, Int.reduceEq, Int.reduceMod, Int.reduceDiv, if_pos, if_neg, asI, forall_const, implies_true, chkD, chkO, chkW, effB, reB, vEq, beq_self_eq_true, Nat.reduceSub, Nat.reduceLT, Int.reduceSub, Int.reduceAdd, Int.reduceMul, Int.reduceLT, Int.reduceLE, Int.reduceToNat, optI, aslice, cutSl, cutMs, cutStr, cutOwn]) | ((first | rw [WP_condK] | rw [WP_opsG] | rw [WP_quiG] | rw [WP_dG]); refine And.intro (fun hb => ?_) (fun hb => ?_) <;> (first | have hd := dq1 hb | have hd := dq2 hb | have hd := dq3 hb | have hd := dq4 hb | skip)))
    exact hq _
theorem copy_u8 (b : List Int) (n : Nat) : ((b.map u8).take n).flatMap elCells = (b.take n).map u8 := by
  rw [← List.map_take]
  generalize b.take n = l
  induction l with
  | nil => rfl
  | cons x l ih => rw [List.map_cons, List.flatMap_cons, ih]; rfl
theorem flat_u8 (l : List Int) : (l.map u8).flatMap elCells = l.map u8 := by
  induction l with
  | nil => rfl
  | cons x l ih => rw [List.map_cons, List.flatMap_cons, ih]; rfl
/-- what comes of a set -/
def SetP (m : Pm) (t : Int) (b : List Int) (vo vr v : AV) (h0 : Heap) (id : Nat) (p : AV × Heap) : Prop :=
  (∃ q, setM m t b = some q ∧ p = (.sc (.bool true), h0.set id (.cells (msC q (if t = 11 then v else vo) (if t = 23 then v else vr))))) ∨ (setM m t b = none ∧ ∃ cs, p = (.sc (.bool false), h0.set id (.cells cs)))
theorem set_same {h0 : Heap} {id : Nat} {x : AObj} (h : h0[id]? = some x) : h0.set id x = h0 := by
  have hlt := (List.getElem?_eq_some_iff.1 h).1
  apply List.ext_getElem?
  intro j
  by_cases hj : j = id
  · subst hj; rw [List.getElem?_set_self hlt, h]
  · rw [List.getElem?_set_ne (fun hh => hj hh.symm)]
theorem set_okW (m : Pm) (vo vr : AV) (b : List Int) (hby : Bytes b) (hn : b.length ≤ 140737488351232) (ow : AOwn) (t : Int) (ht : t ∈ allT) (hz : setNum m t 0 = m) (h0 : Heap) (id : Nat) (hid : h0[id]? = some (.cells (msC m vo vr))) :
    WP (SetP m t b vo vr (.slice ow none (b.map u8)) h0 id) (ag T 23 [.ptr id 0, u64 t, .slice ow none (b.map u8)] h0) := by
  have hlt : id < h0.length := (List.getElem?_eq_some_iff.1 hid).1
  have hsame := set_same hid
  simp only [allT, List.mem_cons, List.not_mem_nil, or_false] at ht
  have bad : ∀ (q : AV × Heap), setM m t b = none → q = (.sc (.bool false), h0) → SetP m t b vo vr (.slice ow none (b.map u8)) h0 id q := fun q h1 h2 => .inr ⟨h1, msC m vo vr, by rw [h2, hsame]⟩
  refine ag_wp rfl t23 rfl rfl ?_
  have h320 : (((32 : Nat) : Int) - 0).toNat = 32 := rfl
  have htk : b.length = 32 → b.take 32 = b := fun h => List.take_of_length_le (by omega)
  rcases ht with rfl | rfl | rfl | rfl | rfl | rfl | rfl | rfl | rfl | rfl | rfl | rfl
  · have none_ : ¬ okN b → setM m 1 b = none := fun h => by simp [setM, numOff, h]
    have some_ : okN b → setM m 1 b = some (setNum m 1 (be b)) := fun h => by simp [setM, numOff, h]
    by_cases h00 : b.length = 0
    · have hok : okN b := ⟨by omega, by omega, by omega⟩
      first | have hb := hb | have hb := trivial
      repeat' (first | (simp -implicitDefEqProofs (disch := omega) only [hb, F23, numP, hashP, textP, numOff, hashOff, textOff, offP, hid, wC, wO, initE, aop, Nat.reduceEqDiff, ↓reduceIte, Nat.reduceAdd, finish, resOf, tupOf, AM.freeze, freeze1, freezeL, closed, nam, namL, if_true, if_false, deref, boxAt, exAt, ldCells, oneL, oneCell, Nat.reduceLeDiff, evL, adopt, rigid, rigidL, trim, Int.reduceEq, Int.reduceMod, Int.reduceDiv, if_pos, if_neg, asI, forall_const, implies_true, chkD, chkO, chkW, effB, reB, vEq, beq_self_eq_true, Nat.reduceSub, Nat.reduceLT, Int.reduceSub, Int.reduceAdd, Int.reduceMul, Int.reduceLT, Int.reduceLE, Int.reduceToNat, optI, aslice, cutSl, cutMs, cutStr, cutOwn]) | ((first | rw [WP_condK] | rw [WP_opsG] | rw [WP_quiG] | rw [WP_dG]); refine And.intro (fun hb => ?_) (fun hb => ?_) <;> (first | have hd := dq1 hb | have hd := dq2 hb | have hd := dq3 hb | have hd := dq4 hb | skip)))
      refine set_loop m 1 vo vr rfl b hby hok ow id h0 hlt _ _ rfl rfl rfl rfl _ (Nat.le_refl _) (by rw [hz]; exact hsame) ?_
      intro e
      simp -implicitDefEqProofs (disch := omega) only [getE_cons, wC, wO, initE, aop, Nat.reduceEqDiff, ↓reduceIte, Nat.reduceAdd, finish, resOf, tupOf, AM.freeze, freeze1, freezeL, closed, nam, namL, if_true, if_false, deref, boxAt, exAt, ldCells, oneL, oneCell, Nat.reduceLeDiff, evL, adopt, rigid, rigidL, trim, Int.reduceEq, Int.reduceMod, Int.reduceDiv, if_pos, if_neg, asI, forall_const, implies_true, chkD, chkO, chkW, effB, reB, vEq, beq_self_eq_true, Nat.reduceSub, Nat.reduceLT, Int.reduceSub, Int.reduceAdd, Int.reduceMul, Int.reduceLT, Int.reduceLE, Int.reduceToNat, optI, aslice, cutSl, cutMs, cutStr, cutOwn]
      exact .inl ⟨_, some_ hok, rfl⟩
    · have hg0 := getD0 (b := b) (by omega)
      have hb0 := hby (b.getD 0 0) (by cases b with | nil => simp at h00 | cons x r => simp)
      have hsh : abin .shr (.int .u8 (b.getD 0 0)) (.int .u64 7) = some (.int .u8 (b.getD 0 0 / 128)) := by
        have := shr_c .u8 .u64 (b.getD 0 0) 7 (by decide)
        rw [show ((7 : Nat) : Int) = 7 from rfl] at this
        rw [this, Int.fdiv_eq_ediv_of_nonneg _ (by decide)]
        rfl
      first | have hb := hb | have hb := trivial
      repeat' (first | (simp -implicitDefEqProofs (disch := omega) only [hb, F23, numP, hashP, textP, numOff, hashOff, textOff, offP, hid, hg0, hsh, wC, wO, initE, aop, Nat.reduceEqDiff, ↓reduceIte, Nat.reduceAdd, finish, resOf, tupOf, AM.freeze, freeze1, freezeL, closed, nam, namL, if_true, if_false, deref, boxAt, exAt, ldCells, oneL, oneCell, Nat.reduceLeDiff, evL, adopt, rigid, rigidL, trim, Int.reduceEq, Int.reduceMod, Int.reduceDiv, if_pos, if_neg, asI, forall_const, implies_true, chkD, chkO, chkW, effB, reB, vEq, beq_self_eq_true, Nat.reduceSub, Nat.reduceLT, Int.reduceSub, Int.reduceAdd, Int.reduceMul, Int.reduceLT, Int.reduceLE, Int.reduceToNat, optI, aslice, cutSl, cutMs, cutStr, cutOwn]) | ((first | rw [WP_condK] | rw [WP_opsG] | rw [WP_quiG] | rw [WP_dG]); refine And.intro (fun hb => ?_) (fun hb => ?_) <;> (first | have hd := dq1 hb | have hd := dq2 hb | have hd := dq3 hb | have hd := dq4 hb | skip)))
      all_goals first
      | exact bad _ (none_ (by unfold okN; omega)) rfl
      | (have hok : okN b := by unfold okN; omega
         refine set_loop m 1 vo vr rfl b hby hok ow id h0 hlt _ _ rfl rfl rfl rfl _ (Nat.le_refl _) (by rw [hz]; exact hsame) ?_
         intro e
         simp -implicitDefEqProofs (disch := omega) only [getE_cons, wC, wO, initE, aop, Nat.reduceEqDiff, ↓reduceIte, Nat.reduceAdd, finish, resOf, tupOf, AM.freeze, freeze1, freezeL, closed, nam, namL, if_true, if_false, deref, boxAt, exAt, ldCells, oneL, oneCell, Nat.reduceLeDiff, evL, adopt, rigid, rigidL, trim, Int.reduceEq, Int.reduceMod, Int.reduceDiv, if_pos, if_neg, asI, forall_const, implies_true, chkD, chkO, chkW, effB, reB, vEq, beq_self_eq_true, Nat.reduceSub, Nat.reduceLT, Int.reduceSub, Int.reduceAdd, Int.reduceMul, Int.reduceLT, Int.reduceLE, Int.reduceToNat, optI, aslice, cutSl, cutMs, cutStr, cutOwn]
         exact .inl ⟨_, some_ hok, rfl⟩)
  · have none_ : ¬ okN b → setM m 3 b = none := fun h => by simp [setM, numOff, h]
    have some_ : okN b → setM m 3 b = some (setNum m 3 (be b)) := fun h => by simp [setM, numOff, h]
    by_cases h00 : b.length = 0
    · have hok : okN b := ⟨by omega, by omega, by omega⟩
      first | have hb := hb | have hb := trivial
      repeat' (first | (simp -implicitDefEqProofs (disch := omega) only [hb, F23, numP, hashP, textP, numOff, hashOff, textOff, offP, hid, wC, wO, initE, aop, Nat.reduceEqDiff, ↓reduceIte, Nat.reduceAdd, finish, resOf, tupOf, AM.freeze, freeze1, freezeL, closed, nam, namL, if_true, if_false, deref, boxAt, exAt, ldCells, oneL, oneCell, Nat.reduceLeDiff, evL, adopt, rigid, rigidL, trim, Int.reduceEq, Int.reduceMod, Int.reduceDiv, if_pos, if_neg, asI, forall_const, implies_true, chkD, chkO, chkW, effB, reB, vEq, beq_self_eq_true, Nat.reduceSub, Nat.reduceLT, Int.reduceSub, Int.reduceAdd, Int.reduceMul, Int.reduceLT, Int.reduceLE, Int.reduceToNat, optI, aslice, cutSl, cutMs, cutStr, cutOwn]) | ((first | rw [WP_condK] | rw [WP_opsG] | rw [WP_quiG] | rw [WP_dG]); refine And.intro (fun hb => ?_) (fun hb => ?_) <;> (first | have hd := dq1 hb | have hd := dq2 hb | have hd := dq3 hb | have hd := dq4 hb | skip)))
      refine set_loop m 3 vo vr rfl b hby hok ow id h0 hlt _ _ rfl rfl rfl rfl _ (Nat.le_refl _) (by rw [hz]; exact hsame) ?_
      intro e
      simp -implicitDefEqProofs (disch := omega) only [getE_cons, wC, wO, initE, aop, Nat.reduceEqDiff, ↓reduceIte, Nat.reduceAdd, finish, resOf, tupOf, AM.freeze, freeze1, freezeL, closed, nam, namL, if_true, if_false, deref, boxAt, exAt, ldCells, oneL, oneCell, Nat.reduceLeDiff, evL, adopt, rigid, rigidL, trim, Int.reduceEq, Int.reduceMod, Int.reduceDiv, if_pos, if_neg, asI, forall_const, implies_true, chkD, chkO, chkW, effB, reB, vEq, beq_self_eq_true, Nat.reduceSub, Nat.reduceLT, Int.reduceSub, Int.reduceAdd, Int.reduceMul, Int.reduceLT, Int.reduceLE, Int.reduceToNat, optI, aslice, cutSl, cutMs, cutStr, cutOwn]
      exact .inl ⟨_, some_ hok, rfl⟩
    · have hg0 := getD0 (b := b) (by omega)
      have hb0 := hby (b.getD 0 0) (by cases b with | nil => simp at h00 | cons x r => simp)
      have hsh : abin .shr (.int .u8 (b.getD 0 0)) (.int .u64 7) = some (.int .u8 (b.getD 0 0 / 128)) := by
        have := shr_c .u8 .u64 (b.getD 0 0) 7 (by decide)
        rw [show ((7 : Nat) : Int) = 7 from rfl] at this
        rw [this, Int.fdiv_eq_ediv_of_nonneg _ (by decide)]
        rfl
      first | have hb := hb | have hb := trivial
      repeat' (first | (simp -implicitDefEqProofs (disch := omega) only [hb, F23, numP, hashP, textP, numOff, hashOff, textOff, offP, hid, hg0, hsh, wC, wO, initE, aop, Nat.reduceEqDiff, ↓reduceIte, Nat.reduceAdd, finish, resOf, tupOf, AM.freeze, freeze1, freezeL, closed, nam, namL, if_true, if_false, deref, boxAt, exAt, ldCells, oneL, oneCell, Nat.reduceLeDiff, evL, adopt, rigid, rigidL, trim, Int.reduceEq, Int.reduceMod, Int.reduceDiv, if_pos, if_neg, asI, forall_const, implies_true, chkD, chkO, chkW, effB, reB, vEq, beq_self_eq_true, Nat.reduceSub, Nat.reduceLT, Int.reduceSub, Int.reduceAdd, Int.reduceMul, Int.reduceLT, Int.reduceLE, Int.reduceToNat, optI, aslice, cutSl, cutMs, cutStr, cutOwn]) | ((first | rw [WP_condK] | rw [WP_opsG] | rw [WP_quiG] | rw [WP_dG]); refine And.intro (fun hb => ?_) (fun hb => ?_) <;> (first | have hd := dq1 hb | have hd := dq2 hb | have hd := dq3 hb | have hd := dq4 hb | skip)))
      all_goals first
      | exact bad _ (none_ (by unfold okN; omega)) rfl
      | (have hok : okN b := by unfold okN; omega
         refine set_loop m 3 vo vr rfl b hby hok ow id h0 hlt _ _ rfl rfl rfl rfl _ (Nat.le_refl _) (by rw [hz]; exact hsame) ?_
         intro e
         simp -implicitDefEqProofs (disch := omega) only [getE_cons, wC, wO, initE, aop, Nat.reduceEqDiff, ↓reduceIte, Nat.reduceAdd, finish, resOf, tupOf, AM.freeze, freeze1, freezeL, closed, nam, namL, if_true, if_false, deref, boxAt, exAt, ldCells, oneL, oneCell, Nat.reduceLeDiff, evL, adopt, rigid, rigidL, trim, Int.reduceEq, Int.reduceMod, Int.reduceDiv, if_pos, if_neg, asI, forall_const, implies_true, chkD, chkO, chkW, effB, reB, vEq, beq_self_eq_true, Nat.reduceSub, Nat.reduceLT, Int.reduceSub, Int.reduceAdd, Int.reduceMul, Int.reduceLT, Int.reduceLE, Int.reduceToNat, optI, aslice, cutSl, cutMs, cutStr, cutOwn]
         exact .inl ⟨_, some_ hok, rfl⟩)
  · have none_ : ¬ okN b → setM m 5 b = none := fun h => by simp [setM, numOff, h]
    have some_ : okN b → setM m 5 b = some (setNum m 5 (be b)) := fun h => by simp [setM, numOff, h]
    by_cases h00 : b.length = 0
    · have hok : okN b := ⟨by omega, by omega, by omega⟩
      first | have hb := hb | have hb := trivial
      repeat' (first | (simp -implicitDefEqProofs (disch := omega) only [hb, F23, numP, hashP, textP, numOff, hashOff, textOff, offP, hid, wC, wO, initE, aop, Nat.reduceEqDiff, ↓reduceIte, Nat.reduceAdd, finish, resOf, tupOf, AM.freeze, freeze1, freezeL, closed, nam, namL, if_true, if_false, deref, boxAt, exAt, ldCells, oneL, oneCell, Nat.reduceLeDiff, evL, adopt, rigid, rigidL, trim, Int.reduceEq, Int.reduceMod, Int.reduceDiv, if_pos, if_neg, asI, forall_const, implies_true, chkD, chkO, chkW, effB, reB, vEq, beq_self_eq_true, Nat.reduceSub, Nat.reduceLT, Int.reduceSub, Int.reduceAdd, Int.reduceMul, Int.reduceLT, Int.reduceLE, Int.reduceToNat, optI, aslice, cutSl, cutMs, cutStr, cutOwn]) | ((first | rw [WP_condK] | rw [WP_opsG] | rw [WP_quiG] | rw [WP_dG]); refine And.intro (fun hb => ?_) (fun hb => ?_) <;> (first | have hd := dq1 hb | have hd := dq2 hb | have hd := dq3 hb | have hd := dq4 hb | skip)))
      refine set_loop m 5 vo vr rfl b hby hok ow id h0 hlt _ _ rfl rfl rfl rfl _ (Nat.le_refl _) (by rw [hz]; exact hsame) ?_
      intro e
      simp -implicitDefEqProofs (disch := omega) only [getE_cons, wC, wO, initE, aop, Nat.reduceEqDiff, ↓reduceIte, Nat.reduceAdd, finish, resOf, tupOf, AM.freeze, freeze1, freezeL, closed, nam, namL, if_true, if_false, deref, boxAt, exAt, ldCells, oneL, oneCell, Nat.reduceLeDiff, evL, adopt, rigid, rigidL, trim, Int.reduceEq, Int.reduceMod, Int.reduceDiv, if_pos, if_neg, asI, forall_const, implies_true, chkD, chkO, chkW, effB, reB, vEq, beq_self_eq_true, Nat.reduceSub, Nat.reduceLT, Int.reduceSub, Int.reduceAdd, Int.reduceMul, Int.reduceLT, Int.reduceLE, Int.reduceToNat, optI, aslice, cutSl, cutMs, cutStr, cutOwn]
      exact .inl ⟨_, some_ hok, rfl⟩
    · have hg0 := getD0 (b := b) (by omega)
      have hb0 := hby (b.getD 0 0) (by cases b with | nil => simp at h00 | cons x r => simp)
      have hsh : abin .shr (.int .u8 (b.getD 0 0)) (.int .u64 7) = some (.int .u8 (b.getD 0 0 / 128)) := by
        have := shr_c .u8 .u64 (b.getD 0 0) 7 (by decide)
        rw [show ((7 : Nat) : Int) = 7 from rfl] at this
        rw [this, Int.fdiv_eq_ediv_of_nonneg _ (by decide)]
        rfl
      first | have hb := hb | have hb := trivial
      repeat' (first | (simp -implicitDefEqProofs (disch := omega) only [hb, F23, numP, hashP, textP, numOff, hashOff, textOff, offP, hid, hg0, hsh, wC, wO, initE, aop, Nat.reduceEqDiff, ↓reduceIte, Nat.reduceAdd, finish, resOf, tupOf, AM.freeze, freeze1, freezeL, closed, nam, namL, if_true, if_false, deref, boxAt, exAt, ldCells, oneL, oneCell, Nat.reduceLeDiff, evL, adopt, rigid, rigidL, trim, Int.reduceEq, Int.reduceMod, Int.reduceDiv, if_pos, if_neg, asI, forall_const, implies_true, chkD, chkO, chkW, effB, reB, vEq, beq_self_eq_true, Nat.reduceSub, Nat.reduceLT, Int.reduceSub, Int.reduceAdd, Int.reduceMul, Int.reduceLT, Int.reduceLE, Int.reduceToNat, optI, aslice, cutSl, cutMs, cutStr, cutOwn]) | ((first | rw [WP_condK] | rw [WP_opsG] | rw [WP_quiG] | rw [WP_dG]); refine And.intro (fun hb => ?_) (fun hb => ?_) <;> (first | have hd := dq1 hb | have hd := dq2 hb | have hd := dq3 hb | have hd := dq4 hb | skip)))
      all_goals first
      | exact bad _ (none_ (by unfold okN; omega)) rfl
      | (have hok : okN b := by unfold okN; omega
         refine set_loop m 5 vo vr rfl b hby hok ow id h0 hlt _ _ rfl rfl rfl rfl _ (Nat.le_refl _) (by rw [hz]; exact hsame) ?_
         intro e
         simp -implicitDefEqProofs (disch := omega) only [getE_cons, wC, wO, initE, aop, Nat.reduceEqDiff, ↓reduceIte, Nat.reduceAdd, finish, resOf, tupOf, AM.freeze, freeze1, freezeL, closed, nam, namL, if_true, if_false, deref, boxAt, exAt, ldCells, oneL, oneCell, Nat.reduceLeDiff, evL, adopt, rigid, rigidL, trim, Int.reduceEq, Int.reduceMod, Int.reduceDiv, if_pos, if_neg, asI, forall_const, implies_true, chkD, chkO, chkW, effB, reB, vEq, beq_self_eq_true, Nat.reduceSub, Nat.reduceLT, Int.reduceSub, Int.reduceAdd, Int.reduceMul, Int.reduceLT, Int.reduceLE, Int.reduceToNat, optI, aslice, cutSl, cutMs, cutStr, cutOwn]
         exact .inl ⟨_, some_ hok, rfl⟩)
  · have none_ : ¬ okN b → setM m 7 b = none := fun h => by simp [setM, numOff, h]
    have some_ : okN b → setM m 7 b = some (setNum m 7 (be b)) := fun h => by simp [setM, numOff, h]
    by_cases h00 : b.length = 0
    · have hok : okN b := ⟨by omega, by omega, by omega⟩
      first | have hb := hb | have hb := trivial
      repeat' (first | (simp -implicitDefEqProofs (disch := omega) only [hb, F23, numP, hashP, textP, numOff, hashOff, textOff, offP, hid, wC, wO, initE, aop, Nat.reduceEqDiff, ↓reduceIte, Nat.reduceAdd, finish, resOf, tupOf, AM.freeze, freeze1, freezeL, closed, nam, namL, if_true, if_false, deref, boxAt, exAt, ldCells, oneL, oneCell, Nat.reduceLeDiff, evL, adopt, rigid, rigidL, trim, Int.reduceEq, Int.reduceMod, Int.reduceDiv, if_pos, if_neg, asI, forall_const, implies_true, chkD, chkO, chkW, effB, reB, vEq, beq_self_eq_true, Nat.reduceSub, Nat.reduceLT, Int.reduceSub, Int.reduceAdd, Int.reduceMul, Int.reduceLT, Int.reduceLE, Int.reduceToNat, optI, aslice, cutSl, cutMs, cutStr, cutOwn]) | ((first | rw [WP_condK] | rw [WP_opsG] | rw [WP_quiG] | rw [WP_dG]); refine And.intro (fun hb => ?_) (fun hb => ?_) <;> (first | have hd := dq1 hb | have hd := dq2 hb | have hd := dq3 hb | have hd := dq4 hb | skip)))
      refine set_loop m 7 vo vr rfl b hby hok ow id h0 hlt _ _ rfl rfl rfl rfl _ (Nat.le_refl _) (by rw [hz]; exact hsame) ?_
      intro e
      simp -implicitDefEqProofs (disch := omega) only [getE_cons, wC, wO, initE, aop, Nat.reduceEqDiff, ↓reduceIte, Nat.reduceAdd, finish, resOf, tupOf, AM.freeze, freeze1, freezeL, closed, nam, namL, if_true, if_false, deref, boxAt, exAt, ldCells, oneL, oneCell, Nat.reduceLeDiff, evL, adopt, rigid, rigidL, trim, Int.reduceEq, Int.reduceMod, Int.reduceDiv, if_pos, if_neg, asI, forall_const, implies_true, chkD, chkO, chkW, effB, reB, vEq, beq_self_eq_true, Nat.reduceSub, Nat.reduceLT, Int.reduceSub, Int.reduceAdd, Int.reduceMul, Int.reduceLT, Int.reduceLE, Int.reduceToNat, optI, aslice, cutSl, cutMs, cutStr, cutOwn]
      exact .inl ⟨_, some_ hok, rfl⟩
    · have hg0 := getD0 (b := b) (by omega)
      have hb0 := hby (b.getD 0 0) (by cases b with | nil => simp at h00 | cons x r => simp)
      have hsh : abin .shr (.int .u8 (b.getD 0 0)) (.int .u64 7) = some (.int .u8 (b.getD 0 0 / 128)) := by
        have := shr_c .u8 .u64 (b.getD 0 0) 7 (by decide)
        rw [show ((7 : Nat) : Int) = 7 from rfl] at this
        rw [this, Int.fdiv_eq_ediv_of_nonneg _ (by decide)]
        rfl
      first | have hb := hb | have hb := trivial
      repeat' (first | (simp -implicitDefEqProofs (disch := omega) only [hb, F23, numP, hashP, textP, numOff, hashOff, textOff, offP, hid, hg0, hsh, wC, wO, initE, aop, Nat.reduceEqDiff, ↓reduceIte, Nat.reduceAdd, finish, resOf, tupOf, AM.freeze, freeze1, freezeL, closed, nam, namL, if_true, if_false, deref, boxAt, exAt, ldCells, oneL, oneCell, Nat.reduceLeDiff, evL, adopt, rigid, rigidL, trim, Int.reduceEq, Int.reduceMod, Int.reduceDiv, if_pos, if_neg, asI, forall_const, implies_true, chkD, chkO, chkW, effB, reB, vEq, beq_self_eq_true, Nat.reduceSub, Nat.reduceLT, Int.reduceSub, Int.reduceAdd, Int.reduceMul, Int.reduceLT, Int.reduceLE, Int.reduceToNat, optI, aslice, cutSl, cutMs, cutStr, cutOwn]) | ((first | rw [WP_condK] | rw [WP_opsG] | rw [WP_quiG] | rw [WP_dG]); refine And.intro (fun hb => ?_) (fun hb => ?_) <;> (first | have hd := dq1 hb | have hd := dq2 hb | have hd := dq3 hb | have hd := dq4 hb | skip)))
      all_goals first
      | exact bad _ (none_ (by unfold okN; omega)) rfl
      | (have hok : okN b := by unfold okN; omega
         refine set_loop m 7 vo vr rfl b hby hok ow id h0 hlt _ _ rfl rfl rfl rfl _ (Nat.le_refl _) (by rw [hz]; exact hsame) ?_
         intro e
         simp -implicitDefEqProofs (disch := omega) only [getE_cons, wC, wO, initE, aop, Nat.reduceEqDiff, ↓reduceIte, Nat.reduceAdd, finish, resOf, tupOf, AM.freeze, freeze1, freezeL, closed, nam, namL, if_true, if_false, deref, boxAt, exAt, ldCells, oneL, oneCell, Nat.reduceLeDiff, evL, adopt, rigid, rigidL, trim, Int.reduceEq, Int.reduceMod, Int.reduceDiv, if_pos, if_neg, asI, forall_const, implies_true, chkD, chkO, chkW, effB, reB, vEq, beq_self_eq_true, Nat.reduceSub, Nat.reduceLT, Int.reduceSub, Int.reduceAdd, Int.reduceMul, Int.reduceLT, Int.reduceLE, Int.reduceToNat, optI, aslice, cutSl, cutMs, cutStr, cutOwn]
         exact .inl ⟨_, some_ hok, rfl⟩)
  · by_cases h32 : b.length = 32
    · obtain ⟨x, hx⟩ : ∃ x : H32, x.1 = b := ⟨⟨b, h32⟩, rfl⟩
      have htk := htk h32
      first | have hb := hb | have hb := trivial
      repeat' (first | (simp -implicitDefEqProofs (disch := omega) only [hb, F23, numP, hashP, textP, numOff, hashOff, textOff, offP, hid, wG, copy_u8, flat_u8, htk, ← hx, h320, Nat.min_self, wC, wO, initE, aop, Nat.reduceEqDiff, ↓reduceIte, Nat.reduceAdd, finish, resOf, tupOf, AM.freeze, freeze1, freezeL, closed, nam, namL, if_true, if_false, deref, boxAt, exAt, ldCells, oneL, oneCell, Nat.reduceLeDiff, evL, adopt, rigid, rigidL, trim, Int.reduceEq, Int.reduceMod, Int.reduceDiv, if_pos, if_neg, asI, forall_const, implies_true, chkD, chkO, chkW, effB, reB, vEq, beq_self_eq_true, Nat.reduceSub, Nat.reduceLT, Int.reduceSub, Int.reduceAdd, Int.reduceMul, Int.reduceLT, Int.reduceLE, Int.reduceToNat, optI, aslice, cutSl, cutMs, cutStr, cutOwn]) | ((first | rw [WP_condK] | rw [WP_opsG] | rw [WP_quiG] | rw [WP_dG]); refine And.intro (fun hb => ?_) (fun hb => ?_) <;> (first | have hd := dq1 hb | have hd := dq2 hb | have hd := dq3 hb | have hd := dq4 hb | skip)))
      exact .inl ⟨setHash m 9 x, by simp [setM, numOff, hashOff, h32S, x.2], rfl⟩
    · have none_ : setM m 9 b = none := by simp [setM, numOff, hashOff, h32]
      first | have hb := hb | have hb := trivial
      repeat' (first | (simp -implicitDefEqProofs (disch := omega) only [hb, F23, numP, hashP, textP, numOff, hashOff, textOff, offP, hid, ms_len, copy_u8, flat_u8, List.length_take, h320, wC, wO, initE, aop, Nat.reduceEqDiff, ↓reduceIte, Nat.reduceAdd, finish, resOf, tupOf, AM.freeze, freeze1, freezeL, closed, nam, namL, if_true, if_false, deref, boxAt, exAt, ldCells, oneL, oneCell, Nat.reduceLeDiff, evL, adopt, rigid, rigidL, trim, Int.reduceEq, Int.reduceMod, Int.reduceDiv, if_pos, if_neg, asI, forall_const, implies_true, chkD, chkO, chkW, effB, reB, vEq, beq_self_eq_true, Nat.reduceSub, Nat.reduceLT, Int.reduceSub, Int.reduceAdd, Int.reduceMul, Int.reduceLT, Int.reduceLE, Int.reduceToNat, optI, aslice, cutSl, cutMs, cutStr, cutOwn]) | ((first | rw [WP_condK] | rw [WP_opsG] | rw [WP_quiG] | rw [WP_dG]); refine And.intro (fun hb => ?_) (fun hb => ?_) <;> (first | have hd := dq1 hb | have hd := dq2 hb | have hd := dq3 hb | have hd := dq4 hb | skip)))
      all_goals exact .inr ⟨none_, _, rfl⟩
  · first | have hb := hb | have hb := trivial
    repeat' (first | (simp -implicitDefEqProofs (disch := omega) only [hb, F23, numP, hashP, textP, numOff, hashOff, textOff, offP, hid, wG, wC, wO, initE, aop, Nat.reduceEqDiff, ↓reduceIte, Nat.reduceAdd, finish, resOf, tupOf, AM.freeze, freeze1, freezeL, closed, nam, namL, if_true, if_false, deref, boxAt, exAt, ldCells, oneL, oneCell, Nat.reduceLeDiff, evL, adopt, rigid, rigidL, trim, Int.reduceEq, Int.reduceMod, Int.reduceDiv, if_pos, if_neg, asI, forall_const, implies_true, chkD, chkO, chkW, effB, reB, vEq, beq_self_eq_true, Nat.reduceSub, Nat.reduceLT, Int.reduceSub, Int.reduceAdd, Int.reduceMul, Int.reduceLT, Int.reduceLE, Int.reduceToNat, optI, aslice, cutSl, cutMs, cutStr, cutOwn]) | ((first | rw [WP_condK] | rw [WP_opsG] | rw [WP_quiG] | rw [WP_dG]); refine And.intro (fun hb => ?_) (fun hb => ?_) <;> (first | have hd := dq1 hb | have hd := dq2 hb | have hd := dq3 hb | have hd := dq4 hb | skip)))
    exact .inl ⟨setText m 11 b, by simp [setM, numOff, hashOff], rfl⟩
  · by_cases h32 : b.length = 32
    · obtain ⟨x, hx⟩ : ∃ x : H32, x.1 = b := ⟨⟨b, h32⟩, rfl⟩
      have htk := htk h32
      first | have hb := hb | have hb := trivial
      repeat' (first | (simp -implicitDefEqProofs (disch := omega) only [hb, F23, numP, hashP, textP, numOff, hashOff, textOff, offP, hid, wG, copy_u8, flat_u8, htk, ← hx, h320, Nat.min_self, wC, wO, initE, aop, Nat.reduceEqDiff, ↓reduceIte, Nat.reduceAdd, finish, resOf, tupOf, AM.freeze, freeze1, freezeL, closed, nam, namL, if_true, if_false, deref, boxAt, exAt, ldCells, oneL, oneCell, Nat.reduceLeDiff, evL, adopt, rigid, rigidL, trim, Int.reduceEq, Int.reduceMod, Int.reduceDiv, if_pos, if_neg, asI, forall_const, implies_true, chkD, chkO, chkW, effB, reB, vEq, beq_self_eq_true, Nat.reduceSub, Nat.reduceLT, Int.reduceSub, Int.reduceAdd, Int.reduceMul, Int.reduceLT, Int.reduceLE, Int.reduceToNat, optI, aslice, cutSl, cutMs, cutStr, cutOwn]) | ((first | rw [WP_condK] | rw [WP_opsG] | rw [WP_quiG] | rw [WP_dG]); refine And.intro (fun hb => ?_) (fun hb => ?_) <;> (first | have hd := dq1 hb | have hd := dq2 hb | have hd := dq3 hb | have hd := dq4 hb | skip)))
      exact .inl ⟨setHash m 13 x, by simp [setM, numOff, hashOff, h32S, x.2], rfl⟩
    · have none_ : setM m 13 b = none := by simp [setM, numOff, hashOff, h32]
      first | have hb := hb | have hb := trivial
      repeat' (first | (simp -implicitDefEqProofs (disch := omega) only [hb, F23, numP, hashP, textP, numOff, hashOff, textOff, offP, hid, ms_len, copy_u8, flat_u8, List.length_take, h320, wC, wO, initE, aop, Nat.reduceEqDiff, ↓reduceIte, Nat.reduceAdd, finish, resOf, tupOf, AM.freeze, freeze1, freezeL, closed, nam, namL, if_true, if_false, deref, boxAt, exAt, ldCells, oneL, oneCell, Nat.reduceLeDiff, evL, adopt, rigid, rigidL, trim, Int.reduceEq, Int.reduceMod, Int.reduceDiv, if_pos, if_neg, asI, forall_const, implies_true, chkD, chkO, chkW, effB, reB, vEq, beq_self_eq_true, Nat.reduceSub, Nat.reduceLT, Int.reduceSub, Int.reduceAdd, Int.reduceMul, Int.reduceLT, Int.reduceLE, Int.reduceToNat, optI, aslice, cutSl, cutMs, cutStr, cutOwn]) | ((first | rw [WP_condK] | rw [WP_opsG] | rw [WP_quiG] | rw [WP_dG]); refine And.intro (fun hb => ?_) (fun hb => ?_) <;> (first | have hd := dq1 hb | have hd := dq2 hb | have hd := dq3 hb | have hd := dq4 hb | skip)))
      all_goals exact .inr ⟨none_, _, rfl⟩
  · by_cases h32 : b.length = 32
    · obtain ⟨x, hx⟩ : ∃ x : H32, x.1 = b := ⟨⟨b, h32⟩, rfl⟩
      have htk := htk h32
      first | have hb := hb | have hb := trivial
      repeat' (first | (simp -implicitDefEqProofs (disch := omega) only [hb, F23, numP, hashP, textP, numOff, hashOff, textOff, offP, hid, wG, copy_u8, flat_u8, htk, ← hx, h320, Nat.min_self, wC, wO, initE, aop, Nat.reduceEqDiff, ↓reduceIte, Nat.reduceAdd, finish, resOf, tupOf, AM.freeze, freeze1, freezeL, closed, nam, namL, if_true, if_false, deref, boxAt, exAt, ldCells, oneL, oneCell, Nat.reduceLeDiff, evL, adopt, rigid, rigidL, trim, Int.reduceEq, Int.reduceMod, Int.reduceDiv, if_pos, if_neg, asI, forall_const, implies_true, chkD, chkO, chkW, effB, reB, vEq, beq_self_eq_true, Nat.reduceSub, Nat.reduceLT, Int.reduceSub, Int.reduceAdd, Int.reduceMul, Int.reduceLT, Int.reduceLE, Int.reduceToNat, optI, aslice, cutSl, cutMs, cutStr, cutOwn]) | ((first | rw [WP_condK] | rw [WP_opsG] | rw [WP_quiG] | rw [WP_dG]); refine And.intro (fun hb => ?_) (fun hb => ?_) <;> (first | have hd := dq1 hb | have hd := dq2 hb | have hd := dq3 hb | have hd := dq4 hb | skip)))
      exact .inl ⟨setHash m 15 x, by simp [setM, numOff, hashOff, h32S, x.2], rfl⟩
    · have none_ : setM m 15 b = none := by simp [setM, numOff, hashOff, h32]
      first | have hb := hb | have hb := trivial
      repeat' (first | (simp -implicitDefEqProofs (disch := omega) only [hb, F23, numP, hashP, textP, numOff, hashOff, textOff, offP, hid, ms_len, copy_u8, flat_u8, List.length_take, h320, wC, wO, initE, aop, Nat.reduceEqDiff, ↓reduceIte, Nat.reduceAdd, finish, resOf, tupOf, AM.freeze, freeze1, freezeL, closed, nam, namL, if_true, if_false, deref, boxAt, exAt, ldCells, oneL, oneCell, Nat.reduceLeDiff, evL, adopt, rigid, rigidL, trim, Int.reduceEq, Int.reduceMod, Int.reduceDiv, if_pos, if_neg, asI, forall_const, implies_true, chkD, chkO, chkW, effB, reB, vEq, beq_self_eq_true, Nat.reduceSub, Nat.reduceLT, Int.reduceSub, Int.reduceAdd, Int.reduceMul, Int.reduceLT, Int.reduceLE, Int.reduceToNat, optI, aslice, cutSl, cutMs, cutStr, cutOwn]) | ((first | rw [WP_condK] | rw [WP_opsG] | rw [WP_quiG] | rw [WP_dG]); refine And.intro (fun hb => ?_) (fun hb => ?_) <;> (first | have hd := dq1 hb | have hd := dq2 hb | have hd := dq3 hb | have hd := dq4 hb | skip)))
      all_goals exact .inr ⟨none_, _, rfl⟩
  · by_cases h32 : b.length = 32
    · obtain ⟨x, hx⟩ : ∃ x : H32, x.1 = b := ⟨⟨b, h32⟩, rfl⟩
      have htk := htk h32
      first | have hb := hb | have hb := trivial
      repeat' (first | (simp -implicitDefEqProofs (disch := omega) only [hb, F23, numP, hashP, textP, numOff, hashOff, textOff, offP, hid, wG, copy_u8, flat_u8, htk, ← hx, h320, Nat.min_self, wC, wO, initE, aop, Nat.reduceEqDiff, ↓reduceIte, Nat.reduceAdd, finish, resOf, tupOf, AM.freeze, freeze1, freezeL, closed, nam, namL, if_true, if_false, deref, boxAt, exAt, ldCells, oneL, oneCell, Nat.reduceLeDiff, evL, adopt, rigid, rigidL, trim, Int.reduceEq, Int.reduceMod, Int.reduceDiv, if_pos, if_neg, asI, forall_const, implies_true, chkD, chkO, chkW, effB, reB, vEq, beq_self_eq_true, Nat.reduceSub, Nat.reduceLT, Int.reduceSub, Int.reduceAdd, Int.reduceMul, Int.reduceLT, Int.reduceLE, Int.reduceToNat, optI, aslice, cutSl, cutMs, cutStr, cutOwn]) | ((first | rw [WP_condK] | rw [WP_opsG] | rw [WP_quiG] | rw [WP_dG]); refine And.intro (fun hb => ?_) (fun hb => ?_) <;> (first | have hd := dq1 hb | have hd := dq2 hb | have hd := dq3 hb | have hd := dq4 hb | skip)))
      exact .inl ⟨setHash m 17 x, by simp [setM, numOff, hashOff, h32S, x.2], rfl⟩
    · have none_ : setM m 17 b = none := by simp [setM, numOff, hashOff, h32]
      first | have hb := hb | have hb := trivial
      repeat' (first | (simp -implicitDefEqProofs (disch := omega) only [hb, F23, numP, hashP, textP, numOff, hashOff, textOff, offP, hid, ms_len, copy_u8, flat_u8, List.length_take, h320, wC, wO, initE, aop, Nat.reduceEqDiff, ↓reduceIte, Nat.reduceAdd, finish, resOf, tupOf, AM.freeze, freeze1, freezeL, closed, nam, namL, if_true, if_false, deref, boxAt, exAt, ldCells, oneL, oneCell, Nat.reduceLeDiff, evL, adopt, rigid, rigidL, trim, Int.reduceEq, Int.reduceMod, Int.reduceDiv, if_pos, if_neg, asI, forall_const, implies_true, chkD, chkO, chkW, effB, reB, vEq, beq_self_eq_true, Nat.reduceSub, Nat.reduceLT, Int.reduceSub, Int.reduceAdd, Int.reduceMul, Int.reduceLT, Int.reduceLE, Int.reduceToNat, optI, aslice, cutSl, cutMs, cutStr, cutOwn]) | ((first | rw [WP_condK] | rw [WP_opsG] | rw [WP_quiG] | rw [WP_dG]); refine And.intro (fun hb => ?_) (fun hb => ?_) <;> (first | have hd := dq1 hb | have hd := dq2 hb | have hd := dq3 hb | have hd := dq4 hb | skip)))
      all_goals exact .inr ⟨none_, _, rfl⟩
  · have none_ : ¬ okN b → setM m 19 b = none := fun h => by simp [setM, numOff, h]
    have some_ : okN b → setM m 19 b = some (setNum m 19 (be b)) := fun h => by simp [setM, numOff, h]
    by_cases h00 : b.length = 0
    · have hok : okN b := ⟨by omega, by omega, by omega⟩
      first | have hb := hb | have hb := trivial
      repeat' (first | (simp -implicitDefEqProofs (disch := omega) only [hb, F23, numP, hashP, textP, numOff, hashOff, textOff, offP, hid, wC, wO, initE, aop, Nat.reduceEqDiff, ↓reduceIte, Nat.reduceAdd, finish, resOf, tupOf, AM.freeze, freeze1, freezeL, closed, nam, namL, if_true, if_false, deref, boxAt, exAt, ldCells, oneL, oneCell, Nat.reduceLeDiff, evL, adopt, rigid, rigidL, trim, Int.reduceEq, Int.reduceMod, Int.reduceDiv, if_pos, if_neg, asI, forall_const, implies_true, chkD, chkO, chkW, effB, reB, vEq, beq_self_eq_true, Nat.reduceSub, Nat.reduceLT, Int.reduceSub, Int.reduceAdd, Int.reduceMul, Int.reduceLT, Int.reduceLE, Int.reduceToNat, optI, aslice, cutSl, cutMs, cutStr, cutOwn]) | ((first | rw [WP_condK] | rw [WP_opsG] | rw [WP_quiG] | rw [WP_dG]); refine And.intro (fun hb => ?_) (fun hb => ?_) <;> (first | have hd := dq1 hb | have hd := dq2 hb | have hd := dq3 hb | have hd := dq4 hb | skip)))
      refine set_loop m 19 vo vr rfl b hby hok ow id h0 hlt _ _ rfl rfl rfl rfl _ (Nat.le_refl _) (by rw [hz]; exact hsame) ?_
      intro e
      simp -implicitDefEqProofs (disch := omega) only [getE_cons, wC, wO, initE, aop, Nat.reduceEqDiff, ↓reduceIte, Nat.reduceAdd, finish, resOf, tupOf, AM.freeze, freeze1, freezeL, closed, nam, namL, if_true, if_false, deref, boxAt, exAt, ldCells, oneL, oneCell, Nat.reduceLeDiff, evL, adopt, rigid, rigidL, trim, Int.reduceEq, Int.reduceMod, Int.reduceDiv, if_pos, if_neg, asI, forall_const, implies_true, chkD, chkO, chkW, effB, reB, vEq, beq_self_eq_true, Nat.reduceSub, Nat.reduceLT, Int.reduceSub, Int.reduceAdd, Int.reduceMul, Int.reduceLT, Int.reduceLE, Int.reduceToNat, optI, aslice, cutSl, cutMs, cutStr, cutOwn]
      exact .inl ⟨_, some_ hok, rfl⟩
    · have hg0 := getD0 (b := b) (by omega)
      have hb0 := hby (b.getD 0 0) (by cases b with | nil => simp at h00 | cons x r => simp)
      have hsh : abin .shr (.int .u8 (b.getD 0 0)) (.int .u64 7) = some (.int .u8 (b.getD 0 0 / 128)) := by
        have := shr_c .u8 .u64 (b.getD 0 0) 7 (by decide)
        rw [show ((7 : Nat) : Int) = 7 from rfl] at this
        rw [this, Int.fdiv_eq_ediv_of_nonneg _ (by decide)]
        rfl
      first | have hb := hb | have hb := trivial
      repeat' (first | (simp -implicitDefEqProofs (disch := omega) only [hb, F23, numP, hashP, textP, numOff, hashOff, textOff, offP, hid, hg0, hsh, wC, wO, initE, aop, Nat.reduceEqDiff, ↓reduceIte, Nat.reduceAdd, finish, resOf, tupOf, AM.freeze, freeze1, freezeL, closed, nam, namL, if_true, if_false, deref, boxAt, exAt, ldCells, oneL, oneCell, Nat.reduceLeDiff, evL, adopt, rigid, rigidL, trim, Int.reduceEq, Int.reduceMod, Int.reduceDiv, if_pos, if_neg, asI, forall_const, implies_true, chkD, chkO, chkW, effB, reB, vEq, beq_self_eq_true, Nat.reduceSub, Nat.reduceLT, Int.reduceSub, Int.reduceAdd, Int.reduceMul, Int.reduceLT, Int.reduceLE, Int.reduceToNat, optI, aslice, cutSl, cutMs, cutStr, cutOwn]) | ((first | rw [WP_condK] | rw [WP_opsG] | rw [WP_quiG] | rw [WP_dG]); refine And.intro (fun hb => ?_) (fun hb => ?_) <;> (first | have hd := dq1 hb | have hd := dq2 hb | have hd := dq3 hb | have hd := dq4 hb | skip)))
      all_goals first
      | exact bad _ (none_ (by unfold okN; omega)) rfl
      | (have hok : okN b := by unfold okN; omega
         refine set_loop m 19 vo vr rfl b hby hok ow id h0 hlt _ _ rfl rfl rfl rfl _ (Nat.le_refl _) (by rw [hz]; exact hsame) ?_
         intro e
         simp -implicitDefEqProofs (disch := omega) only [getE_cons, wC, wO, initE, aop, Nat.reduceEqDiff, ↓reduceIte, Nat.reduceAdd, finish, resOf, tupOf, AM.freeze, freeze1, freezeL, closed, nam, namL, if_true, if_false, deref, boxAt, exAt, ldCells, oneL, oneCell, Nat.reduceLeDiff, evL, adopt, rigid, rigidL, trim, Int.reduceEq, Int.reduceMod, Int.reduceDiv, if_pos, if_neg, asI, forall_const, implies_true, chkD, chkO, chkW, effB, reB, vEq, beq_self_eq_true, Nat.reduceSub, Nat.reduceLT, Int.reduceSub, Int.reduceAdd, Int.reduceMul, Int.reduceLT, Int.reduceLE, Int.reduceToNat, optI, aslice, cutSl, cutMs, cutStr, cutOwn]
         exact .inl ⟨_, some_ hok, rfl⟩)
  · have none_ : ¬ okN b → setM m 21 b = none := fun h => by simp [setM, numOff, h]
    have some_ : okN b → setM m 21 b = some (setNum m 21 (be b)) := fun h => by simp [setM, numOff, h]
    by_cases h00 : b.length = 0
    · have hok : okN b := ⟨by omega, by omega, by omega⟩
      first | have hb := hb | have hb := trivial
      repeat' (first | (simp -implicitDefEqProofs (disch := omega) only [hb, F23, numP, hashP, textP, numOff, hashOff, textOff, offP, hid, wC, wO, initE, aop, Nat.reduceEqDiff, ↓reduceIte, Nat.reduceAdd, finish, resOf, tupOf, AM.freeze, freeze1, freezeL, closed, nam, namL, if_true, if_false, deref, boxAt, exAt, ldCells, oneL, oneCell, Nat.reduceLeDiff, evL, adopt, rigid, rigidL, trim, Int.reduceEq, Int.reduceMod, Int.reduceDiv, if_pos, if_neg, asI, forall_const, implies_true, chkD, chkO, chkW, effB, reB, vEq, beq_self_eq_true, Nat.reduceSub, Nat.reduceLT, Int.reduceSub, Int.reduceAdd, Int.reduceMul, Int.reduceLT, Int.reduceLE, Int.reduceToNat, optI, aslice, cutSl, cutMs, cutStr, cutOwn]) | ((first | rw [WP_condK] | rw [WP_opsG] | rw [WP_quiG] | rw [WP_dG]); refine And.intro (fun hb => ?_) (fun hb => ?_) <;> (first | have hd := dq1 hb | have hd := dq2 hb | have hd := dq3 hb | have hd := dq4 hb | skip)))
      refine set_loop m 21 vo vr rfl b hby hok ow id h0 hlt _ _ rfl rfl rfl rfl _ (Nat.le_refl _) (by rw [hz]; exact hsame) ?_
      intro e
      simp -implicitDefEqProofs (disch := omega) only [getE_cons, wC, wO, initE, aop, Nat.reduceEqDiff, ↓reduceIte, Nat.reduceAdd, finish, resOf, tupOf, AM.freeze, freeze1, freezeL, closed, nam, namL, if_true, if_false, deref, boxAt, exAt, ldCells, oneL, oneCell, Nat.reduceLeDiff, evL, adopt, rigid, rigidL, trim, Int.reduceEq, Int.reduceMod, Int.reduceDiv, if_pos, if_neg, asI, forall_const, implies_true, chkD, chkO, chkW, effB, reB, vEq, beq_self_eq_true, Nat.reduceSub, Nat.reduceLT, Int.reduceSub, Int.reduceAdd, Int.reduceMul, Int.reduceLT, Int.reduceLE, Int.reduceToNat, optI, aslice, cutSl, cutMs, cutStr, cutOwn]
      exact .inl ⟨_, some_ hok, rfl⟩
    · have hg0 := getD0 (b := b) (by omega)
      have hb0 := hby (b.getD 0 0) (by cases b with | nil => simp at h00 | cons x r => simp)
      have hsh : abin .shr (.int .u8 (b.getD 0 0)) (.int .u64 7) = some (.int .u8 (b.getD 0 0 / 128)) := by
        have := shr_c .u8 .u64 (b.getD 0 0) 7 (by decide)
        rw [show ((7 : Nat) : Int) = 7 from rfl] at this
        rw [this, Int.fdiv_eq_ediv_of_nonneg _ (by decide)]
        rfl
      first | have hb := hb | have hb := trivial
      repeat' (first | (simp -implicitDefEqProofs (disch := omega) only [hb, F23, numP, hashP, textP, numOff, hashOff, textOff, offP, hid, hg0, hsh, wC, wO, initE, aop, Nat.reduceEqDiff, ↓reduceIte, Nat.reduceAdd, finish, resOf, tupOf, AM.freeze, freeze1, freezeL, closed, nam, namL, if_true, if_false, deref, boxAt, exAt, ldCells, oneL, oneCell, Nat.reduceLeDiff, evL, adopt, rigid, rigidL, trim, Int.reduceEq, Int.reduceMod, Int.reduceDiv, if_pos, if_neg, asI, forall_const, implies_true, chkD, chkO, chkW, effB, reB, vEq, beq_self_eq_true, Nat.reduceSub, Nat.reduceLT, Int.reduceSub, Int.reduceAdd, Int.reduceMul, Int.reduceLT, Int.reduceLE, Int.reduceToNat, optI, aslice, cutSl, cutMs, cutStr, cutOwn]) | ((first | rw [WP_condK] | rw [WP_opsG] | rw [WP_quiG] | rw [WP_dG]); refine And.intro (fun hb => ?_) (fun hb => ?_) <;> (first | have hd := dq1 hb | have hd := dq2 hb | have hd := dq3 hb | have hd := dq4 hb | skip)))
      all_goals first
      | exact bad _ (none_ (by unfold okN; omega)) rfl
      | (have hok : okN b := by unfold okN; omega
         refine set_loop m 21 vo vr rfl b hby hok ow id h0 hlt _ _ rfl rfl rfl rfl _ (Nat.le_refl _) (by rw [hz]; exact hsame) ?_
         intro e
         simp -implicitDefEqProofs (disch := omega) only [getE_cons, wC, wO, initE, aop, Nat.reduceEqDiff, ↓reduceIte, Nat.reduceAdd, finish, resOf, tupOf, AM.freeze, freeze1, freezeL, closed, nam, namL, if_true, if_false, deref, boxAt, exAt, ldCells, oneL, oneCell, Nat.reduceLeDiff, evL, adopt, rigid, rigidL, trim, Int.reduceEq, Int.reduceMod, Int.reduceDiv, if_pos, if_neg, asI, forall_const, implies_true, chkD, chkO, chkW, effB, reB, vEq, beq_self_eq_true, Nat.reduceSub, Nat.reduceLT, Int.reduceSub, Int.reduceAdd, Int.reduceMul, Int.reduceLT, Int.reduceLE, Int.reduceToNat, optI, aslice, cutSl, cutMs, cutStr, cutOwn]
         exact .inl ⟨_, some_ hok, rfl⟩)
  · first | have hb := hb | have hb := trivial
    repeat' (first | (simp -implicitDefEqProofs (disch := omega) only [hb, F23, numP, hashP, textP, numOff, hashOff, textOff, offP, hid, wG, wC, wO, initE, aop, Nat.reduceEqDiff, ↓reduceIte, Nat.reduceAdd, finish, resOf, tupOf, AM.freeze, freeze1, freezeL, closed, nam, namL, if_true, if_false, deref, boxAt, exAt, ldCells, oneL, oneCell, Nat.reduceLeDiff, evL, adopt, rigid, rigidL, trim, Int.reduceEq, Int.reduceMod, Int.reduceDiv, if_pos, if_neg, asI, forall_const, implies_true, chkD, chkO, chkW, effB, reB, vEq, beq_self_eq_true, Nat.reduceSub, Nat.reduceLT, Int.reduceSub, Int.reduceAdd, Int.reduceMul, Int.reduceLT, Int.reduceLE, Int.reduceToNat, optI, aslice, cutSl, cutMs, cutStr, cutOwn]) | ((first | rw [WP_condK] | rw [WP_opsG] | rw [WP_quiG] | rw [WP_dG]); refine And.intro (fun hb => ?_) (fun hb => ?_) <;> (first | have hd := dq1 hb | have hd := dq2 hb | have hd := dq3 hb | have hd := dq4 hb | skip)))
    exact .inl ⟨setText m 23 b, by simp [setM, numOff, hashOff], rfl⟩
end Go.Proofs.Ytnlemcfhndjheaa.AM

/- bigsize's streams: plain laws. -/
namespace Go.Proofs.Ytnlemcfhndjheaa.AM
open Go
set_option linter.unusedSimpArgs false
set_option linter.unusedVariables false
theorem be_cons (c : Int) (l : List Int) : be (c :: l) = c * 256 ^ l.length + be l := by
  have key : ∀ (l : List Int) (x : Int), l.foldl (fun x c => x * 256 + c) x = x * 256 ^ l.length + l.foldl (fun x c => x * 256 + c) 0 := by
    intro l
    induction l with
    | nil => intro x; simp
    | cons d l ih =>
      intro x
      rw [List.foldl_cons, List.foldl_cons, ih, ih (0 * 256 + d), List.length_cons, Int.pow_succ, Int.add_mul, Int.zero_mul, Int.zero_add, Int.mul_assoc, Int.mul_comm 256]
      omega
  unfold be
  rw [List.foldl_cons, key, Int.zero_mul, Int.zero_add]
theorem tailS_add (n : Nat) : ∀ (c y : Int), tailS n (c * 256 ^ n + y) = tailS n y ∧ ∀ m, n ≤ m → tailS n (c * 256 ^ m + y) = tailS n y := by
  induction n with
  | zero => intro c y; exact ⟨rfl, fun m _ => rfl⟩
  | succ n ih =>
    intro c y
    have h : ∀ m, n + 1 ≤ m → tailS (n + 1) (c * 256 ^ m + y) = tailS (n + 1) y := by
      intro m hm
      obtain ⟨d, rfl⟩ : ∃ d, m = d + (n + 1) := ⟨m - (n + 1), by omega⟩
      have e : c * 256 ^ (d + (n + 1)) = (c * 256 ^ d * 256) * 256 ^ n := by
        rw [Int.pow_add, Int.pow_succ, Int.mul_comm (256 ^ n) 256, ← Int.mul_assoc, ← Int.mul_assoc]
      have hpos : (256 : Int) ^ n ≠ 0 := Int.ne_of_gt (Int.pow_pos (by omega))
      rw [tail_snoc, tail_snoc, e, Int.add_comm, Int.add_mul_ediv_right _ _ hpos, Int.add_mul_emod_self_right]
      congr 1
      rw [Int.add_comm]
      exact (ih (c * 256 ^ d * 256) y).1
    exact ⟨h _ (Nat.le_refl _), h⟩
theorem tailS_be : ∀ (l : List Int), Bytes l → tailS l.length (be l) = l
  | [], _ => rfl
  | c :: l, h => by
    have hc := h c List.mem_cons_self
    have hl : Bytes l := fun x hx => h x (List.mem_cons_of_mem _ hx)
    have hb := be_bound l hl
    have hpos : (256 : Int) ^ l.length ≠ 0 := Int.ne_of_gt (Int.pow_pos (by omega))
    rw [be_cons, List.length_cons, tail_snoc, (tailS_add l.length c (be l)).1, tailS_be l hl, Int.add_comm, Int.add_mul_ediv_right _ _ hpos, Int.ediv_eq_zero_of_lt hb.1 hb.2, Int.zero_add, Int.emod_eq_of_lt hc.1 (by omega)]
/-- what is read is the number's one form -/
theorem num_readS {l : List Int} (h : Bytes l) {x n : Int} (hr : readS l = (x, n, 0)) : l = numS x ++ l.drop n.toNat ∧ n.toNat = (numS x).length := by
  cases l with
  | nil => simp [readS] at hr
  | cons b r =>
    have hbb := h b List.mem_cons_self
    have hrr : Bytes r := fun y hy => h y (List.mem_cons_of_mem _ hy)
    rw [readS_cons] at hr
    split at hr
    · rename_i hlt
      simp only [Prod.mk.injEq] at hr
      obtain ⟨rfl, rfl, _⟩ := hr
      have : numS b = [b] := by unfold numS; rw [if_pos hlt]
      rw [this]; exact ⟨rfl, rfl⟩
    · rename_i hge
      split at hr
      · cases hr
      · rename_i hlen
        split at hr
        · rename_i hsz
          cases hr
          have htl : (r.take (wideS b)).length = wideS b := by rw [List.length_take]; omega
          have hte := tailS_be (r.take (wideS b)) (take_bytes hrr _)
          rw [htl] at hte
          have hn : numS (be (r.take (wideS b))) = b :: r.take (wideS b) := by
            generalize hx : be (r.take (wideS b)) = x at *
            have hw : b = 253 ∧ wideS b = 2 ∨ b = 254 ∧ wideS b = 4 ∨ b = 255 ∧ wideS b = 8 := by
              unfold wideS
              split
              · exact .inl ⟨by assumption, rfl⟩
              · split
                · exact .inr (.inl ⟨by assumption, rfl⟩)
                · exact .inr (.inr ⟨by omega, rfl⟩)
            unfold sizeS at hsz
            unfold numS
            rcases hw with ⟨hb1, hw⟩ | ⟨hb1, hw⟩ | ⟨hb1, hw⟩ <;> rw [hw] at hsz hte <;> subst hb1
            · split at hsz
              · omega
              · split at hsz
                · rw [if_neg (by assumption), if_pos (by assumption), hte, hw]
                · split at hsz <;> omega
            · split at hsz
              · omega
              · split at hsz
                · omega
                · split at hsz
                  · rw [if_neg (by assumption), if_neg (by assumption), if_pos (by assumption), hte, hw]
                  · omega
            · split at hsz
              · omega
              · split at hsz
                · omega
                · split at hsz
                  · omega
                  · rw [if_neg (by assumption), if_neg (by assumption), if_neg (by assumption), hte, hw]
          rw [hn]
          have e : ((wideS b : Int) + 1).toNat = wideS b + 1 := by omega
          rw [e]
          exact ⟨by simp, by rw [List.length_cons, htl]⟩
        · cases hr
theorem flatS_snoc (l : List Rc) (r : Rc) : flatS (l ++ [r]) = flatS l ++ recS r := by
  unfold flatS; rw [List.flatMap_append, List.flatMap_singleton]
theorem asc_snoc {acc : List Rc} {r : Rc} (ha : ascB acc = true) (ht : topB acc r.t = true) : ascB (acc ++ [r]) = true := by
  refine ascB_of fun i hi => ?_
  rw [List.length_append, List.length_singleton] at hi
  by_cases h : i + 1 < acc.length
  · rw [List.getElem_append_left (by omega), List.getElem_append_left h]
    exact ascB_at h ha
  · have e : i + 1 = acc.length := by omega
    have ht' := top_at (acc := acc) (x := r.t) (by omega)
    rw [ht] at ht'
    have := of_decide_eq_true ht'.symm
    rw [List.getElem_append_left (by omega), List.getElem_append_right (by omega)]
    simp only [e, Nat.sub_self, List.getElem_singleton]
    have e2 : acc.length - 1 = i := by omega
    simp only [e2] at this
    exact this
theorem dec_back (ks : List Int) : ∀ (f : Nat) (acc : List Rc) (s : List Int) (l : List Rc), Bytes s → decL ks f acc s = (l, 0) → ascB acc = true → acc.length + f ≤ 64 → (∀ r ∈ acc, Rc.ok r) → ascB l = true ∧ l.length ≤ 64 ∧ flatS l = flatS acc ++ s ∧ ∀ r ∈ l, Rc.ok r
  | f, acc, [], l, hs, hd, ha, hf, hok => by
    rw [decL_nil] at hd
    cases hd
    exact ⟨ha, by omega, by rw [List.append_nil], hok⟩
  | 0, acc, c :: s, l, hs, hd, ha, hf, hok => by
    rw [decL_full _ _ _ (by simp)] at hd
    cases hd
  | f + 1, acc, c :: s', l, hs, hd, ha, hf, hok => by
    generalize hsd : c :: s' = s at *
    have hne : s ≠ [] := by rw [← hsd]; simp
    obtain ⟨x, n, e1, hr1⟩ : ∃ x n e1, readS s = (x, n, e1) := ⟨_, _, _, rfl⟩
    obtain ⟨s1, hs1⟩ : ∃ s1, s.drop n.toNat = s1 := ⟨_, rfl⟩
    obtain ⟨y, m, e2, hr2⟩ : ∃ x n e1, readS s1 = (x, n, e1) := ⟨_, _, _, rfl⟩
    obtain ⟨s2, hs2⟩ : ∃ s2, s1.drop m.toNat = s2 := ⟨_, rfl⟩
    have hb1 : Bytes s1 := hs1 ▸ drop_bytes hs _
    have hb2 : Bytes s2 := hs2 ▸ drop_bytes hb1 _
    have hf1 := readS_fine s hs
    have hf2 := readS_fine s1 hb1
    rw [hr1] at hf1
    rw [hr2] at hf2
    simp only at hf1 hf2
    rw [decL_step ks f acc s hne x n e1 y m e2 s1 s2 hr1 hs1 hr2 hs2] at hd
    split at hd
    · rename_i h; cases hd; exact absurd rfl h
    · rename_i he1
      split at hd
      · cases hd
      · rename_i htop
        split at hd
        · rename_i h; cases hd; exact absurd rfl h
        · rename_i he2
          split at hd
          · cases hd
          · rename_i hlen
            split at hd
            · cases hd
            · have he1 : e1 = 0 := by omega
              have he2 : e2 = 0 := by omega
              subst he1
              subst he2
              have ht : topB acc x = true := by simpa using htop
              have hvl : ((s2.take y.toNat).length : Int) = y := by rw [List.length_take]; omega
              have hrec := dec_back ks f (acc ++ [⟨x, s2.take y.toNat⟩]) (s2.drop y.toNat) l (drop_bytes hb2 _) hd (asc_snoc ha ht) (by rw [List.length_append, List.length_singleton]; omega) (by
                intro r hr
                rcases List.mem_append.1 hr with h | h
                · exact hok r h
                · rw [List.mem_singleton] at h
                  subst h
                  exact ⟨hf1.1, take_bytes hb2 _⟩)
              refine ⟨hrec.1, hrec.2.1, ?_, hrec.2.2.2⟩
              rw [hrec.2.2.1, flatS_snoc]
              have q1 := (num_readS hs hr1).1
              have q2 := (num_readS hb1 hr2).1
              rw [hs1] at q1
              rw [hs2] at q2
              unfold recS
              simp only [hvl]
              rw [List.append_assoc, List.append_assoc, List.append_assoc, List.take_append_drop, ← q2, ← q1]
theorem decodes_law (ks b : List Int) (hb : Bytes b) (h : (decS ks b).2 = 0) : encS (decS ks b).1 = (b, 0) ∧ (flatS (decS ks b).1).length ≤ 65536 ∧ (decS ks b).1.length ≤ 64 ∧ ∀ r ∈ (decS ks b).1, Rc.ok r := by
  unfold decS at h ⊢
  split at h
  · cases h
  · rename_i hl
    rw [if_neg hl]
    have := dec_back ks 64 [] b (decL ks 64 [] b).1 hb (by rw [← h]) rfl (by simp) (by simp)
    obtain ⟨q1, q2, q3, q4⟩ := this
    have q3 : flatS (decL ks 64 [] b).1 = b := q3
    refine ⟨?_, by rw [q3]; omega, q2, q4⟩
    rw [encS_ok q1 ⟨q2, by rw [q3]; omega⟩, q3]
end Go.Proofs.Ytnlemcfhndjheaa.AM

/- wire: Decode, what it is; the calls it makes. -/
namespace Go.Proofs.Ytnlemcfhndjheaa.AM
open Go
set_option maxRecDepth 100000
set_option maxHeartbeats 4000000
set_option linter.unusedSimpArgs false
set_option linter.unusedVariables false
theorem call_findO (l : List Rc) (t : Int) (hv : ∀ r ∈ l, r.v.length ≤ 140737488351232) (hn : l.length ≤ 140737488351232) (o : AOwn) (ho : stripO o = .none) (h : Heap) : ag T 22 [.slice o (some 2) (l.map Rc.av), u64 t] h = some (Go.Proofs.Ytnlemcfhndjheaa.AM.adopt (findT t l) h) := by
  have h1 := rc_closed l
  exact call_pure (T := T) rfl t22 rfl rfl (by
    simp only [List.map_cons, List.map_nil, strip, ho, closedL, namL, nam, Bool.and_true, Bool.true_and] at h1 ⊢
    exact h1) (by simp only [List.map_cons, List.map_nil, strip, ho]; exact find_ok l t hv hn)
theorem idxf_nil (t : Int) : ag T 41 [.nil, .func (.func 42) [] [.ptr 0 0]] [.cells [u64 t]] = some (i64 (-1), [.cells [u64 t]]) := by
  refine WP_eq (ag_wp rfl t41 rfl rfl ?_)
  simp -implicitDefEqProofs (disch := omega) only [F41, wC, wO, initE, aop, Nat.reduceEqDiff, ↓reduceIte, Nat.reduceAdd, finish, resOf, tupOf, AM.freeze, freeze1, freezeL, closed, nam, namL, if_true, if_false, deref, boxAt, exAt, ldCells, oneL, oneCell, Nat.reduceLeDiff, evL, adopt, rigid, rigidL, trim, Int.reduceEq, Int.reduceMod, Int.reduceDiv, if_pos, if_neg, asI, forall_const, implies_true, chkD, chkO, chkW, effB, reB, vEq, beq_self_eq_true, Nat.reduceSub, Nat.reduceLT, Int.reduceSub, Int.reduceAdd, Int.reduceMul, Int.reduceLT, Int.reduceLE, Int.reduceToNat, optI, aslice, cutSl, cutMs, cutStr, cutOwn]
  refine WP_loop (I := fun k e h => h = [.cells [u64 t]] ∧ getE e 0 = .nil ∧ getE e 1 = .func (.func 42) [] [.ptr 0 0] ∧ getE e 7 = i64 0 ∧ getE e 8 = i64 0) ?_ 0 _ _ ⟨rfl, rfl, rfl, rfl, rfl⟩
  rintro k e h ⟨rfl, h0, h1, h7, h8⟩
  rw [trim_same' (by simp)]
  first | have hb := hb | have hb := trivial
  repeat' (first | (simp -implicitDefEqProofs (disch := omega) only [hb, L41_0, h0, h1, h7, h8, wC, wO, initE, aop, Nat.reduceEqDiff, ↓reduceIte, Nat.reduceAdd, finish, resOf, tupOf, AM.freeze, freeze1, freezeL, closed, nam, namL, if_true, if_false, deref, boxAt, exAt, ldCells, oneL, oneCell, Nat.reduceLeDiff, evL, adopt, rigid, rigidL, trim, Int.reduceEq, Int.reduceMod, Int.reduceDiv, if_pos, if_neg, asI, forall_const, implies_true, chkD, chkO, chkW, effB, reB, vEq, beq_self_eq_true, Nat.reduceSub, Nat.reduceLT, Int.reduceSub, Int.reduceAdd, Int.reduceMul, Int.reduceLT, Int.reduceLE, Int.reduceToNat, optI, aslice, cutSl, cutMs, cutStr, cutOwn]) | ((first | rw [WP_condK] | rw [WP_opsG] | rw [WP_quiG] | rw [WP_dG]); refine And.intro (fun hb => ?_) (fun hb => ?_) <;> (first | have hd := dq1 hb | have hd := dq2 hb | have hd := dq3 hb | have hd := dq4 hb | skip)))
theorem call_findN (t : Int) (h : Heap) : ag T 22 [.nil, u64 t] h = some (.tup [.nil, .bool false], h) := by
  have h1 := idxf_nil t
  have h2 : prun T F22 [.nil, u64 t] = some (.tup [.nil, .bool false]) := by
    refine WP_eq (prun_wp ?_)
    first | have hb := hb | have hb := trivial
    repeat' (first | (simp -implicitDefEqProofs (disch := omega) only [hb, F22, h1, wC, wO, initE, aop, Nat.reduceEqDiff, ↓reduceIte, Nat.reduceAdd, finish, resOf, tupOf, AM.freeze, freeze1, freezeL, closed, nam, namL, if_true, if_false, deref, boxAt, exAt, ldCells, oneL, oneCell, Nat.reduceLeDiff, evL, adopt, rigid, rigidL, trim, Int.reduceEq, Int.reduceMod, Int.reduceDiv, if_pos, if_neg, asI, forall_const, implies_true, chkD, chkO, chkW, effB, reB, vEq, beq_self_eq_true, Nat.reduceSub, Nat.reduceLT, Int.reduceSub, Int.reduceAdd, Int.reduceMul, Int.reduceLT, Int.reduceLE, Int.reduceToNat, optI, aslice, cutSl, cutMs, cutStr, cutOwn]) | ((first | rw [WP_condK] | rw [WP_opsG] | rw [WP_quiG] | rw [WP_dG]); refine And.intro (fun hb => ?_) (fun hb => ?_) <;> (first | have hd := dq1 hb | have hd := dq2 hb | have hd := dq3 hb | have hd := dq4 hb | skip)))
  exact call_tup rfl t22 rfl rfl rfl rfl h2
/-- bytes as a program holds them -/
def Ow (v : AV) (l : List Int) : Prop := (v = .nil ∧ l = []) ∨ ∃ o, (o = .none ∨ o = .full ∨ ∃ i, o = .tok i) ∧ v = .slice o none (l.map u8)
theorem Ow.fm {v : AV} {l : List Int} (h : Ow v l) : Fm v l := by
  rcases h with h | ⟨o, _, h⟩
  · exact .inl h
  · exact .inr ⟨o, h⟩
theorem Ow.tx {v : AV} {l : List Int} (h : Ow v l) (hc : closed v = true) : Tx v l := by
  rcases h with ⟨rfl, rfl⟩ | ⟨o, ho, rfl⟩
  · exact tx_nil
  · rcases ho with rfl | rfl | ⟨i, rfl⟩
    · exact tx_slice l
    · exact tx_full l
    · simp [closed, nam] at hc
theorem ow_nil : Ow .nil [] := .inl ⟨rfl, rfl⟩
theorem ow_tok (i : Nat) (l : List Int) : Ow (.slice (.tok i) none (l.map u8)) l := .inr ⟨_, .inr (.inr ⟨i, rfl⟩), rfl⟩
theorem ow_none (l : List Int) : Ow (.slice .none none (l.map u8)) l := .inr ⟨_, .inl rfl, rfl⟩
theorem Ow.strip {v : AV} {l : List Int} (h : Ow v l) : Ow (strip v) l := by
  rcases h with ⟨rfl, rfl⟩ | ⟨o, ho, rfl⟩
  · exact ow_nil
  · rcases ho with rfl | rfl | ⟨i, rfl⟩
    · exact ow_none l
    · exact .inr ⟨_, .inr (.inl rfl), rfl⟩
    · exact ow_none l
theorem call_mE {f : Nat} {F : AFn} (hx : T.ext f = none) (hf : T.fn f = some F) (hp : F.pure = true) (hl : 1 = F.np) {m : Pm} {vo vr : AV} (wo : Ow vo m.o) (wr : Ow vr m.r) {P : AV → Prop} (hr : ∀ vo vr, Fm vo m.o → Fm vr m.r → Tx vo m.o → Tx vr m.r → ∃ v, prun T F [.agg (msC m vo vr)] = some v ∧ P v) : ∃ v, P v ∧ ∀ h, ag T f [.agg (msC m vo vr)] h = some (Go.Proofs.Ytnlemcfhndjheaa.AM.adopt v h) := by
  by_cases hc : (closed vo && closed vr) = true
  · have hc' : closed vo = true ∧ closed vr = true := by simpa using hc
    obtain ⟨v, h1, h2⟩ := hr vo vr wo.fm wr.fm (wo.tx hc'.1) (wr.tx hc'.2)
    exact ⟨v, h2, fun h => call_pure (T := T) (args := [.agg (msC m vo vr)]) hx hf hp hl (ms_closed m hc'.1 hc'.2) h1⟩
  · obtain ⟨v, h1, h2⟩ := hr _ _ wo.fm.strip wr.fm.strip wo.fm.tx wr.fm.tx
    have e : [AV.agg (msC m vo vr)].map stripEl = [AV.agg (msC m (AM.strip vo) (AM.strip vr))] := by
      simp only [List.map_cons, List.map_nil, stripEl, ms_strip]
    refine ⟨v, h2, fun h => call_pureE (T := T) hx hf hp hl ?_ ?_ ?_⟩
    · simp only [List.map_cons, List.map_nil, strip_agg, closedL, namL, nam, ms_nam, Bool.and_true]
      exact Bool.eq_false_iff.2 hc
    · rw [e]; exact ms_closed m wo.fm.tx.cl wr.fm.tx.cl
    · rw [e]; exact h1
theorem call_mmE {f : Nat} {F : AFn} (hx : T.ext f = none) (hf : T.fn f = some F) (hp : F.pure = true) (hl : 2 = F.np) {a b : Pm} {vo vr wo wr : AV} (ta : Ow vo a.o) (tb : Ow vr a.r) (tc : Ow wo b.o) (td : Ow wr b.r) {v : Value} (hr : ∀ vo vr wo wr, Tx vo a.o → Tx vr a.r → Tx wo b.o → Tx wr b.r → prun T F [.agg (msC a vo vr), .agg (msC b wo wr)] = some (.sc v)) (h : Heap) : ag T f [.agg (msC a vo vr), .agg (msC b wo wr)] h = some (.sc v, h) := by
  have cl : ∀ (x y z w : AV), closedL [AV.agg (msC a x y), .agg (msC b z w)] = ((closed x && closed y) && (closed z && closed w)) := fun x y z w => by
    simp only [closedL, namL, nam, ms_nam, Bool.and_true, closed]
  by_cases hc : ((closed vo && closed vr) && (closed wo && closed wr)) = true
  · have hc' : (closed vo = true ∧ closed vr = true) ∧ (closed wo = true ∧ closed wr = true) := by simpa using hc
    exact call_sc (T := T) hx hf hp hl rfl (by rw [cl]; exact hc) (hr _ _ _ _ (ta.tx hc'.1.1) (tb.tx hc'.1.2) (tc.tx hc'.2.1) (td.tx hc'.2.2))
  · have e : [AV.agg (msC a vo vr), .agg (msC b wo wr)].map stripEl = [AV.agg (msC a (AM.strip vo) (AM.strip vr)), .agg (msC b (AM.strip wo) (AM.strip wr))] := by
      simp only [List.map_cons, List.map_nil, stripEl, ms_strip]
    refine (call_pureE (T := T) (args := [.agg (msC a vo vr), .agg (msC b wo wr)]) (v := .sc v) hx hf hp hl ?_ ?_ (by rw [e]; exact hr _ _ _ _ ta.fm.tx tb.fm.tx tc.fm.tx td.fm.tx)).trans rfl
    · simp only [List.map_cons, List.map_nil, strip_agg]
      rw [cl]
      exact Bool.eq_false_iff.2 hc
    · rw [e, cl, ta.fm.tx.cl, tb.fm.tx.cl, tc.fm.tx.cl, td.fm.tx.cl]; rfl
theorem call_sameE {a b : Pm} {vo vr wo wr : AV} (ta : Ow vo a.o) (tb : Ow vr a.r) (tc : Ow wo b.o) (td : Ow wr b.r) (ha : a.fine) (hb : b.fine) (h : Heap) : ag T 12 [.agg (msC a vo vr), .agg (msC b wo wr)] h = some (.sc (.bool (decide (a = b))), h) :=
  call_mmE rfl t12 rfl rfl ta tb tc td (fun vo vr wo wr t1 t2 t3 t4 => same_m a b vo vr wo wr t1 t2 t3 t4 ha.o ha.r hb.o hb.r) h
theorem scE {f : Nat} {args : List AV} {w : Value} (h : ∃ v, v = AV.sc w ∧ ∀ h, ag T f args h = some (Go.Proofs.Ytnlemcfhndjheaa.AM.adopt v h)) (hp : Heap) : ag T f args hp = some (.sc w, hp) := by
  obtain ⟨v, rfl, h2⟩ := h
  exact h2 hp
theorem call_mayE {m : Pm} {vo vr : AV} (to : Ow vo m.o) (tr : Ow vr m.r) (hf : m.fine) (h : Heap) : ag T 16 [.agg (msC m vo vr)] h = some (.sc (.bool (decide (MayP m))), h) :=
  scE (call_mE rfl t16 rfl rfl to tr fun vo vr _ _ to tr => ⟨_, may_ok m vo vr to tr hf.ol hf.rl, rfl⟩) h
theorem call_rmayE {m : Pm} {vo vr : AV} (to : Ow vo m.o) (tr : Ow vr m.r) (hf : m.fine) (h : Heap) : ag T 17 [.agg (msC m vo vr)] h = some (.sc (.bool (decide (MayP m))), h) :=
  scE (call_mE rfl t17 rfl rfl to tr fun vo vr _ _ to tr => ⟨_, rmay_ok m vo vr to tr hf.o hf.r, rfl⟩) h
def decF : List Int → List Rc → Pm → Option Pm
  | [], _, m => some m
  | t :: r, l, m => (findS t l).bind fun x => (setM m t x.v).bind (decF r l)
def kindS (b : List Int) : Int := b.getD 0 0 * 256 + b.getD 1 0
def decB (k : Int) (p : List Rc × Int) : Option Pm := if p.2 ≠ 0 ∨ fieldsS k = [] then none else (decF (fieldsS k) p.1 { Pm.zero with k := k }).bind fun m => if MayP m then some m else none
/-- the message that bytes stand for -/
def decW (b : List Int) : Option Pm := if b.length < 2 then none else decB (kindS b) (decS [] (b.drop 2))
def IsDm (v : AV) : Option Pm → Prop
  | none => v = .tup [.agg (msC Pm.zero .nil .nil), i64 10]
  | some q => ∃ vo vr, Ow vo q.o ∧ Ow vr q.r ∧ v = .tup [.agg (msC q vo vr), i64 0]
theorem set_flds {m q : Pm} {t : Int} {b : List Int} (ht : t ∈ allT) (h : setM m t b = some q) : q.k = m.k ∧ (t ≠ 1 → q.c = m.c) ∧ (t ≠ 3 → q.i = m.i) ∧ (t ≠ 5 → q.a = m.a) ∧ (t ≠ 7 → q.e = m.e) ∧ (t ≠ 9 → q.h = m.h) ∧ (t ≠ 11 → q.o = m.o) ∧ (t ≠ 13 → q.s = m.s) ∧ (t ≠ 15 → q.p = m.p) ∧ (t ≠ 17 → q.t = m.t) ∧ (t ≠ 19 → q.n = m.n) ∧ (t ≠ 21 → q.d = m.d) ∧ (t ≠ 23 → q.r = m.r) := by
  simp only [allT, List.mem_cons, List.not_mem_nil, or_false] at ht
  rcases ht with rfl | rfl | rfl | rfl | rfl | rfl | rfl | rfl | rfl | rfl | rfl | rfl
  all_goals
    simp [setM, numOff, hashOff] at h
    first
    | (obtain ⟨_, rfl⟩ := h; simp [setNum, setHash, setText])
    | (subst h; simp [setNum, setHash, setText])
theorem set_or {m q : Pm} {t : Int} {b : List Int} (ht : t ∈ allT) (h : setM m t b = some q) : (q.o = if t = 11 then b else m.o) ∧ (q.r = if t = 23 then b else m.r) := by
  simp only [allT, List.mem_cons, List.not_mem_nil, or_false] at ht
  rcases ht with rfl | rfl | rfl | rfl | rfl | rfl | rfl | rfl | rfl | rfl | rfl | rfl
  all_goals
    simp [setM, numOff, hashOff] at h
    first
    | (obtain ⟨_, rfl⟩ := h; simp [setNum, setHash, setText])
    | (subst h; simp [setNum, setHash, setText])
theorem num0_iff (m : Pm) (t : Int) : setNum m t 0 = m ↔ (t = 1 → m.c = 0) ∧ (t = 3 → m.i = 0) ∧ (t = 5 → m.a = 0) ∧ (t = 7 → m.e = 0) ∧ (t = 19 → m.n = 0) ∧ (t = 21 → m.d = 0) := by
  obtain ⟨k, c, i, a, e, h, o, s, p, u, n, d, r⟩ := m
  by_cases h1 : t = 1
  · subst h1; simp [setNum, eq_comm]
  by_cases h3 : t = 3
  · subst h3; simp [setNum, eq_comm]
  by_cases h5 : t = 5
  · subst h5; simp [setNum, eq_comm]
  by_cases h7 : t = 7
  · subst h7; simp [setNum, eq_comm]
  by_cases h19 : t = 19
  · subst h19; simp [setNum, eq_comm]
  by_cases h21 : t = 21
  · subst h21; simp [setNum, eq_comm]
  simp [setNum, h1, h3, h5, h7, h19, h21]
theorem set_num0 {m q : Pm} {t s : Int} {b : List Int} (ht : t ∈ allT) (h : setM m t b = some q) (hs : t ≠ s) (h0 : setNum m s 0 = m) : setNum q s 0 = q := by
  obtain ⟨_, q1, q3, q5, q7, _, _, _, _, _, q19, q21, _⟩ := set_flds ht h
  rw [num0_iff] at h0 ⊢
  obtain ⟨z1, z3, z5, z7, z19, z21⟩ := h0
  refine ⟨fun e => ?_, fun e => ?_, fun e => ?_, fun e => ?_, fun e => ?_, fun e => ?_⟩
  · rw [q1 (by omega), z1 e]
  · rw [q3 (by omega), z3 e]
  · rw [q5 (by omega), z5 e]
  · rw [q7 (by omega), z7 e]
  · rw [q19 (by omega), z19 e]
  · rw [q21 (by omega), z21 e]
end Go.Proofs.Ytnlemcfhndjheaa.AM

/- wire: Decode, the program's. -/
namespace Go.Proofs.Ytnlemcfhndjheaa.AM
open Go
set_option maxRecDepth 100000
set_option maxHeartbeats 4000000
set_option linter.unusedSimpArgs false
set_option linter.unusedVariables false
theorem set_fine {m q : Pm} {t : Int} {b : List Int} (ht : t ∈ allT) (hb : Bytes b) (hn : b.length ≤ 140737488351232) (hf : m.fine) (h : setM m t b = some q) : q.fine := by
  obtain ⟨⟨k1, k2, k3, k4, k5, k6, k7⟩, fo, fr, fh, fs, fp, ft, fl, gl⟩ := hf
  simp only [allT, List.mem_cons, List.not_mem_nil, or_false] at ht
  rcases ht with rfl | rfl | rfl | rfl | rfl | rfl | rfl | rfl | rfl | rfl | rfl | rfl
  all_goals
    simp [setM, numOff, hashOff] at h
    first
    | (obtain ⟨hok, rfl⟩ := h
       first
       | (have hbe := be_ok hb hok
          have hb0 := (be_bound b hb).1
          have hI : I64 (be b) := ⟨by omega, by omega⟩
          refine ⟨⟨?_, ?_, ?_, ?_, ?_, ?_, ?_⟩, ?_, ?_, ?_, ?_, ?_, ?_, ?_, ?_⟩ <;> assumption)
       | (have hx : Bytes (h32S b).1 := by simp only [h32S, dif_pos hok]; exact hb
          refine ⟨⟨?_, ?_, ?_, ?_, ?_, ?_, ?_⟩, ?_, ?_, ?_, ?_, ?_, ?_, ?_, ?_⟩ <;> assumption))
    | (subst h
       refine ⟨⟨?_, ?_, ?_, ?_, ?_, ?_, ?_⟩, ?_, ?_, ?_, ?_, ?_, ?_, ?_, ?_⟩ <;> assumption)
theorem zero_bytes : Bytes zero32.1 := by
  intro c hc
  have := List.eq_of_mem_replicate hc
  omega
theorem zero_fine (k : Int) (h : I64 k) : ({ Pm.zero with k := k } : Pm).fine :=
  have i0 : I64 0 := ⟨by omega, by omega⟩
  ⟨⟨h, i0, i0, i0, i0, i0, i0⟩, bytes_nil, bytes_nil, zero_bytes, zero_bytes, zero_bytes, zero_bytes, by simp [Pm.zero], by simp [Pm.zero]⟩
theorem dec_vals {b : List Int} (hb : Bytes b) (h : (decS [] b).2 = 0) : (∀ r ∈ (decS [] b).1, Bytes r.v ∧ r.v.length ≤ 65536) ∧ (decS [] b).1.length ≤ 64 := by
  obtain ⟨_, h2, h3, h4⟩ := decodes_law [] b hb h
  exact ⟨fun r hr => ⟨(h4 r hr).2, Nat.le_trans (v_le_flat hr) h2⟩, h3⟩
theorem findT_adopt (t : Int) (l : List Rc) (h : Heap) : Go.Proofs.Ytnlemcfhndjheaa.AM.adopt (findT t l) h = match findS t l with
    | none => (.tup [.nil, .bool false], h)
    | some r => (.tup [.slice (.tok h.length) none (r.v.map u8), .bool true], h ++ [.row none (r.v.map u8).length]) := by
  unfold findT
  cases findS t l <;> rfl
theorem fields_nodup (k : Int) : (fieldsS k).Nodup := by
  unfold fieldsS
  repeat' split
  all_goals decide
theorem ow_if {p : Prop} [Decidable p] {v w : AV} {l k : List Int} (h : Ow v l) (g : Ow w k) : Ow (if p then v else w) (if p then l else k) := by
  split
  · exact h
  · exact g
theorem num0_zero (k t : Int) : setNum { Pm.zero with k := k } t 0 = { Pm.zero with k := k } := by
  simp only [setNum]
  repeat' split
  all_goals rfl
theorem kind_bits (x y : Int) (hx : 0 ≤ x ∧ x ≤ 255) (hy : 0 ≤ y ∧ y ≤ 255) : abin .shl (.int .i64 x) (.int .u64 8) = some (.int .i64 (x * 256)) ∧ abin .or (.int .i64 (x * 256)) (.int .i64 y) = some (.int .i64 (x * 256 + y)) ∧ IntKind.i64.wrap x = x ∧ IntKind.i64.wrap y = y := by
  refine ⟨?_, or_byte_i x y hx.1 (by omega) hy.1 hy.2, IntWalk.i64_in _ ⟨by omega, by omega⟩, IntWalk.i64_in _ ⟨by omega, by omega⟩⟩
  have := shl_c .i64 .u64 x 8 (by decide)
  rw [show ((8 : Nat) : Int) = 8 from rfl] at this
  rw [this]
  congr 2
  show IntKind.i64.wrap (x * 256) = _
  rw [IntWalk.i64_in _ ⟨by omega, by omega⟩]
theorem frz_m {q : Pm} {vo vr : AV} (to : Ow vo q.o) (tr : Ow vr q.r) (h : Heap) : freeze h (.tup [.agg (msC q vo vr), i64 0]) = some (.tup [.agg (msC q (AM.strip vo) (AM.strip vr)), i64 0]) := by
  have hc : closedL (msC q (AM.strip vo) (AM.strip vr)) = true := by
    simp only [closedL, ms_nam]
    have h1 := to.fm.tx.cl
    have h2 := tr.fm.tx.cl
    simp only [closed] at h1 h2
    rw [h1, h2]; rfl
  simp only [freeze, freezeL, freeze1, ms_strip, hc, if_true, closed, nam, Option.map_some, Option.bind_some]
theorem isDm_freeze {q : Pm} {vo vr : AV} (to : Ow vo q.o) (tr : Ow vr q.r) (h : Heap) : WP (fun v => IsDm v (some q)) (freeze h (.tup [.agg (msC q vo vr), i64 0])) := by
  rw [frz_m to tr, WP_some]
  exact ⟨_, _, to.strip, tr.strip, rfl⟩
theorem ms_zero : closedL (msC Pm.zero .nil .nil) = true := by
  simp only [closedL, ms_nam]; rfl
theorem dec_loop_bad (fs : List Int) (hfl : fs.length ≤ 6) (m0 : Nat) (Q : Res → Prop) (e : Env) (rest : Heap) (h2 : getE e 2 = .ptr 0 0) (h6 : getE e 6 = .nil) (h8 : getE e 8 = .bool false) (h43 : getE e 43 = .slice .full none (fs.map u64)) (h44 : getE e 44 = i64 fs.length) (h45 : getE e 45 = i64 0)
    (hq : ∀ e' rest, getE e' 2 = .ptr 0 0 → getE e' 8 = .bool false → Q (.exit 0, e', .cells (msC Pm.zero .nil .nil) :: rest)) : WP Q (axl T [2, 4, 6, 8, 43, 44, 45] false L9_0 m0 e (.cells (msC Pm.zero .nil .nil) :: rest)) := by
  refine WP_loop (I := fun n e h => h = .cells (msC Pm.zero .nil .nil) :: rest ∧ getE e 2 = .ptr 0 0 ∧ getE e 6 = .nil ∧ getE e 8 = .bool false ∧ getE e 43 = .slice .full none (fs.map u64) ∧ getE e 44 = i64 fs.length ∧ getE e 45 = i64 0) ?_ 0 _ _ ⟨rfl, h2, h6, h8, h43, h44, h45⟩
  rintro n e h ⟨rfl, h2, h6, h8, h43, h44, h45⟩
  rw [trim_off]
  by_cases hl : 0 < fs.length
  · have hg := get_map (f := u64) hl
    have hfn := fun t h => call_findN t h
    first | have hb := hb | have hb := trivial
    repeat' (first | (simp -implicitDefEqProofs (disch := omega) only [hb, L9_0, h2, h6, h8, h43, h44, h45, hg, hfn, wC, wO, initE, aop, Nat.reduceEqDiff, ↓reduceIte, Nat.reduceAdd, finish, resOf, tupOf, AM.freeze, freeze1, freezeL, closed, nam, namL, if_true, if_false, deref, boxAt, exAt, ldCells, oneL, oneCell, Nat.reduceLeDiff, evL, adopt, rigid, rigidL, trim, Int.reduceEq, Int.reduceMod, Int.reduceDiv, if_pos, if_neg, asI, forall_const, implies_true, chkD, chkO, chkW, effB, reB, vEq, beq_self_eq_true, Nat.reduceSub, Nat.reduceLT, Int.reduceSub, Int.reduceAdd, Int.reduceMul, Int.reduceLT, Int.reduceLE, Int.reduceToNat, optI, aslice, cutSl, cutMs, cutStr, cutOwn]) | ((first | rw [WP_condK] | rw [WP_opsG] | rw [WP_quiG] | rw [WP_dG]); refine And.intro (fun hb => ?_) (fun hb => ?_) <;> (first | have hd := dq1 hb | have hd := dq2 hb | have hd := dq3 hb | have hd := dq4 hb | skip)))
    exact hq _ _ (by first | rfl | exact h2 | (simp only [getE_cons]; simp [h2])) (by first | rfl | (simp only [getE_cons]; simp))
  · first | have hb := hb | have hb := trivial
    repeat' (first | (simp -implicitDefEqProofs (disch := omega) only [hb, L9_0, h2, h6, h8, h43, h44, h45, wC, wO, initE, aop, Nat.reduceEqDiff, ↓reduceIte, Nat.reduceAdd, finish, resOf, tupOf, AM.freeze, freeze1, freezeL, closed, nam, namL, if_true, if_false, deref, boxAt, exAt, ldCells, oneL, oneCell, Nat.reduceLeDiff, evL, adopt, rigid, rigidL, trim, Int.reduceEq, Int.reduceMod, Int.reduceDiv, if_pos, if_neg, asI, forall_const, implies_true, chkD, chkO, chkW, effB, reB, vEq, beq_self_eq_true, Nat.reduceSub, Nat.reduceLT, Int.reduceSub, Int.reduceAdd, Int.reduceMul, Int.reduceLT, Int.reduceLE, Int.reduceToNat, optI, aslice, cutSl, cutMs, cutStr, cutOwn]) | ((first | rw [WP_condK] | rw [WP_opsG] | rw [WP_quiG] | rw [WP_dG]); refine And.intro (fun hb => ?_) (fun hb => ?_) <;> (first | have hd := dq1 hb | have hd := dq2 hb | have hd := dq3 hb | have hd := dq4 hb | skip)))
    exact hq _ _ (by first | rfl | exact h2 | (simp only [getE_cons]; simp [h2])) (by first | rfl | exact h8 | (simp only [getE_cons]; simp [h8]))
theorem dec_loop_nil (m0 : Nat) (Q : Res → Prop) (e : Env) (h : Heap) (h2 : getE e 2 = .ptr 0 0) (h8 : getE e 8 = .bool false) (h44 : getE e 44 = i64 0) (h45 : getE e 45 = i64 0)
    (hq : ∀ e' rest, getE e' 2 = .ptr 0 0 → getE e' 8 = .bool false → Q (.exit 0, e', .cells (msC Pm.zero .nil .nil) :: rest)) : WP Q (axl T [2, 4, 6, 8, 43, 44, 45] false L9_0 m0 e (.cells (msC Pm.zero .nil .nil) :: h)) := by
  refine WP_loop (I := fun n e g => g = .cells (msC Pm.zero .nil .nil) :: h ∧ getE e 2 = .ptr 0 0 ∧ getE e 8 = .bool false ∧ getE e 44 = i64 0 ∧ getE e 45 = i64 0) ?_ 0 _ _ ⟨rfl, h2, h8, h44, h45⟩
  rintro n e g ⟨rfl, h2, h8, h44, h45⟩
  rw [trim_off]
  first | have hb := hb | have hb := trivial
  repeat' (first | (simp -implicitDefEqProofs (disch := omega) only [hb, L9_0, h2, h8, h44, h45, wC, wO, initE, aop, Nat.reduceEqDiff, ↓reduceIte, Nat.reduceAdd, finish, resOf, tupOf, AM.freeze, freeze1, freezeL, closed, nam, namL, if_true, if_false, deref, boxAt, exAt, ldCells, oneL, oneCell, Nat.reduceLeDiff, evL, adopt, rigid, rigidL, trim, Int.reduceEq, Int.reduceMod, Int.reduceDiv, if_pos, if_neg, asI, forall_const, implies_true, chkD, chkO, chkW, effB, reB, vEq, beq_self_eq_true, Nat.reduceSub, Nat.reduceLT, Int.reduceSub, Int.reduceAdd, Int.reduceMul, Int.reduceLT, Int.reduceLE, Int.reduceToNat, optI, aslice, cutSl, cutMs, cutStr, cutOwn]) | ((first | rw [WP_condK] | rw [WP_opsG] | rw [WP_quiG] | rw [WP_dG]); refine And.intro (fun hb => ?_) (fun hb => ?_) <;> (first | have hd := dq1 hb | have hd := dq2 hb | have hd := dq3 hb | have hd := dq4 hb | skip)))
  exact hq _ _ (by first | rfl | exact h2 | (simp only [getE_cons]; simp [h2])) (by first | rfl | exact h8 | (simp only [getE_cons]; simp [h8]))
theorem dec_loop (k : Int) (l : List Rc) (hl : ∀ r ∈ l, Bytes r.v ∧ r.v.length ≤ 65536) (R : AV) (hfd : ∀ t h, ag T 22 [R, u64 t] h = some (Go.Proofs.Ytnlemcfhndjheaa.AM.adopt (findT t l) h)) (fs : List Int) (hfs : ∀ t ∈ fs, t ∈ allT) (hnd : fs.Nodup) (hfl : fs.length ≤ 6) (z0 : Pm) (hz : z0.fine) (hz0 : ∀ t, setNum z0 t 0 = z0) (m0 : Nat) (Q : Res → Prop) (e : Env) (rest : Heap) (vo vr : AV) (wo : Ow vo z0.o) (wr : Ow vr z0.r) (h2 : getE e 2 = .ptr 0 0) (h4 : getE e 4 = .ptr 1 0) (h6 : getE e 6 = R) (h8 : getE e 8 = .bool true) (h43 : getE e 43 = .slice .full none (fs.map u64)) (h44 : getE e 44 = i64 fs.length) (h45 : getE e 45 = i64 0)
    (hb : decF fs l z0 = none → ∀ e' rest, getE e' 2 = .ptr 0 0 → getE e' 8 = .bool false → Q (.exit 0, e', .cells (msC Pm.zero .nil .nil) :: rest))
    (hq : ∀ m vo vr e' rest, decF fs l z0 = some m → m.fine → Ow vo m.o → Ow vr m.r → getE e' 2 = .ptr 0 0 → getE e' 4 = .ptr 1 0 → getE e' 8 = .bool true → Q (.exit 0, e', .cells (msC Pm.zero .nil .nil) :: .cells (msC m vo vr) :: rest)) : WP Q (axl T [2, 4, 6, 8, 43, 44, 45] false L9_0 m0 e (.cells (msC Pm.zero .nil .nil) :: .cells (msC z0 vo vr) :: rest)) := by
  refine WP_loop (I := fun n e h => ∃ (i : Nat) (m : Pm) (vo vr : AV) (rest : Heap), n + i = fs.length ∧ h = .cells (msC Pm.zero .nil .nil) :: .cells (msC m vo vr) :: rest ∧ Ow vo m.o ∧ Ow vr m.r ∧ m.fine ∧ getE e 2 = .ptr 0 0 ∧ getE e 4 = .ptr 1 0 ∧ getE e 6 = R ∧ getE e 8 = .bool true ∧ getE e 43 = .slice .full none (fs.map u64) ∧ getE e 44 = i64 fs.length ∧ getE e 45 = i64 i ∧ decF (fs.drop i) l m = decF fs l z0 ∧ (∀ t ∈ fs.drop i, setNum m t 0 = m)) ?_ fs.length _ _ ⟨0, z0, vo, vr, rest, by omega, rfl, wo, wr, hz, h2, h4, h6, h8, h43, h44, h45, rfl, fun t _ => hz0 t⟩
  rintro n e h ⟨i, m, vo, vr, rest, hn, rfl, wo, wr, hmf, h2, h4, h6, h8, h43, h44, h45, hdf, hs0⟩
  rw [trim_off]
  by_cases hlt : i < fs.length
  · have hg := get_map (f := u64) hlt
    have htA := hfs _ (List.getElem_mem hlt)
    rw [List.drop_eq_getElem_cons hlt] at hdf hs0
    have hnd' : fs[i] ∉ fs.drop (i + 1) := by
      have := hnd.sublist (List.drop_sublist i fs)
      rw [List.drop_eq_getElem_cons hlt] at this
      exact (List.nodup_cons.1 this).1
    generalize htt : fs[i] = t at *
    have hft := findT_adopt t l
    cases hfnd : findS t l with
    | none =>
      rw [decF, hfnd] at hdf
      have hfd' := fun h => (hfd t h).trans (congrArg some (hft h))
      simp only [hfnd] at hfd'
      first | have hb := hb | have hb := trivial
      repeat' (first | (simp -implicitDefEqProofs (disch := omega) only [hb, L9_0, h2, h4, h6, h8, h43, h44, h45, hg, hfd', wC, wO, initE, aop, Nat.reduceEqDiff, ↓reduceIte, Nat.reduceAdd, finish, resOf, tupOf, AM.freeze, freeze1, freezeL, closed, nam, namL, if_true, if_false, deref, boxAt, exAt, ldCells, oneL, oneCell, Nat.reduceLeDiff, evL, adopt, rigid, rigidL, trim, Int.reduceEq, Int.reduceMod, Int.reduceDiv, if_pos, if_neg, asI, forall_const, implies_true, chkD, chkO, chkW, effB, reB, vEq, beq_self_eq_true, Nat.reduceSub, Nat.reduceLT, Int.reduceSub, Int.reduceAdd, Int.reduceMul, Int.reduceLT, Int.reduceLE, Int.reduceToNat, optI, aslice, cutSl, cutMs, cutStr, cutOwn]) | ((first | rw [WP_condK] | rw [WP_opsG] | rw [WP_quiG] | rw [WP_dG]); refine And.intro (fun hb => ?_) (fun hb => ?_) <;> (first | have hd := dq1 hb | have hd := dq2 hb | have hd := dq3 hb | have hd := dq4 hb | skip)))
      exact hb hdf.symm _ _ (by first | rfl | exact h2 | (simp only [getE_cons]; simp [h2])) (by first | rfl | (simp only [getE_cons]; simp))
    | some r =>
      rw [decF, hfnd, Option.bind_some] at hdf
      have hfd' := fun h => (hfd t h).trans (congrArg some (hft h))
      simp only [hfnd] at hfd'
      obtain ⟨hby, hbl⟩ := hl r (findS_mem hfnd).1
      obtain ⟨p, hp1, hp2⟩ := WP_ex (set_okW m vo vr r.v hby (by omega) (.tok (rest.length + 1 + 1)) t htA (hs0 t List.mem_cons_self) (.cells (msC Pm.zero .nil .nil) :: .cells (msC m vo vr) :: (rest ++ [.row none r.v.length])) 1 rfl)
      rcases hp2 with ⟨q, hq1, rfl⟩ | ⟨hq1, cs, rfl⟩
      · rw [hq1, Option.bind_some] at hdf
        simp only [List.set_cons_succ, List.set_cons_zero] at hp1
        first | have hb := hb | have hb := trivial
        repeat' (first | (simp -implicitDefEqProofs (disch := omega) only [hb, L9_0, h2, h4, h6, h8, h43, h44, h45, hg, hfd', hp1, wC, wO, initE, aop, Nat.reduceEqDiff, ↓reduceIte, Nat.reduceAdd, finish, resOf, tupOf, AM.freeze, freeze1, freezeL, closed, nam, namL, if_true, if_false, deref, boxAt, exAt, ldCells, oneL, oneCell, Nat.reduceLeDiff, evL, adopt, rigid, rigidL, trim, Int.reduceEq, Int.reduceMod, Int.reduceDiv, if_pos, if_neg, asI, forall_const, implies_true, chkD, chkO, chkW, effB, reB, vEq, beq_self_eq_true, Nat.reduceSub, Nat.reduceLT, Int.reduceSub, Int.reduceAdd, Int.reduceMul, Int.reduceLT, Int.reduceLE, Int.reduceToNat, optI, aslice, cutSl, cutMs, cutStr, cutOwn]) | ((first | rw [WP_condK] | rw [WP_opsG] | rw [WP_quiG] | rw [WP_dG]); refine And.intro (fun hb => ?_) (fun hb => ?_) <;> (first | have hd := dq1 hb | have hd := dq2 hb | have hd := dq3 hb | have hd := dq4 hb | skip)))
        obtain ⟨o1, o2⟩ := set_or htA hq1
        refine ⟨n - 1, by omega, i + 1, q, _, _, _, by omega, rfl, ?_, ?_, set_fine htA hby (by omega) hmf hq1, rfl, hdf, fun s hs => set_num0 htA hq1 (fun hh => hnd' (hh ▸ hs)) (hs0 s (List.mem_cons_of_mem _ hs))⟩
        · rw [o1]; exact ow_if (ow_tok _ _) wo
        · rw [o2]; exact ow_if (ow_tok _ _) wr
      · rw [hq1, Option.bind_none] at hdf
        simp only [List.set_cons_succ, List.set_cons_zero] at hp1
        first | have hb := hb | have hb := trivial
        repeat' (first | (simp -implicitDefEqProofs (disch := omega) only [hb, L9_0, h2, h4, h6, h8, h43, h44, h45, hg, hfd', hp1, wC, wO, initE, aop, Nat.reduceEqDiff, ↓reduceIte, Nat.reduceAdd, finish, resOf, tupOf, AM.freeze, freeze1, freezeL, closed, nam, namL, if_true, if_false, deref, boxAt, exAt, ldCells, oneL, oneCell, Nat.reduceLeDiff, evL, adopt, rigid, rigidL, trim, Int.reduceEq, Int.reduceMod, Int.reduceDiv, if_pos, if_neg, asI, forall_const, implies_true, chkD, chkO, chkW, effB, reB, vEq, beq_self_eq_true, Nat.reduceSub, Nat.reduceLT, Int.reduceSub, Int.reduceAdd, Int.reduceMul, Int.reduceLT, Int.reduceLE, Int.reduceToNat, optI, aslice, cutSl, cutMs, cutStr, cutOwn]) | ((first | rw [WP_condK] | rw [WP_opsG] | rw [WP_quiG] | rw [WP_dG]); refine And.intro (fun hb => ?_) (fun hb => ?_) <;> (first | have hd := dq1 hb | have hd := dq2 hb | have hd := dq3 hb | have hd := dq4 hb | skip)))
        exact hb hdf.symm _ _ (by first | rfl | exact h2 | (simp only [getE_cons]; simp [h2])) (by first | rfl | (simp only [getE_cons]; simp))
  · have hi : i = fs.length := by omega
    subst hi
    rw [List.drop_length, decF] at hdf
    first | have hb := hb | have hb := trivial
    repeat' (first | (simp -implicitDefEqProofs (disch := omega) only [hb, L9_0, h2, h4, h6, h8, h43, h44, h45, wC, wO, initE, aop, Nat.reduceEqDiff, ↓reduceIte, Nat.reduceAdd, finish, resOf, tupOf, AM.freeze, freeze1, freezeL, closed, nam, namL, if_true, if_false, deref, boxAt, exAt, ldCells, oneL, oneCell, Nat.reduceLeDiff, evL, adopt, rigid, rigidL, trim, Int.reduceEq, Int.reduceMod, Int.reduceDiv, if_pos, if_neg, asI, forall_const, implies_true, chkD, chkO, chkW, effB, reB, vEq, beq_self_eq_true, Nat.reduceSub, Nat.reduceLT, Int.reduceSub, Int.reduceAdd, Int.reduceMul, Int.reduceLT, Int.reduceLE, Int.reduceToNat, optI, aslice, cutSl, cutMs, cutStr, cutOwn]) | ((first | rw [WP_condK] | rw [WP_opsG] | rw [WP_quiG] | rw [WP_dG]); refine And.intro (fun hb => ?_) (fun hb => ?_) <;> (first | have hd := dq1 hb | have hd := dq2 hb | have hd := dq3 hb | have hd := dq4 hb | skip)))
    exact hq m vo vr _ _ hdf.symm hmf wo wr (by first | rfl | exact h2 | (simp only [getE_cons]; simp [h2])) (by first | rfl | exact h4 | (simp only [getE_cons]; simp [h4])) (by first | rfl | exact h8 | (simp only [getE_cons]; simp [h8]))
end Go.Proofs.Ytnlemcfhndjheaa.AM

/- wire: Decode of the program is decW. -/
namespace Go.Proofs.Ytnlemcfhndjheaa.AM
open Go
set_option maxRecDepth 100000
set_option maxHeartbeats 4000000
set_option linter.unusedSimpArgs false
set_option linter.unusedVariables false
theorem decode_okW (b : List Int) (hby : Bytes b) (hB : b.length ≤ 140737488351232) : WP (fun v => IsDm v (decW b)) (prun T F9 [.slice .none none (b.map u8)]) := by
  refine prun_wp ?_
  have hz := ms_zero
  match b, hby, hB with
  | [], _, _ =>
    first | have hb := hb | have hb := trivial
    repeat' (first | (simp -implicitDefEqProofs (disch := omega) only [hb, F9, wG, hz, wC, wO, initE, aop, Nat.reduceEqDiff, ↓reduceIte, Nat.reduceAdd, finish, resOf, tupOf, AM.freeze, freeze1, freezeL, closed, nam, namL, if_true, if_false, deref, boxAt, exAt, ldCells, oneL, oneCell, Nat.reduceLeDiff, evL, adopt, rigid, rigidL, trim, Int.reduceEq, Int.reduceMod, Int.reduceDiv, if_pos, if_neg, asI, forall_const, implies_true, chkD, chkO, chkW, effB, reB, vEq, beq_self_eq_true, Nat.reduceSub, Nat.reduceLT, Int.reduceSub, Int.reduceAdd, Int.reduceMul, Int.reduceLT, Int.reduceLE, Int.reduceToNat, optI, aslice, cutSl, cutMs, cutStr, cutOwn]) | ((first | rw [WP_condK] | rw [WP_opsG] | rw [WP_quiG] | rw [WP_dG]); refine And.intro (fun hb => ?_) (fun hb => ?_) <;> (first | have hd := dq1 hb | have hd := dq2 hb | have hd := dq3 hb | have hd := dq4 hb | skip)))
    rfl
  | [x], _, _ =>
    first | have hb := hb | have hb := trivial
    repeat' (first | (simp -implicitDefEqProofs (disch := omega) only [hb, F9, wG, hz, wC, wO, initE, aop, Nat.reduceEqDiff, ↓reduceIte, Nat.reduceAdd, finish, resOf, tupOf, AM.freeze, freeze1, freezeL, closed, nam, namL, if_true, if_false, deref, boxAt, exAt, ldCells, oneL, oneCell, Nat.reduceLeDiff, evL, adopt, rigid, rigidL, trim, Int.reduceEq, Int.reduceMod, Int.reduceDiv, if_pos, if_neg, asI, forall_const, implies_true, chkD, chkO, chkW, effB, reB, vEq, beq_self_eq_true, Nat.reduceSub, Nat.reduceLT, Int.reduceSub, Int.reduceAdd, Int.reduceMul, Int.reduceLT, Int.reduceLE, Int.reduceToNat, optI, aslice, cutSl, cutMs, cutStr, cutOwn]) | ((first | rw [WP_condK] | rw [WP_opsG] | rw [WP_quiG] | rw [WP_dG]); refine And.intro (fun hb => ?_) (fun hb => ?_) <;> (first | have hd := dq1 hb | have hd := dq2 hb | have hd := dq3 hb | have hd := dq4 hb | skip)))
    rfl
  | x :: y :: c, hby, hB =>
    have hx := hby x (by simp)
    have hy := hby y (by simp)
    have hc : Bytes c := fun z hz => hby z (by simp [hz])
    have hcl : c.length ≤ 140737488351232 := by simp only [List.length_cons] at hB; omega
    obtain ⟨b1, b2, b3, b4⟩ := kind_bits x y hx hy
    have hW : decW (x :: y :: c) = decB (x * 256 + y) (decS [] c) := by
      unfold decW
      rw [if_neg (by simp)]
      rfl
    rw [hW]
    obtain ⟨v, hi, hd⟩ := call_decN c hc hcl
    have hdv := dec_vals hc
    generalize decS [] c = p at hi hdv
    generalize hk : x * 256 + y = k at b2
    have hkI : I64 k := ⟨by omega, by omega⟩
    have hfl := fields_len k
    by_cases hf : fieldsS k = []
    · have hv : fieldsV k = .nil := if_pos hf
      have hN : decB k p = none := by simp [decB, hf]
      rw [hN]
      rcases hi with ⟨_, _, rfl⟩ | ⟨h0, o, ho, rfl⟩
      · first | have hb := hb | have hb := trivial
        repeat' (first | (simp -implicitDefEqProofs (disch := omega) only [hb, F9, wG, b1, b2, b3, b4, call_fields, hv, hd, wC, wO, initE, aop, Nat.reduceEqDiff, ↓reduceIte, Nat.reduceAdd, finish, resOf, tupOf, AM.freeze, freeze1, freezeL, closed, nam, namL, if_true, if_false, deref, boxAt, exAt, ldCells, oneL, oneCell, Nat.reduceLeDiff, evL, adopt, rigid, rigidL, trim, Int.reduceEq, Int.reduceMod, Int.reduceDiv, if_pos, if_neg, asI, forall_const, implies_true, chkD, chkO, chkW, effB, reB, vEq, beq_self_eq_true, Nat.reduceSub, Nat.reduceLT, Int.reduceSub, Int.reduceAdd, Int.reduceMul, Int.reduceLT, Int.reduceLE, Int.reduceToNat, optI, aslice, cutSl, cutMs, cutStr, cutOwn]) | ((first | rw [WP_condK] | rw [WP_opsG] | rw [WP_quiG] | rw [WP_dG]); refine And.intro (fun hb => ?_) (fun hb => ?_) <;> (first | have hd := dq1 hb | have hd := dq2 hb | have hd := dq3 hb | have hd := dq4 hb | skip)))
        refine dec_loop_nil _ _ _ _ rfl rfl rfl rfl fun e rest h2 h8 => ?_
        first | have hb := hb | have hb := trivial
        repeat' (first | (simp -implicitDefEqProofs (disch := omega) only [hb, wG, h2, h8, hz, wC, wO, initE, aop, Nat.reduceEqDiff, ↓reduceIte, Nat.reduceAdd, finish, resOf, tupOf, AM.freeze, freeze1, freezeL, closed, nam, namL, if_true, if_false, deref, boxAt, exAt, ldCells, oneL, oneCell, Nat.reduceLeDiff, evL, adopt, rigid, rigidL, trim, Int.reduceEq, Int.reduceMod, Int.reduceDiv, if_pos, if_neg, asI, forall_const, implies_true, chkD, chkO, chkW, effB, reB, vEq, beq_self_eq_true, Nat.reduceSub, Nat.reduceLT, Int.reduceSub, Int.reduceAdd, Int.reduceMul, Int.reduceLT, Int.reduceLE, Int.reduceToNat, optI, aslice, cutSl, cutMs, cutStr, cutOwn]) | ((first | rw [WP_condK] | rw [WP_opsG] | rw [WP_quiG] | rw [WP_dG]); refine And.intro (fun hb => ?_) (fun hb => ?_) <;> (first | have hd := dq1 hb | have hd := dq2 hb | have hd := dq3 hb | have hd := dq4 hb | skip)))
        rfl
      · rcases ho with rfl | rfl
        all_goals
          first | have hb := hb | have hb := trivial
          repeat' (first | (simp -implicitDefEqProofs (disch := omega) only [hb, F9, wG, b1, b2, b3, b4, call_fields, hv, hd, wC, wO, initE, aop, Nat.reduceEqDiff, ↓reduceIte, Nat.reduceAdd, finish, resOf, tupOf, AM.freeze, freeze1, freezeL, closed, nam, namL, if_true, if_false, deref, boxAt, exAt, ldCells, oneL, oneCell, Nat.reduceLeDiff, evL, adopt, rigid, rigidL, trim, Int.reduceEq, Int.reduceMod, Int.reduceDiv, if_pos, if_neg, asI, forall_const, implies_true, chkD, chkO, chkW, effB, reB, vEq, beq_self_eq_true, Nat.reduceSub, Nat.reduceLT, Int.reduceSub, Int.reduceAdd, Int.reduceMul, Int.reduceLT, Int.reduceLE, Int.reduceToNat, optI, aslice, cutSl, cutMs, cutStr, cutOwn]) | ((first | rw [WP_condK] | rw [WP_opsG] | rw [WP_quiG] | rw [WP_dG]); refine And.intro (fun hb => ?_) (fun hb => ?_) <;> (first | have hd := dq1 hb | have hd := dq2 hb | have hd := dq3 hb | have hd := dq4 hb | skip)))
          refine dec_loop_nil _ _ _ _ rfl rfl rfl rfl fun e rest h2 h8 => ?_
          first | have hb := hb | have hb := trivial
          repeat' (first | (simp -implicitDefEqProofs (disch := omega) only [hb, wG, h2, h8, hz, wC, wO, initE, aop, Nat.reduceEqDiff, ↓reduceIte, Nat.reduceAdd, finish, resOf, tupOf, AM.freeze, freeze1, freezeL, closed, nam, namL, if_true, if_false, deref, boxAt, exAt, ldCells, oneL, oneCell, Nat.reduceLeDiff, evL, adopt, rigid, rigidL, trim, Int.reduceEq, Int.reduceMod, Int.reduceDiv, if_pos, if_neg, asI, forall_const, implies_true, chkD, chkO, chkW, effB, reB, vEq, beq_self_eq_true, Nat.reduceSub, Nat.reduceLT, Int.reduceSub, Int.reduceAdd, Int.reduceMul, Int.reduceLT, Int.reduceLE, Int.reduceToNat, optI, aslice, cutSl, cutMs, cutStr, cutOwn]) | ((first | rw [WP_condK] | rw [WP_opsG] | rw [WP_quiG] | rw [WP_dG]); refine And.intro (fun hb => ?_) (fun hb => ?_) <;> (first | have hd := dq1 hb | have hd := dq2 hb | have hd := dq3 hb | have hd := dq4 hb | skip)))
          rfl
    · have hv : fieldsV k = .slice .full none ((fieldsS k).map u64) := if_neg hf
      have hnn : isNil .slice (.slice .full none ((fieldsS k).map u64)) = some false := by
        obtain ⟨f0, fl, hfe⟩ := List.exists_cons_of_ne_nil hf
        rw [hfe]; rfl
      rcases hi with ⟨h0, h1, rfl⟩ | ⟨h0, o, ho, rfl⟩
      · have hN : decB k p = none := by simp [decB, h0]
        rw [hN]
        first | have hb := hb | have hb := trivial
        repeat' (first | (simp -implicitDefEqProofs (disch := omega) only [hb, F9, wG, b1, b2, b3, b4, call_fields, hv, hd, hnn, wC, wO, initE, aop, Nat.reduceEqDiff, ↓reduceIte, Nat.reduceAdd, finish, resOf, tupOf, AM.freeze, freeze1, freezeL, closed, nam, namL, if_true, if_false, deref, boxAt, exAt, ldCells, oneL, oneCell, Nat.reduceLeDiff, evL, adopt, rigid, rigidL, trim, Int.reduceEq, Int.reduceMod, Int.reduceDiv, if_pos, if_neg, asI, forall_const, implies_true, chkD, chkO, chkW, effB, reB, vEq, beq_self_eq_true, Nat.reduceSub, Nat.reduceLT, Int.reduceSub, Int.reduceAdd, Int.reduceMul, Int.reduceLT, Int.reduceLE, Int.reduceToNat, optI, aslice, cutSl, cutMs, cutStr, cutOwn]) | ((first | rw [WP_condK] | rw [WP_opsG] | rw [WP_quiG] | rw [WP_dG]); refine And.intro (fun hb => ?_) (fun hb => ?_) <;> (first | have hd := dq1 hb | have hd := dq2 hb | have hd := dq3 hb | have hd := dq4 hb | skip)))
        refine dec_loop_bad (fieldsS k) hfl _ _ _ _ rfl rfl rfl rfl rfl rfl fun e rest h2 h8 => ?_
        first | have hb := hb | have hb := trivial
        repeat' (first | (simp -implicitDefEqProofs (disch := omega) only [hb, wG, h2, h8, hz, wC, wO, initE, aop, Nat.reduceEqDiff, ↓reduceIte, Nat.reduceAdd, finish, resOf, tupOf, AM.freeze, freeze1, freezeL, closed, nam, namL, if_true, if_false, deref, boxAt, exAt, ldCells, oneL, oneCell, Nat.reduceLeDiff, evL, adopt, rigid, rigidL, trim, Int.reduceEq, Int.reduceMod, Int.reduceDiv, if_pos, if_neg, asI, forall_const, implies_true, chkD, chkO, chkW, effB, reB, vEq, beq_self_eq_true, Nat.reduceSub, Nat.reduceLT, Int.reduceSub, Int.reduceAdd, Int.reduceMul, Int.reduceLT, Int.reduceLE, Int.reduceToNat, optI, aslice, cutSl, cutMs, cutStr, cutOwn]) | ((first | rw [WP_condK] | rw [WP_opsG] | rw [WP_quiG] | rw [WP_dG]); refine And.intro (fun hb => ?_) (fun hb => ?_) <;> (first | have hd := dq1 hb | have hd := dq2 hb | have hd := dq3 hb | have hd := dq4 hb | skip)))
        rfl
      · obtain ⟨hvals, hlen⟩ := hdv h0
        have hD : decB k p = (decF (fieldsS k) p.1 { Pm.zero with k := k }).bind fun m => if MayP m then some m else none := by
          unfold decB
          rw [if_neg (by simp [h0, hf])]
        rw [hD]
        rcases ho with rfl | rfl
        all_goals
          first | have hb := hb | have hb := trivial
          repeat' (first | (simp -implicitDefEqProofs (disch := omega) only [hb, F9, wG, b1, b2, b3, b4, call_fields, hv, hd, hnn, wC, wO, initE, aop, Nat.reduceEqDiff, ↓reduceIte, Nat.reduceAdd, finish, resOf, tupOf, AM.freeze, freeze1, freezeL, closed, nam, namL, if_true, if_false, deref, boxAt, exAt, ldCells, oneL, oneCell, Nat.reduceLeDiff, evL, adopt, rigid, rigidL, trim, Int.reduceEq, Int.reduceMod, Int.reduceDiv, if_pos, if_neg, asI, forall_const, implies_true, chkD, chkO, chkW, effB, reB, vEq, beq_self_eq_true, Nat.reduceSub, Nat.reduceLT, Int.reduceSub, Int.reduceAdd, Int.reduceMul, Int.reduceLT, Int.reduceLE, Int.reduceToNat, optI, aslice, cutSl, cutMs, cutStr, cutOwn]) | ((first | rw [WP_condK] | rw [WP_opsG] | rw [WP_quiG] | rw [WP_dG]); refine And.intro (fun hb => ?_) (fun hb => ?_) <;> (first | have hd := dq1 hb | have hd := dq2 hb | have hd := dq3 hb | have hd := dq4 hb | skip)))
          refine dec_loop k p.1 hvals _ (fun t h => call_findO p.1 t (fun r hr => by have := (hvals r hr).2; omega) (by omega) _ rfl h) (fieldsS k) (fun t ht => fields_all ht) (fields_nodup k) hfl { Pm.zero with k := k } (zero_fine k hkI) (fun t => num0_zero k t) _ _ _ _ .nil .nil ow_nil ow_nil rfl rfl rfl rfl rfl rfl rfl ?_ ?_
          · intro hN e rest h2 h8
            rw [hN]
            first | have hb := hb | have hb := trivial
            repeat' (first | (simp -implicitDefEqProofs (disch := omega) only [hb, wG, h2, h8, hz, wC, wO, initE, aop, Nat.reduceEqDiff, ↓reduceIte, Nat.reduceAdd, finish, resOf, tupOf, AM.freeze, freeze1, freezeL, closed, nam, namL, if_true, if_false, deref, boxAt, exAt, ldCells, oneL, oneCell, Nat.reduceLeDiff, evL, adopt, rigid, rigidL, trim, Int.reduceEq, Int.reduceMod, Int.reduceDiv, if_pos, if_neg, asI, forall_const, implies_true, chkD, chkO, chkW, effB, reB, vEq, beq_self_eq_true, Nat.reduceSub, Nat.reduceLT, Int.reduceSub, Int.reduceAdd, Int.reduceMul, Int.reduceLT, Int.reduceLE, Int.reduceToNat, optI, aslice, cutSl, cutMs, cutStr, cutOwn]) | ((first | rw [WP_condK] | rw [WP_opsG] | rw [WP_quiG] | rw [WP_dG]); refine And.intro (fun hb => ?_) (fun hb => ?_) <;> (first | have hd := dq1 hb | have hd := dq2 hb | have hd := dq3 hb | have hd := dq4 hb | skip)))
            rfl
          · intro m vo vr e rest hS hm wo wr h2 h4 h8
            rw [hS]
            have hmay := fun h => call_mayE wo wr hm h
            have hoo := wo.fm.one
            have hro := wr.fm.one
            by_cases hM : MayP m
            · have hd1 := decide_eq_true hM
              have hR : ((some m).bind fun m => if MayP m then some m else none) = some m := if_pos hM
              rw [hR]
              rw [hd1] at hmay
              first | have hb := hb | have hb := trivial
              repeat' (first | (simp -implicitDefEqProofs (disch := omega) only [hb, wG, h2, h4, h8, hz, hmay, p16, hoo, hro, wC, wO, initE, aop, Nat.reduceEqDiff, ↓reduceIte, Nat.reduceAdd, finish, resOf, tupOf, freezeL, closed, nam, namL, if_true, if_false, deref, boxAt, exAt, ldCells, oneL, oneCell, Nat.reduceLeDiff, evL, adopt, rigid, rigidL, trim, Int.reduceEq, Int.reduceMod, Int.reduceDiv, if_pos, if_neg, asI, forall_const, implies_true, chkD, chkO, chkW, effB, reB, vEq, beq_self_eq_true, Nat.reduceSub, Nat.reduceLT, Int.reduceSub, Int.reduceAdd, Int.reduceMul, Int.reduceLT, Int.reduceLE, Int.reduceToNat, optI, aslice, cutSl, cutMs, cutStr, cutOwn]) | ((first | rw [WP_condK] | rw [WP_opsG] | rw [WP_quiG] | rw [WP_dG]); refine And.intro (fun hb => ?_) (fun hb => ?_) <;> (first | have hd := dq1 hb | have hd := dq2 hb | have hd := dq3 hb | have hd := dq4 hb | skip)))
              exact isDm_freeze wo wr _
            · have hd1 := decide_eq_false hM
              have hR : ((some m).bind fun m => if MayP m then some m else none) = none := if_neg hM
              rw [hR]
              rw [hd1] at hmay
              first | have hb := hb | have hb := trivial
              repeat' (first | (simp -implicitDefEqProofs (disch := omega) only [hb, wG, h2, h4, h8, hz, hmay, p16, hoo, hro, wC, wO, initE, aop, Nat.reduceEqDiff, ↓reduceIte, Nat.reduceAdd, finish, resOf, tupOf, AM.freeze, freeze1, freezeL, closed, nam, namL, if_true, if_false, deref, boxAt, exAt, ldCells, oneL, oneCell, Nat.reduceLeDiff, evL, adopt, rigid, rigidL, trim, Int.reduceEq, Int.reduceMod, Int.reduceDiv, if_pos, if_neg, asI, forall_const, implies_true, chkD, chkO, chkW, effB, reB, vEq, beq_self_eq_true, Nat.reduceSub, Nat.reduceLT, Int.reduceSub, Int.reduceAdd, Int.reduceMul, Int.reduceLT, Int.reduceLE, Int.reduceToNat, optI, aslice, cutSl, cutMs, cutStr, cutOwn]) | ((first | rw [WP_condK] | rw [WP_opsG] | rw [WP_quiG] | rw [WP_dG]); refine And.intro (fun hb => ?_) (fun hb => ?_) <;> (first | have hd := dq1 hb | have hd := dq2 hb | have hd := dq3 hb | have hd := dq4 hb | skip)))
              rfl
end Go.Proofs.Ytnlemcfhndjheaa.AM

/- wire: Decode of the reference is decW. -/
namespace Go.Proofs.Ytnlemcfhndjheaa.AM
open Go
set_option maxRecDepth 100000
set_option maxHeartbeats 4000000
set_option linter.unusedSimpArgs false
set_option linter.unusedVariables false
theorem asc_lt {l : List Rc} (h : ascB l = true) : ∀ (j i : Nat) (hij : i < j) (hj : j < l.length), (l[i]'(by omega)).t < l[j].t
  | 0, i, hij, _ => by omega
  | j + 1, i, hij, hj => by
    have h1 := ascB_at hj h
    by_cases e : i = j
    · subst e; exact h1
    · have := asc_lt h j i (by omega) (by omega)
      omega
theorem findS_snoc (t : Int) (a : List Rc) (x : Rc) : findS t (a ++ [x]) = match findS t a with
    | some r => some r
    | none => if x.t = t then some x else none := by
  unfold findS
  rw [List.find?_append]
  cases hh : List.find? (fun r => decide (r.t = t)) a with
  | some r => simp
  | none =>
    by_cases hx : x.t = t
    · simp [hx]
    · simp [hx]
theorem findS_uniq {l : List Rc} (h : ascB l = true) {t : Int} {j : Nat} (hj : j < l.length) {r : Rc} (hf : findS t (l.take j) = some r) : l[j].t ≠ t := by
  obtain ⟨h1, h2⟩ := findS_mem hf
  obtain ⟨i, hi, rfl⟩ := List.getElem_of_mem h1
  rw [List.length_take] at hi
  have := asc_lt h j i (by omega) hj
  rw [List.getElem_take] at h2
  omega
theorem rdec_inner (l : List Rc) (hn : l.length ≤ 64) (hasc : ascB l = true) (hl : ∀ r ∈ l, Bytes r.v ∧ r.v.length ≤ 65536) (o : AOwn) (fs : List Int) (i : Nat) (hi : i < fs.length) (hfl : fs.length ≤ 6) (t : Int) (ht : fs[i] = t) (htA : t ∈ allT) (m : Pm) (vo vr : AV) (to : Tx vo m.o) (tr : Tx vr m.r) (m0 : Nat) (Q : Res → Prop) (e : Env) (rest : Heap) (h2 : getE e 2 = .ptr 0 0) (h4 : getE e 4 = .ptr 1 0) (h5 : getE e 5 = .slice o (some 2) (l.map Rc.av)) (h7 : getE e 7 = .slice .full none (fs.map u64)) (h8 : getE e 8 = i64 i) (h9 : getE e 9 = .bool false) (h10 : getE e 10 = i64 0)
    (hq : ∀ e' m' vo' vr', getE e' 2 = .ptr 0 0 → getE e' 4 = .ptr 1 0 → getE e' 5 = .slice o (some 2) (l.map Rc.av) → getE e' 7 = .slice .full none (fs.map u64) → getE e' 8 = i64 i → (((findS t l).bind (fun r => setM m t r.v) = none ∧ getE e' 9 = .bool false) ∨ ∃ r, findS t l = some r ∧ setM m t r.v = some m' ∧ vo' = (if t = 11 then .slice .none none (r.v.map u8) else vo) ∧ vr' = (if t = 23 then .slice .none none (r.v.map u8) else vr) ∧ getE e' 9 = .bool true) → Q (.exit 2, e', .cells (msC Pm.zero .nil .nil) :: .cells (msC m' vo' vr') :: rest)) : WP Q (axl T [2, 4, 5, 7, 8, 9, 10] false L10_0 m0 e (.cells (msC Pm.zero .nil .nil) :: .cells (msC m vo vr) :: rest)) := by
  have hg := get_map (f := u64) hi
  rw [ht] at hg
  refine WP_loop (I := fun n e h => ∃ (j : Nat) (m' : Pm) (vo' vr' : AV), n + j = l.length ∧ h = .cells (msC Pm.zero .nil .nil) :: .cells (msC m' vo' vr') :: rest ∧ getE e 2 = .ptr 0 0 ∧ getE e 4 = .ptr 1 0 ∧ getE e 5 = .slice o (some 2) (l.map Rc.av) ∧ getE e 7 = .slice .full none (fs.map u64) ∧ getE e 8 = i64 i ∧ getE e 10 = i64 j ∧ ((findS t (l.take j) = none ∧ getE e 9 = .bool false ∧ m' = m ∧ vo' = vo ∧ vr' = vr) ∨ (∃ r, findS t (l.take j) = some r ∧ ((setM m t r.v = none ∧ getE e 9 = .bool false) ∨ (setM m t r.v = some m' ∧ vo' = (if t = 11 then .slice .none none (r.v.map u8) else vo) ∧ vr' = (if t = 23 then .slice .none none (r.v.map u8) else vr) ∧ getE e 9 = .bool true))))) ?_ l.length _ _ ⟨0, m, vo, vr, by omega, rfl, h2, h4, h5, h7, h8, h10, .inl ⟨by simp [findS], h9, rfl, rfl, rfl⟩⟩
  rintro n e h ⟨j, m', vo', vr', hnj, rfl, h2, h4, h5, h7, h8, h10, hst⟩
  rw [trim_off]
  by_cases hlt : j < l.length
  · have hgr := get_rc hlt
    have htk : l.take (j + 1) = l.take j ++ [l[j]] := List.take_succ_eq_append_getElem hlt
    have hsn := findS_snoc t (l.take j) l[j]
    rw [← htk] at hsn
    rcases hst with ⟨f0, f9, rfl, rfl, rfl⟩ | ⟨r, f0, fst⟩
    · simp only [f0] at hsn
      by_cases hm : l[j].t = t
      · rw [if_pos hm] at hsn
        obtain ⟨hby, hbl⟩ := hl l[j] (List.getElem_mem hlt)
        obtain ⟨q, wo, wr, hw, hw2, ⟨_, hc1⟩, ⟨_, hc2⟩⟩ := with_ok m' vo' vr' to tr l[j].v hby (by omega) t htA
        have hcw := fun h => call_pure (T := T) (f := 26) (args := [.agg (msC m' vo' vr'), u64 t, .slice .none none (l[j].v.map u8)]) (h := h) rfl t26 rfl rfl (by
          have h3 := u8_closed l[j].v
          have h4 := to.cl
          have h5 := tr.cl
          simp only [List.map_cons, List.map_nil, strip_agg, strip_sc, strip_slice, stripO_none, closedL, namL, nam, ms_nam, closed, Bool.and_true, Bool.true_and] at h3 h4 h5 ⊢
          rw [h3, h4, h5]; rfl) hw
        cases hS : setM m' t l[j].v with
        | none =>
          rw [hS] at hcw
          first | have hb := hb | have hb := trivial
          repeat' (first | (simp -implicitDefEqProofs (disch := omega) only [hb, L10_0, wG, h2, h4, h5, h7, h8, h10, f9, hg, hgr, hm, hcw, hc1, hc2, wC, wO, initE, aop, Nat.reduceEqDiff, ↓reduceIte, Nat.reduceAdd, finish, resOf, tupOf, AM.freeze, freeze1, freezeL, closed, nam, namL, if_true, if_false, deref, boxAt, exAt, ldCells, oneL, oneCell, Nat.reduceLeDiff, evL, adopt, rigid, rigidL, trim, Int.reduceEq, Int.reduceMod, Int.reduceDiv, if_pos, if_neg, asI, forall_const, implies_true, chkD, chkO, chkW, effB, reB, vEq, beq_self_eq_true, Nat.reduceSub, Nat.reduceLT, Int.reduceSub, Int.reduceAdd, Int.reduceMul, Int.reduceLT, Int.reduceLE, Int.reduceToNat, optI, aslice, cutSl, cutMs, cutStr, cutOwn]) | ((first | rw [WP_condK] | rw [WP_opsG] | rw [WP_quiG] | rw [WP_dG]); refine And.intro (fun hb => ?_) (fun hb => ?_) <;> (first | have hd := dq1 hb | have hd := dq2 hb | have hd := dq3 hb | have hd := dq4 hb | skip)))
          exact ⟨n - 1, by omega, j + 1, q, wo, wr, by omega, rfl, rfl, .inr ⟨_, hsn, .inl ⟨hS, rfl⟩⟩⟩
        | some q' =>
          rw [hS] at hcw
          obtain ⟨e1, e2, e3⟩ := hw2 q' hS
          rw [e1] at hcw
          first | have hb := hb | have hb := trivial
          repeat' (first | (simp -implicitDefEqProofs (disch := omega) only [hb, L10_0, wG, h2, h4, h5, h7, h8, h10, f9, hg, hgr, hm, hcw, hc1, hc2, wC, wO, initE, aop, Nat.reduceEqDiff, ↓reduceIte, Nat.reduceAdd, finish, resOf, tupOf, AM.freeze, freeze1, freezeL, closed, nam, namL, if_true, if_false, deref, boxAt, exAt, ldCells, oneL, oneCell, Nat.reduceLeDiff, evL, adopt, rigid, rigidL, trim, Int.reduceEq, Int.reduceMod, Int.reduceDiv, if_pos, if_neg, asI, forall_const, implies_true, chkD, chkO, chkW, effB, reB, vEq, beq_self_eq_true, Nat.reduceSub, Nat.reduceLT, Int.reduceSub, Int.reduceAdd, Int.reduceMul, Int.reduceLT, Int.reduceLE, Int.reduceToNat, optI, aslice, cutSl, cutMs, cutStr, cutOwn]) | ((first | rw [WP_condK] | rw [WP_opsG] | rw [WP_quiG] | rw [WP_dG]); refine And.intro (fun hb => ?_) (fun hb => ?_) <;> (first | have hd := dq1 hb | have hd := dq2 hb | have hd := dq3 hb | have hd := dq4 hb | skip)))
          exact ⟨n - 1, by omega, j + 1, q', wo, wr, by omega, rfl, rfl, .inr ⟨_, hsn, .inr ⟨hS, e2, e3, rfl⟩⟩⟩
      · rw [if_neg hm] at hsn
        first | have hb := hb | have hb := trivial
        repeat' (first | (simp -implicitDefEqProofs (disch := omega) only [hb, L10_0, wG, h2, h4, h5, h7, h8, h10, f9, hg, hgr, wC, wO, initE, aop, Nat.reduceEqDiff, ↓reduceIte, Nat.reduceAdd, finish, resOf, tupOf, AM.freeze, freeze1, freezeL, closed, nam, namL, if_true, if_false, deref, boxAt, exAt, ldCells, oneL, oneCell, Nat.reduceLeDiff, evL, adopt, rigid, rigidL, trim, Int.reduceEq, Int.reduceMod, Int.reduceDiv, if_pos, if_neg, asI, forall_const, implies_true, chkD, chkO, chkW, effB, reB, vEq, beq_self_eq_true, Nat.reduceSub, Nat.reduceLT, Int.reduceSub, Int.reduceAdd, Int.reduceMul, Int.reduceLT, Int.reduceLE, Int.reduceToNat, optI, aslice, cutSl, cutMs, cutStr, cutOwn]) | ((first | rw [WP_condK] | rw [WP_opsG] | rw [WP_quiG] | rw [WP_dG]); refine And.intro (fun hb => ?_) (fun hb => ?_) <;> (first | have hd := dq1 hb | have hd := dq2 hb | have hd := dq3 hb | have hd := dq4 hb | skip)))
        all_goals first
        | exact absurd hd hm
        | exact ⟨n - 1, by omega, j + 1, m', vo', vr', by omega, rfl, rfl, by simp [hsn]⟩
    · simp only [f0] at hsn
      have hne := findS_uniq hasc hlt f0
      rcases fst with ⟨g1, g2⟩ | ⟨g1, g2, g3, g4⟩
      · first | have hb := hb | have hb := trivial
        repeat' (first | (simp -implicitDefEqProofs (disch := omega) only [hb, L10_0, wG, h2, h4, h5, h7, h8, h10, g2, hg, hgr, wC, wO, initE, aop, Nat.reduceEqDiff, ↓reduceIte, Nat.reduceAdd, finish, resOf, tupOf, AM.freeze, freeze1, freezeL, closed, nam, namL, if_true, if_false, deref, boxAt, exAt, ldCells, oneL, oneCell, Nat.reduceLeDiff, evL, adopt, rigid, rigidL, trim, Int.reduceEq, Int.reduceMod, Int.reduceDiv, if_pos, if_neg, asI, forall_const, implies_true, chkD, chkO, chkW, effB, reB, vEq, beq_self_eq_true, Nat.reduceSub, Nat.reduceLT, Int.reduceSub, Int.reduceAdd, Int.reduceMul, Int.reduceLT, Int.reduceLE, Int.reduceToNat, optI, aslice, cutSl, cutMs, cutStr, cutOwn]) | ((first | rw [WP_condK] | rw [WP_opsG] | rw [WP_quiG] | rw [WP_dG]); refine And.intro (fun hb => ?_) (fun hb => ?_) <;> (first | have hd := dq1 hb | have hd := dq2 hb | have hd := dq3 hb | have hd := dq4 hb | skip)))
        all_goals first
        | exact absurd hd hne
        | exact ⟨n - 1, by omega, j + 1, m', vo', vr', by omega, rfl, rfl, by simp [hsn, g1]⟩
      · first | have hb := hb | have hb := trivial
        repeat' (first | (simp -implicitDefEqProofs (disch := omega) only [hb, L10_0, wG, h2, h4, h5, h7, h8, h10, g4, hg, hgr, wC, wO, initE, aop, Nat.reduceEqDiff, ↓reduceIte, Nat.reduceAdd, finish, resOf, tupOf, AM.freeze, freeze1, freezeL, closed, nam, namL, if_true, if_false, deref, boxAt, exAt, ldCells, oneL, oneCell, Nat.reduceLeDiff, evL, adopt, rigid, rigidL, trim, Int.reduceEq, Int.reduceMod, Int.reduceDiv, if_pos, if_neg, asI, forall_const, implies_true, chkD, chkO, chkW, effB, reB, vEq, beq_self_eq_true, Nat.reduceSub, Nat.reduceLT, Int.reduceSub, Int.reduceAdd, Int.reduceMul, Int.reduceLT, Int.reduceLE, Int.reduceToNat, optI, aslice, cutSl, cutMs, cutStr, cutOwn]) | ((first | rw [WP_condK] | rw [WP_opsG] | rw [WP_quiG] | rw [WP_dG]); refine And.intro (fun hb => ?_) (fun hb => ?_) <;> (first | have hd := dq1 hb | have hd := dq2 hb | have hd := dq3 hb | have hd := dq4 hb | skip)))
        all_goals first
        | exact absurd hd hne
        | exact ⟨n - 1, by omega, j + 1, m', vo', vr', by omega, rfl, rfl, by simp [hsn, g1, g2, g3]⟩
  · have hj : j = l.length := by omega
    subst hj
    rw [List.take_length] at hst
    first | have hb := hb | have hb := trivial
    repeat' (first | (simp -implicitDefEqProofs (disch := omega) only [hb, L10_0, h2, h4, h5, h7, h8, h10, wC, wO, initE, aop, Nat.reduceEqDiff, ↓reduceIte, Nat.reduceAdd, finish, resOf, tupOf, AM.freeze, freeze1, freezeL, closed, nam, namL, if_true, if_false, deref, boxAt, exAt, ldCells, oneL, oneCell, Nat.reduceLeDiff, evL, adopt, rigid, rigidL, trim, Int.reduceEq, Int.reduceMod, Int.reduceDiv, if_pos, if_neg, asI, forall_const, implies_true, chkD, chkO, chkW, effB, reB, vEq, beq_self_eq_true, Nat.reduceSub, Nat.reduceLT, Int.reduceSub, Int.reduceAdd, Int.reduceMul, Int.reduceLT, Int.reduceLE, Int.reduceToNat, optI, aslice, cutSl, cutMs, cutStr, cutOwn]) | ((first | rw [WP_condK] | rw [WP_opsG] | rw [WP_quiG] | rw [WP_dG]); refine And.intro (fun hb => ?_) (fun hb => ?_) <;> (first | have hd := dq1 hb | have hd := dq2 hb | have hd := dq3 hb | have hd := dq4 hb | skip)))
    refine hq _ m' vo' vr' (by first | rfl | exact h2 | (simp only [getE_cons]; simp [h2])) (by first | rfl | exact h4 | (simp only [getE_cons]; simp [h4])) (by first | rfl | exact h5 | (simp only [getE_cons]; simp [h5])) (by first | rfl | exact h7 | (simp only [getE_cons]; simp [h7])) (by first | rfl | exact h8 | (simp only [getE_cons]; simp [h8])) ?_
    rcases hst with ⟨f0, f9, rfl, rfl, rfl⟩ | ⟨r, f0, ⟨g1, g2⟩ | ⟨g1, g2, g3, g4⟩⟩
    · exact .inl ⟨by rw [f0]; rfl, by first | rfl | exact f9 | (simp only [getE_cons]; simp [f9])⟩
    · exact .inl ⟨by rw [f0, Option.bind_some, g1], by first | rfl | exact g2 | (simp only [getE_cons]; simp [g2])⟩
    · exact .inr ⟨r, f0, g1, g2, g3, by first | rfl | exact g4 | (simp only [getE_cons]; simp [g4])⟩
end Go.Proofs.Ytnlemcfhndjheaa.AM

/- wire: Decode of the reference is decW, the outer loop. -/
namespace Go.Proofs.Ytnlemcfhndjheaa.AM
open Go
set_option maxRecDepth 100000
set_option maxHeartbeats 4000000
set_option linter.unusedSimpArgs false
set_option linter.unusedVariables false
theorem tx_if2 {p : Prop} [Decidable p] {v w : AV} {l k : List Int} (h : Tx v l) (g : Tx w k) : Tx (if p then v else w) (if p then l else k) := by
  split
  · exact h
  · exact g
theorem encS_invW {l : List Rc} {s : List Int} (h : encS l = (s, 0)) : s = flatS l ∧ l.length ≤ 64 ∧ s.length ≤ 65536 ∧ ascB l = true := by
  unfold encS at h
  split at h
  · rename_i ha
    split at h
    · rename_i hl
      cases h
      exact ⟨rfl, hl.1, hl.2, ha⟩
    · cases h
  · cases h
theorem rdec_loop (l : List Rc) (hn : l.length ≤ 64) (hasc : ascB l = true) (hl : ∀ r ∈ l, Bytes r.v ∧ r.v.length ≤ 65536) (o : AOwn) (fs : List Int) (hfs : ∀ t ∈ fs, t ∈ allT) (hfl : fs.length ≤ 6) (z0 : Pm) (hz : z0.fine) (m0 : Nat) (Q : Res → Prop) (e : Env) (rest : Heap) (vo vr : AV) (wo : Ow vo z0.o) (wr : Ow vr z0.r) (to : Tx vo z0.o) (tr : Tx vr z0.r) (h2 : getE e 2 = .ptr 0 0) (h4 : getE e 4 = .ptr 1 0) (h5 : getE e 5 = .slice o (some 2) (l.map Rc.av)) (h7 : getE e 7 = .slice .full none (fs.map u64)) (h8 : getE e 8 = i64 0)
    (hb : decF fs l z0 = none → ∀ e' rest, getE e' 2 = .ptr 0 0 → getE e' 3 = i64 10 → Q (.ret, e', .cells (msC Pm.zero .nil .nil) :: rest))
    (hq : ∀ m vo vr e' rest, decF fs l z0 = some m → m.fine → Ow vo m.o → Ow vr m.r → Tx vo m.o → Tx vr m.r → getE e' 2 = .ptr 0 0 → getE e' 4 = .ptr 1 0 → Q (.exit 0, e', .cells (msC Pm.zero .nil .nil) :: .cells (msC m vo vr) :: rest)) : WP Q (axl T [2, 4, 5, 7, 8] false L10_1 m0 e (.cells (msC Pm.zero .nil .nil) :: .cells (msC z0 vo vr) :: rest)) := by
  refine WP_loop (I := fun n e h => ∃ (i : Nat) (m : Pm) (vo vr : AV), n + i = fs.length ∧ h = .cells (msC Pm.zero .nil .nil) :: .cells (msC m vo vr) :: rest ∧ Ow vo m.o ∧ Ow vr m.r ∧ Tx vo m.o ∧ Tx vr m.r ∧ m.fine ∧ getE e 2 = .ptr 0 0 ∧ getE e 4 = .ptr 1 0 ∧ getE e 5 = .slice o (some 2) (l.map Rc.av) ∧ getE e 7 = .slice .full none (fs.map u64) ∧ getE e 8 = i64 i ∧ decF (fs.drop i) l m = decF fs l z0) ?_ fs.length _ _ ⟨0, z0, vo, vr, by omega, rfl, wo, wr, to, tr, hz, h2, h4, h5, h7, h8, rfl⟩
  rintro n e h ⟨i, m, vo, vr, hn', rfl, wo, wr, to, tr, hmf, h2, h4, h5, h7, h8, hdf⟩
  rw [trim_off]
  by_cases hlt : i < fs.length
  · have htA := hfs _ (List.getElem_mem hlt)
    rw [List.drop_eq_getElem_cons hlt, decF] at hdf
    generalize htt : fs[i] = t at *
    first | have hb := hb | have hb := trivial
    repeat' (first | (simp -implicitDefEqProofs (disch := omega) only [hb, L10_1, wG, h2, h4, h5, h7, h8, wC, wO, initE, aop, Nat.reduceEqDiff, ↓reduceIte, Nat.reduceAdd, finish, resOf, tupOf, AM.freeze, freeze1, freezeL, closed, nam, namL, if_true, if_false, deref, boxAt, exAt, ldCells, oneL, oneCell, Nat.reduceLeDiff, evL, adopt, rigid, rigidL, trim, Int.reduceEq, Int.reduceMod, Int.reduceDiv, if_pos, if_neg, asI, forall_const, implies_true, chkD, chkO, chkW, effB, reB, vEq, beq_self_eq_true, Nat.reduceSub, Nat.reduceLT, Int.reduceSub, Int.reduceAdd, Int.reduceMul, Int.reduceLT, Int.reduceLE, Int.reduceToNat, optI, aslice, cutSl, cutMs, cutStr, cutOwn]) | ((first | rw [WP_condK] | rw [WP_opsG] | rw [WP_quiG] | rw [WP_dG]); refine And.intro (fun hb => ?_) (fun hb => ?_) <;> (first | have hd := dq1 hb | have hd := dq2 hb | have hd := dq3 hb | have hd := dq4 hb | skip)))
    refine rdec_inner l hn hasc hl o fs i hlt hfl t htt htA m vo vr to tr _ _ _ _ (by first | rfl | exact h2 | (simp only [getE_cons]; simp [h2])) (by first | rfl | exact h4 | (simp only [getE_cons]; simp [h4])) (by first | rfl | exact h5 | (simp only [getE_cons]; simp [h5])) (by first | rfl | exact h7 | (simp only [getE_cons]; simp [h7])) (by first | rfl | exact h8 | (simp only [getE_cons]; simp [h8])) rfl rfl ?_
    intro e' m' vo' vr' g2 g4 g5 g7 g8 hst
    rcases hst with ⟨f0, f9⟩ | ⟨r, f0, f1, f2, f3, f9⟩
    · have hN : decF fs l z0 = none := by
        rw [← hdf]
        cases hh : findS t l with
        | none => rfl
        | some r => rw [hh, Option.bind_some] at f0; rw [Option.bind_some, f0]; rfl
      first | have hb := hb | have hb := trivial
      repeat' (first | (simp -implicitDefEqProofs (disch := omega) only [hb, wG, g2, g4, g5, g7, g8, f9, wC, wO, initE, aop, Nat.reduceEqDiff, ↓reduceIte, Nat.reduceAdd, finish, resOf, tupOf, AM.freeze, freeze1, freezeL, closed, nam, namL, if_true, if_false, deref, boxAt, exAt, ldCells, oneL, oneCell, Nat.reduceLeDiff, evL, adopt, rigid, rigidL, trim, Int.reduceEq, Int.reduceMod, Int.reduceDiv, if_pos, if_neg, asI, forall_const, implies_true, chkD, chkO, chkW, effB, reB, vEq, beq_self_eq_true, Nat.reduceSub, Nat.reduceLT, Int.reduceSub, Int.reduceAdd, Int.reduceMul, Int.reduceLT, Int.reduceLE, Int.reduceToNat, optI, aslice, cutSl, cutMs, cutStr, cutOwn]) | ((first | rw [WP_condK] | rw [WP_opsG] | rw [WP_quiG] | rw [WP_dG]); refine And.intro (fun hb => ?_) (fun hb => ?_) <;> (first | have hd := dq1 hb | have hd := dq2 hb | have hd := dq3 hb | have hd := dq4 hb | skip)))
      exact hb hN _ _ (by first | rfl | exact g2 | (simp only [getE_cons]; simp [g2])) (by first | rfl | (simp only [getE_cons]; simp))
    · rw [f0, Option.bind_some, f1, Option.bind_some] at hdf
      obtain ⟨o1, o2⟩ := set_or htA f1
      obtain ⟨hby, hbl⟩ := hl r (findS_mem f0).1
      first | have hb := hb | have hb := trivial
      repeat' (first | (simp -implicitDefEqProofs (disch := omega) only [hb, wG, g2, g4, g5, g7, g8, f9, wC, wO, initE, aop, Nat.reduceEqDiff, ↓reduceIte, Nat.reduceAdd, finish, resOf, tupOf, AM.freeze, freeze1, freezeL, closed, nam, namL, if_true, if_false, deref, boxAt, exAt, ldCells, oneL, oneCell, Nat.reduceLeDiff, evL, adopt, rigid, rigidL, trim, Int.reduceEq, Int.reduceMod, Int.reduceDiv, if_pos, if_neg, asI, forall_const, implies_true, chkD, chkO, chkW, effB, reB, vEq, beq_self_eq_true, Nat.reduceSub, Nat.reduceLT, Int.reduceSub, Int.reduceAdd, Int.reduceMul, Int.reduceLT, Int.reduceLE, Int.reduceToNat, optI, aslice, cutSl, cutMs, cutStr, cutOwn]) | ((first | rw [WP_condK] | rw [WP_opsG] | rw [WP_quiG] | rw [WP_dG]); refine And.intro (fun hb => ?_) (fun hb => ?_) <;> (first | have hd := dq1 hb | have hd := dq2 hb | have hd := dq3 hb | have hd := dq4 hb | skip)))
      refine ⟨n - 1, by omega, i + 1, m', vo', vr', by omega, rfl, ?_, ?_, ?_, ?_, set_fine htA hby (by omega) hmf f1, rfl, hdf⟩
      · rw [o1, f2]; exact ow_if (ow_none _) wo
      · rw [o2, f3]; exact ow_if (ow_none _) wr
      · rw [o1, f2]; exact tx_if2 (tx_slice _) to
      · rw [o2, f3]; exact tx_if2 (tx_slice _) tr
  · have hi : i = fs.length := by omega
    subst hi
    rw [List.drop_length, decF] at hdf
    first | have hb := hb | have hb := trivial
    repeat' (first | (simp -implicitDefEqProofs (disch := omega) only [hb, L10_1, h2, h4, h5, h7, h8, wC, wO, initE, aop, Nat.reduceEqDiff, ↓reduceIte, Nat.reduceAdd, finish, resOf, tupOf, AM.freeze, freeze1, freezeL, closed, nam, namL, if_true, if_false, deref, boxAt, exAt, ldCells, oneL, oneCell, Nat.reduceLeDiff, evL, adopt, rigid, rigidL, trim, Int.reduceEq, Int.reduceMod, Int.reduceDiv, if_pos, if_neg, asI, forall_const, implies_true, chkD, chkO, chkW, effB, reB, vEq, beq_self_eq_true, Nat.reduceSub, Nat.reduceLT, Int.reduceSub, Int.reduceAdd, Int.reduceMul, Int.reduceLT, Int.reduceLE, Int.reduceToNat, optI, aslice, cutSl, cutMs, cutStr, cutOwn]) | ((first | rw [WP_condK] | rw [WP_opsG] | rw [WP_quiG] | rw [WP_dG]); refine And.intro (fun hb => ?_) (fun hb => ?_) <;> (first | have hd := dq1 hb | have hd := dq2 hb | have hd := dq3 hb | have hd := dq4 hb | skip)))
    exact hq m vo vr _ _ hdf.symm hmf wo wr to tr (by first | rfl | exact h2 | (simp only [getE_cons]; simp [h2])) (by first | rfl | exact h4 | (simp only [getE_cons]; simp [h4]))
theorem rkind_bits (x y : Int) (hx : 0 ≤ x ∧ x ≤ 255) (hy : 0 ≤ y ∧ y ≤ 255) : IntKind.i64.wrap x = x ∧ IntKind.i64.wrap y = y ∧ IntKind.i64.wrap (x * 256) = x * 256 ∧ IntKind.i64.wrap (x * 256 + y) = x * 256 + y :=
  ⟨IntWalk.i64_in _ ⟨by omega, by omega⟩, IntWalk.i64_in _ ⟨by omega, by omega⟩, IntWalk.i64_in _ ⟨by omega, by omega⟩, IntWalk.i64_in _ ⟨by omega, by omega⟩⟩
theorem rdecode_okW (b : List Int) (hby : Bytes b) (hB : b.length ≤ 140737488351232) : WP (fun v => IsDm v (decW b)) (prun T F10 [.slice .none none (b.map u8)]) := by
  refine prun_wp ?_
  have hz := ms_zero
  match b, hby, hB with
  | [], _, _ =>
    first | have hb := hb | have hb := trivial
    repeat' (first | (simp -implicitDefEqProofs (disch := omega) only [hb, F10, wG, hz, wC, wO, initE, aop, Nat.reduceEqDiff, ↓reduceIte, Nat.reduceAdd, finish, resOf, tupOf, AM.freeze, freeze1, freezeL, closed, nam, namL, if_true, if_false, deref, boxAt, exAt, ldCells, oneL, oneCell, Nat.reduceLeDiff, evL, adopt, rigid, rigidL, trim, Int.reduceEq, Int.reduceMod, Int.reduceDiv, if_pos, if_neg, asI, forall_const, implies_true, chkD, chkO, chkW, effB, reB, vEq, beq_self_eq_true, Nat.reduceSub, Nat.reduceLT, Int.reduceSub, Int.reduceAdd, Int.reduceMul, Int.reduceLT, Int.reduceLE, Int.reduceToNat, optI, aslice, cutSl, cutMs, cutStr, cutOwn]) | ((first | rw [WP_condK] | rw [WP_opsG] | rw [WP_quiG] | rw [WP_dG]); refine And.intro (fun hb => ?_) (fun hb => ?_) <;> (first | have hd := dq1 hb | have hd := dq2 hb | have hd := dq3 hb | have hd := dq4 hb | skip)))
    rfl
  | [x], _, _ =>
    first | have hb := hb | have hb := trivial
    repeat' (first | (simp -implicitDefEqProofs (disch := omega) only [hb, F10, wG, hz, wC, wO, initE, aop, Nat.reduceEqDiff, ↓reduceIte, Nat.reduceAdd, finish, resOf, tupOf, AM.freeze, freeze1, freezeL, closed, nam, namL, if_true, if_false, deref, boxAt, exAt, ldCells, oneL, oneCell, Nat.reduceLeDiff, evL, adopt, rigid, rigidL, trim, Int.reduceEq, Int.reduceMod, Int.reduceDiv, if_pos, if_neg, asI, forall_const, implies_true, chkD, chkO, chkW, effB, reB, vEq, beq_self_eq_true, Nat.reduceSub, Nat.reduceLT, Int.reduceSub, Int.reduceAdd, Int.reduceMul, Int.reduceLT, Int.reduceLE, Int.reduceToNat, optI, aslice, cutSl, cutMs, cutStr, cutOwn]) | ((first | rw [WP_condK] | rw [WP_opsG] | rw [WP_quiG] | rw [WP_dG]); refine And.intro (fun hb => ?_) (fun hb => ?_) <;> (first | have hd := dq1 hb | have hd := dq2 hb | have hd := dq3 hb | have hd := dq4 hb | skip)))
    rfl
  | x :: y :: c, hby, hB =>
    have hx := hby x (by simp)
    have hy := hby y (by simp)
    have hc : Bytes c := fun z hz => hby z (by simp [hz])
    have hcl : c.length ≤ 140737488351232 := by simp only [List.length_cons] at hB; omega
    obtain ⟨b1, b2, b3, b4⟩ := rkind_bits x y hx hy
    have hW : decW (x :: y :: c) = decB (x * 256 + y) (decS [] c) := by
      unfold decW
      rw [if_neg (by simp)]
      rfl
    rw [hW]
    obtain ⟨v, hi, hd⟩ := call_rdecN c hc hcl
    have hdv := dec_vals hc
    have hda : (decS [] c).2 = 0 → ascB (decS [] c).1 = true := fun h => (encS_invW (decodes_law [] c hc h).1).2.2.2
    generalize decS [] c = p at hi hdv hda
    generalize hk : x * 256 + y = k at b4
    have hkI : I64 k := ⟨by omega, by omega⟩
    have hfl := fields_len k
    by_cases hf : fieldsS k = []
    · have hv : fieldsV k = .nil := if_pos hf
      have hN : decB k p = none := by simp [decB, hf]
      rw [hN]
      rcases hi with ⟨h0, _, rfl⟩ | ⟨h0, o, ho, rfl⟩
      · first | have hb := hb | have hb := trivial
        repeat' (first | (simp -implicitDefEqProofs (disch := omega) only [hb, F10, wG, b1, b2, b3, b4, hk, call_rfields, hv, hd, hz, wC, wO, initE, aop, Nat.reduceEqDiff, ↓reduceIte, Nat.reduceAdd, finish, resOf, tupOf, AM.freeze, freeze1, freezeL, closed, nam, namL, if_true, if_false, deref, boxAt, exAt, ldCells, oneL, oneCell, Nat.reduceLeDiff, evL, adopt, rigid, rigidL, trim, Int.reduceEq, Int.reduceMod, Int.reduceDiv, if_pos, if_neg, asI, forall_const, implies_true, chkD, chkO, chkW, effB, reB, vEq, beq_self_eq_true, Nat.reduceSub, Nat.reduceLT, Int.reduceSub, Int.reduceAdd, Int.reduceMul, Int.reduceLT, Int.reduceLE, Int.reduceToNat, optI, aslice, cutSl, cutMs, cutStr, cutOwn]) | ((first | rw [WP_condK] | rw [WP_opsG] | rw [WP_quiG] | rw [WP_dG]); refine And.intro (fun hb => ?_) (fun hb => ?_) <;> (first | have hd := dq1 hb | have hd := dq2 hb | have hd := dq3 hb | have hd := dq4 hb | skip)))
        all_goals rfl
      · rcases ho with rfl | rfl
        all_goals
          first | have hb := hb | have hb := trivial
          repeat' (first | (simp -implicitDefEqProofs (disch := omega) only [hb, F10, wG, b1, b2, b3, b4, hk, call_rfields, hv, hd, hz, wC, wO, initE, aop, Nat.reduceEqDiff, ↓reduceIte, Nat.reduceAdd, finish, resOf, tupOf, AM.freeze, freeze1, freezeL, closed, nam, namL, if_true, if_false, deref, boxAt, exAt, ldCells, oneL, oneCell, Nat.reduceLeDiff, evL, adopt, rigid, rigidL, trim, Int.reduceEq, Int.reduceMod, Int.reduceDiv, if_pos, if_neg, asI, forall_const, implies_true, chkD, chkO, chkW, effB, reB, vEq, beq_self_eq_true, Nat.reduceSub, Nat.reduceLT, Int.reduceSub, Int.reduceAdd, Int.reduceMul, Int.reduceLT, Int.reduceLE, Int.reduceToNat, optI, aslice, cutSl, cutMs, cutStr, cutOwn]) | ((first | rw [WP_condK] | rw [WP_opsG] | rw [WP_quiG] | rw [WP_dG]); refine And.intro (fun hb => ?_) (fun hb => ?_) <;> (first | have hd := dq1 hb | have hd := dq2 hb | have hd := dq3 hb | have hd := dq4 hb | skip)))
          all_goals rfl
    · have hv : fieldsV k = .slice .full none ((fieldsS k).map u64) := if_neg hf
      have hl0 : (fieldsS k).length ≠ 0 := fun hh => hf (List.length_eq_zero_iff.1 hh)
      rcases hi with ⟨h0, h1, rfl⟩ | ⟨h0, o, ho, rfl⟩
      · have hN : decB k p = none := by simp [decB, h0]
        rw [hN]
        first | have hb := hb | have hb := trivial
        repeat' (first | (simp -implicitDefEqProofs (disch := omega) only [hb, F10, wG, b1, b2, b3, b4, hk, call_rfields, hv, hd, hz, wC, wO, initE, aop, Nat.reduceEqDiff, ↓reduceIte, Nat.reduceAdd, finish, resOf, tupOf, AM.freeze, freeze1, freezeL, closed, nam, namL, if_true, if_false, deref, boxAt, exAt, ldCells, oneL, oneCell, Nat.reduceLeDiff, evL, adopt, rigid, rigidL, trim, Int.reduceEq, Int.reduceMod, Int.reduceDiv, if_pos, if_neg, asI, forall_const, implies_true, chkD, chkO, chkW, effB, reB, vEq, beq_self_eq_true, Nat.reduceSub, Nat.reduceLT, Int.reduceSub, Int.reduceAdd, Int.reduceMul, Int.reduceLT, Int.reduceLE, Int.reduceToNat, optI, aslice, cutSl, cutMs, cutStr, cutOwn]) | ((first | rw [WP_condK] | rw [WP_opsG] | rw [WP_quiG] | rw [WP_dG]); refine And.intro (fun hb => ?_) (fun hb => ?_) <;> (first | have hd := dq1 hb | have hd := dq2 hb | have hd := dq3 hb | have hd := dq4 hb | skip)))
        all_goals rfl
      · obtain ⟨hvals, hlen⟩ := hdv h0
        have hasc := hda h0
        have hD : decB k p = (decF (fieldsS k) p.1 { Pm.zero with k := k }).bind fun m => if MayP m then some m else none := by
          unfold decB
          rw [if_neg (by simp [h0, hf])]
        rw [hD]
        rcases ho with rfl | rfl
        all_goals
          first | have hb := hb | have hb := trivial
          repeat' (first | (simp -implicitDefEqProofs (disch := omega) only [hb, F10, wG, b1, b2, b3, b4, hk, call_rfields, hv, hd, wC, wO, initE, aop, Nat.reduceEqDiff, ↓reduceIte, Nat.reduceAdd, finish, resOf, tupOf, AM.freeze, freeze1, freezeL, closed, nam, namL, if_true, if_false, deref, boxAt, exAt, ldCells, oneL, oneCell, Nat.reduceLeDiff, evL, adopt, rigid, rigidL, trim, Int.reduceEq, Int.reduceMod, Int.reduceDiv, if_pos, if_neg, asI, forall_const, implies_true, chkD, chkO, chkW, effB, reB, vEq, beq_self_eq_true, Nat.reduceSub, Nat.reduceLT, Int.reduceSub, Int.reduceAdd, Int.reduceMul, Int.reduceLT, Int.reduceLE, Int.reduceToNat, optI, aslice, cutSl, cutMs, cutStr, cutOwn]) | ((first | rw [WP_condK] | rw [WP_opsG] | rw [WP_quiG] | rw [WP_dG]); refine And.intro (fun hb => ?_) (fun hb => ?_) <;> (first | have hd := dq1 hb | have hd := dq2 hb | have hd := dq3 hb | have hd := dq4 hb | skip)))
          refine rdec_loop p.1 hlen hasc hvals _ (fieldsS k) (fun t ht => fields_all ht) hfl { Pm.zero with k := k } (zero_fine k hkI) _ _ _ _ .nil .nil ow_nil ow_nil tx_nil tx_nil rfl rfl rfl rfl rfl ?_ ?_
          · intro hN e rest h2 h3
            rw [hN]
            first | have hb := hb | have hb := trivial
            repeat' (first | (simp -implicitDefEqProofs (disch := omega) only [hb, wG, h2, h3, hz, wC, wO, initE, aop, Nat.reduceEqDiff, ↓reduceIte, Nat.reduceAdd, finish, resOf, tupOf, AM.freeze, freeze1, freezeL, closed, nam, namL, if_true, if_false, deref, boxAt, exAt, ldCells, oneL, oneCell, Nat.reduceLeDiff, evL, adopt, rigid, rigidL, trim, Int.reduceEq, Int.reduceMod, Int.reduceDiv, if_pos, if_neg, asI, forall_const, implies_true, chkD, chkO, chkW, effB, reB, vEq, beq_self_eq_true, Nat.reduceSub, Nat.reduceLT, Int.reduceSub, Int.reduceAdd, Int.reduceMul, Int.reduceLT, Int.reduceLE, Int.reduceToNat, optI, aslice, cutSl, cutMs, cutStr, cutOwn]) | ((first | rw [WP_condK] | rw [WP_opsG] | rw [WP_quiG] | rw [WP_dG]); refine And.intro (fun hb => ?_) (fun hb => ?_) <;> (first | have hd := dq1 hb | have hd := dq2 hb | have hd := dq3 hb | have hd := dq4 hb | skip)))
            rfl
          · intro m vo vr e rest hS hm wo wr to tr h2 h4
            rw [hS]
            have hmay := fun h => call_rmay m vo vr to tr hm h
            have hoo := wo.fm.one
            have hro := wr.fm.one
            have qb := ms_beq m vo vr to.beq tr.beq
            by_cases hM : MayP m
            · have hd1 := decide_eq_true hM
              have hR : ((some m).bind fun m => if MayP m then some m else none) = some m := if_pos hM
              rw [hR]
              rw [hd1] at hmay
              first | have hb := hb | have hb := trivial
              repeat' (first | (simp -implicitDefEqProofs (disch := omega) only [hb, wG, h2, h4, hz, hmay, p17, hoo, hro, qb, wC, wO, initE, aop, Nat.reduceEqDiff, ↓reduceIte, Nat.reduceAdd, finish, resOf, tupOf, freezeL, closed, nam, namL, if_true, if_false, deref, boxAt, exAt, ldCells, oneL, oneCell, Nat.reduceLeDiff, evL, adopt, rigid, rigidL, trim, Int.reduceEq, Int.reduceMod, Int.reduceDiv, if_pos, if_neg, asI, forall_const, implies_true, chkD, chkO, chkW, effB, reB, vEq, beq_self_eq_true, Nat.reduceSub, Nat.reduceLT, Int.reduceSub, Int.reduceAdd, Int.reduceMul, Int.reduceLT, Int.reduceLE, Int.reduceToNat, optI, aslice, cutSl, cutMs, cutStr, cutOwn]) | ((first | rw [WP_condK] | rw [WP_opsG] | rw [WP_quiG] | rw [WP_dG]); refine And.intro (fun hb => ?_) (fun hb => ?_) <;> (first | have hd := dq1 hb | have hd := dq2 hb | have hd := dq3 hb | have hd := dq4 hb | skip)))
              exact isDm_freeze wo wr _
            · have hd1 := decide_eq_false hM
              have hR : ((some m).bind fun m => if MayP m then some m else none) = none := if_neg hM
              rw [hR]
              rw [hd1] at hmay
              first | have hb := hb | have hb := trivial
              repeat' (first | (simp -implicitDefEqProofs (disch := omega) only [hb, wG, h2, h4, hz, hmay, p17, hoo, hro, qb, wC, wO, initE, aop, Nat.reduceEqDiff, ↓reduceIte, Nat.reduceAdd, finish, resOf, tupOf, AM.freeze, freeze1, freezeL, closed, nam, namL, if_true, if_false, deref, boxAt, exAt, ldCells, oneL, oneCell, Nat.reduceLeDiff, evL, adopt, rigid, rigidL, trim, Int.reduceEq, Int.reduceMod, Int.reduceDiv, if_pos, if_neg, asI, forall_const, implies_true, chkD, chkO, chkW, effB, reB, vEq, beq_self_eq_true, Nat.reduceSub, Nat.reduceLT, Int.reduceSub, Int.reduceAdd, Int.reduceMul, Int.reduceLT, Int.reduceLE, Int.reduceToNat, optI, aslice, cutSl, cutMs, cutStr, cutOwn]) | ((first | rw [WP_condK] | rw [WP_opsG] | rw [WP_quiG] | rw [WP_dG]); refine And.intro (fun hb => ?_) (fun hb => ?_) <;> (first | have hd := dq1 hb | have hd := dq2 hb | have hd := dq3 hb | have hd := dq4 hb | skip)))
              rfl
end Go.Proofs.Ytnlemcfhndjheaa.AM

/- layer 06: Decodes runs. -/
namespace Go.Proofs.Ytnlemcfhndjheaa.AM
open Go
set_option maxRecDepth 100000
set_option maxHeartbeats 4000000
set_option linter.unusedSimpArgs false
set_option linter.unusedVariables false
theorem decF_fine : ∀ (fs : List Int) (l : List Rc) (m q : Pm), (∀ t ∈ fs, t ∈ allT) → (∀ r ∈ l, Bytes r.v ∧ r.v.length ≤ 65536) → m.fine → decF fs l m = some q → q.fine
  | [], l, m, q, _, _, hm, h => by cases h; exact hm
  | t :: fs, l, m, q, hfs, hl, hm, h => by
    rw [decF] at h
    cases hf : findS t l with
    | none => rw [hf] at h; cases h
    | some r =>
      rw [hf, Option.bind_some] at h
      obtain ⟨hb, hbl⟩ := hl r (findS_mem hf).1
      cases hs : setM m t r.v with
      | none => rw [hs] at h; cases h
      | some m' =>
        rw [hs, Option.bind_some] at h
        exact decF_fine fs l m' q (fun s hs => hfs s (List.mem_cons_of_mem _ hs)) hl (set_fine (hfs t List.mem_cons_self) hb (by omega) hm hs) h
theorem getD_byte {b : List Int} (hb : Bytes b) (i : Nat) : 0 ≤ b.getD i 0 ∧ b.getD i 0 ≤ 255 := by
  rw [List.getD_eq_getElem?_getD]
  by_cases h : i < b.length
  · rw [List.getElem?_eq_getElem h]; exact hb _ (List.getElem_mem h)
  · rw [List.getElem?_eq_none (by omega)]; simp
theorem kindS_I {b : List Int} (hb : Bytes b) : I64 (kindS b) := by
  have h1 := getD_byte hb 0
  have h2 := getD_byte hb 1
  unfold kindS
  constructor <;> omega
theorem drop_bytes2 {b : List Int} (hb : Bytes b) (n : Nat) : Bytes (b.drop n) := fun c hc => hb c (List.mem_of_mem_drop hc)
theorem decB_fine {k : Int} {c : List Int} (hc : Bytes c) (hk : I64 k) {q : Pm} (h : decB k (decS [] c) = some q) : q.fine ∧ MayP q := by
  unfold decB at h
  split at h
  · cases h
  · rename_i hh
    have h0 : (decS [] c).2 = 0 := Decidable.byContradiction fun h1 => hh (.inl h1)
    cases hd : decF (fieldsS k) (decS [] c).1 { Pm.zero with k := k } with
    | none => rw [hd] at h; cases h
    | some m =>
      rw [hd, Option.bind_some] at h
      split at h
      · cases h
        exact ⟨decF_fine _ _ _ _ (fun t ht => fields_all ht) (dec_vals hc h0).1 (zero_fine k hk) hd, by assumption⟩
      · cases h
theorem decW_fine {b : List Int} (hb : Bytes b) {q : Pm} (h : decW b = some q) : q.fine ∧ MayP q := by
  unfold decW at h
  split at h
  · cases h
  · exact decB_fine (drop_bytes2 hb 2) (kindS_I hb) h
theorem adopt_dm {v : AV} {p : Option Pm} (h : IsDm v p) (hp : Heap) : Go.Proofs.Ytnlemcfhndjheaa.AM.adopt v hp = (v, hp) := by
  cases p with
  | none => rw [h]; rfl
  | some q =>
    obtain ⟨vo, vr, _, _, rfl⟩ := h
    rfl
theorem call_decW (b : List Int) (hby : Bytes b) (hB : b.length ≤ 140737488351232) : ∃ v, IsDm v (decW b) ∧ ∀ o, stripO o = .none → ∀ h, ag T 9 [.slice o none (b.map u8)] h = some (v, h) := by
  obtain ⟨v, h1, h2⟩ := WP_ex (decode_okW b hby hB)
  refine ⟨v, h2, fun o ho h => ?_⟩
  rw [← adopt_dm h2 h]
  exact call_pure (T := T) (args := [.slice o none (b.map u8)]) rfl t9 rfl rfl (by
    have h3 := u8_closed b
    simp only [List.map_cons, List.map_nil, strip_slice, ho, closedL, namL, nam, Bool.and_true, Bool.true_and] at h3 ⊢
    exact h3) (by simp only [List.map_cons, List.map_nil, strip_slice, ho]; exact h1)
theorem call_rdecW (b : List Int) (hby : Bytes b) (hB : b.length ≤ 140737488351232) : ∃ v, IsDm v (decW b) ∧ ∀ o, stripO o = .none → ∀ h, ag T 10 [.slice o none (b.map u8)] h = some (v, h) := by
  obtain ⟨v, h1, h2⟩ := WP_ex (rdecode_okW b hby hB)
  refine ⟨v, h2, fun o ho h => ?_⟩
  rw [← adopt_dm h2 h]
  exact call_pure (T := T) (args := [.slice o none (b.map u8)]) rfl t10 rfl rfl (by
    have h3 := u8_closed b
    simp only [List.map_cons, List.map_nil, strip_slice, ho, closedL, namL, nam, Bool.and_true, Bool.true_and] at h3 ⊢
    exact h3) (by simp only [List.map_cons, List.map_nil, strip_slice, ho]; exact h1)
theorem call_lives (h : Heap) : ag T 11 [] h = some (.bool true, h) := ag_any rfl t11 rfl rfl rfl rfl (ag_of_gcall (n := 60) (by kernel_rfl)) h
theorem zero_fine0 : Pm.zero.fine := zero_fine 0 ⟨by omega, by omega⟩
theorem wdecodes_ok (b : List Int) (hby : Bytes b) (hB : b.length ≤ 140737488351232) : prun T F3 [.slice .none none (b.map u8)] = some (.sc (.bool true)) := by
  obtain ⟨v1, i1, c1⟩ := call_decW b hby hB
  obtain ⟨v2, i2, c2⟩ := call_rdecW b hby hB
  have c1 := fun h => c1 (.tok 0) rfl h
  have c2 := fun h => c2 .none rfl h
  have hbe := byteEls_u8 b
  have heq : abin .eql (.string (strOfNums b)) (.string (strOfNums b)) = some (.bool true) := by simp [abin, astr]
  have hfit : fitsB b.length 1 = true := fits1 (by omega)
  cases hq : decW b with
  | none =>
    rw [hq] at i1 i2
    cases i1
    cases i2
    have hs := fun h => call_sameE (a := Pm.zero) (b := Pm.zero) ow_nil ow_nil ow_nil ow_nil zero_fine0 zero_fine0 h
    rw [decide_eq_true rfl] at hs
    refine WP_eq (prun_wp ?_)
    first | have hb := hb | have hb := trivial
    repeat' (first | (simp -implicitDefEqProofs (disch := omega) only [hb, F3, wG, setEls, List.replicate_zero, aappend, u8_len, hfit, c1, c2, call_lives, hs, p11, p12, hbe, heq, wC, wO, initE, aop, Nat.reduceEqDiff, ↓reduceIte, Nat.reduceAdd, finish, resOf, tupOf, AM.freeze, freeze1, freezeL, closed, nam, namL, if_true, if_false, deref, boxAt, exAt, ldCells, oneL, oneCell, Nat.reduceLeDiff, evL, adopt, rigid, rigidL, trim, Int.reduceEq, Int.reduceMod, Int.reduceDiv, if_pos, if_neg, asI, forall_const, implies_true, chkD, chkO, chkW, effB, reB, vEq, beq_self_eq_true, Nat.reduceSub, Nat.reduceLT, Int.reduceSub, Int.reduceAdd, Int.reduceMul, Int.reduceLT, Int.reduceLE, Int.reduceToNat, optI, aslice, cutSl, cutMs, cutStr, cutOwn]) | ((first | rw [WP_condK] | rw [WP_opsG] | rw [WP_quiG] | rw [WP_dG]); refine And.intro (fun hb => ?_) (fun hb => ?_) <;> (first | have hd := dq1 hb | have hd := dq2 hb | have hd := dq3 hb | have hd := dq4 hb | skip)))
  | some q =>
    rw [hq] at i1 i2
    obtain ⟨vo, vr, wo, wr, rfl⟩ := i1
    obtain ⟨vo', vr', wo', wr', rfl⟩ := i2
    have hf := (decW_fine hby hq).1
    have hs := fun h => call_sameE wo wr wo' wr' hf hf h
    rw [decide_eq_true rfl] at hs
    have k1 := wo.fm.one
    have k2 := wr.fm.one
    have k3 := wo'.fm.one
    have k4 := wr'.fm.one
    refine WP_eq (prun_wp ?_)
    first | have hb := hb | have hb := trivial
    repeat' (first | (simp -implicitDefEqProofs (disch := omega) only [hb, F3, wG, setEls, List.replicate_zero, aappend, u8_len, hfit, c1, c2, call_lives, hs, p11, p12, hbe, heq, k1, k2, k3, k4, wC, wO, initE, aop, Nat.reduceEqDiff, ↓reduceIte, Nat.reduceAdd, finish, resOf, tupOf, AM.freeze, freeze1, freezeL, closed, nam, namL, if_true, if_false, deref, boxAt, exAt, ldCells, oneL, oneCell, Nat.reduceLeDiff, evL, adopt, rigid, rigidL, trim, Int.reduceEq, Int.reduceMod, Int.reduceDiv, if_pos, if_neg, asI, forall_const, implies_true, chkD, chkO, chkW, effB, reB, vEq, beq_self_eq_true, Nat.reduceSub, Nat.reduceLT, Int.reduceSub, Int.reduceAdd, Int.reduceMul, Int.reduceLT, Int.reduceLE, Int.reduceToNat, optI, aslice, cutSl, cutMs, cutStr, cutOwn]) | ((first | rw [WP_condK] | rw [WP_opsG] | rw [WP_quiG] | rw [WP_dG]); refine And.intro (fun hb => ?_) (fun hb => ?_) <;> (first | have hd := dq1 hb | have hd := dq2 hb | have hd := dq3 hb | have hd := dq4 hb | skip)))
end Go.Proofs.Ytnlemcfhndjheaa.AM

/- layer 06: Decodes, as it is called. -/
namespace Go.Proofs.Ytnlemcfhndjheaa.AM
open Go
set_option linter.unusedSimpArgs false
set_option linter.unusedVariables false
theorem call_wdecodes (b : List Int) (hby : Bytes b) (hB : b.length ≤ 140737488351232) : ag T 3 [.slice .none none (b.map u8)] [] = some (.sc (.bool true), []) :=
  call_sc rfl t3 rfl rfl rfl (u8_cl b .none rfl rfl) (wdecodes_ok b hby hB)
end Go.Proofs.Ytnlemcfhndjheaa.AM

/- What comes in: bytes, numbers, hashes, records. -/
namespace Go.Proofs.Ytnlemcfhndjheaa.AM
open Go
set_option linter.unusedSimpArgs false
set_option linter.unusedVariables false
theorem oc_slice {S : St} {xs : List AV} {a : Option Addr} {n c : Nat} (h : VL S xs (Value.slice a n c).cells.toList) : VL S xs [.slice a n c] := h
theorem oc_agg {S : St} {xs : List AV} {c : Array Value} (h : VL S xs (Value.agg c).cells.toList) : VL S [.agg xs] [.agg c] := VL_cons (by simp only [V]; exact ⟨c, rfl, h⟩) VL_nil
theorem okWide_array {P : Program} {w : World} {r : Reach} {base : Nat} {t : TypeId} {v : Value} {n : Nat} {e : TypeId} (ht : P.underlying t = some (.array n e)) (h : Value.okWide P w r base t v) : ∃ cs, v = .agg cs ∧ cs.size = P.cellsOf t := by
  simp only [Value.okWide, ht] at h
  obtain ⟨cs, h1, h2, _⟩ := h
  exact ⟨cs, h1, h2⟩
theorem wf_i64 {x : Int} (h : (Lit.int .i64 x).wf = true) : I64 x := by
  simp [Lit.wf, IntKind.min, IntKind.max, IntKind.bits, IntKind.signed] at h
  unfold I64
  omega
theorem wf_u64 {x : Int} (h : (Lit.int .u64 x).wf = true) : U64 x := by
  simp [Lit.wf, IntKind.min, IntKind.max, IntKind.bits, IntKind.signed] at h
  unfold U64
  omega
theorem wf_b {x : Int} (h : (Lit.int .u8 x).wf = true) : 0 ≤ x ∧ x ≤ 255 := by
  simp [Lit.wf, IntKind.min, IntKind.max, IntKind.bits, IntKind.signed] at h
  omega
theorem reads_i64 {P : Program} {t : TypeId} (ht : P.underlying t = some (.int .i64)) : Reads P t (fun xs => ∃ x, xs = [i64 x] ∧ I64 x) :=
  (Reads.int ht).imp fun xs ⟨x, h, w⟩ => ⟨x, h, wf_i64 w⟩
theorem reads_u64 {P : Program} {t : TypeId} (ht : P.underlying t = some (.int .u64)) : Reads P t (fun xs => ∃ x, xs = [u64 x] ∧ U64 x) :=
  (Reads.int ht).imp fun xs ⟨x, h, w⟩ => ⟨x, h, wf_u64 w⟩
theorem els_of {I : List AV → Prop} {α : Type} {k : Option Nat} {f : α → AV} {p : α → Prop} (hI : ∀ y, I y ∧ y.length = kz k ∧ oneL y = true → ∃ x, mkEl k y = f x ∧ p x) : ∀ {ys : List (List AV)}, (∀ y ∈ ys, I y ∧ y.length = kz k ∧ oneL y = true) → ∃ l : List α, ys.map (mkEl k) = l.map f ∧ l.length = ys.length ∧ ∀ x ∈ l, p x := by
  intro ys
  induction ys with
  | nil => intro _; exact ⟨[], rfl, rfl, by intro c hc; cases hc⟩
  | cons y ys ih =>
    intro h
    obtain ⟨l, h1, h2, h3⟩ := ih fun z hz => h z (List.mem_cons_of_mem _ hz)
    obtain ⟨x, hx, px⟩ := hI y (h y List.mem_cons_self)
    refine ⟨x :: l, by rw [List.map_cons, List.map_cons, h1, hx], by simp [h2], ?_⟩
    intro c hc
    rcases List.mem_cons.1 hc with rfl | hc
    · exact px
    · exact h3 c hc
theorem reads_sl {P : Program} {t e : TypeId} {k : Option Nat} {I : List AV → Prop} {α : Type} {f : α → AV} {p : α → Prop} (ht : P.underlying t = some (.slice e)) (hc : P.cellsOf e = kz k) (hz : 0 < kz k) (B : Nat) (hb : P.bytesOf e = B) (h : Reads P e I)
    (hI : ∀ y, I y ∧ y.length = kz k ∧ oneL y = true → ∃ x, mkEl k y = f x ∧ p x) : Reads P t (fun xs => ∃ l : List α, xs = [.slice .none k (l.map f)] ∧ (∀ x ∈ l, p x) ∧ l.length * B ≤ 140737488351232) :=
  (Reads.slice ht hc hz h).imp fun xs ⟨ys, h1, h2, h3⟩ => by
    obtain ⟨l, g1, g2, g3⟩ := els_of hI h3
    refine ⟨l, by rw [h1, g1], g3, ?_⟩
    rw [g2, ← hb]
    exact h2
theorem reads_bytes {P : Program} {t e : TypeId} (ht : P.underlying t = some (.slice e)) (he : P.underlying e = some (.int .u8)) (hc : P.cellsOf e = 1) (hb : P.bytesOf e = 1) : Reads P t (fun xs => ∃ l : List Int, xs = [.slice .none none (l.map u8)] ∧ Bytes l ∧ l.length ≤ 140737488351232) :=
  (reads_sl (k := none) (f := u8) (p := fun c => 0 ≤ c ∧ c ≤ 255) ht hc (by decide) 1 hb (Reads.int he) (fun y ⟨⟨x, hy, hw⟩, _, _⟩ => ⟨x, by rw [hy]; rfl, wf_b hw⟩)).imp fun xs ⟨l, h1, h2, h3⟩ => ⟨l, h1, h2, by omega⟩
theorem reads_nums {P : Program} {t e : TypeId} (ht : P.underlying t = some (.slice e)) (he : P.underlying e = some (.int .u64)) (hc : P.cellsOf e = 1) (hb : P.bytesOf e = 8) : Reads P t (fun xs => ∃ l : List Int, xs = [.slice .none none (l.map u64)] ∧ (∀ x ∈ l, U64 x) ∧ l.length * 8 ≤ 140737488351232) :=
  reads_sl (k := none) (f := u64) ht hc (by decide) 8 hb (Reads.int he) (fun y ⟨⟨x, hy, hw⟩, _, _⟩ => ⟨x, by rw [hy]; rfl, wf_u64 hw⟩)
theorem flat_bytes : ∀ {ys : List (List AV)}, (∀ y ∈ ys, (∃ x, y = [u8 x] ∧ (Lit.int .u8 x).wf = true) ∧ y.length = 1) → ∃ l : List Int, ys.flatten = l.map u8 ∧ l.length = ys.length ∧ Bytes l
  | [], _ => ⟨[], rfl, rfl, by intro c hc; cases hc⟩
  | y :: ys, h => by
    obtain ⟨l, h1, h2, h3⟩ := flat_bytes fun z hz => h z (List.mem_cons_of_mem _ hz)
    obtain ⟨⟨x, rfl, hx⟩, _⟩ := h y List.mem_cons_self
    refine ⟨x :: l, by rw [List.flatten_cons, h1]; rfl, by simp [h2], ?_⟩
    intro c hc
    rcases List.mem_cons.1 hc with rfl | hc
    · exact wf_b hx
    · exact h3 c hc
theorem reads_hash {P : Program} {t e : TypeId} {n : Nat} (ht : P.underlying t = some (.array n e)) (hc : P.cellsOf t = n * P.cellsOf e) (he : P.underlying e = some (.int .u8)) (hc1 : P.cellsOf e = 1) : Reads P t (fun xs => ∃ l : List Int, xs = l.map u8 ∧ l.length = n ∧ Bytes l) :=
  (Reads.array ht hc (Reads.int he)).imp fun xs ⟨ys, h1, h2, h3⟩ => by
    obtain ⟨l, g1, g2, g3⟩ := flat_bytes fun y hy => ⟨(h3 y hy).1, by rw [(h3 y hy).2, hc1]⟩
    exact ⟨l, by rw [h1, g1], by omega, g3⟩
theorem reads_rec {P : Program} {t t1 t2 e : TypeId} {f1 f2 : Field} (ht : P.underlying t = some (.struct #[f1, f2])) (hc : P.cellsOf t = 2) (o1 : f1.offset = 0) (o2 : f2.offset = 1) (g1 : f1.type = t1) (g2 : f2.type = t2)
    (h1 : P.underlying t1 = some (.int .u64)) (h2 : P.underlying t2 = some (.slice e)) (c1 : P.cellsOf t1 = 1) (c2 : P.cellsOf t2 = 1) (he : P.underlying e = some (.int .u8)) (hce : P.cellsOf e = 1) (hbe : P.bytesOf e = 1) :
    Reads P t (fun xs => ∃ r : Rc, xs = [u64 r.t, .slice .none none (r.v.map u8)] ∧ Rc.ok r ∧ r.v.length ≤ 140737488351232) := by
  subst g1; subst g2
  refine (Reads.struct (fs := [f1, f2]) ht (by rw [hc]; simp [c1, c2]) (ReadsF.cons (reads_u64 h1) o1 c1 (ReadsF.cons (a := 1) (reads_bytes h2 he hce hbe) (by rw [o2]) c2 ReadsF.nil))).imp ?_
  rintro xs ⟨x, y, rfl, ⟨n, rfl, hn⟩, z, w, rfl, ⟨l, rfl, hl, hll⟩, rfl⟩
  exact ⟨⟨n, l⟩, rfl, ⟨hn, hl⟩, hll⟩
theorem reads_recs {P : Program} {ts t t1 t2 e : TypeId} {f1 f2 : Field} (hs : P.underlying ts = some (.slice t)) (hb : P.bytesOf t = 32) (ht : P.underlying t = some (.struct #[f1, f2])) (hc : P.cellsOf t = 2) (o1 : f1.offset = 0) (o2 : f2.offset = 1) (g1 : f1.type = t1) (g2 : f2.type = t2)
    (h1 : P.underlying t1 = some (.int .u64)) (h2 : P.underlying t2 = some (.slice e)) (c1 : P.cellsOf t1 = 1) (c2 : P.cellsOf t2 = 1) (he : P.underlying e = some (.int .u8)) (hce : P.cellsOf e = 1) (hbe : P.bytesOf e = 1) :
    Reads P ts (fun xs => ∃ l : List Rc, xs = [.slice .none (some 2) (l.map Rc.av)] ∧ (∀ r ∈ l, Rc.ok r ∧ r.v.length ≤ 140737488351232) ∧ l.length * 32 ≤ 140737488351232) :=
  reads_sl (k := some 2) (f := Rc.av) (p := fun r => Rc.ok r ∧ r.v.length ≤ 140737488351232) hs hc (by decide) 32 hb (reads_rec ht hc o1 o2 g1 g2 h1 h2 c1 c2 he hce hbe) (fun y ⟨⟨r, hy, h1, h2⟩, _, _⟩ => ⟨r, by rw [hy]; rfl, h1, h2⟩)
end Go.Proofs.Ytnlemcfhndjheaa.AM

/- layer 01: what is encoded is decoded again. -/
namespace Go.Proofs.Ytnlemcfhndjheaa.AM
open Go
set_option maxRecDepth 100000
set_option maxHeartbeats 4000000
set_option linter.unusedSimpArgs false
set_option linter.unusedVariables false
theorem flatS_cons (r : Rc) (l : List Rc) : flatS (r :: l) = recS r ++ flatS l := by unfold flatS; rw [List.flatMap_cons]
theorem numS_pos (x : Int) : 0 < (numS x).length := by
  have := numS_len x
  have := sizeS_pos x
  omega
theorem dec_fwd (ks : List Int) : ∀ (l acc : List Rc) (f : Nat), l.length ≤ f → ascB (acc ++ l) = true → (∀ r ∈ l, Rc.ok r) → (∀ r ∈ l, r.t % 2 = 0 → r.t ∈ ks) → (flatS l).length ≤ 65536 → decL ks f acc (flatS l) = (acc ++ l, 0)
  | [], acc, f, _, _, _, _, _ => by rw [show flatS [] = [] from rfl, decL_nil, List.append_nil]
  | r :: l, acc, f, hf, ha, hok, hev, hB => by
    obtain ⟨f, rfl⟩ : ∃ g, f = g + 1 := ⟨f - 1, by rw [List.length_cons] at hf; omega⟩
    have hr := hok r List.mem_cons_self
    obtain ⟨⟨t0, t1⟩, hv⟩ := hr
    have hfl := flatS_cons r l
    have hlen : (flatS (r :: l)).length = (numS r.t).length + (numS r.v.length).length + r.v.length + (flatS l).length := by
      rw [hfl]; unfold recS; simp only [List.length_append]
    have hp := numS_pos r.t
    have e0 : flatS (r :: l) = numS r.t ++ (numS r.v.length ++ (r.v ++ flatS l)) := by rw [hfl]; unfold recS; simp only [List.append_assoc]
    have hr1 := readS_num r.t t0 t1 (numS r.v.length ++ (r.v ++ flatS l))
    have hr2 := readS_num r.v.length (by omega) (by omega) (r.v ++ flatS l)
    rw [e0, decL_step ks f acc _ (by intro h; have := congrArg List.length h; simp only [List.length_append, List.length_nil] at this; omega) _ _ _ _ _ _ _ (r.v ++ flatS l) hr1 (by rw [Int.toNat_natCast, List.drop_left]) hr2 (by rw [Int.toNat_natCast, List.drop_left])]
    have ht : topB acc r.t = true := by
      unfold topB
      cases hg : acc.getLast? with
      | none => rfl
      | some q =>
        have hne : acc ≠ [] := by intro h; rw [h] at hg; cases hg
        have hpos : 0 < acc.length := List.length_pos_iff.2 hne
        have := ascB_at (l := acc ++ r :: l) (i := acc.length - 1) (by rw [List.length_append, List.length_cons]; omega) ha
        rw [List.getElem_append_left (by omega), List.getElem_append_right (by omega)] at this
        rw [List.getLast?_eq_getElem?, List.getElem?_eq_getElem (by omega)] at hg
        cases hg
        have e2 : acc.length - 1 + 1 - acc.length = 0 := by omega
        simp only [e2, List.getElem_cons_zero] at this
        exact decide_eq_true this
    rw [if_neg (by simp), if_neg (by rw [ht]; decide), if_neg (by simp), if_neg (by rw [List.length_append]; omega), if_neg (fun hh => hh.2 (hev r List.mem_cons_self hh.1)), Int.toNat_natCast, List.take_left, List.drop_left, dec_fwd ks l (acc ++ [r]) f (by rw [List.length_cons] at hf; omega) (by rw [List.append_assoc]; exact ha) (fun q hq => hok q (List.mem_cons_of_mem _ hq)) (fun q hq => hev q (List.mem_cons_of_mem _ hq)) (by omega)]
    rw [List.append_assoc]; rfl
theorem dec_enc (ks : List Int) (l : List Rc) (hok : ∀ r ∈ l, Rc.ok r) (hev : ∀ r ∈ l, r.t % 2 = 0 → r.t ∈ ks) (s : List Int) (h : encS l = (s, 0)) : decS ks s = (l, 0) := by
  unfold encS at h
  split at h
  · rename_i ha
    split at h
    · rename_i hl
      cases h
      unfold decS
      rw [if_neg (by omega)]
      have := dec_fwd ks l [] 64 hl.1 ha hok hev hl.2
      rw [List.nil_append] at this
      exact this
    · cases h
  · cases h
end Go.Proofs.Ytnlemcfhndjheaa.AM

/- wire: plain laws. -/
namespace Go.Proofs.Ytnlemcfhndjheaa.AM
open Go
set_option maxRecDepth 100000
set_option maxHeartbeats 4000000
set_option linter.unusedSimpArgs false
set_option linter.unusedVariables false
theorem nbF_be : ∀ (f n : Nat), n < 256 ^ f → be (nbF f n) = (n : Int)
  | 0, n, h => by
    have : n = 0 := by simpa using h
    subst this; rfl
  | f + 1, n, h => by
    unfold nbF
    split
    · rename_i h0; subst h0; rfl
    · rw [be_snoc, nbF_be f (n / 256) (by rw [Nat.pow_succ] at h; omega)]
      omega
theorem nbF_head : ∀ (f n : Nat), n < 256 ^ f → 0 < (nbF f n).length → (nbF f n).getD 0 0 ≠ 0
  | 0, n, h, hl => by simp [nbF] at hl
  | f + 1, n, h, hl => by
    unfold nbF at hl ⊢
    split
    · rename_i h0; rw [if_pos h0] at hl; simp at hl
    · rename_i h0
      have hlt : n / 256 < 256 ^ f := by rw [Nat.pow_succ] at h; omega
      by_cases he : nbF f (n / 256) = []
      · have := nbF_be f (n / 256) hlt
        rw [he] at this
        have h2 : n / 256 = 0 := by simp [be] at this; omega
        rw [he]
        simp
        omega
      · have hpos : 0 < (nbF f (n / 256)).length := List.length_pos_iff.2 he
        have := nbF_head f (n / 256) hlt hpos
        rw [List.getD_eq_getElem?_getD, List.getElem?_append_left hpos, ← List.getD_eq_getElem?_getD]
        exact this
theorem okN_nb {x : Int} (h0 : 0 ≤ x) (h1 : x ≤ 9223372036854775807) : okN (nbS x) ∧ be (nbS x) = x := by
  have hlt : x.toNat < 256 ^ 8 := by
    have : (256 : Nat) ^ 8 = 18446744073709551616 := by decide
    omega
  have hbe : be (nbS x) = x := by
    unfold nbS
    rw [nbF_be 8 _ hlt]
    omega
  refine ⟨⟨nbS_len x, nbF_head 8 _ hlt, fun h8 => ?_⟩, hbe⟩
  have hb := nbS_bytes x
  have := be_mono hb 7 1 (by omega)
  rw [show (1 : Nat) + 7 = 8 from rfl, show (nbS x).take 8 = nbS x from List.take_of_length_le (by omega), hbe] at this
  obtain ⟨c, r, hc⟩ : ∃ c r, nbS x = c :: r := by
    cases hh : nbS x with
    | nil => rw [hh] at h8; simp at h8
    | cons c r => exact ⟨c, r, rfl⟩
  rw [hc] at this ⊢
  have e : be ((c :: r).take 1) = c := by simp [be]
  rw [e] at this
  simp only [List.getD_cons_zero]
  omega
theorem h32S_self (x : H32) : h32S x.1 = x := by simp [h32S, x.2]
theorem set_get {q m : Pm} (h : MayP m) (hok : m.ok) {t : Int} (ht : t ∈ allT) : setM q t (getS m t) = some (q.copy m t) := by
  obtain ⟨_, _, c1, c2, i1, i2, a1, e1, e2, n1, n2, d1, d2, _, _⟩ := h
  obtain ⟨_, _, _, ka, _⟩ := hok
  obtain ⟨qc, rc⟩ := okN_nb (x := m.c) (by omega) (by omega)
  obtain ⟨qi, ri⟩ := okN_nb (x := m.i) (by omega) (by omega)
  obtain ⟨qa, ra⟩ := okN_nb (x := m.a) (by omega) (by have := ka.2; omega)
  obtain ⟨qe, re⟩ := okN_nb (x := m.e) (by omega) (by omega)
  obtain ⟨qn, rn⟩ := okN_nb (x := m.n) (by omega) (by omega)
  obtain ⟨qd, rd⟩ := okN_nb (x := m.d) (by omega) (by omega)
  simp only [allT, List.mem_cons, List.not_mem_nil, or_false] at ht
  rcases ht with rfl | rfl | rfl | rfl | rfl | rfl | rfl | rfl | rfl | rfl | rfl | rfl <;>
    simp [setM, numOff, hashOff, getS, Pm.copy, setNum, setHash, setText, h32S_self, m.h.2, m.s.2, m.p.2, m.t.2, qc, rc, qi, ri, qa, ra, qe, re, qn, rn, qd, rd]
theorem find_recs (m : Pm) : ∀ (fs : List Int) (t : Int), t ∈ fs → findS t (fs.map fun t => (⟨t, getS m t⟩ : Rc)) = some ⟨t, getS m t⟩
  | f :: fs, t, h => by
    by_cases e : f = t
    · subst e; simp [findS]
    · have := find_recs m fs t (by rcases List.mem_cons.1 h with h | h; exact absurd h.symm e; exact h)
      unfold findS at this ⊢
      rw [List.map_cons, List.find?_cons_of_neg (by simp [e])]
      exact this
theorem decF_get {m : Pm} (hm : MayP m) (hok : m.ok) {l : List Rc} : ∀ (fs pre : List Int), (∀ t ∈ fs, t ∈ allT ∧ findS t l = some ⟨t, getS m t⟩) → decF fs l (keepS m pre) = some (keepS m (pre ++ fs))
  | [], pre, _ => by simp [decF]
  | t :: fs, pre, h => by
    obtain ⟨h1, h2⟩ := h t List.mem_cons_self
    rw [decF, h2, Option.bind_some, set_get hm hok h1, Option.bind_some, ← keep_snoc m pre t h1, decF_get hm hok fs (pre ++ [t]) (fun s hs => h s (List.mem_cons_of_mem _ hs)), List.append_assoc]
    rfl
theorem decB_get {m : Pm} (hm : MayP m) (hok : m.ok) {l : List Rc} (h : ∀ t ∈ fieldsS m.k, findS t l = some ⟨t, getS m t⟩) : decB m.k (l, 0) = some m := by
  unfold decB
  rw [if_neg (by simp [hm.1])]
  have h1 := decF_get hm hok (fieldsS m.k) [] (fun t ht => ⟨fields_all ht, h t ht⟩)
  rw [keep_nil, List.nil_append] at h1
  rw [h1, Option.bind_some, show keepS m (fieldsS m.k) = m from hm.2.1.symm, if_pos hm]
theorem decW_cons (k : Int) (s : List Int) : decW (0 :: k :: s) = decB k (decS [] s) := by
  unfold decW
  rw [if_neg (by simp)]
  have e : kindS (0 :: k :: s) = k := by simp [kindS]
  rw [e]
  rfl
theorem all_odd {t : Int} (h : t ∈ allT) : t % 2 = 1 ∧ 1 ≤ t ∧ t ≤ 23 := by
  simp only [allT, List.mem_cons, List.not_mem_nil, or_false] at h
  omega
theorem recs_mem {m : Pm} {r : Rc} (h : r ∈ recsS m) : r.t ∈ allT := by
  simp only [recsS, List.mem_map] at h
  obtain ⟨t, ht, rfl⟩ := h
  exact fields_all ht
theorem recs_ev (m : Pm) (ks : List Int) : ∀ r ∈ recsS m, r.t % 2 = 0 → r.t ∈ ks := fun r hr h => by
  have := all_odd (recs_mem hr)
  omega
theorem decW_enc {m : Pm} (hm : MayP m) (hf : m.fine) : decW (0 :: m.k :: flatS (recsS m)) = some m := by
  rw [decW_cons, dec_enc [] (recsS m) (recs_ok hf) (recs_ev m []) _ (recs_enc hm)]
  exact decB_get hm hf.ok fun t ht => find_recs m _ t ht
theorem top_all {acc : List Rc} {x : Int} (h : ∀ r ∈ acc, r.t < x) : topB acc x = true := by
  unfold topB
  cases hg : acc.getLast? with
  | none => rfl
  | some q => exact decide_eq_true (h q (List.mem_of_getLast? hg))
theorem more_enc {m : Pm} (hm : MayP m) (hf : m.fine) {x : Int} {v : List Int} (hx : 24 ≤ x) (hvl : v.length ≤ 1000) : encS (recsS m ++ [⟨x, v⟩]) = (flatS (recsS m) ++ recS ⟨x, v⟩, 0) := by
  have h1 := recs_count m
  have h2 := flat_bound2 (recs_len hm)
  have h6 : (recsS m).length * 2130 ≤ 6 * 2130 := Nat.mul_le_mul_right _ h1
  have h3 := recS_len ⟨x, v⟩
  have h4 := sizeS_le x
  have h5 := sizeS_le (v.length : Int)
  simp only at h3
  rw [encS_ok (asc_snoc (recs_asc hm.1) (top_all fun r hr => by have := all_odd (recs_mem hr); show r.t < x; omega)) ⟨by simp; omega, by rw [flatS_snoc, List.length_append]; omega⟩, flatS_snoc]
theorem more_ok {m : Pm} (hf : m.fine) {x : Int} {v : List Int} (hx : U64 x) (hv : Bytes v) : ∀ r ∈ recsS m ++ [⟨x, v⟩], Rc.ok r := by
  intro r hr
  rcases List.mem_append.1 hr with h | h
  · exact recs_ok hf r h
  · rw [List.mem_singleton.1 h]; exact ⟨hx, hv⟩
theorem more_ev (m : Pm) {x : Int} {v : List Int} {ks : List Int} (h : x % 2 = 0 → x ∈ ks) : ∀ r ∈ recsS m ++ [⟨x, v⟩], r.t % 2 = 0 → r.t ∈ ks := by
  intro r hr h0
  rcases List.mem_append.1 hr with h1 | h1
  · exact recs_ev m ks r h1 h0
  · rw [List.mem_singleton.1 h1] at h0 ⊢; exact h h0
theorem decW_odd {m : Pm} (hm : MayP m) (hf : m.fine) {x : Int} {v : List Int} (hx : 24 ≤ x) (hu : U64 x) (hv : Bytes v) (hvl : v.length ≤ 1000) (hodd : x % 2 = 1) : decW (0 :: m.k :: (flatS (recsS m) ++ recS ⟨x, v⟩)) = some m := by
  rw [decW_cons, dec_enc [] _ (more_ok hf hu hv) (more_ev m (by omega)) _ (more_enc hm hf hx hvl)]
  refine decB_get hm hf.ok fun t ht => ?_
  have := find_recs m _ t ht
  rw [findS_snoc, show findS t (recsS m) = some ⟨t, getS m t⟩ from this]
theorem dec_even (ks : List Int) : ∀ (f : Nat) (acc : List Rc) (s : List Int) (l : List Rc), decL ks f acc s = (l, 0) → (∀ r ∈ acc, r.t % 2 = 0 → r.t ∈ ks) → ∀ r ∈ l, r.t % 2 = 0 → r.t ∈ ks
  | f, acc, [], l, h, ha => by rw [decL_nil] at h; cases h; exact ha
  | 0, acc, c :: s, l, h, ha => by simp [decL] at h
  | f + 1, acc, c :: s, l, h, ha => by
    simp only [decL] at h
    split at h
    · rename_i h1; exact absurd (congrArg Prod.snd h) h1
    · split at h
      · cases h
      · split at h
        · rename_i h1; exact absurd (congrArg Prod.snd h) h1
        · split at h
          · cases h
          · split at h
            · cases h
            · rename_i h1
              refine dec_even ks f _ _ l h ?_
              intro r hr h0
              rcases List.mem_append.1 hr with h2 | h2
              · exact ha r h2 h0
              · rw [List.mem_singleton.1 h2] at h0 ⊢
                exact Decidable.byContradiction fun h3 => h1 ⟨h0, h3⟩
theorem decW_even {m : Pm} (hm : MayP m) (hf : m.fine) {x : Int} {v : List Int} (hx : 24 ≤ x) (hu : U64 x) (hv : Bytes v) (hvl : v.length ≤ 1000) (hev : x % 2 = 0) (hs : Bytes (flatS (recsS m) ++ recS ⟨x, v⟩)) : decW (0 :: m.k :: (flatS (recsS m) ++ recS ⟨x, v⟩)) = none := by
  rw [decW_cons]
  generalize hS : flatS (recsS m) ++ recS ⟨x, v⟩ = s at *
  by_cases h0 : (decS [] s).2 = 0
  · exfalso
    obtain ⟨q1, q2, q3, q4⟩ := decodes_law [] s hs h0
    have hl : decS [] s = ((decS [] s).1, 0) := by rw [← h0]
    generalize (decS [] s).1 = l at *
    have hev2 : ∀ r ∈ l, r.t % 2 = 0 → r.t ∈ ([] : List Int) := by
      unfold decS at hl
      split at hl
      · cases hl
      · exact dec_even [] 64 [] s l hl (by simp)
    have e1 := dec_enc [x] l q4 (fun r hr h => absurd (hev2 r hr h) (by simp)) s q1
    have e2 := dec_enc [x] _ (more_ok hf hu hv) (more_ev m (fun _ => by simp)) s (by rw [← hS]; exact more_enc hm hf hx hvl)
    rw [e1] at e2
    have e3 := congrArg Prod.fst e2
    simp only at e3
    have := hev2 ⟨x, v⟩ (by rw [e3]; simp) hev
    simp at this
  · unfold decB
    rw [if_pos (.inl h0)]
theorem recS_prefix {a b : Rc} (ha : Rc.ok a ∧ a.v.length ≤ 65536) (hb : Rc.ok b ∧ b.v.length ≤ 65536) {X Y : List Int} (h : recS a ++ X = recS b ++ Y) : a = b ∧ X = Y := by
  obtain ⟨⟨⟨a0, a1⟩, _⟩, al⟩ := ha
  obtain ⟨⟨⟨b0, b1⟩, _⟩, bl⟩ := hb
  unfold recS at h
  simp only [List.append_assoc] at h
  have h1 := congrArg readS h
  rw [readS_num a.t a0 a1, readS_num b.t b0 b1] at h1
  have e1 : a.t = b.t := congrArg Prod.fst h1
  rw [e1] at h
  have h2 := List.append_cancel_left h
  have h3 := congrArg readS h2
  rw [readS_num a.v.length (by omega) (by omega), readS_num b.v.length (by omega) (by omega)] at h3
  have e2 : (a.v.length : Int) = b.v.length := congrArg Prod.fst h3
  rw [e2] at h2
  have h4 := List.append_cancel_left h2
  obtain ⟨e3, e4⟩ := List.append_inj h4 (by omega)
  exact ⟨Rc.ext e1 e3, e4⟩
theorem flat_prefix : ∀ (l L : List Rc) (rest : List Int), (∀ r ∈ l, Rc.ok r ∧ r.v.length ≤ 65536) → (∀ r ∈ L, Rc.ok r ∧ r.v.length ≤ 65536) → flatS l ++ rest = flatS L → ∃ L2, L = l ++ L2 ∧ rest = flatS L2
  | [], L, rest, _, _, h => ⟨L, rfl, by simpa [flatS] using h⟩
  | a :: l, [], rest, _, _, h => by
    have h1 := congrArg List.length h
    have h2 := numS_pos a.t
    rw [flatS_cons] at h1
    simp only [recS, List.length_append, flatS, List.flatMap_nil, List.length_nil] at h1
    omega
  | a :: l, b :: L, rest, hl, hL, h => by
    rw [flatS_cons, flatS_cons, List.append_assoc] at h
    obtain ⟨rfl, h2⟩ := recS_prefix (hl a List.mem_cons_self) (hL b List.mem_cons_self) h
    obtain ⟨L2, rfl, e⟩ := flat_prefix l L rest (fun r hr => hl r (List.mem_cons_of_mem _ hr)) (fun r hr => hL r (List.mem_cons_of_mem _ hr)) h2
    exact ⟨L2, rfl, e⟩
theorem decF_none {l : List Rc} {t : Int} (hn : findS t l = none) : ∀ (fs : List Int) (m : Pm), t ∈ fs → decF fs l m = none
  | s :: fs, m, h => by
    rw [decF]
    by_cases e : t = s
    · subst e; rw [hn]; rfl
    · have hm : t ∈ fs := by rcases List.mem_cons.1 h with h | h; exact absurd h e; exact h
      cases findS s l with
      | none => rfl
      | some r =>
        rw [Option.bind_some]
        cases setM m s r.v with
        | none => rfl
        | some q => rw [Option.bind_some]; exact decF_none hn fs q hm
theorem decW_cut {m : Pm} (hm : MayP m) (hf : m.fine) (hs : Bytes (flatS (recsS m))) : ∀ (j : Nat), j < (0 :: m.k :: flatS (recsS m)).length → decW ((0 :: m.k :: flatS (recsS m)).take j) = none
  | 0, _ => rfl
  | 1, _ => rfl
  | j + 2, hj => by
    simp only [List.length_cons] at hj
    rw [List.take_succ_cons, List.take_succ_cons, decW_cons]
    have hlt := List.take_append_drop j (flatS (recsS m))
    have hb : Bytes ((flatS (recsS m)).take j) := fun c hc => hs c (List.mem_of_mem_take hc)
    generalize hS : (flatS (recsS m)).take j = s at *
    by_cases h0 : (decS [] s).2 = 0
    · obtain ⟨q1, q2, q3, q4⟩ := decodes_law [] s hb h0
      obtain ⟨w1, w2, w3, w4⟩ := encS_invW q1
      have hl : decS [] s = ((decS [] s).1, 0) := by rw [← h0]
      rw [hl]
      generalize (decS [] s).1 = l at *
      rw [w1] at hlt
      obtain ⟨L2, e1, e2⟩ := flat_prefix l (recsS m) _ (fun r hr => ⟨q4 r hr, Nat.le_trans (v_le_flat hr) q2⟩) (fun r hr => ⟨recs_ok hf r hr, Nat.le_trans (recs_len hm r hr) (by omega)⟩) hlt
      have hne : L2 ≠ [] := by
        rintro rfl
        have := congrArg List.length e2
        rw [List.length_drop, show (flatS ([] : List Rc)).length = 0 from rfl] at this
        omega
      obtain ⟨r, L3, rfl⟩ := List.exists_cons_of_ne_nil hne
      have hnd : ((recsS m).map Rc.t).Nodup := by
        have e : (recsS m).map Rc.t = fieldsS m.k := by unfold recsS; rw [List.map_map]; exact List.map_id _
        rw [e]; exact fields_nodup m.k
      rw [e1, List.map_append, List.map_cons] at hnd
      have hfn : findS r.t l = none := by
        unfold findS
        rw [List.find?_eq_none]
        intro q hq
        have := (List.nodup_append.1 hnd).2.2 q.t (List.mem_map_of_mem hq) r.t List.mem_cons_self
        simpa using this
      have hrm : r.t ∈ fieldsS m.k := by
        have : r ∈ recsS m := by rw [e1]; simp
        simp only [recsS, List.mem_map] at this
        obtain ⟨t, ht, rfl⟩ := this
        exact ht
      unfold decB
      rw [if_neg (by simp [hm.1])]
      simp only
      rw [decF_none hfn _ _ hrm]
      rfl
    · unfold decB
      rw [if_pos (.inl h0)]
theorem bare_bare (m : Pm) : bareS (bareS m) = bareS m := by
  have hk : (bareS m).k = m.k := rfl
  show keepS (bareS m) (fieldsS m.k) = keepS m (fieldsS m.k)
  simp only [keepS, bareS]
  congr 1 <;> (split <;> rfl)
theorem if_I64 {p : Prop} [Decidable p] {x : Int} (h : I64 x) : I64 (if p then x else 0) := by
  split
  · exact h
  · exact ⟨by omega, by omega⟩
theorem if_H32 {p : Prop} [Decidable p] {x : H32} (h : Bytes x.1) : Bytes (if p then x else zero32).1 := by
  split
  · exact h
  · exact zero_bytes
theorem if_Bs {p : Prop} [Decidable p] {x : List Int} (h : Bytes x) : Bytes (if p then x else []) := by
  split
  · exact h
  · exact bytes_nil
theorem if_Len {p : Prop} [Decidable p] {x : List Int} (h : x.length ≤ 140737488351232) : (if p then x else []).length ≤ 140737488351232 := by
  split
  · exact h
  · simp
theorem bare_fine {m : Pm} (hf : m.fine) : (bareS m).fine := by
  obtain ⟨⟨k1, k2, k3, k4, k5, k6, k7⟩, fo, fr, fh, fs, fp, ft, fl, gl⟩ := hf
  exact ⟨⟨k1, if_I64 k2, if_I64 k3, if_I64 k4, if_I64 k5, if_I64 k6, if_I64 k7⟩, if_Bs fo, if_Bs fr, if_H32 fh, if_H32 fs, if_H32 fp, if_H32 ft, if_Len fl, if_Len gl⟩
theorem recS_bytesW {r : Rc} (h : Rc.ok r) : Bytes (recS r) := by
  unfold recS
  exact bytes_append (bytes_append (numS_bytes _ h.1.1) (numS_bytes _ (by omega))) h.2
theorem flatS_bytesW : ∀ {l : List Rc}, (∀ r ∈ l, Rc.ok r) → Bytes (flatS l)
  | [], _ => by intro c hc; cases hc
  | r :: l, h => by
    rw [flatS_cons]
    exact bytes_append (recS_bytesW (h r List.mem_cons_self)) (flatS_bytesW fun q hq => h q (List.mem_cons_of_mem _ hq))
end Go.Proofs.Ytnlemcfhndjheaa.AM

/- wire: a message that comes in. -/
namespace Go.Proofs.Ytnlemcfhndjheaa.AM
open Go
set_option linter.unusedSimpArgs false
set_option linter.unusedVariables false
theorem reads_msg {P : Program} {t ti th tb te : TypeId} {f1 f2 f3 f4 f5 f6 f7 f8 f9 f10 f11 f12 f13 : Field} (ht : P.underlying t = some (.struct #[f1, f2, f3, f4, f5, f6, f7, f8, f9, f10, f11, f12, f13])) (hc : P.cellsOf t = 137)
    (ho : [f1.offset, f2.offset, f3.offset, f4.offset, f5.offset, f6.offset, f7.offset, f8.offset, f9.offset, f10.offset, f11.offset, f12.offset, f13.offset] = [0, 1, 2, 3, 4, 5, 37, 38, 70, 102, 134, 135, 136])
    (hg : [f1.type, f2.type, f3.type, f4.type, f5.type, f6.type, f7.type, f8.type, f9.type, f10.type, f11.type, f12.type, f13.type] = [ti, ti, ti, ti, ti, th, tb, th, th, th, ti, ti, tb])
    (hi : P.underlying ti = some (.int .i64)) (ci : P.cellsOf ti = 1) (hh : P.underlying th = some (.array 32 te)) (ch : P.cellsOf th = 32) (hb : P.underlying tb = some (.slice te)) (cb : P.cellsOf tb = 1) (he : P.underlying te = some (.int .u8)) (ce : P.cellsOf te = 1) (be : P.bytesOf te = 1) :
    Reads P t (fun xs => ∃ m : Pm, xs = msC m (.slice .none none (m.o.map u8)) (.slice .none none (m.r.map u8)) ∧ m.fine) := by
  simp only [List.cons.injEq, and_true] at ho hg
  obtain ⟨o1, o2, o3, o4, o5, o6, o7, o8, o9, o10, o11, o12, o13⟩ := ho
  obtain ⟨g1, g2, g3, g4, g5, g6, g7, g8, g9, g10, g11, g12, g13⟩ := hg
  have rI : Reads P ti _ := reads_i64 hi
  have rH : Reads P th _ := reads_hash hh (by rw [ch, ce]) he ce
  have rB : Reads P tb _ := reads_bytes hb he ce be
  refine (Reads.struct (fs := [f1, f2, f3, f4, f5, f6, f7, f8, f9, f10, f11, f12, f13]) ht (by rw [hc]; simp [g1, g2, g3, g4, g5, g6, g7, g8, g9, g10, g11, g12, g13, ci, ch, cb])
    (ReadsF.cons (a := 1) (by rw [g1]; exact rI) (by rw [o1]) (by rw [g1]; exact ci) (ReadsF.cons (a := 1) (by rw [g2]; exact rI) (by rw [o2]) (by rw [g2]; exact ci) (ReadsF.cons (a := 1) (by rw [g3]; exact rI) (by rw [o3]) (by rw [g3]; exact ci) (ReadsF.cons (a := 1) (by rw [g4]; exact rI) (by rw [o4]) (by rw [g4]; exact ci) (ReadsF.cons (a := 1) (by rw [g5]; exact rI) (by rw [o5]) (by rw [g5]; exact ci)
    (ReadsF.cons (a := 32) (by rw [g6]; exact rH) (by rw [o6]) (by rw [g6]; exact ch) (ReadsF.cons (a := 1) (by rw [g7]; exact rB) (by rw [o7]) (by rw [g7]; exact cb) (ReadsF.cons (a := 32) (by rw [g8]; exact rH) (by rw [o8]) (by rw [g8]; exact ch) (ReadsF.cons (a := 32) (by rw [g9]; exact rH) (by rw [o9]) (by rw [g9]; exact ch) (ReadsF.cons (a := 32) (by rw [g10]; exact rH) (by rw [o10]) (by rw [g10]; exact ch)
    (ReadsF.cons (a := 1) (by rw [g11]; exact rI) (by rw [o11]) (by rw [g11]; exact ci) (ReadsF.cons (a := 1) (by rw [g12]; exact rI) (by rw [o12]) (by rw [g12]; exact ci) (ReadsF.cons (a := 1) (by rw [g13]; exact rB) (by rw [o13]) (by rw [g13]; exact cb) ReadsF.nil)))))))))))))).imp ?_
  rintro xs ⟨_, _, rfl, ⟨x1, rfl, w1⟩, _, _, rfl, ⟨x2, rfl, w2⟩, _, _, rfl, ⟨x3, rfl, w3⟩, _, _, rfl, ⟨x4, rfl, w4⟩, _, _, rfl, ⟨x5, rfl, w5⟩, _, _, rfl, ⟨x6, rfl, n6, w6⟩, _, _, rfl, ⟨x7, rfl, w7, n7⟩, _, _, rfl, ⟨x8, rfl, n8, w8⟩, _, _, rfl, ⟨x9, rfl, n9, w9⟩, _, _, rfl, ⟨x10, rfl, n10, w10⟩, _, _, rfl, ⟨x11, rfl, w11⟩, _, _, rfl, ⟨x12, rfl, w12⟩, _, _, rfl, ⟨x13, rfl, w13, n13⟩, rfl⟩
  refine ⟨⟨x1, x2, x3, x4, x5, ⟨x6, n6⟩, x7, ⟨x8, n8⟩, ⟨x9, n9⟩, ⟨x10, n10⟩, x11, x12, x13⟩, ?_, ⟨w1, w2, w3, w4, w5, w11, w12⟩, w7, w13, w6, w8, w9, w10, n7, n13⟩
  simp only [msC, List.cons_append, List.nil_append, List.append_nil]
end Go.Proofs.Ytnlemcfhndjheaa.AM

/- layer 06: the calls that the laws make. -/
namespace Go.Proofs.Ytnlemcfhndjheaa.AM
open Go
set_option maxRecDepth 100000
set_option maxHeartbeats 4000000
set_option linter.unusedSimpArgs false
set_option linter.unusedVariables false
theorem fmtx_ow {v : AV} {l : List Int} (h : Fm v l) (g : Tx v l) : Ow v l := by
  rcases h with ⟨rfl, rfl⟩ | ⟨o, rfl⟩
  · exact ow_nil
  · have := g.strip
    rw [strip_slice] at this
    have e : stripO o = o := by injection this
    cases o with
    | none => exact ow_none l
    | full => exact .inr ⟨_, .inr (.inl rfl), rfl⟩
    | tok i => cases e
    | fresh => cases e
theorem Ow.beq {v : AV} {l : List Int} (h : Ow v l) : beqV v v = true := by
  rcases h with ⟨rfl, rfl⟩ | ⟨o, ho, rfl⟩
  · rfl
  · rcases ho with rfl | rfl | ⟨i, rfl⟩ <;> simp [beqV, beqVL_u8]
theorem Ow.beqm {m q : Pm} {vo vr : AV} (h : Ow vo m.o) (g : Ow vr m.r) : beqVL (msC q vo vr) (msC q vo vr) = true := ms_beq q vo vr h.beq g.beq
theorem call_encW {m : Pm} {vo vr : AV} (wo : Ow vo m.o) (wr : Ow vr m.r) (hf : m.fine) : ∃ v, IsEnc v (encW m) ∧ ∀ h, ag T 15 [.agg (msC m vo vr)] h = some (Go.Proofs.Ytnlemcfhndjheaa.AM.adopt v h) :=
  call_mE rfl t15 rfl rfl wo wr fun vo vr fo fr to tr => encode_ok m vo vr hf fo fr to tr
theorem call_rencW {m : Pm} {vo vr : AV} (wo : Ow vo m.o) (wr : Ow vr m.r) (hf : m.fine) : ∃ v, IsEnc v (encW m) ∧ ∀ h, ag T 13 [.agg (msC m vo vr)] h = some (Go.Proofs.Ytnlemcfhndjheaa.AM.adopt v h) :=
  call_mE rfl t13 rfl rfl wo wr fun vo vr fo fr to tr => rencode_ok m vo vr hf fo fr to tr
def pB (m : Pm) : List Int := 0 :: m.k :: flatS (recsS m)
theorem encW_cases {v : AV} {m : Pm} (h : IsEnc v (encW m)) : (¬ MayP m ∧ v = .tup [.nil, i64 1]) ∨ (MayP m ∧ ∃ o, (o = .fresh ∨ o = .none) ∧ v = .tup [.slice o none ((pB m).map u8), i64 0]) := by
  unfold encW at h
  split at h
  · rename_i hm
    rcases h with ⟨h1, _⟩ | ⟨_, ⟨h1, _⟩ | h1⟩
    · exact absurd rfl h1
    · cases h1
    · exact .inr ⟨hm, h1⟩
  · rename_i hm
    rcases h with ⟨_, h1⟩ | ⟨h1, _⟩
    · exact .inl ⟨hm, h1⟩
    · cases h1
theorem call_bareE {m : Pm} {vo vr : AV} (wo : Ow vo m.o) (wr : Ow vr m.r) (hf : m.fine) : ∃ ao ar, Ow ao (bareS m).o ∧ Ow ar (bareS m).r ∧ ∀ h, ag T 18 [.agg (msC m vo vr)] h = some (.agg (msC (bareS m) ao ar), h) := by
  obtain ⟨v, ⟨ao, ar, rfl, h1, h2⟩, h3⟩ := call_mE (P := fun v => ∃ ao ar, v = .agg (msC (bareS m) ao ar) ∧ Ow ao (bareS m).o ∧ Ow ar (bareS m).r) rfl t18 rfl rfl wo wr fun vo vr fo fr to tr => by
    obtain ⟨ao, ar, h1, h2, h3, h4, h5⟩ := bare_ok m vo vr fo fr to tr hf.ol hf.rl
    exact ⟨_, h1, ao, ar, rfl, fmtx_ow h2 h4, fmtx_ow h3 h5⟩
  exact ⟨ao, ar, h1, h2, h3⟩
theorem call_rbareE {m : Pm} {vo vr : AV} (wo : Ow vo m.o) (wr : Ow vr m.r) : ∃ ao ar, Ow ao (bareS m).o ∧ Ow ar (bareS m).r ∧ ∀ h, ag T 19 [.agg (msC m vo vr)] h = some (.agg (msC (bareS m) ao ar), h) := by
  obtain ⟨v, ⟨ao, ar, rfl, h1, h2⟩, h3⟩ := call_mE (P := fun v => ∃ ao ar, v = .agg (msC (bareS m) ao ar) ∧ Ow ao (bareS m).o ∧ Ow ar (bareS m).r) rfl t19 rfl rfl wo wr fun vo vr fo fr to tr =>
    ⟨_, rbare_ok m vo vr to tr, _, _, rfl, ow_if (fmtx_ow fo to) ow_nil, ow_if (fmtx_ow fr tr) ow_nil⟩
  exact ⟨ao, ar, h1, h2, h3⟩
theorem call_mT {f : Nat} {F : AFn} (hx : T.ext f = none) (hf : T.fn f = some F) (hp : F.pure = true) (hl : 1 = F.np) {m : Pm} {P : AV → Prop} (hr : ∃ v, prun T F [.agg (msC m (.slice .none none (m.o.map u8)) (.slice .none none (m.r.map u8)))] = some v ∧ P v) : ∃ v, P v ∧ ∀ i j h, ag T f [.agg (msC m (.slice (.tok i) none (m.o.map u8)) (.slice (.tok j) none (m.r.map u8)))] h = some (Go.Proofs.Ytnlemcfhndjheaa.AM.adopt v h) := by
  obtain ⟨v, h1, h2⟩ := hr
  refine ⟨v, h2, fun i j h => ?_⟩
  have e : [AV.agg (msC m (.slice (.tok i) none (m.o.map u8)) (.slice (.tok j) none (m.r.map u8)))].map stripEl = [AV.agg (msC m (.slice .none none (m.o.map u8)) (.slice .none none (m.r.map u8)))] := by
    simp only [List.map_cons, List.map_nil, stripEl, ms_strip, strip_slice, stripO_tok]
  refine call_pureE (T := T) hx hf hp hl ?_ ?_ (by rw [e]; exact h1)
  · simp only [List.map_cons, List.map_nil, strip_agg, closedL, namL, nam, ms_nam, Bool.and_true, Bool.false_and]
  · rw [e]; exact ms_closed m (tx_slice _).cl (tx_slice _).cl
theorem pB_bytes {m : Pm} (hm : MayP m) (hf : m.fine) : Bytes (pB m) := by
  intro c hc
  have hk := kinds hm.1
  rcases List.mem_cons.1 hc with rfl | hc
  · omega
  · rcases List.mem_cons.1 hc with rfl | hc
    · omega
    · exact flatS_bytesW (recs_ok hf) c hc
theorem pB_len {m : Pm} (hm : MayP m) : 2 ≤ (pB m).length ∧ (pB m).length ≤ 12800 := by
  have h1 := recs_count m
  have h2 := flat_bound2 (recs_len hm)
  have h3 : (recsS m).length * 2130 ≤ 6 * 2130 := Nat.mul_le_mul_right _ h1
  simp only [pB, List.length_cons]
  omega
theorem pB_dec {m : Pm} (hm : MayP m) (hf : m.fine) : decW (pB m) = some m := decW_enc hm hf
theorem pB_odd {m : Pm} (hm : MayP m) (hf : m.fine) {x : Int} {v : List Int} (hx : 24 ≤ x) (hu : U64 x) (hv : Bytes v) (hvl : v.length ≤ 1000) (hodd : x % 2 = 1) : decW (pB m ++ recS ⟨x, v⟩) = some m := decW_odd hm hf hx hu hv hvl hodd
theorem pB_even {m : Pm} (hm : MayP m) (hf : m.fine) {x : Int} (hx : 24 ≤ x) (hu : U64 x) (hev : x % 2 = 0) : decW (pB m ++ recS ⟨x, []⟩) = none :=
  decW_even hm hf hx hu bytes_nil (by simp) hev (bytes_append (flatS_bytesW (recs_ok hf)) (recS_bytesW (show Rc.ok ⟨x, []⟩ from ⟨hu, bytes_nil⟩)))
theorem pB_cut {m : Pm} (hm : MayP m) (hf : m.fine) (j : Nat) (hj : j < (pB m).length) : decW ((pB m).take j) = none := decW_cut hm hf (flatS_bytesW (recs_ok hf)) j hj
theorem wbare_run (m : Pm) (hf : m.fine) (vo vr : AV) (wo : Ow vo m.o) (wr : Ow vr m.r) : prun T F8 [.agg (msC m vo vr)] = some (.sc (.bool true)) := by
  have bf := bare_fine hf
  obtain ⟨ao, ar, wao, war, hbr⟩ := call_bareE wo wr hf
  obtain ⟨v1, i1, e1⟩ := call_encW wao war bf
  obtain ⟨co, cr, wco, wcr, hrb⟩ := call_rbareE wo wr
  obtain ⟨ro, rr, wro, wrr, hbb⟩ := call_bareE wao war bf
  rw [bare_bare] at wro wrr hbb
  have s1 := fun h => call_sameE wao war wco wcr bf bf h
  have s2 := fun h => call_sameE wro wrr wao war bf bf h
  have m1 := fun h => call_rmayE wao war bf h
  have m2 := fun h => call_rmayE wo wr hf h
  have s3 := fun h => call_sameE wao war wo wr bf hf h
  rw [decide_eq_true rfl] at s1 s2
  have k1 := wo.fm.one
  have k2 := wr.fm.one
  have k3 := wao.fm.one
  have k4 := war.fm.one
  have q1 := wao.beqm (q := bareS m) war
  have q2 := wo.beqm (q := m) wr
  rcases encW_cases i1 with ⟨hn, rfl⟩ | ⟨hy, o, ho, rfl⟩
  · have hnm : ¬ MayP m := fun hm => hn (hm.2.1 ▸ hm)
    rw [decide_eq_false hn] at m1
    rw [decide_eq_false hnm] at m2
    refine WP_eq (prun_wp ?_)
    first | have hb := hb | have hb := trivial
    repeat' (first | (simp -implicitDefEqProofs (disch := omega) only [hb, F8, wG, hbr, e1, hrb, hbb, s1, s2, s3, m1, m2, call_lives, q1, q2, k1, k2, k3, k4, p11, p12, p17, p18, p19, wC, wO, initE, aop, Nat.reduceEqDiff, ↓reduceIte, Nat.reduceAdd, finish, resOf, tupOf, AM.freeze, freeze1, freezeL, closed, nam, namL, if_true, if_false, deref, boxAt, exAt, ldCells, oneL, oneCell, Nat.reduceLeDiff, evL, adopt, rigid, rigidL, trim, Int.reduceEq, Int.reduceMod, Int.reduceDiv, if_pos, if_neg, asI, forall_const, implies_true, chkD, chkO, chkW, effB, reB, vEq, beq_self_eq_true, Nat.reduceSub, Nat.reduceLT, Int.reduceSub, Int.reduceAdd, Int.reduceMul, Int.reduceLT, Int.reduceLE, Int.reduceToNat, optI, aslice, cutSl, cutMs, cutStr, cutOwn]) | ((first | rw [WP_condK] | rw [WP_opsG] | rw [WP_quiG] | rw [WP_dG]); refine And.intro (fun hb => ?_) (fun hb => ?_) <;> (first | have hd := dq1 hb | have hd := dq2 hb | have hd := dq3 hb | have hd := dq4 hb | skip)))
  · rw [decide_eq_true hy] at m1
    by_cases hm : MayP m
    · rw [decide_eq_true hm.2.1.symm] at s3
      rw [decide_eq_true hm] at m2
      rcases ho with rfl | rfl
      all_goals
        refine WP_eq (prun_wp ?_)
        first | have hb := hb | have hb := trivial
        repeat' (first | (simp -implicitDefEqProofs (disch := omega) only [hb, F8, wG, hbr, e1, hrb, hbb, s1, s2, s3, m1, m2, call_lives, q1, q2, k1, k2, k3, k4, p11, p12, p17, p18, p19, wC, wO, initE, aop, Nat.reduceEqDiff, ↓reduceIte, Nat.reduceAdd, finish, resOf, tupOf, AM.freeze, freeze1, freezeL, closed, nam, namL, if_true, if_false, deref, boxAt, exAt, ldCells, oneL, oneCell, Nat.reduceLeDiff, evL, adopt, rigid, rigidL, trim, Int.reduceEq, Int.reduceMod, Int.reduceDiv, if_pos, if_neg, asI, forall_const, implies_true, chkD, chkO, chkW, effB, reB, vEq, beq_self_eq_true, Nat.reduceSub, Nat.reduceLT, Int.reduceSub, Int.reduceAdd, Int.reduceMul, Int.reduceLT, Int.reduceLE, Int.reduceToNat, optI, aslice, cutSl, cutMs, cutStr, cutOwn]) | ((first | rw [WP_condK] | rw [WP_opsG] | rw [WP_quiG] | rw [WP_dG]); refine And.intro (fun hb => ?_) (fun hb => ?_) <;> (first | have hd := dq1 hb | have hd := dq2 hb | have hd := dq3 hb | have hd := dq4 hb | skip)))
    · rw [decide_eq_false hm] at m2
      rcases ho with rfl | rfl
      all_goals
        refine WP_eq (prun_wp ?_)
        first | have hb := hb | have hb := trivial
        repeat' (first | (simp -implicitDefEqProofs (disch := omega) only [hb, F8, wG, hbr, e1, hrb, hbb, s1, s2, s3, m1, m2, call_lives, q1, q2, k1, k2, k3, k4, p11, p12, p17, p18, p19, wC, wO, initE, aop, Nat.reduceEqDiff, ↓reduceIte, Nat.reduceAdd, finish, resOf, tupOf, AM.freeze, freeze1, freezeL, closed, nam, namL, if_true, if_false, deref, boxAt, exAt, ldCells, oneL, oneCell, Nat.reduceLeDiff, evL, adopt, rigid, rigidL, trim, Int.reduceEq, Int.reduceMod, Int.reduceDiv, if_pos, if_neg, asI, forall_const, implies_true, chkD, chkO, chkW, effB, reB, vEq, beq_self_eq_true, Nat.reduceSub, Nat.reduceLT, Int.reduceSub, Int.reduceAdd, Int.reduceMul, Int.reduceLT, Int.reduceLE, Int.reduceToNat, optI, aslice, cutSl, cutMs, cutStr, cutOwn]) | ((first | rw [WP_condK] | rw [WP_opsG] | rw [WP_quiG] | rw [WP_dG]); refine And.intro (fun hb => ?_) (fun hb => ?_) <;> (first | have hd := dq1 hb | have hd := dq2 hb | have hd := dq3 hb | have hd := dq4 hb | skip)))
theorem ms_cl {m : Pm} : closedL [AV.agg (msC m (.slice .none none (m.o.map u8)) (.slice .none none (m.r.map u8)))] = true := ms_closed m (tx_slice _).cl (tx_slice _).cl
theorem call_wbare (m : Pm) (hf : m.fine) : ag T 8 [.agg (msC m (.slice .none none (m.o.map u8)) (.slice .none none (m.r.map u8)))] [] = some (.sc (.bool true), []) :=
  call_sc rfl t8 rfl rfl rfl ms_cl (wbare_run m hf _ _ (ow_none _) (ow_none _))
end Go.Proofs.Ytnlemcfhndjheaa.AM

/- layer 06: Encodes runs. -/
namespace Go.Proofs.Ytnlemcfhndjheaa.AM
open Go
set_option maxRecDepth 100000
set_option maxHeartbeats 4000000
set_option linter.unusedSimpArgs false
set_option linter.unusedVariables false
theorem wenc_run (m : Pm) (hf : m.fine) : prun T F7 [.agg (msC m (.slice .none none (m.o.map u8)) (.slice .none none (m.r.map u8)))] = some (.sc (.bool true)) := by
  have wo := ow_none m.o
  have wr := ow_none m.r
  have fo := wo.fm
  have fr := wr.fm
  have to := tx_slice m.o
  have tr := tx_slice m.r
  obtain ⟨v1, i1, e1⟩ := call_mT (m := m) rfl t15 rfl rfl (encode_ok m _ _ hf fo fr to tr)
  obtain ⟨v2, i2, e2⟩ := call_rencW wo wr hf
  obtain ⟨v3, i3, b1⟩ := call_mT (m := m) (P := fun v => ∃ ao ar, v = .agg (msC (bareS m) ao ar) ∧ Ow ao (bareS m).o ∧ Ow ar (bareS m).r) rfl t18 rfl rfl (by
    obtain ⟨ao, ar, h1, h2, h3, h4, h5⟩ := bare_ok m _ _ fo fr to tr hf.ol hf.rl
    exact ⟨_, h1, ao, ar, rfl, fmtx_ow h2 h4, fmtx_ow h3 h5⟩)
  obtain ⟨ao, ar, rfl, wao, war⟩ := i3
  obtain ⟨co, cr, wco, wcr, b2⟩ := call_rbareE wo wr
  have bf := bare_fine hf
  have s1 := fun h => call_sameE wao war wco wcr bf bf h
  have s2 := fun i j h => call_sameE (ow_tok i m.o) (ow_tok j m.r) wo wr hf hf h
  have m1 := fun i j h => call_mayE (ow_tok i m.o) (ow_tok j m.r) hf h
  have m2 := fun h => call_rmayE wo wr hf h
  rw [decide_eq_true rfl] at s1
  have hT : decide (m = m) = true := decide_eq_true rfl
  rw [hT] at s2
  have k3 := wao.fm.one
  have k4 := war.fm.one
  have q1 := wo.beqm (q := m) wr
  have q2 := fun i j => (ow_tok i m.o).beqm (q := m) (ow_tok j m.r)
  have q3 := wao.beqm (q := bareS m) war
  have q4 := wco.beqm (q := bareS m) wcr
  have f1 : fitsB m.o.length 1 = true := fits1 (by have := hf.ol; omega)
  have f2 : fitsB m.r.length 1 = true := fits1 (by have := hf.rl; omega)
  rcases encW_cases i1 with ⟨hn, rfl⟩ | ⟨hy, o, ho, rfl⟩
  · rcases encW_cases i2 with ⟨_, rfl⟩ | ⟨hy, _⟩
    · rw [decide_eq_false hn] at m1 m2
      have hneq0 : abin .neq (.string (strOfNums [])) (.string (strOfNums [])) = some (.bool false) := by simp [abin, astr]
      refine WP_eq (prun_wp ?_)
      first | have hb := hb | have hb := trivial
      repeat' (first | (simp -implicitDefEqProofs (disch := omega) only [hb, F7, wG, setEls, List.replicate_zero, aappend, u8_len, f1, f2, e1, e2, b1, b2, s1, s2, m1, m2, call_lives, beqVL_u8, q1, q2, q3, q4, k3, k4, hneq0, p11, p12, p17, p16, p18, p19, wC, wO, initE, aop, Nat.reduceEqDiff, ↓reduceIte, Nat.reduceAdd, finish, resOf, tupOf, AM.freeze, freeze1, freezeL, closed, nam, namL, if_true, if_false, deref, boxAt, exAt, ldCells, oneL, oneCell, Nat.reduceLeDiff, evL, adopt, rigid, rigidL, trim, Int.reduceEq, Int.reduceMod, Int.reduceDiv, if_pos, if_neg, asI, forall_const, implies_true, chkD, chkO, chkW, effB, reB, vEq, beq_self_eq_true, Nat.reduceSub, Nat.reduceLT, Int.reduceSub, Int.reduceAdd, Int.reduceMul, Int.reduceLT, Int.reduceLE, Int.reduceToNat, optI, aslice, cutSl, cutMs, cutStr, cutOwn]) | ((first | rw [WP_condK] | rw [WP_opsG] | rw [WP_quiG] | rw [WP_dG]); refine And.intro (fun hb => ?_) (fun hb => ?_) <;> (first | have hd := dq1 hb | have hd := dq2 hb | have hd := dq3 hb | have hd := dq4 hb | skip)))
    · exact absurd hy hn
  · rcases encW_cases i2 with ⟨hn, _⟩ | ⟨_, o', ho', rfl⟩
    · exact absurd hy hn
    · rw [decide_eq_true hy] at m1 m2
      obtain ⟨v4, i4, d4⟩ := call_decW (pB m) (pB_bytes hy hf) (by have := (pB_len hy).2; omega)
      rw [pB_dec hy hf] at i4
      obtain ⟨go, gr, wgo, wgr, rfl⟩ := i4
      have s3 := fun h => call_sameE wgo wgr wo wr hf hf h
      rw [hT] at s3
      have k5 := wgo.fm.one
      have k6 := wgr.fm.one
      have hbe := byteEls_u8 (pB m)
      generalize pB m = q at *
      have hneq : abin .neq (.string (strOfNums q)) (.string (strOfNums q)) = some (.bool false) := by simp [abin, astr]
      have d5 := fun i h => d4 (.tok i) rfl h
      have d6 := fun h => d4 .none rfl h
      rcases ho with rfl | rfl <;> rcases ho' with rfl | rfl
      all_goals
        refine WP_eq (prun_wp ?_)
        first | have hb := hb | have hb := trivial
        repeat' (first | (simp -implicitDefEqProofs (disch := omega) only [hb, F7, wG, setEls, List.replicate_zero, aappend, u8_len, f1, f2, e1, e2, b1, b2, s1, s2, s3, m1, m2, d5, d6, hbe, hneq, call_lives, beqVL_u8, q1, q2, q3, q4, k3, k4, k5, k6, p11, p12, p17, p16, p18, p19, wC, wO, initE, aop, Nat.reduceEqDiff, ↓reduceIte, Nat.reduceAdd, finish, resOf, tupOf, AM.freeze, freeze1, freezeL, closed, nam, namL, if_true, if_false, deref, boxAt, exAt, ldCells, oneL, oneCell, Nat.reduceLeDiff, evL, adopt, rigid, rigidL, trim, Int.reduceEq, Int.reduceMod, Int.reduceDiv, if_pos, if_neg, asI, forall_const, implies_true, chkD, chkO, chkW, effB, reB, vEq, beq_self_eq_true, Nat.reduceSub, Nat.reduceLT, Int.reduceSub, Int.reduceAdd, Int.reduceMul, Int.reduceLT, Int.reduceLE, Int.reduceToNat, optI, aslice, cutSl, cutMs, cutStr, cutOwn]) | ((first | rw [WP_condK] | rw [WP_opsG] | rw [WP_quiG] | rw [WP_dG]); refine And.intro (fun hb => ?_) (fun hb => ?_) <;> (first | have hd := dq1 hb | have hd := dq2 hb | have hd := dq3 hb | have hd := dq4 hb | skip)))
theorem call_wenc (m : Pm) (hf : m.fine) : ag T 7 [.agg (msC m (.slice .none none (m.o.map u8)) (.slice .none none (m.r.map u8)))] [] = some (.sc (.bool true), []) :=
  call_sc rfl t7 rfl rfl rfl ms_cl (wenc_run m hf)
end Go.Proofs.Ytnlemcfhndjheaa.AM

/- bigsize's Encode of a literal. -/
namespace Go.Proofs.Ytnlemcfhndjheaa.AM
open Go
set_option maxRecDepth 100000
set_option maxHeartbeats 4000000
set_option linter.unusedSimpArgs false
set_option linter.unusedVariables false
theorem enc_smallF (A : List AV) (l : List Rc) (hA : RecsA A l) (hok : ∀ r ∈ l, Rc.ok r) (hB : (flatS l).length ≤ 1152921504606846976) (hn : l.length ≤ 140737488351232) : ∃ v, prun T F14 [.slice .full (some 2) A] = some v ∧ IsEnc v (encS l) := by
  suffices h : WP (fun v => IsEnc v (encS l)) (prun T F14 [.slice .full (some 2) A]) by
    obtain ⟨v, h1, h2⟩ := WP_ex h
    exact ⟨v, h1, h2⟩
  have hcl := hA.2.1
  have hAl := hA.1
  refine prun_wp ?_
  simp -implicitDefEqProofs (disch := omega) only [F14, hAl, wC, initE, aop, Nat.reduceEqDiff, ↓reduceIte, Nat.reduceAdd, finish, resOf, tupOf, AM.freeze, freeze1, freezeL, closed, nam, namL, if_true, if_false, deref, boxAt, exAt, ldCells, oneL, oneCell, Nat.reduceLeDiff, evL, adopt, rigid, rigidL, trim, Int.reduceEq, Int.reduceMod, Int.reduceDiv, if_pos, if_neg, asI, forall_const, implies_true, chkD, chkO, chkW, effB, reB, vEq, beq_self_eq_true, Nat.reduceSub, Nat.reduceLT, Int.reduceSub, Int.reduceAdd, Int.reduceMul, Int.reduceLT, Int.reduceLE, Int.reduceToNat, optI, aslice, cutSl, cutMs, cutStr, cutOwn, cellsOf, one, elCells, lenOf, beqV, beqVL, strip, stripO, convS]
  refine WP_loop (I := fun k e h => ∃ i : Nat, k + i = l.length ∧ getE e 0 = .slice .full (some 2) A ∧ getE e 4 = i64 (flatS (l.take i)).length ∧ getE e 10 = .slice .full (some 2) A ∧ getE e 11 = i64 l.length ∧ getE e 12 = i64 i ∧ ascB (l.take i) = true) ?_ l.length _ _ ⟨0, by omega, rfl, rfl, rfl, rfl, rfl, rfl⟩
  rintro k e h ⟨i, hk, h0, h4, h10, h11, h12, hasc⟩
  rw [trim_off]
  by_cases hlt : i < l.length
  · obtain ⟨w, hg, tx⟩ := hA.2.2 i hlt
    have txl := tx.len
    have txe := tx.els
    have txo := tx.one
    have hu := (hok l[i] (List.getElem_mem hlt)).1
    have hsz1 := sizeS_le l[i].t
    have hsz2 := sizeS_le l[i].v.length
    have hfl := flatS_take_succ hlt
    have hrl := recS_len l[i]
    have hle := flatS_take_le l (i + 1)
    have hfl2 : (flatS (l.take (i + 1))).length = (flatS (l.take i)).length + (recS l[i]).length := by rw [hfl, List.length_append]
    have hbv := tx.beq
    by_cases hi0 : i = 0
    · subst hi0
      have hz : flatS (l.take 0) = [] := rfl
      have hz' : (flatS ([] : List Rc)).length = 0 := rfl
      rw [hz] at hfl2
      simp only [List.length_nil] at hfl2
      first | have hb := hb | have hb := trivial
      repeat' (first | (simp -implicitDefEqProofs (disch := omega) only [hb, hAl, txo, L14_1, h0, h4, h10, h11, h12, hg, txl, txe, call_size, p29, hbv, Bool.and_self, hz', wC, wO, initE, aop, Nat.reduceEqDiff, ↓reduceIte, Nat.reduceAdd, finish, resOf, tupOf, AM.freeze, freeze1, freezeL, closed, nam, namL, if_true, if_false, deref, boxAt, exAt, ldCells, oneL, oneCell, Nat.reduceLeDiff, evL, adopt, rigid, rigidL, trim, Int.reduceEq, Int.reduceMod, Int.reduceDiv, if_pos, if_neg, asI, forall_const, implies_true, chkD, chkO, chkW, effB, reB, vEq, beq_self_eq_true, Nat.reduceSub, Nat.reduceLT, Int.reduceSub, Int.reduceAdd, Int.reduceMul, Int.reduceLT, Int.reduceLE, Int.reduceToNat, optI, aslice, cutSl, cutMs, cutStr, cutOwn]) | ((first | rw [WP_condK] | rw [WP_opsG] | rw [WP_quiG] | rw [WP_dG]); refine And.intro (fun hb => ?_) (fun hb => ?_) <;> (first | have hd := dq1 hb | have hd := dq2 hb | have hd := dq3 hb | have hd := dq4 hb | skip)))
      refine ⟨k - 1, by omega, 1, by omega, ?_, rfl, ?_⟩
      · rw [hfl2]
        simp only [Int.natCast_zero, Int.zero_add, Int.natCast_add, hrl]
      · cases l with
        | nil => rfl
        | cons a r => rfl
    · obtain ⟨w', hg', tx'⟩ := hA.2.2 (i - 1) (by omega)
      have hbv' := tx'.beq
      first | have hb := hb | have hb := trivial
      repeat' (first | (simp -implicitDefEqProofs (disch := omega) only [hb, hAl, txo, L14_1, h0, h4, h10, h11, h12, hg, hg', tx'.one, txl, txe, hbv', call_size, p29, hbv, Bool.and_self, wC, wO, initE, aop, Nat.reduceEqDiff, ↓reduceIte, Nat.reduceAdd, finish, resOf, tupOf, AM.freeze, freeze1, freezeL, closed, nam, namL, if_true, if_false, deref, boxAt, exAt, ldCells, oneL, oneCell, Nat.reduceLeDiff, evL, adopt, rigid, rigidL, trim, Int.reduceEq, Int.reduceMod, Int.reduceDiv, if_pos, if_neg, asI, forall_const, implies_true, chkD, chkO, chkW, effB, reB, vEq, beq_self_eq_true, Nat.reduceSub, Nat.reduceLT, Int.reduceSub, Int.reduceAdd, Int.reduceMul, Int.reduceLT, Int.reduceLE, Int.reduceToNat, optI, aslice, cutSl, cutMs, cutStr, cutOwn]) | ((first | rw [WP_condK] | rw [WP_opsG] | rw [WP_quiG] | rw [WP_dG]); refine And.intro (fun hb => ?_) (fun hb => ?_) <;> (first | have hd := dq1 hb | have hd := dq2 hb | have hd := dq3 hb | have hd := dq4 hb | skip)))
      · refine isEnc_bad (asc_bad (i := i - 1) (by omega) ?_)
        simp only [show i - 1 + 1 = i by omega]
        omega
      · refine ⟨k - 1, by omega, i + 1, by omega, ?_, rfl, ?_⟩
        · rw [hfl2]
          simp only [Int.natCast_add, hrl]
        · have := ascB_take_succ (l := l) (i := i - 1) (by omega) (by rw [show i - 1 + 1 = i by omega]; exact hasc) (by simp only [show i - 1 + 1 = i by omega]; omega)
          rwa [show i - 1 + 2 = i + 1 by omega] at this
  · have hi : i = l.length := by omega
    subst hi
    rw [List.take_length] at h4 hasc
    first | have hb := hb | have hb := trivial
    repeat' (first | (simp -implicitDefEqProofs (disch := omega) only [hb, hAl, L14_1, h0, h4, h10, h11, h12, wC, initE, aop, Nat.reduceEqDiff, ↓reduceIte, Nat.reduceAdd, finish, resOf, tupOf, AM.freeze, freeze1, freezeL, closed, nam, namL, if_true, if_false, deref, boxAt, exAt, ldCells, oneL, oneCell, Nat.reduceLeDiff, evL, adopt, rigid, rigidL, trim, Int.reduceEq, Int.reduceMod, Int.reduceDiv, if_pos, if_neg, asI, forall_const, implies_true, chkD, chkO, chkW, effB, reB, vEq, beq_self_eq_true, Nat.reduceSub, Nat.reduceLT, Int.reduceSub, Int.reduceAdd, Int.reduceMul, Int.reduceLT, Int.reduceLE, Int.reduceToNat, optI, aslice, cutSl, cutMs, cutStr, cutOwn, cellsOf, one, elCells, lenOf, beqV, beqVL, strip, stripO, convS]) | ((first | rw [WP_condK] | rw [WP_opsG] | rw [WP_quiG] | rw [WP_dG]); refine And.intro (fun hb => ?_) (fun hb => ?_) <;> (first | have hd := dq1 hb | have hd := dq2 hb | have hd := dq3 hb | have hd := dq4 hb | skip)))
    · exact isEnc_long hasc (by omega)
    · have hl : l.length ≤ 64 ∧ (flatS l).length ≤ 65536 := by omega
      refine WP_loop (I := fun k e h => ∃ i : Nat, k + i = l.length ∧ Out (getE e 7) (flatS (l.take i)) ∧ getE e 53 = .slice .full (some 2) A ∧ getE e 54 = i64 l.length ∧ getE e 55 = i64 i) ?_ l.length _ _ ⟨0, by omega, .inl ⟨rfl, rfl⟩, rfl, rfl, rfl⟩
      rintro k e h ⟨i, hk, h7, h53, h54, h55⟩
      rw [trim_off]
      by_cases hlt : i < l.length
      · obtain ⟨w, hg, tx⟩ := hA.2.2 i hlt
        have txl := tx.len
        have txe := tx.els
        have txo := tx.one
        have hu := (hok l[i] (List.getElem_mem hlt)).1
        have hfl := flatS_take_succ hlt
        have hrl := recS_len l[i]
        have hle := flatS_take_le l (i + 1)
        have hfl2 : (flatS (l.take (i + 1))).length = (flatS (l.take i)).length + (recS l[i]).length := by rw [hfl, List.length_append]
        have hbv := tx.beq
        have hsz1 := sizeS_le l[i].t
        have hsz2 := sizeS_le l[i].v.length
        have ln := numS_len l[i].t
        have ln2 := numS_len l[i].v.length
        have hp1 := out_put h7 l[i].t hu (by omega)
        have hu2 : U64 (l[i].v.length : Int) := by constructor <;> omega
        have hp2 := fun (o : AOwn) (h : Heap) => call_put o (flatS (l.take i) ++ numS l[i].t) l[i].v.length hu2 (by rw [List.length_append]; omega) h
        generalize hv7 : getE e 7 = v7 at *
        first | have hb := hb | have hb := trivial
        repeat' (first | (simp -implicitDefEqProofs (disch := omega) only [hb, hAl, txo, L14_0, h53, h54, h55, hg, txl, txe, hv7, hp1, hp2, p30, hbv, Bool.and_self, gA, gB1, gB2, gB3, gC1, gC2, sB3, u8_len, aappend, wC, wO, initE, aop, Nat.reduceEqDiff, ↓reduceIte, Nat.reduceAdd, finish, resOf, tupOf, AM.freeze, freeze1, freezeL, closed, nam, namL, if_true, if_false, deref, boxAt, exAt, ldCells, oneL, oneCell, Nat.reduceLeDiff, evL, adopt, rigid, rigidL, trim, Int.reduceEq, Int.reduceMod, Int.reduceDiv, if_pos, if_neg, asI, forall_const, implies_true, chkD, chkO, chkW, effB, reB, vEq, beq_self_eq_true, Nat.reduceSub, Nat.reduceLT, Int.reduceSub, Int.reduceAdd, Int.reduceMul, Int.reduceLT, Int.reduceLE, Int.reduceToNat, optI, aslice, cutSl, cutMs, cutStr, cutOwn]) | ((first | rw [WP_condK] | rw [WP_opsG] | rw [WP_quiG] | rw [WP_dG]); refine And.intro (fun hb => ?_) (fun hb => ?_) <;> (first | have hd := dq1 hb | have hd := dq2 hb | have hd := dq3 hb | have hd := dq4 hb | skip)))
        refine ⟨k - 1, by omega, i + 1, by omega, .inr ⟨.tok (List.length h + 1 + 1), by simp, ?_⟩, rfl⟩
        rw [hfl, recS, ← List.append_assoc, ← List.append_assoc, List.map_append (l₂ := l[i].v)]
      · have hi : i = l.length := by omega
        subst hi
        rw [List.take_length] at h7
        generalize hv7 : getE e 7 = v7 at *
        first | have hb := hb | have hb := trivial
        repeat' (first | (simp -implicitDefEqProofs (disch := omega) only [hb, hAl, L14_0, h53, h54, h55, hv7, wC, initE, aop, Nat.reduceEqDiff, ↓reduceIte, Nat.reduceAdd, finish, resOf, tupOf, freezeL, closed, nam, namL, if_true, if_false, deref, boxAt, exAt, ldCells, oneL, oneCell, Nat.reduceLeDiff, evL, adopt, rigid, rigidL, trim, Int.reduceEq, Int.reduceMod, Int.reduceDiv, if_pos, if_neg, asI, forall_const, implies_true, chkD, chkO, chkW, effB, reB, vEq, beq_self_eq_true, Nat.reduceSub, Nat.reduceLT, Int.reduceSub, Int.reduceAdd, Int.reduceMul, Int.reduceLT, Int.reduceLE, Int.reduceToNat, optI, aslice, cutSl, cutMs, cutStr, cutOwn, cellsOf, one, elCells, lenOf, beqV, beqVL, strip, stripO, convS]) | ((first | rw [WP_condK] | rw [WP_opsG] | rw [WP_quiG] | rw [WP_dG]); refine And.intro (fun hb => ?_) (fun hb => ?_) <;> (first | have hd := dq1 hb | have hd := dq2 hb | have hd := dq3 hb | have hd := dq4 hb | skip)))
        exact out_freeze hasc hl h7
    · exact isEnc_long hasc (by omega)
theorem call_encF (A : List AV) (l : List Rc) (hA : RecsA A l) (hok : ∀ r ∈ l, Rc.ok r) (hB : (flatS l).length ≤ 1152921504606846976) (hn : l.length ≤ 140737488351232) : ∃ v, IsEnc v (encS l) ∧ ∀ h, ag T 14 [.slice .full (some 2) A] h = some (Go.Proofs.Ytnlemcfhndjheaa.AM.adopt v h) := by
  obtain ⟨v, hw, hi⟩ := enc_smallF A l hA hok hB hn
  refine ⟨v, hi, fun h => call_pure (T := T) (args := [.slice .full (some 2) A]) rfl t14 rfl rfl ?_ hw⟩
  have h1 := hA.2.1
  simp only [List.map_cons, List.map_nil, strip, stripO, closedL, namL, nam, Bool.and_true, Bool.true_and] at h1 ⊢
  exact h1
end Go.Proofs.Ytnlemcfhndjheaa.AM

/- layer 06: Odd, Even, Cuts run. -/
namespace Go.Proofs.Ytnlemcfhndjheaa.AM
open Go
set_option maxRecDepth 100000
set_option maxHeartbeats 4000000
set_option linter.unusedSimpArgs false
set_option linter.unusedVariables false
theorem u8_app (a b : List Int) : a.map u8 ++ b.map u8 = (a ++ b).map u8 := List.map_append.symm
theorem rec_small {x : Int} {v : List Int} (hvl : v.length ≤ 1000) : encS [⟨x, v⟩] = (recS ⟨x, v⟩, 0) ∧ (recS ⟨x, v⟩).length ≤ 1018 := by
  have h3 := recS_len ⟨x, v⟩
  have h4 := sizeS_le x
  have h5 := sizeS_le (v.length : Int)
  simp only at h3
  have e : flatS [⟨x, v⟩] = recS ⟨x, v⟩ := by rw [flatS_cons]; simp [flatS]
  refine ⟨?_, by omega⟩
  rw [encS_ok rfl ⟨by simp, by rw [e]; omega⟩, e]
theorem flat1_le {r : Rc} (h : (recS r).length ≤ 1018) : (flatS ([] ++ [r])).length ≤ 1152921504606846976 := by
  rw [List.nil_append, flatS_cons, List.length_append, show (flatS ([] : List Rc)).length = 0 from rfl]
  omega
theorem recS_ne (r : Rc) : recS r ≠ [] := by
  intro h
  have := congrArg List.length h
  have := numS_pos r.t
  simp only [recS, List.length_append, List.length_nil] at *
  omega
theorem wodd_run (m : Pm) (hf : m.fine) (vo vr : AV) (wo : Ow vo m.o) (wr : Ow vr m.r) (n : Int) (hn : U64 n) (v : List Int) (hv : Bytes v) (hvl : v.length ≤ 140737488351232) : prun T F4 [.agg (msC m vo vr), u64 n, .slice .none none (v.map u8)] = some (.sc (.bool true)) := by
  obtain ⟨v1, i1, e1⟩ := call_rencW wo wr hf
  have k1 := wo.fm.one
  have k2 := wr.fm.one
  have hn0 := hn.1
  have hn1 := hn.2
  rcases encW_cases i1 with ⟨_, rfl⟩ | ⟨hy, o, ho, rfl⟩
  · refine WP_eq (prun_wp ?_)
    first | have hb := hb | have hb := trivial
    repeat' (first | (simp -implicitDefEqProofs (disch := omega) only [hb, F4, wG, e1, call_lives, k1, k2, wC, wO, initE, aop, Nat.reduceEqDiff, ↓reduceIte, Nat.reduceAdd, finish, resOf, tupOf, AM.freeze, freeze1, freezeL, closed, nam, namL, if_true, if_false, deref, boxAt, exAt, ldCells, oneL, oneCell, Nat.reduceLeDiff, evL, adopt, rigid, rigidL, trim, Int.reduceEq, Int.reduceMod, Int.reduceDiv, if_pos, if_neg, asI, forall_const, implies_true, chkD, chkO, chkW, effB, reB, vEq, beq_self_eq_true, Nat.reduceSub, Nat.reduceLT, Int.reduceSub, Int.reduceAdd, Int.reduceMul, Int.reduceLT, Int.reduceLE, Int.reduceToNat, optI, aslice, cutSl, cutMs, cutStr, cutOwn]) | ((first | rw [WP_condK] | rw [WP_opsG] | rw [WP_quiG] | rw [WP_dG]); refine And.intro (fun hb => ?_) (fun hb => ?_) <;> (first | have hd := dq1 hb | have hd := dq2 hb | have hd := dq3 hb | have hd := dq4 hb | skip)))
  · by_cases hc : 12 ≤ n ∧ n ≤ 4611686018427387904 ∧ v.length ≤ 1000
    · obtain ⟨c1, c2, c3⟩ := hc
      have hx : U64 (2 * n + 1) := ⟨by omega, by omega⟩
      obtain ⟨r1, r2⟩ := rec_small (x := 2 * n + 1) c3
      obtain ⟨v2, i2, e2⟩ := call_encF ([] ++ [.agg [u64 (2 * n + 1), .slice .none none (v.map u8)]]) ([] ++ [⟨2 * n + 1, v⟩]) (recsA_nil.snoc (tx_slice v)) (by simp only [List.nil_append, List.mem_singleton]; rintro r rfl; exact ⟨hx, hv⟩) (flat1_le r2) (by simp)
      rw [List.nil_append, r1] at i2
      rcases i2 with ⟨hh, _⟩ | ⟨_, ⟨hh, _⟩ | ⟨o2, ho2, rfl⟩⟩
      · exact absurd rfl hh
      · exact absurd hh (recS_ne _)
      · simp only [List.nil_append] at e2
        have hpl := pB_len hy
        have hpb := pB_bytes hy hf
        obtain ⟨v3, i3, d3⟩ := call_decW (pB m ++ recS ⟨2 * n + 1, v⟩) (bytes_append hpb (recS_bytesW (show Rc.ok ⟨2 * n + 1, v⟩ from ⟨hx, hv⟩))) (by rw [List.length_append]; omega)
        rw [pB_odd hy hf (by omega) hx hv c3 (by omega)] at i3
        obtain ⟨go, gr, wgo, wgr, rfl⟩ := i3
        have s3 := fun h => call_sameE wgo wgr wo wr hf hf h
        rw [decide_eq_true rfl] at s3
        have k5 := wgo.fm.one
        have k6 := wgr.fm.one
        have d3 := fun i h => d3 (.tok i) rfl h
        try simp only at r2
        generalize recS ⟨2 * n + 1, v⟩ = R at *
        generalize pB m = q at *
        rw [← u8_app] at d3
        have f1 : fitsB q.length 1 = true := fits1 (by omega)
        have f2 : fitsB (q.length + R.length) 1 = true := fits1 (by omega)
        have f3 : fitsB (q ++ R).length 1 = true := fits1 (by rw [List.length_append]; omega)
        rcases ho with rfl | rfl <;> rcases ho2 with rfl | rfl
        all_goals
          refine WP_eq (prun_wp ?_)
          first | have hb := hb | have hb := trivial
          repeat' (first | (simp -implicitDefEqProofs (disch := omega) only [hb, F4, wG, setEls, List.replicate_succ, List.replicate_zero, elFits_agg, stripEl_agg, one_int, aappend, f1, f2, f3, e1, e2, d3, s3, call_lives, k1, k2, k5, k6, p11, p12, wC, wO, initE, aop, Nat.reduceEqDiff, ↓reduceIte, Nat.reduceAdd, finish, resOf, tupOf, AM.freeze, freeze1, freezeL, closed, nam, namL, if_true, if_false, deref, boxAt, exAt, ldCells, oneL, oneCell, Nat.reduceLeDiff, evL, adopt, rigid, rigidL, trim, Int.reduceEq, Int.reduceMod, Int.reduceDiv, if_pos, if_neg, asI, forall_const, implies_true, chkD, chkO, chkW, effB, reB, vEq, beq_self_eq_true, Nat.reduceSub, Nat.reduceLT, Int.reduceSub, Int.reduceAdd, Int.reduceMul, Int.reduceLT, Int.reduceLE, Int.reduceToNat, optI, aslice, cutSl, cutMs, cutStr, cutOwn]) | ((first | rw [WP_condK] | rw [WP_opsG] | rw [WP_quiG] | rw [WP_dG]); refine And.intro (fun hb => ?_) (fun hb => ?_) <;> (first | have hd := dq1 hb | have hd := dq2 hb | have hd := dq3 hb | have hd := dq4 hb | skip)))
          all_goals first | (exfalso; omega) | trace_state
    · rcases ho with rfl | rfl
      all_goals
        refine WP_eq (prun_wp ?_)
        first | have hb := hb | have hb := trivial
        repeat' (first | (simp -implicitDefEqProofs (disch := omega) only [hb, F4, wG, e1, call_lives, k1, k2, wC, wO, initE, aop, Nat.reduceEqDiff, ↓reduceIte, Nat.reduceAdd, finish, resOf, tupOf, AM.freeze, freeze1, freezeL, closed, nam, namL, if_true, if_false, deref, boxAt, exAt, ldCells, oneL, oneCell, Nat.reduceLeDiff, evL, adopt, rigid, rigidL, trim, Int.reduceEq, Int.reduceMod, Int.reduceDiv, if_pos, if_neg, asI, forall_const, implies_true, chkD, chkO, chkW, effB, reB, vEq, beq_self_eq_true, Nat.reduceSub, Nat.reduceLT, Int.reduceSub, Int.reduceAdd, Int.reduceMul, Int.reduceLT, Int.reduceLE, Int.reduceToNat, optI, aslice, cutSl, cutMs, cutStr, cutOwn]) | ((first | rw [WP_condK] | rw [WP_opsG] | rw [WP_quiG] | rw [WP_dG]); refine And.intro (fun hb => ?_) (fun hb => ?_) <;> (first | have hd := dq1 hb | have hd := dq2 hb | have hd := dq3 hb | have hd := dq4 hb | skip)))
        all_goals (exfalso; omega)
end Go.Proofs.Ytnlemcfhndjheaa.AM

/- layer 06: Even, Cuts run. -/
namespace Go.Proofs.Ytnlemcfhndjheaa.AM
open Go
set_option maxRecDepth 100000
set_option maxHeartbeats 4000000
set_option linter.unusedSimpArgs false
set_option linter.unusedVariables false
theorem call_wodd (m : Pm) (hf : m.fine) (n : Int) (hn : U64 n) (v : List Int) (hv : Bytes v) (hvl : v.length ≤ 140737488351232) : ag T 4 [.agg (msC m (.slice .none none (m.o.map u8)) (.slice .none none (m.r.map u8))), u64 n, .slice .none none (v.map u8)] [] = some (.sc (.bool true), []) :=
  call_sc rfl t4 rfl rfl rfl (by
    have h1 := u8_closed v
    have h2 := ms_cl (m := m)
    simp only [closedL, namL, nam, Bool.and_true, Bool.true_and] at h1 h2 ⊢
    rw [h1, h2]; rfl) (wodd_run m hf _ _ (ow_none _) (ow_none _) n hn v hv hvl)
theorem weven_run (m : Pm) (hf : m.fine) (vo vr : AV) (wo : Ow vo m.o) (wr : Ow vr m.r) (n : Int) (hn : U64 n) : prun T F5 [.agg (msC m vo vr), u64 n] = some (.sc (.bool true)) := by
  obtain ⟨v1, i1, e1⟩ := call_rencW wo wr hf
  have k1 := wo.fm.one
  have k2 := wr.fm.one
  have hn0 := hn.1
  have hn1 := hn.2
  have sz := fun h => call_sameE (a := Pm.zero) (b := Pm.zero) ow_nil ow_nil ow_nil ow_nil zero_fine0 zero_fine0 h
  rw [decide_eq_true rfl] at sz
  rcases encW_cases i1 with ⟨_, rfl⟩ | ⟨hy, o, ho, rfl⟩
  · refine WP_eq (prun_wp ?_)
    first | have hb := hb | have hb := trivial
    repeat' (first | (simp -implicitDefEqProofs (disch := omega) only [hb, F5, wG, e1, call_lives, k1, k2, wC, wO, initE, aop, Nat.reduceEqDiff, ↓reduceIte, Nat.reduceAdd, finish, resOf, tupOf, AM.freeze, freeze1, freezeL, closed, nam, namL, if_true, if_false, deref, boxAt, exAt, ldCells, oneL, oneCell, Nat.reduceLeDiff, evL, adopt, rigid, rigidL, trim, Int.reduceEq, Int.reduceMod, Int.reduceDiv, if_pos, if_neg, asI, forall_const, implies_true, chkD, chkO, chkW, effB, reB, vEq, beq_self_eq_true, Nat.reduceSub, Nat.reduceLT, Int.reduceSub, Int.reduceAdd, Int.reduceMul, Int.reduceLT, Int.reduceLE, Int.reduceToNat, optI, aslice, cutSl, cutMs, cutStr, cutOwn]) | ((first | rw [WP_condK] | rw [WP_opsG] | rw [WP_quiG] | rw [WP_dG]); refine And.intro (fun hb => ?_) (fun hb => ?_) <;> (first | have hd := dq1 hb | have hd := dq2 hb | have hd := dq3 hb | have hd := dq4 hb | skip)))
  · by_cases hc : 12 ≤ n ∧ n ≤ 4611686018427387904
    · obtain ⟨c1, c2⟩ := hc
      have hx : U64 (2 * n) := ⟨by omega, by omega⟩
      obtain ⟨r1, r2⟩ := rec_small (x := 2 * n) (v := []) (by simp)
      obtain ⟨v2, i2, e2⟩ := call_encF ([] ++ [.agg [u64 (2 * n), .nil]]) ([] ++ [⟨2 * n, []⟩]) (recsA_nil.snoc tx_nil) (by simp only [List.nil_append, List.mem_singleton]; rintro r rfl; exact ⟨hx, bytes_nil⟩) (flat1_le r2) (by simp)
      rw [List.nil_append, r1] at i2
      rcases i2 with ⟨hh, _⟩ | ⟨_, ⟨hh, _⟩ | ⟨o2, ho2, rfl⟩⟩
      · exact absurd rfl hh
      · exact absurd hh (recS_ne _)
      · simp only [List.nil_append] at e2
        have hpl := pB_len hy
        have hpb := pB_bytes hy hf
        obtain ⟨v3, i3, d3⟩ := call_decW (pB m ++ recS ⟨2 * n, []⟩) (bytes_append hpb (recS_bytesW (show Rc.ok ⟨2 * n, []⟩ from ⟨hx, bytes_nil⟩))) (by rw [List.length_append]; omega)
        rw [pB_even hy hf (by omega) hx (by omega)] at i3
        cases i3
        have d3 := fun i h => d3 (.tok i) rfl h
        try simp only at r2
        generalize recS ⟨2 * n, []⟩ = R at *
        generalize pB m = q at *
        rw [← u8_app] at d3
        have f1 : fitsB q.length 1 = true := fits1 (by omega)
        have f2 : fitsB (q.length + R.length) 1 = true := fits1 (by omega)
        have f3 : fitsB (q ++ R).length 1 = true := fits1 (by rw [List.length_append]; omega)
        rcases ho with rfl | rfl <;> rcases ho2 with rfl | rfl
        all_goals
          refine WP_eq (prun_wp ?_)
          first | have hb := hb | have hb := trivial
          repeat' (first | (simp -implicitDefEqProofs (disch := omega) only [hb, F5, wG, setEls, List.replicate_succ, List.replicate_zero, elFits_agg, stripEl_agg, one_int, aappend, f1, f2, f3, e1, e2, d3, sz, call_lives, k1, k2, p11, p12, wC, wO, initE, aop, Nat.reduceEqDiff, ↓reduceIte, Nat.reduceAdd, finish, resOf, tupOf, AM.freeze, freeze1, freezeL, closed, nam, namL, if_true, if_false, deref, boxAt, exAt, ldCells, oneL, oneCell, Nat.reduceLeDiff, evL, adopt, rigid, rigidL, trim, Int.reduceEq, Int.reduceMod, Int.reduceDiv, if_pos, if_neg, asI, forall_const, implies_true, chkD, chkO, chkW, effB, reB, vEq, beq_self_eq_true, Nat.reduceSub, Nat.reduceLT, Int.reduceSub, Int.reduceAdd, Int.reduceMul, Int.reduceLT, Int.reduceLE, Int.reduceToNat, optI, aslice, cutSl, cutMs, cutStr, cutOwn]) | ((first | rw [WP_condK] | rw [WP_opsG] | rw [WP_quiG] | rw [WP_dG]); refine And.intro (fun hb => ?_) (fun hb => ?_) <;> (first | have hd := dq1 hb | have hd := dq2 hb | have hd := dq3 hb | have hd := dq4 hb | skip)))
          all_goals (exfalso; omega)
    · rcases ho with rfl | rfl
      all_goals
        refine WP_eq (prun_wp ?_)
        first | have hb := hb | have hb := trivial
        repeat' (first | (simp -implicitDefEqProofs (disch := omega) only [hb, F5, wG, e1, call_lives, k1, k2, wC, wO, initE, aop, Nat.reduceEqDiff, ↓reduceIte, Nat.reduceAdd, finish, resOf, tupOf, AM.freeze, freeze1, freezeL, closed, nam, namL, if_true, if_false, deref, boxAt, exAt, ldCells, oneL, oneCell, Nat.reduceLeDiff, evL, adopt, rigid, rigidL, trim, Int.reduceEq, Int.reduceMod, Int.reduceDiv, if_pos, if_neg, asI, forall_const, implies_true, chkD, chkO, chkW, effB, reB, vEq, beq_self_eq_true, Nat.reduceSub, Nat.reduceLT, Int.reduceSub, Int.reduceAdd, Int.reduceMul, Int.reduceLT, Int.reduceLE, Int.reduceToNat, optI, aslice, cutSl, cutMs, cutStr, cutOwn]) | ((first | rw [WP_condK] | rw [WP_opsG] | rw [WP_quiG] | rw [WP_dG]); refine And.intro (fun hb => ?_) (fun hb => ?_) <;> (first | have hd := dq1 hb | have hd := dq2 hb | have hd := dq3 hb | have hd := dq4 hb | skip)))
        all_goals (exfalso; omega)
theorem call_weven (m : Pm) (hf : m.fine) (n : Int) (hn : U64 n) : ag T 5 [.agg (msC m (.slice .none none (m.o.map u8)) (.slice .none none (m.r.map u8))), u64 n] [] = some (.sc (.bool true), []) :=
  call_sc rfl t5 rfl rfl rfl (by
    have h2 := ms_cl (m := m)
    simp only [closedL, namL, nam, Bool.and_true, Bool.true_and] at h2 ⊢
    rw [h2]) (weven_run m hf _ _ (ow_none _) (ow_none _) n hn)
theorem wcuts_run (m : Pm) (hf : m.fine) (vo vr : AV) (wo : Ow vo m.o) (wr : Ow vr m.r) (n : Int) (hn : I64 n) : prun T F6 [.agg (msC m vo vr), i64 n] = some (.sc (.bool true)) := by
  obtain ⟨v1, i1, e1⟩ := call_rencW wo wr hf
  have k1 := wo.fm.one
  have k2 := wr.fm.one
  have hn0 := hn.1
  have hn1 := hn.2
  have sz := fun h => call_sameE (a := Pm.zero) (b := Pm.zero) ow_nil ow_nil ow_nil ow_nil zero_fine0 zero_fine0 h
  rw [decide_eq_true rfl] at sz
  rcases encW_cases i1 with ⟨_, rfl⟩ | ⟨hy, o, ho, rfl⟩
  · refine WP_eq (prun_wp ?_)
    first | have hb := hb | have hb := trivial
    repeat' (first | (simp -implicitDefEqProofs (disch := omega) only [hb, F6, wG, e1, call_lives, k1, k2, wC, wO, initE, aop, Nat.reduceEqDiff, ↓reduceIte, Nat.reduceAdd, finish, resOf, tupOf, AM.freeze, freeze1, freezeL, closed, nam, namL, if_true, if_false, deref, boxAt, exAt, ldCells, oneL, oneCell, Nat.reduceLeDiff, evL, adopt, rigid, rigidL, trim, Int.reduceEq, Int.reduceMod, Int.reduceDiv, if_pos, if_neg, asI, forall_const, implies_true, chkD, chkO, chkW, effB, reB, vEq, beq_self_eq_true, Nat.reduceSub, Nat.reduceLT, Int.reduceSub, Int.reduceAdd, Int.reduceMul, Int.reduceLT, Int.reduceLE, Int.reduceToNat, optI, aslice, cutSl, cutMs, cutStr, cutOwn]) | ((first | rw [WP_condK] | rw [WP_opsG] | rw [WP_quiG] | rw [WP_dG]); refine And.intro (fun hb => ?_) (fun hb => ?_) <;> (first | have hd := dq1 hb | have hd := dq2 hb | have hd := dq3 hb | have hd := dq4 hb | skip)))
  · have hpl := pB_len hy
    have hpb := pB_bytes hy hf
    have t1 : n.tmod ((pB m).length : Int) < (pB m).length := Int.tmod_lt_of_pos n (by omega)
    have t0 : -((pB m).length : Int) < n.tmod ((pB m).length : Int) := by
      have := Int.tmod_lt_of_pos (-n) (show (0 : Int) < (pB m).length by omega)
      rw [Int.neg_tmod] at this
      omega
    have key : ∀ j : Nat, j < (pB m).length → ∃ v, v = AV.tup [.agg (msC Pm.zero .nil .nil), i64 10] ∧ ∀ o, stripO o = .none → ∀ h, ag T 9 [.slice o none (((pB m).take j).map u8)] h = some (v, h) := by
      intro j hj
      obtain ⟨v3, i3, d3⟩ := call_decW ((pB m).take j) (fun c hc => hpb c (List.mem_of_mem_take hc)) (by rw [List.length_take]; omega)
      rw [pB_cut hy hf j hj] at i3
      exact ⟨v3, i3, d3⟩
    generalize hc : n.tmod ((pB m).length : Int) = c at *
    have hl0 : ((pB m).length : Int) ≠ 0 := by omega
    generalize pB m = q at *
    by_cases hneg : c < 0
    · obtain ⟨v3, rfl, d3⟩ := key (c + q.length).toNat (by omega)
      have d3 := fun o ho h => d3 o ho h
      rw [List.map_take] at d3
      have dd := fun i h => d3 (.tok i) rfl h
      have dn := fun h => d3 .none rfl h
      rcases ho with rfl | rfl
      all_goals
        refine WP_eq (prun_wp ?_)
        first | have hb := hb | have hb := trivial
        repeat' (first | (simp -implicitDefEqProofs (disch := omega) only [hb, F6, wG, e1, dd, dn, hc, sz, call_lives, k1, k2, p11, p12, wC, wO, initE, aop, Nat.reduceEqDiff, ↓reduceIte, Nat.reduceAdd, finish, resOf, tupOf, AM.freeze, freeze1, freezeL, closed, nam, namL, if_true, if_false, deref, boxAt, exAt, ldCells, oneL, oneCell, Nat.reduceLeDiff, evL, adopt, rigid, rigidL, trim, Int.reduceEq, Int.reduceMod, Int.reduceDiv, if_pos, if_neg, asI, forall_const, implies_true, chkD, chkO, chkW, effB, reB, vEq, beq_self_eq_true, Nat.reduceSub, Nat.reduceLT, Int.reduceSub, Int.reduceAdd, Int.reduceMul, Int.reduceLT, Int.reduceLE, Int.reduceToNat, optI, aslice, cutSl, cutMs, cutStr, cutOwn]) | ((first | rw [WP_condK] | rw [WP_opsG] | rw [WP_quiG] | rw [WP_dG]); refine And.intro (fun hb => ?_) (fun hb => ?_) <;> (first | have hd := dq1 hb | have hd := dq2 hb | have hd := dq3 hb | have hd := dq4 hb | skip)))
        all_goals first | (exfalso; omega) | trace_state
    · obtain ⟨v3, rfl, d3⟩ := key c.toNat (by omega)
      have d3 := fun o ho h => d3 o ho h
      rw [List.map_take] at d3
      have dd := fun i h => d3 (.tok i) rfl h
      have dn := fun h => d3 .none rfl h
      rcases ho with rfl | rfl
      all_goals
        refine WP_eq (prun_wp ?_)
        first | have hb := hb | have hb := trivial
        repeat' (first | (simp -implicitDefEqProofs (disch := omega) only [hb, F6, wG, e1, dd, dn, hc, sz, call_lives, k1, k2, p11, p12, wC, wO, initE, aop, Nat.reduceEqDiff, ↓reduceIte, Nat.reduceAdd, finish, resOf, tupOf, AM.freeze, freeze1, freezeL, closed, nam, namL, if_true, if_false, deref, boxAt, exAt, ldCells, oneL, oneCell, Nat.reduceLeDiff, evL, adopt, rigid, rigidL, trim, Int.reduceEq, Int.reduceMod, Int.reduceDiv, if_pos, if_neg, asI, forall_const, implies_true, chkD, chkO, chkW, effB, reB, vEq, beq_self_eq_true, Nat.reduceSub, Nat.reduceLT, Int.reduceSub, Int.reduceAdd, Int.reduceMul, Int.reduceLT, Int.reduceLE, Int.reduceToNat, optI, aslice, cutSl, cutMs, cutStr, cutOwn]) | ((first | rw [WP_condK] | rw [WP_opsG] | rw [WP_quiG] | rw [WP_dG]); refine And.intro (fun hb => ?_) (fun hb => ?_) <;> (first | have hd := dq1 hb | have hd := dq2 hb | have hd := dq3 hb | have hd := dq4 hb | skip)))
        all_goals first | (exfalso; omega) | trace_state
theorem call_wcuts (m : Pm) (hf : m.fine) (n : Int) (hn : I64 n) : ag T 6 [.agg (msC m (.slice .none none (m.o.map u8)) (.slice .none none (m.r.map u8))), i64 n] [] = some (.sc (.bool true), []) :=
  call_sc rfl t6 rfl rfl rfl (by
    have h2 := ms_cl (m := m)
    simp only [closedL, namL, nam, Bool.and_true, Bool.true_and] at h2 ⊢
    rw [h2]) (wcuts_run m hf _ _ (ow_none _) (ow_none _) n hn)
end Go.Proofs.Ytnlemcfhndjheaa.AM
