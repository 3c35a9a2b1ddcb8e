import Derived.Test.YtccllndmknnehaaMd
/- layer 10: Sync, Read, Unsure. -/
namespace Go.Proofs.Ytccllndmknnehaa.AM
open Go
set_option maxRecDepth 100000
set_option maxHeartbeats 4000000
set_option linter.unusedVariables false
set_option linter.unusedSimpArgs false
section
variable {h : Heap} {p n s : Nat} {J : List Nat} {d : Dk} {A : AV} {els : List AV} {c : Nat} {bs0 : List Nat} {c' : Nat} {bs' : List Nat}
def syncD (d : Dk) : Dk := { d with sure := d.now, acts := [], c := stepC d.c }
theorem call_mclone {h : Heap} {n c : Nat} {bs : List Nat} {es : List (AV × AV)} (hn : h[n]? = some (.map none c bs es)) : ag T 33 [.map n] h = some (.map h.length, h ++ [.map none c bs es]) := by
  rw [ag_nat rfl nf33 n33]
  have hm : mapAt h n = some (c, bs, es) := by simp [mapAt, hn]
  simp only [cloneM33, hm, Option.map_some]
theorem d_sync (D : DkH h p n s J d) :
    ∃ h' s' J', ag T 15 [.ptr p 0] h = some (i64 (if d.c = 0 then 100 else 0), h') ∧ Stp h p n s J h' n s' J' ∧ DkH h' p n s' J' (if d.c = 0 then d else syncD d) := by
  obtain ⟨A, els, c, bs0, c', bs', D⟩ := D
  have hm := c_may0 D.box
  by_cases hc0 : d.c = 0
  · rw [if_pos hc0, if_pos hc0]
    rw [if_pos hc0] at hm
    refine ⟨h, s, J, WP_eq (k_wp rfl t15 rfl rfl ?_), Stp.refl _ _ _ _ _, ⟨_, _, _, _, _, _, D⟩⟩
    first | have hb := hb | have hb := trivial
    repeat' (first | (simp -implicitDefEqProofs (disch := omega) only [hb, F15, hm, wC, initE, aop, Nat.reduceEqDiff, ↓reduceIte, Nat.reduceAdd, finish, resOf, tupOf, AM.freeze, freeze1, freezeL, closed, nam, namL, if_true, if_false, deref, boxAt, exAt, ldCells, oneL, oneCell, Nat.reduceLeDiff, evL, adopt, rigid, rigidL, trim, Int.reduceEq, Int.reduceMod, Int.reduceDiv, if_pos, if_neg, asI, forall_const, implies_true, chkD, chkO, chkW, effB, reB, vEq, beq_self_eq_true, Nat.reduceSub, Nat.reduceLT, Int.reduceSub, Int.reduceAdd, Int.reduceMul, Int.reduceLT, Int.reduceLE, Int.reduceToNat, optI, aslice, cutSl, cutMs, cutStr, cutOwn, cellsOf, one, elCells, lenOf, beqV, beqVL, strip, stripO, convS]) | ((first | rw [WP_condK] | rw [WP_opsG] | rw [WP_quiG] | rw [WP_dG]); refine And.intro (fun hb => ?_) (fun hb => ?_) <;> (first | have hd := dq1 hb | have hd := dq2 hb | have hd := dq3 hb | have hd := dq4 hb | skip)))
  · rw [if_neg hc0, if_neg hc0]
    rw [if_neg hc0] at hm
    have hbx := D.box
    obtain ⟨lp, ep⟩ := List.getElem?_eq_some_iff.1 hbx
    obtain ⟨ln, _⟩ := List.getElem?_eq_some_iff.1 D.now
    have hcl := call_mclone D.now
    have hpn : p ≠ n := fun e => by have := D.box; rw [e, D.now] at this; cases this
    generalize hh1 : h ++ [AObj.map none c bs0 (fsV d.now)] = h1 at hcl
    have l1 : h1.length = h.length + 1 := by rw [← hh1]; simp
    have hbx1 : h1[p]? = some (.cells (dC d.size s n A d.c)) := by rw [← hh1, List.getElem?_append_left lp]; exact hbx
    have lp1 : p < h1.length := by omega
    have hbx2 : ∀ X, (h1.set p (.cells X))[p]? = some (.cells X) := fun X => List.getElem?_set_self lp1
    have hs2 : ∀ X Y, (h1.set p (.cells X)).set p (.cells Y) = h1.set p (.cells Y) := fun X Y => List.set_set ..
    have hdid := c_did (hbx2 (dC d.size h.length n .nil d.c)) (fun _ => D.cal)
    rw [hs2] at hdid
    have hrun : ag T 15 [.ptr p 0] h = some (i64 0, h1.set p (.cells (dC d.size h.length n .nil (stepC d.c)))) := by
      refine WP_eq (k_wp rfl t15 rfl rfl ?_)
      unfold stepC
      unfold dC at *
      first | have hb := hb | have hb := trivial
      repeat' (first | (simp -implicitDefEqProofs (disch := omega) only [hb, F15, hm, hbx, hcl, hbx1, hbx2, hs2, hdid, wC, initE, aop, Nat.reduceEqDiff, ↓reduceIte, Nat.reduceAdd, finish, resOf, tupOf, AM.freeze, freeze1, freezeL, closed, nam, namL, if_true, if_false, deref, boxAt, exAt, ldCells, oneL, oneCell, Nat.reduceLeDiff, evL, adopt, rigid, rigidL, trim, Int.reduceEq, Int.reduceMod, Int.reduceDiv, if_pos, if_neg, asI, forall_const, implies_true, chkD, chkO, chkW, effB, reB, vEq, beq_self_eq_true, Nat.reduceSub, Nat.reduceLT, Int.reduceSub, Int.reduceAdd, Int.reduceMul, Int.reduceLT, Int.reduceLE, Int.reduceToNat, optI, aslice, cutSl, cutMs, cutStr, cutOwn, cellsOf, one, elCells, lenOf, beqV, beqVL, strip, stripO, convS]) | ((first | rw [WP_condK] | rw [WP_opsG] | rw [WP_quiG] | rw [WP_dG]); refine And.intro (fun hb => ?_) (fun hb => ?_) <;> (first | have hd := dq1 hb | have hd := dq2 hb | have hd := dq3 hb | have hd := dq4 hb | skip)))
    have hget : ∀ i, i < h.length → i ≠ p → (h1.set p (.cells (dC d.size h.length n .nil (stepC d.c))))[i]? = h[i]? := fun i hi hp => by
      rw [List.getElem?_set_ne (fun e => hp e.symm), ← hh1, List.getElem?_append_left hi]
    refine ⟨_, h.length, [], hrun, ⟨⟨by rw [List.length_set]; omega, fun i hi hn => hget i hi (fun e => hn (by simp [e]))⟩, fun i hi => ?_⟩, ⟨.nil, [], c, bs0, c, bs0, hbx2 _, ?_, D.wn, ?_, D.wn, .inl ⟨rfl, rfl, rfl⟩, trivial, by show n ≠ h.length; omega, by simp [syncD], ?_, rfl, D.small, D.big⟩⟩
    · simp only [List.mem_cons, List.not_mem_nil, or_false] at hi ⊢
      rcases hi with h | h | h
      · exact .inl (.inl h)
      · exact .inl (.inr (.inl h))
      · exact .inr (by omega)
    · rw [hget n ln hpn.symm]; exact D.now
    · rw [List.getElem?_set_ne (by omega), ← hh1, get_app0]; rfl
    · have := D.cal; show (if 0 < d.c then d.c - 1 else d.c) ≤ _; split <;> omega
/-- what is read, and why nothing is -/
def readE (d : Dk) (nm : List Int) : Int := remE d nm
theorem d_read (D : DkH h p n s J d) {nm : List Int} (hnm : Bytes nm) (hsz : nm.length ≤ 9223372036854775807) :
    ∃ g, (readE d nm ≠ 0 → ag T 9 [.ptr p 0, stB' nm] h = some (.tup [.nil, i64 (readE d nm)], h ++ g)) ∧
      (∀ r, readE d nm = 0 → findF nm d.now 0 = some r → ag T 9 [.ptr p 0, stB' nm] h = some (.tup [.slice (.tok (h.length + 1)) none (r.2.flatten.map u8), i64 0], h ++ [.cells [.slice .none none (r.2.map partV), i64 (r.2.flatten.length : Nat)], .row none r.2.flatten.length])) := by
  obtain ⟨A, els, c, bs0, c', bs', D⟩ := D
  have hm := c_may D.box [strOfNums nm] (fun x hx => by simp at hx; subst hx; rw [st_size]; omega) (by simp)
  simp only [List.map_cons, List.map_nil] at hm
  have hbx := D.box
  have hme : mapEs h (.map n) = some (fsV d.now) := by simp [mapEs, mapAt, D.now]
  have hf := findM_fs hnm D.wn.names 0
  have g0 : ∀ x g, (h ++ (x :: g))[h.length]? = some x := fun x g => app_get _ _ _ 0 rfl
  have s0 : ∀ x g u, (h ++ (x :: g)).set h.length u = h ++ (u :: g) := fun x g u => app_set _ _ _ 0 u rfl
  unfold dC at hbx
  by_cases h0 : mayS [strOfNums nm] d.c = 0
  · rw [h0] at hm
    have e0 : readE d nm = nonE d nm := by unfold readE remE; rw [if_neg (by rw [h0]; simp)]
    rw [e0]
    cases hr : findF nm d.now 0 with
    | none =>
      have e1 : nonE d nm = 4 := by unfold nonE; rw [if_pos hr]
      rw [e1]
      refine ⟨[.cells [.nil, i64 0]], fun _ => WP_eq (k_wp rfl t9 rfl rfl ?_), fun r hh => by cases hh⟩
      rw [hr, Option.map_none] at hf
      first | have hb := hb | have hb := trivial
      repeat' (first | (simp -implicitDefEqProofs (disch := omega) only [hb, F9, hm, hbx, hme, hf, g0, s0, keyB, valM, Option.isSome_none, setEls, List.replicate_succ, List.replicate_zero, wC, wO, initE, aop, Nat.reduceEqDiff, ↓reduceIte, Nat.reduceAdd, finish, resOf, tupOf, AM.freeze, freeze1, freezeL, closed, nam, namL, if_true, if_false, deref, boxAt, exAt, ldCells, oneL, oneCell, Nat.reduceLeDiff, evL, adopt, rigid, rigidL, trim, Int.reduceEq, Int.reduceMod, Int.reduceDiv, if_pos, if_neg, asI, forall_const, implies_true, chkD, chkO, chkW, effB, reB, vEq, beq_self_eq_true, Nat.reduceSub, Nat.reduceLT, Int.reduceSub, Int.reduceAdd, Int.reduceMul, Int.reduceLT, Int.reduceLE, Int.reduceToNat, optI, aslice, cutSl, cutMs, cutStr, cutOwn]) | ((first | rw [WP_condK] | rw [WP_opsG] | rw [WP_quiG] | rw [WP_dG]); refine And.intro (fun hb => ?_) (fun hb => ?_) <;> (first | have hd := dq1 hb | have hd := dq2 hb | have hd := dq3 hb | have hd := dq4 hb | skip)))
    | some r =>
      have e1 : nonE d nm = 0 := by unfold nonE; rw [if_neg (by rw [hr]; simp)]
      rw [e1]
      refine ⟨[], fun hh => absurd rfl hh, fun r' _ hr' => ?_⟩
      cases hr'
      have hB : r.2.flatten.length ≤ 140737488355328 := by
        have := tot_erase (found hr)
        have := D.tot
        have := D.big
        omega
      have hpl := (D.wn.found hr).2
      have hby := fun h => call_bytes r.2 hB (by omega) h
      rw [hr, Option.map_some] at hf
      refine WP_eq (k_wp rfl t9 rfl rfl ?_)
      unfold fileV at hf hby
      generalize r.2.map partV = P at *
      generalize hFF : r.2.flatten = FF at *
      first | have hb := hb | have hb := trivial
      repeat' (first | (simp -implicitDefEqProofs (disch := omega) only [hb, F9, hm, hbx, hme, hf, g0, s0, keyB, valM, Option.isSome_some, setEls, List.replicate_succ, List.replicate_zero, hby, List.append_assoc, wC, wO, initE, aop, Nat.reduceEqDiff, ↓reduceIte, Nat.reduceAdd, finish, resOf, tupOf, AM.freeze, freeze1, freezeL, closed, nam, namL, if_true, if_false, deref, boxAt, exAt, ldCells, oneL, oneCell, Nat.reduceLeDiff, evL, adopt, rigid, rigidL, trim, Int.reduceEq, Int.reduceMod, Int.reduceDiv, if_pos, if_neg, asI, forall_const, implies_true, chkD, chkO, chkW, effB, reB, vEq, beq_self_eq_true, Nat.reduceSub, Nat.reduceLT, Int.reduceSub, Int.reduceAdd, Int.reduceMul, Int.reduceLT, Int.reduceLE, Int.reduceToNat, optI, aslice, cutSl, cutMs, cutStr, cutOwn]) | ((first | rw [WP_condK] | rw [WP_opsG] | rw [WP_quiG] | rw [WP_dG]); refine And.intro (fun hb => ?_) (fun hb => ?_) <;> (first | have hd := dq1 hb | have hd := dq2 hb | have hd := dq3 hb | have hd := dq4 hb | skip)))
  · have e0 : readE d nm = mayS [strOfNums nm] d.c := by unfold readE remE; rw [if_pos h0]
    rw [e0]
    refine ⟨[], fun _ => WP_eq (k_wp rfl t9 rfl rfl ?_), fun r hh => absurd hh h0⟩
    rw [List.append_nil]
    generalize mayS [strOfNums nm] d.c = e at *
    first | have hb := hb | have hb := trivial
    repeat' (first | (simp -implicitDefEqProofs (disch := omega) only [hb, F9, hm, h0, setEls, List.replicate_succ, List.replicate_zero, elFits, stripEl, wC, initE, aop, Nat.reduceEqDiff, ↓reduceIte, Nat.reduceAdd, finish, resOf, tupOf, AM.freeze, freeze1, freezeL, closed, nam, namL, if_true, if_false, deref, boxAt, exAt, ldCells, oneL, oneCell, Nat.reduceLeDiff, evL, adopt, rigid, rigidL, trim, Int.reduceEq, Int.reduceMod, Int.reduceDiv, if_pos, if_neg, asI, forall_const, implies_true, chkD, chkO, chkW, effB, reB, vEq, beq_self_eq_true, Nat.reduceSub, Nat.reduceLT, Int.reduceSub, Int.reduceAdd, Int.reduceMul, Int.reduceLT, Int.reduceLE, Int.reduceToNat, optI, aslice, cutSl, cutMs, cutStr, cutOwn, cellsOf, one, elCells, lenOf, beqV, beqVL, strip, stripO, convS]) | ((first | rw [WP_condK] | rw [WP_opsG] | rw [WP_quiG] | rw [WP_dG]); refine And.intro (fun hb => ?_) (fun hb => ?_) <;> (first | have hd := dq1 hb | have hd := dq2 hb | have hd := dq3 hb | have hd := dq4 hb | skip)))
theorem d_unsure (D : DkH h p n s J d) : ag T 17 [.ptr p 0] h = some (i64 (d.acts.length : Nat), h) := by
  obtain ⟨A, els, c, bs0, c', bs', D⟩ := D
  refine WP_eq (k_wp rfl t17 rfl rfl ?_)
  have hm := c_made D.box
  have hbx := D.box
  have hlen := actsR_len D.acts
  have hA : lenOf A = some d.acts.length := by
    rcases D.row with ⟨rfl, rfl, _⟩ | ⟨j, _, rfl, _⟩
    · rw [← hlen]; rfl
    · rw [← hlen]; rfl
  unfold dC at hbx
  first | have hb := hb | have hb := trivial
  repeat' (first | (simp -implicitDefEqProofs (disch := omega) only [hb, F17, hm, hbx, hA, wC, wO, initE, aop, Nat.reduceEqDiff, ↓reduceIte, Nat.reduceAdd, finish, resOf, tupOf, AM.freeze, freeze1, freezeL, closed, nam, namL, if_true, if_false, deref, boxAt, exAt, ldCells, oneL, oneCell, Nat.reduceLeDiff, evL, adopt, rigid, rigidL, trim, Int.reduceEq, Int.reduceMod, Int.reduceDiv, if_pos, if_neg, asI, forall_const, implies_true, chkD, chkO, chkW, effB, reB, vEq, beq_self_eq_true, Nat.reduceSub, Nat.reduceLT, Int.reduceSub, Int.reduceAdd, Int.reduceMul, Int.reduceLT, Int.reduceLE, Int.reduceToNat, optI, aslice, cutSl, cutMs, cutStr, cutOwn]) | ((first | rw [WP_condK] | rw [WP_opsG] | rw [WP_quiG] | rw [WP_dG]); refine And.intro (fun hb => ?_) (fun hb => ?_) <;> (first | have hd := dq1 hb | have hd := dq2 hb | have hd := dq3 hb | have hd := dq4 hb | skip)))
end
end Go.Proofs.Ytccllndmknnehaa.AM

/- layer 10: Crash. -/
namespace Go.Proofs.Ytccllndmknnehaa.AM
open Go
set_option maxRecDepth 100000
set_option maxHeartbeats 4000000
set_option linter.unusedVariables false
set_option linter.unusedSimpArgs false
section
variable {h : Heap} {p n s : Nat} {J : List Nat} {d : Dk} {A : AV} {els : List AV} {c : Nat} {bs0 : List Nat} {c' : Nat} {bs' : List Nat}
/-- an act is done to a tree -/
theorem act_run {h : Heap} {p s c : Nat} {bs : List Nat} {fs : Fs} {v : AV} {a : Dact} (hs : h[s]? = some (.map none c bs (fsV fs))) (w : Wf c bs fs) (r : actR h p v a) (hv : validA fs a) (hb : (totF (runA fs a) : Int) ≤ 268435456) (hfs : (totF fs : Int) ≤ 268435456) (hfew : ∀ x ∈ runA fs a, x.2.length ≤ 1000000000) :
    ∃ f caps b ad nm, v = .agg [.func (.func f) [] caps, i64 b, .bool ad, .str nm] ∧ ∃ g c2 bs2, Wf c2 bs2 (runA fs a) ∧ ag T f (.map s :: i64 b :: caps) h = some (.tup [], h.set s (.map none c2 bs2 (fsV (runA fs a))) ++ g) := by
  have flat : ∀ {nm : List Int} {r : Nat × Fl}, findF nm fs 0 = some r → r.2.flatten.length ≤ 140737488355328 := fun hr => by
    have := tot_erase (found hr)
    omega
  cases a with
  | add nm l =>
    obtain ⟨q, o, rfl, hq, _, hnm⟩ := r
    refine ⟨_, _, _, _, _, rfl, [], ?_⟩
    have hB : (moreF (findF nm fs 0) l).flatten.length ≤ 140737488355328 := by
      have := flat_tot (fs := fs) (nm := nm) (l := l)
      have e : totF (runA fs (.add nm l)) = totF fs + l.length := tot_put
      omega
    have hp : (moreF (findF nm fs 0) l).length ≤ 1000000000 := hfew (nm, moreF (findF nm fs 0) l) (by
      show _ ∈ putF fs nm _ _
      cases hr : findF nm fs 0 with
      | none => simp [putF]
      | some r => exact List.mem_set (List.getElem?_eq_some_iff.1 (found hr)).1 _)
    have := c_add (k := l.length) hs hq w hnm.1 (Nat.le_refl _) (by rw [List.take_length]; exact hB)
    rw [List.take_length] at this
    exact ⟨_, _, w.put hnm hp, by rw [List.append_nil]; exact this⟩
  | trunc nm k =>
    obtain ⟨rfl, hnm⟩ := r
    obtain ⟨r, hr⟩ := hv
    have := c_trunc (k := k) hs w hnm.1 hr (flat hr)
    unfold putO at this
    have w2 := w.put hnm (ps := [r.2.flatten.take k]) (by simp)
    rw [hr] at this w2
    refine ⟨_, _, _, _, _, rfl, _, _, _, ?_, c_inner (by simp only [runA, hr]; exact this)⟩
    simp only [runA, hr]
    exact w2
  | ren a b =>
    obtain ⟨rfl, ha, hb'⟩ := r
    obtain ⟨r, hr⟩ := hv
    have := c_ren hs w ha.1 hb'.1 hr
    refine ⟨_, _, _, _, _, rfl, _, _, _, ?_, c_inner (by simp only [runA, hr]; exact this)⟩
    simp only [runA, hr]
    exact (w.erase r.1).put hb' (w.found hr).2
  | rem nm =>
    obtain ⟨rfl, hnm⟩ := r
    obtain ⟨r, hr⟩ := hv
    have := c_rem hs w hnm.1 hr
    refine ⟨_, _, _, _, _, rfl, [], _, _, ?_, c_inner (by rw [List.append_nil]; simp only [runA, hr]; exact this)⟩
    simp only [runA, hr]
    exact w.erase r.1
theorem actsR.get {h : Heap} {p : Nat} : ∀ {vs : List AV} {ac : List Dact}, actsR h p vs ac → ∀ {i : Nat} {a : Dact}, ac[i]? = some a → ∃ v, vs[i]? = some v ∧ actR h p v a
  | v :: vs, a :: ac, r, 0, b, hb => by simp at hb; subst hb; exact ⟨v, rfl, r.1⟩
  | v :: vs, a :: ac, r, i + 1, b, hb => by simpa using actsR.get r.2 (by simpa using hb)
  | [], [], _, i, b, hb => by simp at hb
  | [], _ :: _, h, _, _, _ => h.elim
  | _ :: _, [], h, _, _, _ => h.elim
theorem okRun.at_ {size : Int} : ∀ {ac : List Dact} {fs : Fs}, okRun size fs ac → ∀ (j : Nat) {a : Dact}, ac[j]? = some a → small size ((ac.take j).foldl runA fs) ∧ validA ((ac.take j).foldl runA fs) a ∧ small size ((ac.take (j + 1)).foldl runA fs)
  | a :: ac, fs, h, 0, b, hb => by simp at hb; subst hb; exact ⟨h.1, h.2.1, by simpa using h.2.2.first⟩
  | a :: ac, fs, h, j + 1, b, hb => by simpa using okRun.at_ h.2.2 j (by simpa using hb)
  | [], fs, h, j, b, hb => by simp at hb
theorem okRun.pre {size : Int} : ∀ {ac : List Dact} {fs : Fs}, okRun size fs ac → ∀ (j : Nat), small size ((ac.take j).foldl runA fs)
  | [], fs, h, j => by rw [List.take_nil]; exact h
  | a :: ac, fs, h, 0 => h.1
  | a :: ac, fs, h, j + 1 => by simpa using okRun.pre h.2.2 j
theorem fold_succ {ac : List Dact} {fs : Fs} {j : Nat} {a : Dact} (h : ac[j]? = some a) : (ac.take (j + 1)).foldl runA fs = runA ((ac.take j).foldl runA fs) a := by
  rw [List.take_add_one, h, List.foldl_append]
  rfl
/-- the loop over the first acts -/
theorem crash_loop (D : DkV h p n s J d A els c bs0 c' bs') (k : Nat) (hk : k ≤ d.acts.length) (m : Nat) (kk : Int) (bb : Int) (e : Env) (e0 : getE e 0 = .ptr p 0) (e1 : getE e 1 = i64 kk) (e2 : getE e 2 = i64 bb) (e7 : getE e 7 = .map s) (S42 : AV) (e42 : getE e 42 = S42) (hS : k = 0 ∨ S42 = .slice .none (some 4) (els.take k)) (e43 : getE e 43 = i64 k) (e44 : getE e 44 = i64 0) {Q : Res → Prop}
    (hQ : ∀ e' h' c2 bs2, getE e' 0 = .ptr p 0 → getE e' 1 = i64 kk → getE e' 2 = i64 bb → getE e' 7 = .map s → Keep h h' [s] → h'[s]? = some (.map none c2 bs2 (fsV ((d.acts.take k).foldl runA d.sure))) → Wf c2 bs2 ((d.acts.take k).foldl runA d.sure) → Q (.exit 1, e', h')) :
    WP Q (axl T [0, 1, 2, 7, 42, 43, 44] false L18_0 m e h) := by
  refine WP_loop (I := fun f e h' => ∃ j c2 bs2, f = k - j ∧ j ≤ k ∧ getE e 0 = .ptr p 0 ∧ getE e 1 = i64 kk ∧ getE e 2 = i64 bb ∧ getE e 7 = .map s ∧ getE e 42 = S42 ∧ getE e 43 = i64 k ∧ getE e 44 = i64 j ∧ Keep h h' [s] ∧ h'[s]? = some (.map none c2 bs2 (fsV ((d.acts.take j).foldl runA d.sure))) ∧ Wf c2 bs2 ((d.acts.take j).foldl runA d.sure)) ?_ k _ _
    ⟨0, c', bs', rfl, Nat.zero_le _, e0, e1, e2, e7, e42, e43, e44, Keep.refl _ _, D.sure, D.ws⟩
  clear e0 e1 e2 e7 e42 e43 e44 e
  rintro f e h' ⟨j, c2, bs2, rfl, hj, e0, e1, e2, e7, e42, e43, e44, hkp, hs, w⟩
  rw [trim_off]
  by_cases hjk : j = k
  · subst hjk
    have hlt : ¬ ((j : Int) < (j : Int)) := Int.lt_irrefl _
    first | have hb := hb | have hb := trivial
    repeat' (first | (simp -implicitDefEqProofs (disch := omega) only [hb, L18_0, e0, e1, e2, e7, e42, e43, e44, hlt, wC, initE, aop, Nat.reduceEqDiff, ↓reduceIte, Nat.reduceAdd, finish, resOf, tupOf, AM.freeze, freeze1, freezeL, closed, nam, namL, if_true, if_false, deref, boxAt, exAt, ldCells, oneL, oneCell, Nat.reduceLeDiff, evL, adopt, rigid, rigidL, trim, Int.reduceEq, Int.reduceMod, Int.reduceDiv, if_pos, if_neg, asI, forall_const, implies_true, chkD, chkO, chkW, effB, reB, vEq, beq_self_eq_true, Nat.reduceSub, Nat.reduceLT, Int.reduceSub, Int.reduceAdd, Int.reduceMul, Int.reduceLT, Int.reduceLE, Int.reduceToNat, optI, aslice, cutSl, cutMs, cutStr, cutOwn, cellsOf, one, elCells, lenOf, beqV, beqVL, strip, stripO, convS]) | ((first | rw [WP_condK] | rw [WP_opsG] | rw [WP_quiG] | rw [WP_dG]); refine And.intro (fun hb => ?_) (fun hb => ?_) <;> (first | have hd := dq1 hb | have hd := dq2 hb | have hd := dq3 hb | have hd := dq4 hb | skip)))
    exact hQ _ _ _ _ rfl rfl rfl rfl hkp hs w
  · have hlt : (j : Int) < (k : Int) := by omega
    obtain ⟨a, ha⟩ : ∃ a, d.acts[j]? = some a := ⟨_, List.getElem?_eq_getElem (by omega)⟩
    obtain ⟨v, hv, hr⟩ := D.acts.get ha
    have hr' := hr.keep hkp (fun i hi => by simp at hi; subst hi; right; intro cs hc; rw [D.sure] at hc; cases hc)
    obtain ⟨q1, q2, q3⟩ := D.run.at_ j ha
    have hbig := D.big
    have hfs := fold_succ (fs := d.sure) ha
    rw [hfs] at q3
    rcases hS with rfl | hS
    · omega
    rw [hS] at e42
    have hg : (els.take k)[j]? = some v := by rw [List.getElem?_take, if_pos (by omega)]; exact hv
    have g0 : ∀ x g, (h' ++ (x :: g))[h'.length]? = some x := fun x g => app_get _ _ _ 0 rfl
    have s0 : ∀ x g u, (h' ++ (x :: g)).set h'.length u = h' ++ (u :: g) := fun x g u => app_set _ _ _ 0 u rfl
    have hw : IntKind.i64.wrap (((j + 1 : Nat) : Int)) = ((j + 1 : Nat) : Int) := by rw [IntKind.wrap_i64]; have := D.few; omega
    have hls := (List.getElem?_eq_some_iff.1 hs).1
    obtain ⟨f0, caps, b, ad, nm, rfl, _⟩ := act_run hs w hr' q2 (by have := q3.1; omega) (by have := q1.1; omega) q3.2
    have hkp2 := hkp.trans (keep_app h' [.cells [.func (.func f0) [] caps, i64 b, .bool ad, .str nm]] [s]) (fun i hi => .inl hi)
    have hr2 := hr.keep hkp2 (fun i hi => by simp at hi; subst hi; right; intro cs hc; rw [D.sure] at hc; cases hc)
    have hs2 : (h' ++ [AObj.cells [.func (.func f0) [] caps, i64 b, .bool ad, .str nm]])[s]? = some (.map none c2 bs2 (fsV ((d.acts.take j).foldl runA d.sure))) := by rw [List.getElem?_append_left hls]; exact hs
    obtain ⟨_, _, _, _, _, heq, g, c3, bs3, w3, hrun⟩ := act_run hs2 w hr2 q2 (by have := q3.1; omega) (by have := q1.1; omega) q3.2
    cases heq
    have l2 : ∀ X, ((h' ++ [AObj.cells [.func (.func f0) [] caps, i64 b, .bool ad, .str nm]]).set s X ++ g).length = h'.length + 1 + g.length := fun X => by simp [Nat.add_assoc]
    have hk3 : ∀ X, Keep h ((h' ++ [AObj.cells [.func (.func f0) [] caps, i64 b, .bool ad, .str nm]]).set s X ++ g) [s] := fun X => ⟨by rw [l2]; have := hkp.1; omega, fun i hi hn => by
      simp only [List.mem_singleton] at hn
      have hi' : i < h'.length := Nat.lt_of_lt_of_le hi hkp.1
      rw [List.getElem?_append_left (by simp; omega), List.getElem?_set_ne (fun e => hn e.symm), List.getElem?_append_left hi', hkp.2 i hi (by simp [hn])]⟩
    have hs3 : ∀ X, ((h' ++ [AObj.cells [.func (.func f0) [] caps, i64 b, .bool ad, .str nm]]).set s X ++ g)[s]? = some X := fun X => by
      rw [List.getElem?_append_left (by simp; omega), List.getElem?_set_self (by simp; omega)]
    rw [← hfs] at w3 hrun
    first | have hb := hb | have hb := trivial
    repeat' (first | (simp -implicitDefEqProofs (disch := omega) only [hb, L18_0, e0, e1, e2, e7, e42, e43, e44, hlt, hg, g0, s0, hrun, hw, wC, initE, aop, Nat.reduceEqDiff, ↓reduceIte, Nat.reduceAdd, finish, resOf, tupOf, AM.freeze, freeze1, freezeL, closed, nam, namL, if_true, if_false, deref, boxAt, exAt, ldCells, oneL, oneCell, Nat.reduceLeDiff, evL, adopt, rigid, rigidL, trim, Int.reduceEq, Int.reduceMod, Int.reduceDiv, if_pos, if_neg, asI, forall_const, implies_true, chkD, chkO, chkW, effB, reB, vEq, beq_self_eq_true, Nat.reduceSub, Nat.reduceLT, Int.reduceSub, Int.reduceAdd, Int.reduceMul, Int.reduceLT, Int.reduceLE, Int.reduceToNat, optI, aslice, cutSl, cutMs, cutStr, cutOwn, cellsOf, one, elCells, lenOf, beqV, beqVL, strip, stripO, convS]) | ((first | rw [WP_condK] | rw [WP_opsG] | rw [WP_quiG] | rw [WP_dG]); refine And.intro (fun hb => ?_) (fun hb => ?_) <;> (first | have hd := dq1 hb | have hd := dq2 hb | have hd := dq3 hb | have hd := dq4 hb | skip)))
    exact ⟨k - (j + 1), by omega, j + 1, _, _, rfl, by omega, hS.symm, rfl, hk3 _, hs3 _, w3⟩
def crashD (d : Dk) (S : Fs) : Dk := { d with sure := S, now := S, acts := [], c := -1 }
/-- what is there behind a crash -/
def crashS (d : Dk) (k b : Nat) : Fs := match d.acts[k]? with
  | some (.add nm l) => if (findF nm ((d.acts.take k).foldl runA d.sure) 0).isSome = true ∨ 0 < b then runA ((d.acts.take k).foldl runA d.sure) (.add nm (l.take b)) else (d.acts.take k).foldl runA d.sure
  | _ => (d.acts.take k).foldl runA d.sure
theorem crash_fin (D : DkV h p n s J d A els c bs0 c' bs') {hE : Heap} {S : Fs} {c2 : Nat} {bs2 : List Nat} (hk : Keep h hE [s]) (hs : hE[s]? = some (.map none c2 bs2 (fsV S))) (w : Wf c2 bs2 S) (hsm : small d.size S) :
    Stp h p n s J ((hE ++ [AObj.map none c2 bs2 (fsV S)]).set p (.cells (dC d.size s hE.length .nil (-1)))) hE.length s [] ∧ DkH ((hE ++ [AObj.map none c2 bs2 (fsV S)]).set p (.cells (dC d.size s hE.length .nil (-1)))) p hE.length s [] (crashD d S) := by
  have lp := (List.getElem?_eq_some_iff.1 D.box).1
  have ls := (List.getElem?_eq_some_iff.1 D.sure).1
  have hps : p ≠ s := fun e => by have := D.box; rw [e, D.sure] at this; cases this
  have hl := hk.1
  refine ⟨⟨⟨by simp; omega, fun i hi hn => ?_⟩, fun i hi => ?_⟩, ⟨.nil, [], c2, bs2, c2, bs2, List.getElem?_set_self (by simp; omega), ?_, w, ?_, w, .inl ⟨rfl, rfl, rfl⟩, trivial, by omega, by simp [crashD], by simp [crashD], rfl, hsm, D.big⟩⟩
  · simp only [List.mem_cons, not_or] at hn
    rw [List.getElem?_set_ne (fun e => hn.1 e.symm), List.getElem?_append_left (by omega), hk.2 i hi (by simp [hn.2.2.1])]
  · simp only [List.mem_cons, List.not_mem_nil, or_false] at hi ⊢
    rcases hi with h | h | h
    · exact .inl (.inl h)
    · exact .inr (by omega)
    · exact .inl (.inr (.inr (.inl h)))
  · rw [List.getElem?_set_ne (by omega), get_app0]; rfl
  · rw [List.getElem?_set_ne hps, List.getElem?_append_left (by omega)]; exact hs
theorem crash_end (D : DkV h p n s J d A els c bs0 c' bs') {hE : Heap} {S : Fs} {c2 : Nat} {bs2 : List Nat} (hk : Keep h hE [s]) (hs : hE[s]? = some (.map none c2 bs2 (fsV S))) (w : Wf c2 bs2 S) (hsm : small d.size S) :
    ∃ h1, ag T 33 [.map s] hE = some (.map hE.length, h1) ∧ h1[p]? = some (.cells (dC d.size s n A d.c)) ∧ (∀ X, (h1.set p (.cells X))[p]? = some (.cells X)) ∧ (∀ X Y, (h1.set p (.cells X)).set p (.cells Y) = h1.set p (.cells Y)) ∧
      Stp h p n s J (h1.set p (.cells (dC d.size s hE.length .nil (-1)))) hE.length s [] ∧ DkH (h1.set p (.cells (dC d.size s hE.length .nil (-1)))) p hE.length s [] (crashD d S) := by
  have hps : p ≠ s := fun e => by have := D.box; rw [e, D.sure] at this; cases this
  have hbE := hk.get D.box (by simp [hps])
  have lE := (List.getElem?_eq_some_iff.1 hbE).1
  obtain ⟨r1, r2⟩ := crash_fin D hk hs w hsm
  exact ⟨_, call_mclone hs, by rw [List.getElem?_append_left lE]; exact hbE, fun X => List.getElem?_set_self (by simp; omega), fun X Y => List.set_set .., r1, r2⟩
theorem d_crash_arg (D : DkH h p n s J d) (k b : Int) (hkb : k < 0 ∨ (d.acts.length : Int) < k ∨ b < 0) : ag T 18 [.ptr p 0, i64 k, i64 b] h = some (i64 1, h) := by
  obtain ⟨A, els, c, bs0, c', bs', D⟩ := D
  refine WP_eq (k_wp rfl t18 rfl rfl ?_)
  have hm := c_made D.box
  have hbx := D.box
  have hlen := actsR_len D.acts
  have hA : lenOf A = some d.acts.length := by
    rcases D.row with ⟨rfl, rfl, _⟩ | ⟨j, _, rfl, _⟩
    · rw [← hlen]; rfl
    · rw [← hlen]; rfl
  unfold dC at hbx
  by_cases h1 : k < 0
  · first | have hb := hb | have hb := trivial
    repeat' (first | (simp -implicitDefEqProofs (disch := omega) only [hb, F18, hm, hbx, hA, h1, wC, wO, initE, aop, Nat.reduceEqDiff, ↓reduceIte, Nat.reduceAdd, finish, resOf, tupOf, AM.freeze, freeze1, freezeL, closed, nam, namL, if_true, if_false, deref, boxAt, exAt, ldCells, oneL, oneCell, Nat.reduceLeDiff, evL, adopt, rigid, rigidL, trim, Int.reduceEq, Int.reduceMod, Int.reduceDiv, if_pos, if_neg, asI, forall_const, implies_true, chkD, chkO, chkW, effB, reB, vEq, beq_self_eq_true, Nat.reduceSub, Nat.reduceLT, Int.reduceSub, Int.reduceAdd, Int.reduceMul, Int.reduceLT, Int.reduceLE, Int.reduceToNat, optI, aslice, cutSl, cutMs, cutStr, cutOwn]) | ((first | rw [WP_condK] | rw [WP_opsG] | rw [WP_quiG] | rw [WP_dG]); refine And.intro (fun hb => ?_) (fun hb => ?_) <;> (first | have hd := dq1 hb | have hd := dq2 hb | have hd := dq3 hb | have hd := dq4 hb | skip)))
  · by_cases h2 : (d.acts.length : Int) < k
    · first | have hb := hb | have hb := trivial
      repeat' (first | (simp -implicitDefEqProofs (disch := omega) only [hb, F18, hm, hbx, hA, h1, h2, wC, wO, initE, aop, Nat.reduceEqDiff, ↓reduceIte, Nat.reduceAdd, finish, resOf, tupOf, AM.freeze, freeze1, freezeL, closed, nam, namL, if_true, if_false, deref, boxAt, exAt, ldCells, oneL, oneCell, Nat.reduceLeDiff, evL, adopt, rigid, rigidL, trim, Int.reduceEq, Int.reduceMod, Int.reduceDiv, if_pos, if_neg, asI, forall_const, implies_true, chkD, chkO, chkW, effB, reB, vEq, beq_self_eq_true, Nat.reduceSub, Nat.reduceLT, Int.reduceSub, Int.reduceAdd, Int.reduceMul, Int.reduceLT, Int.reduceLE, Int.reduceToNat, optI, aslice, cutSl, cutMs, cutStr, cutOwn]) | ((first | rw [WP_condK] | rw [WP_opsG] | rw [WP_quiG] | rw [WP_dG]); refine And.intro (fun hb => ?_) (fun hb => ?_) <;> (first | have hd := dq1 hb | have hd := dq2 hb | have hd := dq3 hb | have hd := dq4 hb | skip)))
    · have h3 : b < 0 := by omega
      first | have hb := hb | have hb := trivial
      repeat' (first | (simp -implicitDefEqProofs (disch := omega) only [hb, F18, hm, hbx, hA, h1, h2, h3, wC, wO, initE, aop, Nat.reduceEqDiff, ↓reduceIte, Nat.reduceAdd, finish, resOf, tupOf, AM.freeze, freeze1, freezeL, closed, nam, namL, if_true, if_false, deref, boxAt, exAt, ldCells, oneL, oneCell, Nat.reduceLeDiff, evL, adopt, rigid, rigidL, trim, Int.reduceEq, Int.reduceMod, Int.reduceDiv, if_pos, if_neg, asI, forall_const, implies_true, chkD, chkO, chkW, effB, reB, vEq, beq_self_eq_true, Nat.reduceSub, Nat.reduceLT, Int.reduceSub, Int.reduceAdd, Int.reduceMul, Int.reduceLT, Int.reduceLE, Int.reduceToNat, optI, aslice, cutSl, cutMs, cutStr, cutOwn]) | ((first | rw [WP_condK] | rw [WP_opsG] | rw [WP_quiG] | rw [WP_dG]); refine And.intro (fun hb => ?_) (fun hb => ?_) <;> (first | have hd := dq1 hb | have hd := dq2 hb | have hd := dq3 hb | have hd := dq4 hb | skip)))
theorem small_pre {size : Int} {S : Fs} {nm l : List Int} {b : Nat} (h : small size (runA S (.add nm l))) (hS : small size S) : small size (runA S (.add nm (l.take b))) := by
  have e1 : totF (runA S (.add nm l)) = totF S + l.length := tot_put
  have e2 : totF (runA S (.add nm (l.take b))) = totF S + (l.take b).length := tot_put
  refine ⟨by have := h.1; rw [e1] at this; rw [e2, List.length_take]; omega, fun x hx => ?_⟩
  rcases mem_putF hx with hx | rfl
  · exact hS.2 x hx
  · have := h.2 (nm, moreF (findF nm S 0) l) (by
      show _ ∈ putF S nm _ _
      cases hr : findF nm S 0 with
      | none => simp [putF]
      | some r => exact List.mem_set (List.getElem?_eq_some_iff.1 (found hr)).1 _)
    cases hr : findF nm S 0 with
    | none => simp [moreF]
    | some r => rw [hr] at this; simpa [moreF] using this
theorem d_crash (D : DkH h p n s J d) (k b : Nat) (hk : k ≤ d.acts.length) :
    ∃ h' n', ag T 18 [.ptr p 0, i64 k, i64 b] h = some (i64 0, h') ∧ Stp h p n s J h' n' s [] ∧ DkH h' p n' s [] (crashD d (crashS d k b)) := by
  obtain ⟨A, els, c, bs0, c', bs', D⟩ := D
  suffices hwp : WP (fun r : AV × Heap => r.1 = i64 0 ∧ ∃ n', Stp h p n s J r.2 n' s [] ∧ DkH r.2 p n' s [] (crashD d (crashS d k b))) (ag T 18 [.ptr p 0, i64 k, i64 b] h) by
    obtain ⟨⟨v, h'⟩, h1, h2, n', h3, h4⟩ := WP_ex hwp
    cases h2
    exact ⟨h', n', h1, h3, h4⟩
  refine k_wp rfl t18 rfl rfl ?_
  have hm := c_made D.box
  have hbx := D.box
  have lp := (List.getElem?_eq_some_iff.1 hbx).1
  have hlen := actsR_len D.acts
  have hps : p ≠ s := fun e => by have := D.box; rw [e, D.sure] at this; cases this
  have hA : lenOf A = some d.acts.length := by
    rcases D.row with ⟨rfl, rfl, _⟩ | ⟨j, _, rfl, _⟩
    · rw [← hlen]; rfl
    · rw [← hlen]; rfl
  have hk0 : ¬ ((k : Int) < 0) := by omega
  have hk1 : ¬ ((d.acts.length : Int) < k) := by omega
  have hb0 : ¬ ((b : Int) < 0) := by omega
  obtain ⟨S42, hsl, hS42, hl42⟩ : ∃ S42, aslice h .slice (some 4) A none (some (k : Int)) none = some S42 ∧ (k = 0 ∨ S42 = .slice .none (some 4) (els.take k)) ∧ lenOf S42 = some k := by
    rcases D.row with ⟨rfl, rfl, _⟩ | ⟨j, _, rfl, _⟩
    · have : k = 0 := by simp at hlen; omega
      subst this
      exact ⟨.nil, by simp [aslice], .inl rfl, rfl⟩
    · refine ⟨.slice .none (some 4) (els.take k), ?_, .inr rfl, by simp [lenOf]; omega⟩
      have h1 : (k : Int) ≤ els.length := by omega
      have h0 : (0 : Int) ≤ k := by omega
      simp [aslice, cutSl, h1, h0]
  unfold dC at hbx
  first | have hb := hb | have hb := trivial
  repeat' (first | (simp -implicitDefEqProofs (disch := omega) only [hb, F18, hm, hbx, hA, hk0, hk1, hb0, hsl, hl42, wC, wO, initE, aop, Nat.reduceEqDiff, ↓reduceIte, Nat.reduceAdd, finish, resOf, tupOf, AM.freeze, freeze1, freezeL, closed, nam, namL, if_true, if_false, deref, boxAt, exAt, ldCells, oneL, oneCell, Nat.reduceLeDiff, evL, adopt, rigid, rigidL, trim, Int.reduceEq, Int.reduceMod, Int.reduceDiv, if_pos, if_neg, asI, forall_const, implies_true, chkD, chkO, chkW, effB, reB, vEq, beq_self_eq_true, Nat.reduceSub, Nat.reduceLT, Int.reduceSub, Int.reduceAdd, Int.reduceMul, Int.reduceLT, Int.reduceLE, Int.reduceToNat, optI, cutSl, cutMs, cutStr, cutOwn]) | ((first | rw [WP_condK] | rw [WP_opsG] | rw [WP_quiG] | rw [WP_dG]); refine And.intro (fun hb => ?_) (fun hb => ?_) <;> (first | have hd := dq1 hb | have hd := dq2 hb | have hd := dq3 hb | have hd := dq4 hb | skip)))
  refine crash_loop D k hk _ k b _ rfl rfl rfl rfl S42 rfl hS42 rfl rfl (fun e' h1 c2 bs2 e0 e1 e2 e7 hkp hs w => ?_)
  have hbx1 := hkp.get D.box (by simp [hps])
  have hsm := D.run.pre k
  cases ha : d.acts[k]? with
  | none =>
    have hlt : ¬ ((k : Int) < (d.acts.length : Nat)) := by
      have := List.getElem?_eq_none_iff.1 ha
      omega
    have hS : crashS d k b = (d.acts.take k).foldl runA d.sure := by unfold crashS; rw [ha]
    obtain ⟨h2, hcl, hb1, hb2, hs2, r1, r2⟩ := crash_end D hkp hs w hsm
    rw [hS]
    unfold dC at *
    first | have hb := hb | have hb := trivial
    repeat' (first | (simp -implicitDefEqProofs (disch := omega) only [hb, F18, e0, e1, e2, e7, hbx1, hA, hlt, hcl, hb1, hb2, hs2, mapO, wC, wO, initE, aop, Nat.reduceEqDiff, ↓reduceIte, Nat.reduceAdd, finish, resOf, tupOf, AM.freeze, freeze1, freezeL, closed, nam, namL, if_true, if_false, deref, boxAt, exAt, ldCells, oneL, oneCell, Nat.reduceLeDiff, evL, adopt, rigid, rigidL, trim, Int.reduceEq, Int.reduceMod, Int.reduceDiv, if_pos, if_neg, asI, forall_const, implies_true, chkD, chkO, chkW, effB, reB, vEq, beq_self_eq_true, Nat.reduceSub, Nat.reduceLT, Int.reduceSub, Int.reduceAdd, Int.reduceMul, Int.reduceLT, Int.reduceLE, Int.reduceToNat, optI, aslice, cutSl, cutMs, cutStr, cutOwn]) | ((first | rw [WP_condK] | rw [WP_opsG] | rw [WP_quiG] | rw [WP_dG]); refine And.intro (fun hb => ?_) (fun hb => ?_) <;> (first | have hd := dq1 hb | have hd := dq2 hb | have hd := dq3 hb | have hd := dq4 hb | skip)))
    exact ⟨_, r1, r2⟩
  | some a =>
    have hlt : ((k : Int) < (d.acts.length : Nat)) := by
      have := (List.getElem?_eq_some_iff.1 ha).1
      omega
    obtain ⟨v, hv, hr⟩ := D.acts.get ha
    obtain ⟨j, rfl⟩ : ∃ j, A = .slice (.tok j) (some 4) els := by
      rcases D.row with ⟨rfl, rfl, _⟩ | ⟨j, _, rfl, _⟩
      · simp at hv
      · exact ⟨j, rfl⟩
    cases a with
    | trunc nm k' =>
      have hS : crashS d k b = (d.acts.take k).foldl runA d.sure := by unfold crashS; rw [ha]
      obtain ⟨rfl, _⟩ := hr
      obtain ⟨h2, hcl, hb1, hb2, hs2, r1, r2⟩ := crash_end D hkp hs w hsm
      rw [hS]
      unfold dC changeC at *
      first | have hb := hb | have hb := trivial
      repeat' (first | (simp -implicitDefEqProofs (disch := omega) only [hb, F18, e0, e1, e2, e7, hbx1, hA, hlt, hv, hcl, hb1, hb2, hs2, mapO, wC, wO, initE, aop, Nat.reduceEqDiff, ↓reduceIte, Nat.reduceAdd, finish, resOf, tupOf, AM.freeze, freeze1, freezeL, closed, nam, namL, if_true, if_false, deref, boxAt, exAt, ldCells, oneL, oneCell, Nat.reduceLeDiff, evL, adopt, rigid, rigidL, trim, Int.reduceEq, Int.reduceMod, Int.reduceDiv, if_pos, if_neg, asI, forall_const, implies_true, chkD, chkO, chkW, effB, reB, vEq, beq_self_eq_true, Nat.reduceSub, Nat.reduceLT, Int.reduceSub, Int.reduceAdd, Int.reduceMul, Int.reduceLT, Int.reduceLE, Int.reduceToNat, optI, aslice, cutSl, cutMs, cutStr, cutOwn]) | ((first | rw [WP_condK] | rw [WP_opsG] | rw [WP_quiG] | rw [WP_dG]); refine And.intro (fun hb => ?_) (fun hb => ?_) <;> (first | have hd := dq1 hb | have hd := dq2 hb | have hd := dq3 hb | have hd := dq4 hb | skip)))
      exact ⟨_, r1, r2⟩
    | ren x y =>
      have hS : crashS d k b = (d.acts.take k).foldl runA d.sure := by unfold crashS; rw [ha]
      obtain ⟨rfl, _⟩ := hr
      obtain ⟨h2, hcl, hb1, hb2, hs2, r1, r2⟩ := crash_end D hkp hs w hsm
      rw [hS]
      unfold dC changeC at *
      first | have hb := hb | have hb := trivial
      repeat' (first | (simp -implicitDefEqProofs (disch := omega) only [hb, F18, e0, e1, e2, e7, hbx1, hA, hlt, hv, hcl, hb1, hb2, hs2, mapO, wC, wO, initE, aop, Nat.reduceEqDiff, ↓reduceIte, Nat.reduceAdd, finish, resOf, tupOf, AM.freeze, freeze1, freezeL, closed, nam, namL, if_true, if_false, deref, boxAt, exAt, ldCells, oneL, oneCell, Nat.reduceLeDiff, evL, adopt, rigid, rigidL, trim, Int.reduceEq, Int.reduceMod, Int.reduceDiv, if_pos, if_neg, asI, forall_const, implies_true, chkD, chkO, chkW, effB, reB, vEq, beq_self_eq_true, Nat.reduceSub, Nat.reduceLT, Int.reduceSub, Int.reduceAdd, Int.reduceMul, Int.reduceLT, Int.reduceLE, Int.reduceToNat, optI, aslice, cutSl, cutMs, cutStr, cutOwn]) | ((first | rw [WP_condK] | rw [WP_opsG] | rw [WP_quiG] | rw [WP_dG]); refine And.intro (fun hb => ?_) (fun hb => ?_) <;> (first | have hd := dq1 hb | have hd := dq2 hb | have hd := dq3 hb | have hd := dq4 hb | skip)))
      exact ⟨_, r1, r2⟩
    | rem nm =>
      have hS : crashS d k b = (d.acts.take k).foldl runA d.sure := by unfold crashS; rw [ha]
      obtain ⟨rfl, _⟩ := hr
      obtain ⟨h2, hcl, hb1, hb2, hs2, r1, r2⟩ := crash_end D hkp hs w hsm
      rw [hS]
      unfold dC changeC at *
      first | have hb := hb | have hb := trivial
      repeat' (first | (simp -implicitDefEqProofs (disch := omega) only [hb, F18, e0, e1, e2, e7, hbx1, hA, hlt, hv, hcl, hb1, hb2, hs2, mapO, wC, wO, initE, aop, Nat.reduceEqDiff, ↓reduceIte, Nat.reduceAdd, finish, resOf, tupOf, AM.freeze, freeze1, freezeL, closed, nam, namL, if_true, if_false, deref, boxAt, exAt, ldCells, oneL, oneCell, Nat.reduceLeDiff, evL, adopt, rigid, rigidL, trim, Int.reduceEq, Int.reduceMod, Int.reduceDiv, if_pos, if_neg, asI, forall_const, implies_true, chkD, chkO, chkW, effB, reB, vEq, beq_self_eq_true, Nat.reduceSub, Nat.reduceLT, Int.reduceSub, Int.reduceAdd, Int.reduceMul, Int.reduceLT, Int.reduceLE, Int.reduceToNat, optI, aslice, cutSl, cutMs, cutStr, cutOwn]) | ((first | rw [WP_condK] | rw [WP_opsG] | rw [WP_quiG] | rw [WP_dG]); refine And.intro (fun hb => ?_) (fun hb => ?_) <;> (first | have hd := dq1 hb | have hd := dq2 hb | have hd := dq3 hb | have hd := dq4 hb | skip)))
      exact ⟨_, r1, r2⟩
    | add nm l =>
      obtain ⟨q, o, rfl, hq, hqp, hnm⟩ := hr
      have hsn := D.run.at_ k ha
      generalize hSt : (d.acts.take k).foldl runA d.sure = S at *
      obtain ⟨q1, q2, q3⟩ := hsn
      rw [fold_succ ha, hSt] at q3
      have ls := (List.getElem?_eq_some_iff.1 hs).1
      have hq1 := hkp.get hq (fun hm => by simp at hm; subst hm; rw [D.sure] at hq; cases hq)
      have lq := (List.getElem?_eq_some_iff.1 hq1).1
      have lp1 := (List.getElem?_eq_some_iff.1 hbx1).1
      have hme : ∀ g, mapEs (h1 ++ g) (.map s) = some (fsV S) := fun g => by simp [mapEs, mapAt, List.getElem?_append_left ls, hs]
      have hf := findM_fs hnm.1 w.names 0
      have g0 : ∀ x g, (h1 ++ (x :: g))[h1.length]? = some x := fun x g => app_get _ _ _ 0 rfl
      have s0 : ∀ x g u, (h1 ++ (x :: g)).set h1.length u = h1 ++ (u :: g) := fun x g u => app_set _ _ _ 0 u rfl
      have g1 : ∀ x y g, (h1 ++ (x :: y :: g))[h1.length + 1]? = some y := fun x y g => app_get _ _ _ 1 rfl
      have s1 : ∀ x y g u, (h1 ++ (x :: y :: g)).set (h1.length + 1) u = h1 ++ (x :: u :: g) := fun x y g u => app_set _ _ _ 1 u rfl
      have hv' := valM_fs (findF nm S 0)
      have his : ∀ r : Option (Nat × Fl), (Option.map (fun r => (r.1, fileV r.2)) r).isSome = r.isSome := fun r => Option.isSome_map ..
      obtain ⟨F1, F2, hF, _, _, n1, n2⟩ := find_cells (findF nm S 0)
      rw [hF] at hv'
      have hbx2 : ∀ g, (h1 ++ g)[p]? = some (.cells (dC d.size s n (.slice (.tok j) (some 4) els) d.c)) := fun g => by rw [List.getElem?_append_left lp1]; exact hbx1
      by_cases hcond : (findF nm S 0).isSome = true ∨ 0 < b
      · obtain ⟨kk, hk3, hk4, hk5⟩ : ∃ kk : Nat, (if ((l.length : Nat) : Int) < (b : Int) then ((l.length : Nat) : Int) else (b : Int)) = (kk : Int) ∧ kk ≤ l.length ∧ l.take kk = l.take b := by
          by_cases h : l.length < b
          · exact ⟨l.length, by rw [if_pos (by omega)], Nat.le_refl _, by rw [List.take_of_length_le (Nat.le_refl _), List.take_of_length_le (by omega)]⟩
          · exact ⟨b, by rw [if_neg (by omega)], by omega, rfl⟩
        have hS : crashS d k b = runA S (.add nm (l.take b)) := by unfold crashS; rw [ha]; simp only [hSt]; rw [if_pos hcond]
        have hsm2 := small_pre (b := b) q3 hsm
        have hbig := D.big
        have hB : (moreF (findF nm S 0) (l.take kk)).flatten.length ≤ 140737488355328 := by
          have := flat_tot (fs := S) (nm := nm) (l := l.take kk)
          have h2 : totF (runA S (.add nm l)) = totF S + l.length := tot_put
          have := q3.1
          rw [List.length_take] at *
          omega
        have hpl : (moreF (findF nm S 0) (l.take b)).length ≤ 1000000000 := hsm2.2 (nm, moreF (findF nm S 0) (l.take b)) (by
          show _ ∈ putF S nm _ _
          cases hr : findF nm S 0 with
          | none => simp [putF]
          | some r => exact List.mem_set (List.getElem?_eq_some_iff.1 (found hr)).1 _)
        have hcall := c_add (h := h1 ++ [.cells [.func (.func 24) [] [.ref [stB' nm], .ptr q 0], i64 l.length, .bool true, stB' nm], .cells [F1, F2]]) (k := kk) (by rw [List.getElem?_append_left ls]; exact hs) (by rw [List.getElem?_append_left lq]; exact hq1) w hnm.1 hk4 hB
        rw [hk5] at hcall
        unfold putO at hcall
        have hk6 : Keep h ((h1 ++ [AObj.cells [.func (.func 24) [] [.ref [stB' nm], .ptr q 0], i64 l.length, .bool true, stB' nm], .cells [F1, F2]]).set s (.map none (putB c2 bs2 (resM (findF nm S 0))).1 (putB c2 bs2 (resM (findF nm S 0))).2 (fsV (putF S nm (moreF (findF nm S 0) (l.take b)) (findF nm S 0))))) [s] := ⟨by simp; have := hkp.1; omega, fun i hi hn => by
          have hn' : i ≠ s := by simpa using hn
          have hi' : i < h1.length := Nat.lt_of_lt_of_le hi hkp.1
          rw [List.getElem?_set_ne (fun e => hn' e.symm), List.getElem?_append_left hi', hkp.2 i hi hn]⟩
        obtain ⟨h2, hcl, hb1, hb2, hs2, r1, r2⟩ := crash_end D hk6 (List.getElem?_set_self (by simp; omega)) (w.put hnm hpl) hsm2
        have hl6 : ((h1 ++ [AObj.cells [.func (.func 24) [] [.ref [stB' nm], .ptr q 0], i64 l.length, .bool true, stB' nm], .cells [F1, F2]]).set s (.map none (putB c2 bs2 (resM (findF nm S 0))).1 (putB c2 bs2 (resM (findF nm S 0))).2 (fsV (putF S nm (moreF (findF nm S 0) (l.take b)) (findF nm S 0))))).length = h1.length + 2 := by simp
        rw [hS]
        rw [show runA S (.add nm (l.take b)) = putF S nm (moreF (findF nm S 0) (l.take b)) (findF nm S 0) from rfl]
        rw [hl6] at r1 r2 hcl
        generalize (h1 ++ [AObj.cells [.func (.func 24) [] [.ref [stB' nm], .ptr q 0], i64 l.length, .bool true, stB' nm], .cells [F1, F2]]).set s (.map none (putB c2 bs2 (resM (findF nm S 0))).1 (putB c2 bs2 (resM (findF nm S 0))).2 (fsV (putF S nm (moreF (findF nm S 0) (l.take b)) (findF nm S 0)))) = hE at *
        generalize putF S nm (moreF (findF nm S 0) (l.take b)) (findF nm S 0) = S2 at *
        unfold dC at *
        cases hr : findF nm S 0 with
        | some r =>
          rw [hr] at hf hv'
          rw [Option.map_some] at hf hv'
          first | have hb := hb | have hb := trivial
          repeat' (first | (simp -implicitDefEqProofs (disch := omega) only [hb, F18, e0, e1, e2, e7, hbx1, hbx2, hA, hlt, hv, g0, s0, g1, s1, List.append_assoc, hme, hf, hv', keyB, Option.isSome_some, n1, n2, hk3, hcall, hcl, hb1, hb2, hs2, mapO, wC, wO, initE, aop, Nat.reduceEqDiff, ↓reduceIte, Nat.reduceAdd, finish, resOf, tupOf, AM.freeze, freeze1, freezeL, closed, nam, namL, if_true, if_false, deref, boxAt, exAt, ldCells, oneL, oneCell, Nat.reduceLeDiff, evL, adopt, rigid, rigidL, trim, Int.reduceEq, Int.reduceMod, Int.reduceDiv, if_pos, if_neg, asI, forall_const, implies_true, chkD, chkO, chkW, effB, reB, vEq, beq_self_eq_true, Nat.reduceSub, Nat.reduceLT, Int.reduceSub, Int.reduceAdd, Int.reduceMul, Int.reduceLT, Int.reduceLE, Int.reduceToNat, optI, aslice, cutSl, cutMs, cutStr, cutOwn]) | ((first | rw [WP_condK] | rw [WP_opsG] | rw [WP_quiG] | rw [WP_dG]); refine And.intro (fun hb => ?_) (fun hb => ?_) <;> (first | have hd := dq1 hb | have hd := dq2 hb | have hd := dq3 hb | have hd := dq4 hb | skip)))
          exact ⟨_, r1, r2⟩
        | none =>
          rw [hr] at hf hv'
          rw [Option.map_none] at hf hv'
          have hbp : (0 : Int) < b := by
            rw [hr] at hcond
            rcases hcond with h | h
            · cases h
            · omega
          first | have hb := hb | have hb := trivial
          repeat' (first | (simp -implicitDefEqProofs (disch := omega) only [hb, F18, e0, e1, e2, e7, hbx1, hbx2, hA, hlt, hv, g0, s0, g1, s1, List.append_assoc, hme, hf, hv', keyB, Option.isSome_none, n1, n2, hbp, hk3, hcall, hcl, hb1, hb2, hs2, mapO, wC, wO, initE, aop, Nat.reduceEqDiff, ↓reduceIte, Nat.reduceAdd, finish, resOf, tupOf, AM.freeze, freeze1, freezeL, closed, nam, namL, if_true, if_false, deref, boxAt, exAt, ldCells, oneL, oneCell, Nat.reduceLeDiff, evL, adopt, rigid, rigidL, trim, Int.reduceEq, Int.reduceMod, Int.reduceDiv, if_pos, if_neg, asI, forall_const, implies_true, chkD, chkO, chkW, effB, reB, vEq, beq_self_eq_true, Nat.reduceSub, Nat.reduceLT, Int.reduceSub, Int.reduceAdd, Int.reduceMul, Int.reduceLT, Int.reduceLE, Int.reduceToNat, optI, aslice, cutSl, cutMs, cutStr, cutOwn]) | ((first | rw [WP_condK] | rw [WP_opsG] | rw [WP_quiG] | rw [WP_dG]); refine And.intro (fun hb => ?_) (fun hb => ?_) <;> (first | have hd := dq1 hb | have hd := dq2 hb | have hd := dq3 hb | have hd := dq4 hb | skip)))
          exact ⟨_, r1, r2⟩
      · have hS : crashS d k b = S := by unfold crashS; rw [ha]; simp only [hSt]; rw [if_neg hcond]
        rw [hS]
        have hr : findF nm S 0 = none := by
          cases hr : findF nm S 0 with
          | none => rfl
          | some r => exact absurd (.inl (by rw [hr]; rfl)) hcond
        rw [hr, Option.map_none] at hf hv'
        have hbp : ¬ ((0 : Int) < b) := by omega
        have hk6 := hkp.trans (keep_app h1 [.cells [.func (.func 24) [] [.ref [stB' nm], .ptr q 0], i64 l.length, .bool true, stB' nm], .cells [F1, F2]] [s]) (fun i hi => .inl hi)
        obtain ⟨h2, hcl, hb1, hb2, hs2, r1, r2⟩ := crash_end D hk6 (by rw [List.getElem?_append_left ls]; exact hs) w hsm
        rw [List.length_append] at r1 r2 hcl
        unfold dC at *
        first | have hb := hb | have hb := trivial
        repeat' (first | (simp -implicitDefEqProofs (disch := omega) only [hb, F18, e0, e1, e2, e7, hbx1, hbx2, hA, hlt, hv, g0, s0, g1, s1, List.append_assoc, hme, hf, hv', keyB, Option.isSome_none, n1, n2, hbp, hcl, hb1, hb2, hs2, mapO, wC, wO, initE, aop, Nat.reduceEqDiff, ↓reduceIte, Nat.reduceAdd, finish, resOf, tupOf, AM.freeze, freeze1, freezeL, closed, nam, namL, if_true, if_false, deref, boxAt, exAt, ldCells, oneL, oneCell, Nat.reduceLeDiff, evL, adopt, rigid, rigidL, trim, Int.reduceEq, Int.reduceMod, Int.reduceDiv, if_pos, if_neg, asI, forall_const, implies_true, chkD, chkO, chkW, effB, reB, vEq, beq_self_eq_true, Nat.reduceSub, Nat.reduceLT, Int.reduceSub, Int.reduceAdd, Int.reduceMul, Int.reduceLT, Int.reduceLE, Int.reduceToNat, optI, aslice, cutSl, cutMs, cutStr, cutOwn]) | ((first | rw [WP_condK] | rw [WP_opsG] | rw [WP_quiG] | rw [WP_dG]); refine And.intro (fun hb => ?_) (fun hb => ?_) <;> (first | have hd := dq1 hb | have hd := dq2 hb | have hd := dq3 hb | have hd := dq4 hb | skip)))
        exact ⟨_, r1, r2⟩
end
end Go.Proofs.Ytccllndmknnehaa.AM

/- layer 10: FilesNames. -/
namespace Go.Proofs.Ytccllndmknnehaa.AM
open Go
set_option maxRecDepth 100000
set_option maxHeartbeats 4000000
set_option linter.unusedVariables false
set_option linter.unusedSimpArgs false
def newH (size : Int) : Heap := [.map none 0 [] [], .map none 0 [] [], .cells (dC size 0 1 .nil (-1))]
def newD (size : Int) : Dk := ⟨size, [], [], [], -1⟩
theorem new_dk (size : Int) (h0 : 0 ≤ size) (h1 : size ≤ 268435456) (g : Heap) : DkH (newH size ++ g) 2 1 0 [] (newD size) := by
  have w : Wf 0 [] [] := ⟨rfl, List.nodup_nil, fun b hb => (by cases hb), fun x hx => (by cases hx), List.nodup_nil, fun x hx => (by cases hx), fun x hx => (by cases hx)⟩
  have D : DkV (newH size) 2 1 0 [] (newD size) .nil [] 0 [] 0 [] := ⟨rfl, rfl, w, rfl, w, .inl ⟨rfl, rfl, rfl⟩, trivial, by decide, by simp [newD], by simp [newD], rfl, ⟨by simpa [newD, totF] using h0, fun x hx => by cases hx⟩, h1⟩
  exact ⟨_, _, _, _, _, _, D.app g⟩
theorem call_new (size : Int) (h0 : 0 ≤ size) (h1 : size ≤ 268435456) : ag T 6 [i64 size] [] = some (.tup [.ptr 2 0, i64 0], newH size) := by
  refine WP_eq (k_wp rfl t6 rfl rfl ?_)
  have n0 : ¬ (size < 0) := by omega
  have n1 : ¬ (268435456 < size) := by omega
  first | have hb := hb | have hb := trivial
  repeat' (first | (simp -implicitDefEqProofs (disch := omega) only [hb, F6, n0, n1, wC, initE, aop, Nat.reduceEqDiff, ↓reduceIte, Nat.reduceAdd, finish, resOf, tupOf, AM.freeze, freeze1, freezeL, closed, nam, namL, if_true, if_false, deref, boxAt, exAt, ldCells, oneL, oneCell, Nat.reduceLeDiff, evL, adopt, rigid, rigidL, trim, Int.reduceEq, Int.reduceMod, Int.reduceDiv, if_pos, if_neg, asI, forall_const, implies_true, chkD, chkO, chkW, effB, reB, vEq, beq_self_eq_true, Nat.reduceSub, Nat.reduceLT, Int.reduceSub, Int.reduceAdd, Int.reduceMul, Int.reduceLT, Int.reduceLE, Int.reduceToNat, optI, aslice, cutSl, cutMs, cutStr, cutOwn, cellsOf, one, elCells, lenOf, beqV, beqVL, strip, stripO, convS]) | ((first | rw [WP_condK] | rw [WP_opsG] | rw [WP_quiG] | rw [WP_dG]); refine And.intro (fun hb => ?_) (fun hb => ?_) <;> (first | have hd := dq1 hb | have hd := dq2 hb | have hd := dq3 hb | have hd := dq4 hb | skip)))
  rfl
theorem d_left' {h : Heap} {p n s : Nat} {J : List Nat} {d : Dk} (D : DkH h p n s J d) : ag T 13 [.ptr p 0] h = some (i64 (d.size - totF d.now), h) := by
  obtain ⟨_, _, _, _, _, _, D⟩ := D
  exact d_left D
theorem call_clone_b (o : AOwn) (l : List Int) (hl : l.length ≤ 140737488355328) (h : Heap) : ∃ o' h', ag T 23 [.slice o none (l.map u8)] h = some (.slice o' none (l.map u8), h ++ h') := by
  have hc : closedL (l.map u8) = true := u8_nam _ l
  exact ⟨_, _, call_clone e23 h hc (by rw [List.length_map]; exact fits_of (.inl (by omega)))⟩
theorem names_ok (nm b : List Int) (hnm : Bytes nm) (hby : Bytes b) (hsz : nm.length ≤ 9223372036854775807) : prun T F3 [.str (strOfNums nm), .slice .none none (b.map u8)] = some (.bool true) := by
  refine WP_eq (prun_wp ?_)
  have hnew := call_new 1048576 (by decide) (by decide)
  have hlv := call_lives
  by_cases hlen : (1000 : Int) < b.length
  · first | have hb := hb | have hb := trivial
    repeat' (first | (simp -implicitDefEqProofs (disch := omega) only [hb, F3, isNil, hnew, hlv, hlen, wC, initE, aop, Nat.reduceEqDiff, ↓reduceIte, Nat.reduceAdd, finish, resOf, tupOf, AM.freeze, freeze1, freezeL, closed, nam, namL, if_true, if_false, deref, boxAt, exAt, ldCells, oneL, oneCell, Nat.reduceLeDiff, evL, adopt, rigid, rigidL, trim, Int.reduceEq, Int.reduceMod, Int.reduceDiv, if_pos, if_neg, asI, forall_const, implies_true, chkD, chkO, chkW, effB, reB, vEq, beq_self_eq_true, Nat.reduceSub, Nat.reduceLT, Int.reduceSub, Int.reduceAdd, Int.reduceMul, Int.reduceLT, Int.reduceLE, Int.reduceToNat, optI, aslice, cutSl, cutMs, cutStr, cutOwn, cellsOf, one, elCells, lenOf, beqV, beqVL, strip, stripO, convS]) | ((first | rw [WP_condK] | rw [WP_opsG] | rw [WP_quiG] | rw [WP_dG]); refine And.intro (fun hb => ?_) (fun hb => ?_) <;> (first | have hd := dq1 hb | have hd := dq2 hb | have hd := dq3 hb | have hd := dq4 hb | skip)))
  · have D0 := new_dk 1048576 (by decide) (by decide) []
    rw [List.append_nil] at D0
    obtain ⟨A, els, c, bs0, c', bs', D0'⟩ := D0
    obtain ⟨h1, J1, A1, els1, c2, bs2, ha, hst, D1⟩ := d_append D0' hnm hby (b := .slice .none none (b.map u8)) (by simp [lenOf]) (call_clone_b _ b (by omega)) hsz (by simp [newD]) (by simp [newD, findF, moreF])
    have hright := call_rright (strOfNums nm) (by rw [st_size]; omega)
    by_cases hr : rightS (strOfNums nm) = true
    · rw [hr] at hright
      have hmay : mayS [strOfNums nm] (-1) = 0 := by unfold mayS badS; simp [hr]
      have he : addE (newD 1048576) nm b = 0 := by
        unfold addE
        rw [show (newD 1048576).c = -1 from rfl, hmay, if_neg (by simp), if_neg (by simp [newD, totF]; omega)]
      rw [he] at ha D1
      rw [if_pos rfl] at D1
      have D1 : DkH h1 2 1 0 J1 _ := ⟨_, _, _, _, _, _, D1⟩
      obtain ⟨d1, D1, d1n, d1c, d1s, d1a⟩ : ∃ d1, DkH h1 2 1 0 J1 d1 ∧ d1.now = [(nm, [b])] ∧ d1.c = -1 ∧ d1.size = 1048576 ∧ d1.acts.length = 1 := ⟨_, D1, rfl, rfl, rfl, rfl⟩
      have hfnd : findF nm [(nm, [b])] 0 = some (0, [b]) := by simp [findF]
      obtain ⟨g2, _, hrd⟩ := d_read D1 hnm hsz
      have hre : readE d1 nm = 0 := by unfold readE remE nonE; rw [d1c, hmay, if_neg (by simp), d1n, hfnd]; rfl
      have hrd := hrd (0, [b]) hre (by rw [d1n]; exact hfnd)
      have hfl : ([b] : Fl).flatten = b := by simp
      simp only [hfl] at hrd
      obtain ⟨_, _, _, _, _, _, D2⟩ := D1
      have D2 := D2.app [.cells [.slice .none none (([b] : Fl).map partV), i64 (b.length : Nat)], .row none b.length]
      generalize hh2 : h1 ++ [AObj.cells [.slice .none none (([b] : Fl).map partV), i64 (b.length : Nat)], .row none b.length] = h2 at D2 hrd
      have D2 : DkH h2 2 1 0 J1 d1 := ⟨_, _, _, _, _, _, D2⟩
      have hleft2 := d_left' D2
      have ht1 : totF d1.now = b.length := by rw [d1n]; simp [totF]
      rw [ht1, d1s] at hleft2
      obtain ⟨h3, J3, hrn, _, D3⟩ := d_rename D2 hnm hnm hsz hsz (by rw [d1a]; omega)
      have hm2 : mayS [strOfNums nm, strOfNums nm] (-1) = 0 := by unfold mayS badS; simp [hr]
      have hrnE : renE d1 nm nm = 0 := by unfold renE nonE; rw [d1c, hm2, if_neg (by simp), d1n, hfnd]; rfl
      rw [hrnE] at hrn D3
      rw [if_pos rfl] at D3
      have hn3 : runA [(nm, [b])] (.ren nm nm) = [(nm, [b])] := by simp only [runA, hfnd]; rfl
      obtain ⟨d3, D3, d3n, d3c, d3s, d3a⟩ : ∃ d3, DkH h3 2 1 0 J3 d3 ∧ d3.now = [(nm, [b])] ∧ d3.c = -1 ∧ d3.size = 1048576 ∧ d3.acts.length = 2 := ⟨_, D3, by simp only [actD, d1n, hn3], by simp only [actD, d1c]; rfl, d1s, by simp [actD, d1a]⟩
      obtain ⟨h4, J4, hrm, _, D4⟩ := d_remove D3 hnm hsz (by rw [d3a]; omega)
      have hrmE : remE d3 nm = 0 := by unfold remE nonE; rw [d3c, hmay, if_neg (by simp), d3n, hfnd]; rfl
      rw [hrmE] at hrm D4
      rw [if_pos rfl] at D4
      have hn4 : runA [(nm, [b])] (.rem nm) = [] := by simp only [runA, hfnd]; rfl
      obtain ⟨d4, D4, d4n, d4c, d4s, d4a⟩ : ∃ d4, DkH h4 2 1 0 J4 d4 ∧ d4.now = [] ∧ d4.c = -1 ∧ d4.size = 1048576 ∧ d4.acts.length = 3 := ⟨_, D4, by simp only [actD, d3n, hn4], by simp only [actD, d3c]; rfl, d3s, by simp [actD, d3a]⟩
      obtain ⟨h5, J5, hrm2, _, D5⟩ := d_remove D4 hnm hsz (by rw [d4a]; omega)
      have hrmE2 : remE d4 nm = 4 := by unfold remE nonE; rw [d4c, hmay, if_neg (by simp), d4n]; rfl
      rw [hrmE2] at hrm2 D5
      rw [if_neg (by decide)] at D5
      have hleft5 := d_left' D5
      rw [d4n, d4s] at hleft5
      have hw5 : (1048576 : Int) - ((totF [] : Nat) : Int) = 1048576 := by simp [totF]
      rw [hw5] at hleft5
      have hbe := byteEls_u8 b
      have hse := st_eq hby hby
      rw [decide_eq_true rfl] at hse
      have hsub : IntKind.i64.wrap (1048576 - (b.length : Int)) = 1048576 - b.length := by rw [IntKind.wrap_i64]; omega
      first | have hb := hb | have hb := trivial
      repeat' (first | (simp -implicitDefEqProofs (disch := omega) only [hb, F3, hnew, hlv, hlen, ha, hrd, hright, hbe, hse, hleft2, hsub, hrn, hrm, hrm2, hleft5, wC, wO, initE, aop, Nat.reduceEqDiff, ↓reduceIte, Nat.reduceAdd, finish, resOf, tupOf, AM.freeze, freeze1, freezeL, closed, nam, namL, if_true, if_false, deref, boxAt, exAt, ldCells, oneL, oneCell, Nat.reduceLeDiff, evL, adopt, rigid, rigidL, trim, Int.reduceEq, Int.reduceMod, Int.reduceDiv, if_pos, if_neg, asI, forall_const, implies_true, chkD, chkO, chkW, effB, reB, vEq, beq_self_eq_true, Nat.reduceSub, Nat.reduceLT, Int.reduceSub, Int.reduceAdd, Int.reduceMul, Int.reduceLT, Int.reduceLE, Int.reduceToNat, optI, aslice, cutSl, cutMs, cutStr, cutOwn]) | ((first | rw [WP_condK] | rw [WP_opsG] | rw [WP_quiG] | rw [WP_dG]); refine And.intro (fun hb => ?_) (fun hb => ?_) <;> (first | have hd := dq1 hb | have hd := dq2 hb | have hd := dq3 hb | have hd := dq4 hb | skip)))
    · have hrf : rightS (strOfNums nm) = false := by simpa using hr
      rw [hrf] at hright
      have hmay : mayS [strOfNums nm] (-1) = 1 := by unfold mayS badS; simp [hrf]
      have hmay2 : mayS [strOfNums nm, strOfNums [97]] (-1) = 1 := by unfold mayS badS; simp [hrf]
      have he : addE (newD 1048576) nm b = 1 := by
        unfold addE
        rw [show (newD 1048576).c = -1 from rfl, hmay, if_pos (by decide)]
      rw [he] at ha D1
      rw [if_neg (by decide)] at D1
      have D1 : DkH h1 2 1 0 J1 _ := ⟨_, _, _, _, _, _, D1⟩
      obtain ⟨g2, hrd, _⟩ := d_read D1 hnm hsz
      have hre : readE (newD 1048576) nm = 1 := by unfold readE remE; rw [show (newD 1048576).c = -1 from rfl, hmay, if_pos (by decide)]
      rw [hre] at hrd
      have hrd := hrd (by decide)
      obtain ⟨_, _, _, _, _, _, D2⟩ := D1
      have D2 := D2.app g2
      generalize h1 ++ g2 = h2 at D2 hrd
      have D2 : DkH h2 2 1 0 J1 (newD 1048576) := ⟨_, _, _, _, _, _, D2⟩
      have h97 : Bytes [97] := fun c hc => by simp at hc; omega
      obtain ⟨h3, J3, hrn, _, D3⟩ := d_rename D2 hnm h97 hsz (by simp) (by simp [newD])
      have hrnE : renE (newD 1048576) nm [97] = 1 := by unfold renE; rw [show (newD 1048576).c = -1 from rfl, hmay2, if_pos (by decide)]
      rw [hrnE] at hrn D3
      rw [if_neg (by decide)] at D3
      obtain ⟨h4, J4, hrm, _, D4⟩ := d_remove D3 hnm hsz (by simp [newD])
      have hrmE : remE (newD 1048576) nm = 1 := hre
      rw [hrmE] at hrm
      have hst97 : bs [97] = strOfNums [97] := by decide +kernel
      first | have hb := hb | have hb := trivial
      repeat' (first | (simp -implicitDefEqProofs (disch := omega) only [hb, F3, hnew, hlv, hlen, ha, hrd, hright, hst97, hrn, hrm, wC, wO, initE, aop, Nat.reduceEqDiff, ↓reduceIte, Nat.reduceAdd, finish, resOf, tupOf, AM.freeze, freeze1, freezeL, closed, nam, namL, if_true, if_false, deref, boxAt, exAt, ldCells, oneL, oneCell, Nat.reduceLeDiff, evL, adopt, rigid, rigidL, trim, Int.reduceEq, Int.reduceMod, Int.reduceDiv, if_pos, if_neg, asI, forall_const, implies_true, chkD, chkO, chkW, effB, reB, vEq, beq_self_eq_true, Nat.reduceSub, Nat.reduceLT, Int.reduceSub, Int.reduceAdd, Int.reduceMul, Int.reduceLT, Int.reduceLE, Int.reduceToNat, optI, aslice, cutSl, cutMs, cutStr, cutOwn]) | ((first | rw [WP_condK] | rw [WP_opsG] | rw [WP_quiG] | rw [WP_dG]); refine And.intro (fun hb => ?_) (fun hb => ?_) <;> (first | have hd := dq1 hb | have hd := dq2 hb | have hd := dq3 hb | have hd := dq4 hb | skip)))
theorem call_names (nm : ByteArray) (hsz : nm.size ≤ 140737488351232) (b : List Int) (hby : Bytes b) : ag T 3 [.str nm, .slice .none none (b.map u8)] [] = some (.sc (.bool true), []) := by
  obtain ⟨l, hl, rfl⟩ := st_of nm
  rw [st_size] at hsz
  exact call_sc rfl t3 rfl rfl rfl (by
    have h1 := u8_nam (fun _ => false) b
    simp only [closedL, namL, nam, h1, Bool.and_self]) (names_ok l b hl hby (by omega))
end Go.Proofs.Ytccllndmknnehaa.AM

/- layer 10: List. -/
namespace Go.Proofs.Ytccllndmknnehaa.AM
open Go Go.Sort
set_option maxRecDepth 100000
set_option maxHeartbeats 4000000
set_option linter.unusedVariables false
set_option linter.unusedSimpArgs false
def nb (nm : List Int) : List UInt8 := nm.map fun n => UInt8.ofNat n.toNat
def unb (k : List UInt8) : List Int := k.map fun b => (b.toNat : Int)
theorem nb_unb (k : List UInt8) : nb (unb k) = k := by
  unfold nb unb
  rw [List.map_map]
  conv => rhs; rw [← List.map_id k]
  refine List.map_congr_left fun b _ => ?_
  simp
theorem unb_nb {nm : List Int} (h : Bytes nm) : unb (nb nm) = nm := by
  unfold nb unb
  rw [List.map_map]
  conv => rhs; rw [← List.map_id nm]
  refine List.map_congr_left fun c hc => ?_
  exact u8_nat (h c hc)
theorem st_nb (nm : List Int) : strOfNums nm = ⟨(nb nm).toArray⟩ := by
  apply ByteArray.ext
  apply Array.toList_inj.1
  rw [st_data]
  rfl
theorem enc_unb (k : List UInt8) : AV.sc (encStr k) = .str (strOfNums (unb k)) := by
  rw [st_nb, nb_unb]
theorem nb_inj {a b : List Int} (ha : Bytes a) (hb : Bytes b) (h : nb a = nb b) : a = b := by rw [← unb_nb ha, ← unb_nb hb, h]
/-- names, rising -/
def snF (fs : Fs) : List (List Int) := ((fs.map fun x => nb x.1).mergeSort leB).map unb
def contF (fs : Fs) (nm : List Int) : List Int := match findF nm fs 0 with | some r => r.2.flatten | none => []
def listV (fs : Fs) : List AV := (snF fs).map fun nm => .agg [stB' nm, .slice .none none ((contF fs nm).map u8)]
theorem keysS_fs : ∀ {fs : Fs}, Names fs → (∀ x ∈ fs, x.1.length ≤ 1000) → keysS (fsV fs) = some (fs.map fun x => nb x.1)
  | [], _, _ => rfl
  | x :: fs, h, hs => by
    have ih := keysS_fs (fs := fs) (fun y hy => h y (List.mem_cons_of_mem _ hy)) (fun y hy => hs y (List.mem_cons_of_mem _ hy))
    have h1 := hs x List.mem_cons_self
    show (keyS (entV x)).bind (fun k => (keysS (fsV fs)).map (k :: ·)) = _
    have hk : keyS (entV x) = some (nb x.1) := by
      show (if (strOfNums x.1).size ≤ 140737488355328 then some (strOfNums x.1).data.toList else none) = _
      rw [if_pos (by rw [st_size]; omega), st_data]; rfl
    rw [hk, Option.bind_some, ih]
    rfl
theorem snF_mem {c : Nat} {bs : List Nat} {fs : Fs} (w : Wf c bs fs) {nm : List Int} (h : nm ∈ snF fs) : ∃ r, findF nm fs 0 = some r := by
  unfold snF at h
  obtain ⟨k, hk, rfl⟩ := List.mem_map.1 h
  have hk' := (List.mergeSort_perm _ leB).subset hk
  obtain ⟨x, hx, rfl⟩ := List.mem_map.1 hk'
  rw [unb_nb (w.names x hx)]
  cases hf : findF x.1 fs 0 with
  | some r => exact ⟨r, rfl⟩
  | none => exact absurd rfl (findF_none hf x hx)
theorem snF_names {c : Nat} {bs : List Nat} {fs : Fs} (w : Wf c bs fs) {nm : List Int} (h : nm ∈ snF fs) : Bytes nm := by
  unfold snF at h
  obtain ⟨k, hk, rfl⟩ := List.mem_map.1 h
  intro c hc
  unfold unb at hc
  obtain ⟨b, _, rfl⟩ := List.mem_map.1 hc
  have := b.toNat_lt
  omega
theorem snF_len (fs : Fs) : (snF fs).length = fs.length := by
  unfold snF
  rw [List.length_map, List.length_mergeSort, List.length_map]
section
variable {h : Heap} {p n s : Nat} {J : List Nat} {d : Dk} {A : AV} {els : List AV} {c : Nat} {bs0 : List Nat} {c' : Nat} {bs' : List Nat}
theorem call_sorted (D : DkV h p n s J d A els c bs0 c' bs') (hl : d.now.length ≤ 1000000000) {h2 : Heap} {q : Nat} {rest : List AV} (hn : h2[n]? = h[n]?) (hq : h2[q]? = some (.cells (.map n :: rest))) : ag T 35 [.func (.func 47) [] [.ptr q 0]] h2 = some (.slice .none none ((snF d.now).map stB'), h2) := by
  rw [ag_nat rfl nf35 n35]
  have hb : boxAt h2 q = some (.map n :: rest) := by unfold boxAt; rw [hq]
  have hm : mapAt h2 n = some (c, bs0, fsV d.now) := by unfold mapAt; rw [hn, D.now]
  have h1 : (bs0.all fun b => decide (b < c)) = true := by rw [List.all_eq_true]; exact fun b hb => decide_eq_true (D.wn.lt b hb)
  have hk := keysS_fs D.wn.names D.wn.short
  have hnd : (d.now.map fun x => nb x.1).Nodup := by
    have := D.wn.keys
    rw [List.nodup_iff_pairwise_ne, List.pairwise_map] at this ⊢
    have hnm := D.wn.names
    refine List.Pairwise.imp_of_mem (fun {a b} ha hb hab => ?_) this
    exact fun e => hab (nb_inj (hnm a ha) (hnm b hb) e)
  simp only [sortedN, if_true, hb, Option.bind_some, hm, hk, h1, D.wn.nd, hnd, List.length_map, hl, and_self]
  congr 3
  unfold sortV snF
  rw [List.map_map]
  exact List.map_congr_left fun k _ => enc_unb k
theorem list_loop (D : DkV h p n s J d A els c bs0 c' bs') (hl : d.now.length ≤ 1000000) (m : Nat) (e : Env) (e0 : getE e 0 = .ptr p 0) (e3 : getE e 3 = .slice (.tok h.length) (some 2) []) (e14 : getE e 14 = .slice .none none ((snF d.now).map stB')) (e15 : getE e 15 = i64 (snF d.now).length) (e16 : getE e 16 = i64 0) {Q : Res → Prop}
    (hQ : ∀ e' G, getE e' 3 = .slice (.tok h.length) (some 2) (listV d.now) → Q (.exit 0, e', h ++ G)) :
    WP Q (axl T [0, 3, 14, 15, 16] false L16_0 m e (h ++ [.row (some 2) 0, .cells [.map n]])) := by
  have hsl := snF_len d.now
  refine WP_loop (I := fun f e h' => ∃ j G, f = (snF d.now).length - j ∧ j ≤ (snF d.now).length ∧ getE e 0 = .ptr p 0 ∧ getE e 3 = .slice (.tok h.length) (some 2) ((listV d.now).take j) ∧ getE e 14 = .slice .none none ((snF d.now).map stB') ∧ getE e 15 = i64 (snF d.now).length ∧ getE e 16 = i64 j ∧ h' = h ++ (.row (some 2) j :: .cells [.map n] :: G)) ?_ (snF d.now).length _ _
    ⟨0, [], rfl, Nat.zero_le _, e0, e3, e14, e15, e16, rfl⟩
  clear e0 e3 e14 e15 e16 e
  rintro f e h' ⟨j, G, rfl, hj, e0, e3, e14, e15, e16, rfl⟩
  rw [trim_off]
  have hll : (listV d.now).length = (snF d.now).length := by unfold listV; rw [List.length_map]
  by_cases hjn : j = (snF d.now).length
  · have hlt : ¬ ((j : Int) < ((snF d.now).length : Int)) := by omega
    rw [List.take_of_length_le (by omega)] at e3
    first | have hb := hb | have hb := trivial
    repeat' (first | (simp -implicitDefEqProofs (disch := omega) only [hb, L16_0, e0, e3, e14, e15, e16, hlt, wC, initE, aop, Nat.reduceEqDiff, ↓reduceIte, Nat.reduceAdd, finish, resOf, tupOf, AM.freeze, freeze1, freezeL, closed, nam, namL, if_true, if_false, deref, boxAt, exAt, ldCells, oneL, oneCell, Nat.reduceLeDiff, evL, adopt, rigid, rigidL, trim, Int.reduceEq, Int.reduceMod, Int.reduceDiv, if_pos, if_neg, asI, forall_const, implies_true, chkD, chkO, chkW, effB, reB, vEq, beq_self_eq_true, Nat.reduceSub, Nat.reduceLT, Int.reduceSub, Int.reduceAdd, Int.reduceMul, Int.reduceLT, Int.reduceLE, Int.reduceToNat, optI, aslice, cutSl, cutMs, cutStr, cutOwn, cellsOf, one, elCells, lenOf, beqV, beqVL, strip, stripO, convS]) | ((first | rw [WP_condK] | rw [WP_opsG] | rw [WP_quiG] | rw [WP_dG]); refine And.intro (fun hb => ?_) (fun hb => ?_) <;> (first | have hd := dq1 hb | have hd := dq2 hb | have hd := dq3 hb | have hd := dq4 hb | skip)))
    exact hQ _ _ rfl
  · have hlt : (j : Int) < ((snF d.now).length : Int) := by omega
    obtain ⟨nm, hx⟩ : ∃ nm, (snF d.now)[j]? = some nm := ⟨_, List.getElem?_eq_getElem (by omega)⟩
    have hmem := List.mem_of_getElem? hx
    obtain ⟨r, hr⟩ := snF_mem D.wn hmem
    have hnm := snF_names D.wn hmem
    have hg : ((snF d.now).map stB')[j]? = some (stB' nm) := by rw [List.getElem?_map, hx]; rfl
    have hbx := (D.app (.row (some 2) j :: .cells [.map n] :: G)).box
    have hme : mapEs (h ++ (.row (some 2) j :: .cells [.map n] :: G)) (.map n) = some (fsV d.now) := by simp [mapEs, mapAt, (D.app _).now]
    have hf := findM_fs hnm D.wn.names 0
    rw [hr, Option.map_some] at hf
    have hB : r.2.flatten.length ≤ 140737488355328 := by
      have := tot_erase (found hr)
      have := D.tot
      have := D.big
      omega
    have hpl := (D.wn.found hr).2
    have hby := fun h => call_bytes r.2 hB (by omega) h
    have hel : (listV d.now)[j]? = some (.agg [stB' nm, .slice .none none (r.2.flatten.map u8)]) := by
      unfold listV
      rw [List.getElem?_map, hx]
      simp only [Option.map_some, contF, hr]
    have htk : (listV d.now).take (j + 1) = (listV d.now).take j ++ [.agg [stB' nm, .slice .none none (r.2.flatten.map u8)]] := by rw [List.take_add_one, hel]; rfl
    have hlen : ((listV d.now).take j).length = j := by rw [List.length_take]; omega
    have hfit : fitsB (j + 1) 40 = true := fits_of (.inl (by omega))
    have g0 : ∀ x g, (h ++ (x :: g))[h.length]? = some x := fun x g => app_get _ _ _ 0 rfl
    have s0 : ∀ x g u, (h ++ (x :: g)).set h.length u = h ++ (u :: g) := fun x g u => app_set _ _ _ 0 u rfl
    have hw : IntKind.i64.wrap (((j + 1 : Nat)) : Int) = ((j + 1 : Nat) : Int) := by rw [IntKind.wrap_i64]; omega
    unfold dC at hbx
    unfold fileV at hf hby
    generalize (listV d.now).take j = L0 at *
    generalize r.2.map partV = P at *
    generalize hFF : r.2.flatten = FF at *
    first | have hb := hb | have hb := trivial
    repeat' (first | (simp -implicitDefEqProofs (disch := omega) only [hb, L16_0, e0, e3, e14, e15, e16, hlt, hg, hbx, hme, hf, hby, keyB, valM, setEls, List.replicate_succ, List.replicate_zero, elFits, stripEl, aappend, elemsOf, hlen, hfit, g0, s0, List.append_assoc, hw, wC, initE, aop, Nat.reduceEqDiff, ↓reduceIte, Nat.reduceAdd, finish, resOf, tupOf, AM.freeze, freeze1, freezeL, closed, nam, namL, if_true, if_false, deref, boxAt, exAt, ldCells, oneL, oneCell, Nat.reduceLeDiff, evL, adopt, rigid, rigidL, trim, Int.reduceEq, Int.reduceMod, Int.reduceDiv, if_pos, if_neg, asI, forall_const, implies_true, chkD, chkO, chkW, effB, reB, vEq, beq_self_eq_true, Nat.reduceSub, Nat.reduceLT, Int.reduceSub, Int.reduceAdd, Int.reduceMul, Int.reduceLT, Int.reduceLE, Int.reduceToNat, optI, aslice, cutSl, cutMs, cutStr, cutOwn, cellsOf, one, elCells, lenOf, beqV, beqVL, strip, stripO, convS]) | ((first | rw [WP_condK] | rw [WP_opsG] | rw [WP_quiG] | rw [WP_dG]); refine And.intro (fun hb => ?_) (fun hb => ?_) <;> (first | have hd := dq1 hb | have hd := dq2 hb | have hd := dq3 hb | have hd := dq4 hb | skip)))
    exact ⟨(snF d.now).length - (j + 1), by omega, j + 1, _, rfl, by omega, by rw [htk], rfl, rfl⟩
theorem d_list (D : DkH h p n s J d) (hl : d.now.length ≤ 1000000) : ∃ G, ag T 16 [.ptr p 0] h = some (.slice (.tok h.length) (some 2) (listV d.now), h ++ G) := by
  obtain ⟨A, els, c, bs0, c', bs', D⟩ := D
  suffices hwp : WP (fun r : AV × Heap => ∃ G, r = (.slice (.tok h.length) (some 2) (listV d.now), h ++ G)) (ag T 16 [.ptr p 0] h) by
    obtain ⟨r, h1, G, rfl⟩ := WP_ex hwp
    exact ⟨G, h1⟩
  refine k_wp rfl t16 rfl rfl ?_
  have hm := c_made D.box
  have hbx := (D.app [.row (some 2) 0]).box
  have hkeys : ∀ h2, ag T 36 [.map n] h2 = some (.func (.func 47) [] [.ptr h2.length 0], h2 ++ [.cells [.map n]]) := fun h2 => by
    refine WP_eq (k_wp rfl t36 rfl rfl ?_)
    first | have hb := hb | have hb := trivial
    repeat' (first | (simp -implicitDefEqProofs (disch := omega) only [hb, F36, mapO, wC, wO, initE, aop, Nat.reduceEqDiff, ↓reduceIte, Nat.reduceAdd, finish, resOf, tupOf, AM.freeze, freeze1, freezeL, closed, nam, namL, if_true, if_false, deref, boxAt, exAt, ldCells, oneL, oneCell, Nat.reduceLeDiff, evL, adopt, rigid, rigidL, trim, Int.reduceEq, Int.reduceMod, Int.reduceDiv, if_pos, if_neg, asI, forall_const, implies_true, chkD, chkO, chkW, effB, reB, vEq, beq_self_eq_true, Nat.reduceSub, Nat.reduceLT, Int.reduceSub, Int.reduceAdd, Int.reduceMul, Int.reduceLT, Int.reduceLE, Int.reduceToNat, optI, aslice, cutSl, cutMs, cutStr, cutOwn]) | ((first | rw [WP_condK] | rw [WP_opsG] | rw [WP_quiG] | rw [WP_dG]); refine And.intro (fun hb => ?_) (fun hb => ?_) <;> (first | have hd := dq1 hb | have hd := dq2 hb | have hd := dq3 hb | have hd := dq4 hb | skip)))
  have hln := (List.getElem?_eq_some_iff.1 D.now).1
  have hso := call_sorted D (by omega) (h2 := h ++ [.row (some 2) 0, .cells [.map n]]) (q := h.length + 1) (rest := []) (List.getElem?_append_left hln) (app_get _ _ _ 1 rfl)
  unfold dC at hbx
  first | have hb := hb | have hb := trivial
  repeat' (first | (simp -implicitDefEqProofs (disch := omega) only [hb, F16, hm, hbx, hkeys, List.append_assoc, hso, wC, wO, initE, aop, Nat.reduceEqDiff, ↓reduceIte, Nat.reduceAdd, finish, resOf, tupOf, AM.freeze, freeze1, freezeL, closed, nam, namL, if_true, if_false, deref, boxAt, exAt, ldCells, oneL, oneCell, Nat.reduceLeDiff, evL, adopt, rigid, rigidL, trim, Int.reduceEq, Int.reduceMod, Int.reduceDiv, if_pos, if_neg, asI, forall_const, implies_true, chkD, chkO, chkW, effB, reB, vEq, beq_self_eq_true, Nat.reduceSub, Nat.reduceLT, Int.reduceSub, Int.reduceAdd, Int.reduceMul, Int.reduceLT, Int.reduceLE, Int.reduceToNat, optI, aslice, cutSl, cutMs, cutStr, cutOwn]) | ((first | rw [WP_condK] | rw [WP_opsG] | rw [WP_quiG] | rw [WP_dG]); refine And.intro (fun hb => ?_) (fun hb => ?_) <;> (first | have hd := dq1 hb | have hd := dq2 hb | have hd := dq3 hb | have hd := dq4 hb | skip)))
  refine list_loop D hl _ _ rfl rfl rfl rfl rfl (fun e' G e3 => ?_)
  first | have hb := hb | have hb := trivial
  repeat' (first | (simp -implicitDefEqProofs (disch := omega) only [hb, F16, e3, wC, wO, initE, aop, Nat.reduceEqDiff, ↓reduceIte, Nat.reduceAdd, finish, resOf, tupOf, AM.freeze, freeze1, freezeL, closed, nam, namL, if_true, if_false, deref, boxAt, exAt, ldCells, oneL, oneCell, Nat.reduceLeDiff, evL, adopt, rigid, rigidL, trim, Int.reduceEq, Int.reduceMod, Int.reduceDiv, if_pos, if_neg, asI, forall_const, implies_true, chkD, chkO, chkW, effB, reB, vEq, beq_self_eq_true, Nat.reduceSub, Nat.reduceLT, Int.reduceSub, Int.reduceAdd, Int.reduceMul, Int.reduceLT, Int.reduceLE, Int.reduceToNat, optI, aslice, cutSl, cutMs, cutStr, cutOwn]) | ((first | rw [WP_condK] | rw [WP_opsG] | rw [WP_quiG] | rw [WP_dG]); refine And.intro (fun hb => ?_) (fun hb => ?_) <;> (first | have hd := dq1 hb | have hd := dq2 hb | have hd := dq3 hb | have hd := dq4 hb | skip)))
  exact ⟨G, rfl⟩
end
end Go.Proofs.Ytccllndmknnehaa.AM

/- layer 10: FilesFall, the calls. -/
namespace Go.Proofs.Ytccllndmknnehaa.AM
open Go
set_option maxRecDepth 100000
set_option maxHeartbeats 4000000
set_option linter.unusedVariables false
set_option linter.unusedSimpArgs false
theorem put_mem {fs : Fs} {nm : List Int} {ps : Fl} {r : Option (Nat × Fl)} {x : List Int × Fl} (h : x ∈ putF fs nm ps r) : x.2 = ps ∨ x ∈ fs := by
  cases r with
  | some r =>
    rcases List.mem_or_eq_of_mem_set h with h | h
    · exact .inr h
    · exact .inl (by rw [h])
  | none =>
    rcases List.mem_append.1 h with h | h
    · exact .inr h
    · simp at h; exact .inl (by rw [h])
theorem put_len (fs : Fs) (nm : List Int) (ps : Fl) (r : Option (Nat × Fl)) : (putF fs nm ps r).length ≤ fs.length + 1 := by
  cases r with
  | some r => simp [putF]
  | none => simp [putF]
theorem run_parts {fs : Fs} {m : Nat} (h : ∀ x ∈ fs, x.2.length ≤ m) (a : Dact) : ∀ x ∈ runA fs a, x.2.length ≤ m + 1 := by
  intro x hx
  cases a with
  | add nm l =>
    rcases put_mem hx with h1 | h1
    · rw [h1]
      unfold moreF
      cases hr : findF nm fs 0 with
      | some r =>
        have := h _ (List.mem_of_getElem? (found hr))
        simp at this ⊢; omega
      | none => simp
    · have := h _ h1; omega
  | trunc nm k =>
    simp only [runA] at hx
    cases hr : findF nm fs 0 with
    | some r =>
      rw [hr] at hx
      rcases put_mem hx with h1 | h1
      · rw [h1]; simp
      · have := h _ h1; omega
    | none => rw [hr] at hx; have := h _ hx; omega
  | ren a b =>
    simp only [runA] at hx
    cases hr : findF a fs 0 with
    | some r =>
      rw [hr] at hx
      rcases put_mem hx with h1 | h1
      · have := h _ (List.mem_of_getElem? (found hr)); rw [h1]; simp at this ⊢; omega
      · have := h _ (List.mem_of_mem_eraseIdx h1); omega
    | none => rw [hr] at hx; have := h _ hx; omega
  | rem nm =>
    simp only [runA] at hx
    cases hr : findF nm fs 0 with
    | some r => rw [hr] at hx; have := h _ (List.mem_of_mem_eraseIdx hx); omega
    | none => rw [hr] at hx; have := h _ hx; omega
theorem erase_le (fs : Fs) (i : Nat) : (fs.eraseIdx i).length ≤ fs.length := by
  rw [List.length_eraseIdx]; split <;> omega
theorem run_len (fs : Fs) (a : Dact) : (runA fs a).length ≤ fs.length + 1 := by
  cases a with
  | add nm l => exact put_len _ _ _ _
  | trunc nm k =>
    simp only [runA]
    split
    · exact put_len _ _ _ _
    · omega
  | ren a b =>
    simp only [runA]
    split
    · rename_i r _
      exact Nat.le_trans (put_len _ _ _ _) (by have := erase_le fs r.1; omega)
    · omega
  | rem nm =>
    simp only [runA]
    split
    · rename_i r _; have := erase_le fs r.1; omega
    · omega
theorem runs_len : ∀ (l : List Dact) (fs : Fs), (l.foldl runA fs).length ≤ fs.length + l.length
  | [], fs => by simp
  | a :: l, fs => by
    have h1 := runs_len l (runA fs a)
    have h2 := run_len fs a
    simp only [List.foldl_cons, List.length_cons]
    omega
theorem crash_len (d : Dk) (k b : Nat) : (crashS d k b).length ≤ d.sure.length + d.acts.length + 1 := by
  have h1 := runs_len (d.acts.take k) d.sure
  have h2 : (d.acts.take k).length ≤ d.acts.length := by rw [List.length_take]; omega
  unfold crashS
  split
  · split
    · exact Nat.le_trans (run_len _ _) (by omega)
    · omega
  · omega
/-- what holds behind j calls -/
structure Fall (j : Nat) (d : Dk) : Prop where
  c : d.c = -1
  size : d.size = 65536
  acts : d.acts.length ≤ j
  sure : d.sure = []
  parts : ∀ x ∈ d.now, x.2.length ≤ j
  now : d.now.length ≤ j
theorem Fall.same {j : Nat} {d : Dk} (f : Fall j d) : Fall (j + 1) d := ⟨f.c, f.size, by have := f.acts; omega, f.sure, fun x hx => by have := f.parts x hx; omega, by have := f.now; omega⟩
theorem Fall.act {j : Nat} {d : Dk} (f : Fall j d) (a : Dact) : Fall (j + 1) (actD d a) :=
  ⟨by simp only [actD, f.c]; rfl, f.size, by have := f.acts; simp [actD]; omega, f.sure, run_parts f.parts a, by have := f.now; have := run_len d.now a; simp only [actD]; omega⟩
theorem Fall.either {j : Nat} {d : Dk} (f : Fall j d) (a : Dact) (c : Prop) [Decidable c] : Fall (j + 1) (if c then actD d a else d) := by
  split
  · exact f.act a
  · exact f.same
theorem Fall.le {i j : Nat} {d : Dk} (f : Fall i d) (h : i ≤ j) : Fall j d := ⟨f.c, f.size, by have := f.acts; omega, f.sure, fun x hx => by have := f.parts x hx; omega, by have := f.now; omega⟩
/-- one call of the four -/
theorem fall_add {h : Heap} {J : List Nat} {d : Dk} {j : Nat} (D : DkH h 2 1 0 J d) (f : Fall j d) (hj : j < 60) (nm l : List Int) (hnm : Bytes nm) (hl : Bytes l) (hs : nm.length ≤ 140737488355328) (hll : l.length ≤ 140737488355328) :
    ∃ v h' J' d', ag T 8 [.ptr 2 0, .str (strOfNums nm), .slice .none none (l.map u8)] h = some (v, h') ∧ DkH h' 2 1 0 J' d' ∧ Fall (j + 1) d' := by
  obtain ⟨A, els, c, bs0, c', bs', D⟩ := D
  have hp : (moreF (findF nm d.now 0) l).length ≤ 1000000000 := by
    unfold moreF
    cases hr : findF nm d.now 0 with
    | some r =>
      have := f.parts _ (List.mem_of_getElem? (found hr))
      simp at this ⊢; omega
    | none => simp
  obtain ⟨h', J', A', els', c2, bs2, h1, _, h2⟩ := d_append D hnm hl (b := .slice .none none (l.map u8)) (by simp [lenOf]) (call_clone_b _ l (by omega)) (by omega) (by have := f.acts; omega) hp
  refine ⟨_, h', J', _, h1, ⟨_, _, _, _, _, _, h2⟩, ?_⟩
  exact f.either (.add nm l) _
theorem fall_rem {h : Heap} {J : List Nat} {d : Dk} {j : Nat} (D : DkH h 2 1 0 J d) (f : Fall j d) (hj : j < 60) (nm : List Int) (hnm : Bytes nm) (hs : nm.length ≤ 140737488355328) :
    ∃ v h' J' d', ag T 12 [.ptr 2 0, .str (strOfNums nm)] h = some (v, h') ∧ DkH h' 2 1 0 J' d' ∧ Fall (j + 1) d' := by
  obtain ⟨h', J', h1, _, h2⟩ := d_remove D hnm (by omega) (by have := f.acts; omega)
  exact ⟨_, h', J', _, h1, h2, f.either _ _⟩
theorem fall_ren {h : Heap} {J : List Nat} {d : Dk} {j : Nat} (D : DkH h 2 1 0 J d) (f : Fall j d) (hj : j < 60) (a b : List Int) (ha : Bytes a) (hb' : Bytes b) (hs : a.length ≤ 140737488355328) (ht : b.length ≤ 140737488355328) :
    ∃ v h' J' d', ag T 11 [.ptr 2 0, .str (strOfNums a), .str (strOfNums b)] h = some (v, h') ∧ DkH h' 2 1 0 J' d' ∧ Fall (j + 1) d' := by
  obtain ⟨h', J', h1, _, h2⟩ := d_rename D ha hb' (by omega) (by omega) (by have := f.acts; omega)
  exact ⟨_, h', J', _, h1, h2, f.either _ _⟩
theorem fall_tru {h : Heap} {J : List Nat} {d : Dk} {j : Nat} (D : DkH h 2 1 0 J d) (f : Fall j d) (hj : j < 60) (nm : List Int) (hnm : Bytes nm) (hs : nm.length ≤ 140737488355328) (k : Int) :
    ∃ v h' J' d', ag T 14 [.ptr 2 0, .str (strOfNums nm), i64 k] h = some (v, h') ∧ DkH h' 2 1 0 J' d' ∧ Fall (j + 1) d' := by
  obtain ⟨h', J', h1, _, h2⟩ := d_truncate D hnm (by omega) k (by have := f.acts; omega)
  exact ⟨_, h', J', _, h1, h2, f.either _ _⟩
end Go.Proofs.Ytccllndmknnehaa.AM

/- layer 10: FilesFall. -/
namespace Go.Proofs.Ytccllndmknnehaa.AM
open Go
set_option maxRecDepth 100000
set_option maxHeartbeats 4000000
set_option linter.unusedVariables false
set_option linter.unusedSimpArgs false
theorem fall_loop (W : List AV) (hW : ∀ v ∈ W, ∃ o : Op10, v = o.av ∧ o.ok) (k b : Int) (sy : Bool) (m : Nat) (e : Env) (e0 : getE e 0 = .slice .none (some 6) W) (e1 : getE e 1 = i64 k) (e2 : getE e 2 = i64 b) (e3 : getE e 3 = .bool sy) (e9 : getE e 9 = .ptr 2 0) (e11 : getE e 11 = i64 0) {h : Heap} {J : List Nat} {d : Dk} (D : DkH h 2 1 0 J d) (F : Fall 0 d) {Q : Res → Prop}
    (hQ : ∀ e' h' J' d', getE e' 1 = i64 k → getE e' 2 = i64 b → getE e' 3 = .bool sy → getE e' 9 = .ptr 2 0 → DkH h' 2 1 0 J' d' → Fall 60 d' → Q (.exit 0, e', h')) :
    WP Q (axl T [0, 1, 2, 3, 9, 11] false L4_1 m e h) := by
  refine WP_loop (I := fun f e h' => ∃ j J d, f = 60 - j ∧ j ≤ 60 ∧ getE e 0 = .slice .none (some 6) W ∧ getE e 1 = i64 k ∧ getE e 2 = i64 b ∧ getE e 3 = .bool sy ∧ getE e 9 = .ptr 2 0 ∧ getE e 11 = i64 j ∧ DkH h' 2 1 0 J d ∧ Fall j d) ?_ 60 _ _
    ⟨0, J, d, rfl, Nat.zero_le _, e0, e1, e2, e3, e9, e11, D, F⟩
  clear e0 e1 e2 e3 e9 e11 e D F J d h
  rintro f e h ⟨j, J, d, rfl, hj, e0, e1, e2, e3, e9, e11, D, F⟩
  rw [trim_off]
  by_cases hjn : j < W.length
  · have hlt : (j : Int) < (W.length : Int) := by omega
    by_cases hjk : j < 60
    · have hl6 : (j : Int) < 60 := by omega
      obtain ⟨v, hg⟩ : ∃ v, W[j]? = some v := ⟨_, List.getElem?_eq_getElem hjn⟩
      obtain ⟨o, rfl, ho⟩ := hW v (List.mem_of_getElem? hg)
      obtain ⟨ok, onm, oto, ob, on, om⟩ := o
      obtain ⟨nm, hnm, rfl⟩ := st_of onm
      obtain ⟨to, hto, rfl⟩ := st_of oto
      have hn1 := ho.nl
      have hn2 := ho.tl
      have hn3 := ho.bl
      have hn4 := ho.b
      simp only [st_size] at hn1 hn2 hn3 hn4
      simp only [Op10.av] at hg
      have hw : IntKind.i64.wrap ((j : Int) + 1) = ((j + 1 : Nat) : Int) := by rw [IntKind.wrap_i64]; omega
      by_cases k1 : ok = 1
      · subst k1
        obtain ⟨v, h', J', d', hc, D', F'⟩ := fall_add D F hjk nm ob hnm hn4 (by omega) (by omega)
        first | have hb := hb | have hb := trivial
        repeat' (first | (simp -implicitDefEqProofs (disch := omega) only [hb, L4_1, e0, e1, e2, e3, e9, e11, hlt, hl6, hg, hc, hw, wC, initE, aop, Nat.reduceEqDiff, ↓reduceIte, Nat.reduceAdd, finish, resOf, tupOf, AM.freeze, freeze1, freezeL, closed, nam, namL, if_true, if_false, deref, boxAt, exAt, ldCells, oneL, oneCell, Nat.reduceLeDiff, evL, adopt, rigid, rigidL, trim, Int.reduceEq, Int.reduceMod, Int.reduceDiv, if_pos, if_neg, asI, forall_const, implies_true, chkD, chkO, chkW, effB, reB, vEq, beq_self_eq_true, Nat.reduceSub, Nat.reduceLT, Int.reduceSub, Int.reduceAdd, Int.reduceMul, Int.reduceLT, Int.reduceLE, Int.reduceToNat, optI, aslice, cutSl, cutMs, cutStr, cutOwn, cellsOf, one, elCells, lenOf, beqV, beqVL, strip, stripO, convS]) | ((first | rw [WP_condK] | rw [WP_opsG] | rw [WP_quiG] | rw [WP_dG]); refine And.intro (fun hb => ?_) (fun hb => ?_) <;> (first | have hd := dq1 hb | have hd := dq2 hb | have hd := dq3 hb | have hd := dq4 hb | skip)))
        exact ⟨60 - (j + 1), by omega, j + 1, J', d', rfl, by omega, rfl, D', F'⟩
      · by_cases k2 : ok = 2
        · subst k2
          obtain ⟨v, h', J', d', hc, D', F'⟩ := fall_tru D F hjk nm hnm (by omega) on
          first | have hb := hb | have hb := trivial
          repeat' (first | (simp -implicitDefEqProofs (disch := omega) only [hb, L4_1, e0, e1, e2, e3, e9, e11, hlt, hl6, hg, hc, hw, wC, initE, aop, Nat.reduceEqDiff, ↓reduceIte, Nat.reduceAdd, finish, resOf, tupOf, AM.freeze, freeze1, freezeL, closed, nam, namL, if_true, if_false, deref, boxAt, exAt, ldCells, oneL, oneCell, Nat.reduceLeDiff, evL, adopt, rigid, rigidL, trim, Int.reduceEq, Int.reduceMod, Int.reduceDiv, if_pos, if_neg, asI, forall_const, implies_true, chkD, chkO, chkW, effB, reB, vEq, beq_self_eq_true, Nat.reduceSub, Nat.reduceLT, Int.reduceSub, Int.reduceAdd, Int.reduceMul, Int.reduceLT, Int.reduceLE, Int.reduceToNat, optI, aslice, cutSl, cutMs, cutStr, cutOwn, cellsOf, one, elCells, lenOf, beqV, beqVL, strip, stripO, convS]) | ((first | rw [WP_condK] | rw [WP_opsG] | rw [WP_quiG] | rw [WP_dG]); refine And.intro (fun hb => ?_) (fun hb => ?_) <;> (first | have hd := dq1 hb | have hd := dq2 hb | have hd := dq3 hb | have hd := dq4 hb | skip)))
          exact ⟨60 - (j + 1), by omega, j + 1, J', d', rfl, by omega, rfl, D', F'⟩
        · by_cases k3 : ok = 3
          · subst k3
            obtain ⟨v, h', J', d', hc, D', F'⟩ := fall_ren D F hjk nm to hnm hto (by omega) (by omega)
            first | have hb := hb | have hb := trivial
            repeat' (first | (simp -implicitDefEqProofs (disch := omega) only [hb, L4_1, e0, e1, e2, e3, e9, e11, hlt, hl6, hg, hc, hw, wC, initE, aop, Nat.reduceEqDiff, ↓reduceIte, Nat.reduceAdd, finish, resOf, tupOf, AM.freeze, freeze1, freezeL, closed, nam, namL, if_true, if_false, deref, boxAt, exAt, ldCells, oneL, oneCell, Nat.reduceLeDiff, evL, adopt, rigid, rigidL, trim, Int.reduceEq, Int.reduceMod, Int.reduceDiv, if_pos, if_neg, asI, forall_const, implies_true, chkD, chkO, chkW, effB, reB, vEq, beq_self_eq_true, Nat.reduceSub, Nat.reduceLT, Int.reduceSub, Int.reduceAdd, Int.reduceMul, Int.reduceLT, Int.reduceLE, Int.reduceToNat, optI, aslice, cutSl, cutMs, cutStr, cutOwn, cellsOf, one, elCells, lenOf, beqV, beqVL, strip, stripO, convS]) | ((first | rw [WP_condK] | rw [WP_opsG] | rw [WP_quiG] | rw [WP_dG]); refine And.intro (fun hb => ?_) (fun hb => ?_) <;> (first | have hd := dq1 hb | have hd := dq2 hb | have hd := dq3 hb | have hd := dq4 hb | skip)))
            exact ⟨60 - (j + 1), by omega, j + 1, J', d', rfl, by omega, rfl, D', F'⟩
          · by_cases k4 : ok = 4
            · subst k4
              obtain ⟨v, h', J', d', hc, D', F'⟩ := fall_rem D F hjk nm hnm (by omega)
              first | have hb := hb | have hb := trivial
              repeat' (first | (simp -implicitDefEqProofs (disch := omega) only [hb, L4_1, e0, e1, e2, e3, e9, e11, hlt, hl6, hg, hc, hw, wC, initE, aop, Nat.reduceEqDiff, ↓reduceIte, Nat.reduceAdd, finish, resOf, tupOf, AM.freeze, freeze1, freezeL, closed, nam, namL, if_true, if_false, deref, boxAt, exAt, ldCells, oneL, oneCell, Nat.reduceLeDiff, evL, adopt, rigid, rigidL, trim, Int.reduceEq, Int.reduceMod, Int.reduceDiv, if_pos, if_neg, asI, forall_const, implies_true, chkD, chkO, chkW, effB, reB, vEq, beq_self_eq_true, Nat.reduceSub, Nat.reduceLT, Int.reduceSub, Int.reduceAdd, Int.reduceMul, Int.reduceLT, Int.reduceLE, Int.reduceToNat, optI, aslice, cutSl, cutMs, cutStr, cutOwn, cellsOf, one, elCells, lenOf, beqV, beqVL, strip, stripO, convS]) | ((first | rw [WP_condK] | rw [WP_opsG] | rw [WP_quiG] | rw [WP_dG]); refine And.intro (fun hb => ?_) (fun hb => ?_) <;> (first | have hd := dq1 hb | have hd := dq2 hb | have hd := dq3 hb | have hd := dq4 hb | skip)))
              exact ⟨60 - (j + 1), by omega, j + 1, J', d', rfl, by omega, rfl, D', F'⟩
            · first | have hb := hb | have hb := trivial
              repeat' (first | (simp -implicitDefEqProofs (disch := omega) only [hb, L4_1, e0, e1, e2, e3, e9, e11, hlt, hl6, hg, hw, k1, k2, k3, k4, wC, initE, aop, Nat.reduceEqDiff, ↓reduceIte, Nat.reduceAdd, finish, resOf, tupOf, AM.freeze, freeze1, freezeL, closed, nam, namL, if_true, if_false, deref, boxAt, exAt, ldCells, oneL, oneCell, Nat.reduceLeDiff, evL, adopt, rigid, rigidL, trim, Int.reduceEq, Int.reduceMod, Int.reduceDiv, if_pos, if_neg, asI, forall_const, implies_true, chkD, chkO, chkW, effB, reB, vEq, beq_self_eq_true, Nat.reduceSub, Nat.reduceLT, Int.reduceSub, Int.reduceAdd, Int.reduceMul, Int.reduceLT, Int.reduceLE, Int.reduceToNat, optI, aslice, cutSl, cutMs, cutStr, cutOwn, cellsOf, one, elCells, lenOf, beqV, beqVL, strip, stripO, convS]) | ((first | rw [WP_condK] | rw [WP_opsG] | rw [WP_quiG] | rw [WP_dG]); refine And.intro (fun hb => ?_) (fun hb => ?_) <;> (first | have hd := dq1 hb | have hd := dq2 hb | have hd := dq3 hb | have hd := dq4 hb | skip)))
              exact ⟨60 - (j + 1), by omega, j + 1, J, d, rfl, by omega, rfl, D, F.same⟩
    · have hl6 : ¬ ((j : Int) < 60) := by omega
      first | have hb := hb | have hb := trivial
      repeat' (first | (simp -implicitDefEqProofs (disch := omega) only [hb, L4_1, e0, e1, e2, e3, e9, e11, hlt, hl6, wC, initE, aop, Nat.reduceEqDiff, ↓reduceIte, Nat.reduceAdd, finish, resOf, tupOf, AM.freeze, freeze1, freezeL, closed, nam, namL, if_true, if_false, deref, boxAt, exAt, ldCells, oneL, oneCell, Nat.reduceLeDiff, evL, adopt, rigid, rigidL, trim, Int.reduceEq, Int.reduceMod, Int.reduceDiv, if_pos, if_neg, asI, forall_const, implies_true, chkD, chkO, chkW, effB, reB, vEq, beq_self_eq_true, Nat.reduceSub, Nat.reduceLT, Int.reduceSub, Int.reduceAdd, Int.reduceMul, Int.reduceLT, Int.reduceLE, Int.reduceToNat, optI, aslice, cutSl, cutMs, cutStr, cutOwn, cellsOf, one, elCells, lenOf, beqV, beqVL, strip, stripO, convS]) | ((first | rw [WP_condK] | rw [WP_opsG] | rw [WP_quiG] | rw [WP_dG]); refine And.intro (fun hb => ?_) (fun hb => ?_) <;> (first | have hd := dq1 hb | have hd := dq2 hb | have hd := dq3 hb | have hd := dq4 hb | skip)))
      exact hQ _ _ J d rfl rfl rfl rfl D (F.le hj)
  · have hlt : ¬ ((j : Int) < (W.length : Int)) := by omega
    first | have hb := hb | have hb := trivial
    repeat' (first | (simp -implicitDefEqProofs (disch := omega) only [hb, L4_1, e0, e1, e2, e3, e9, e11, hlt, wC, initE, aop, Nat.reduceEqDiff, ↓reduceIte, Nat.reduceAdd, finish, resOf, tupOf, AM.freeze, freeze1, freezeL, closed, nam, namL, if_true, if_false, deref, boxAt, exAt, ldCells, oneL, oneCell, Nat.reduceLeDiff, evL, adopt, rigid, rigidL, trim, Int.reduceEq, Int.reduceMod, Int.reduceDiv, if_pos, if_neg, asI, forall_const, implies_true, chkD, chkO, chkW, effB, reB, vEq, beq_self_eq_true, Nat.reduceSub, Nat.reduceLT, Int.reduceSub, Int.reduceAdd, Int.reduceMul, Int.reduceLT, Int.reduceLE, Int.reduceToNat, optI, aslice, cutSl, cutMs, cutStr, cutOwn, cellsOf, one, elCells, lenOf, beqV, beqVL, strip, stripO, convS]) | ((first | rw [WP_condK] | rw [WP_opsG] | rw [WP_quiG] | rw [WP_dG]); refine And.intro (fun hb => ?_) (fun hb => ?_) <;> (first | have hd := dq1 hb | have hd := dq2 hb | have hd := dq3 hb | have hd := dq4 hb | skip)))
    exact hQ _ _ J d rfl rfl rfl rfl D (F.le hj)
theorem ne_self (s : ByteArray) : abin .neq (.string s) (.string s) = some (.bool false) := by simp [abin, astr]
/-- two lists alike -/
theorem same_loop (a b : Nat) (fs : Fs) {c : Nat} {bs0 : List Nat} (w : Wf c bs0 fs) (ht : totF fs ≤ 268435456) (m : Nat) (e : Env) (e12 : getE e 12 = .slice (.tok a) (some 2) (listV fs)) (e14 : getE e 14 = .slice (.tok b) (some 2) (listV fs)) (e15 : getE e 15 = i64 0) (hl : fs.length ≤ 1000000) (h : Heap) {Q : Res → Prop}
    (hQ : ∀ e', Q (.exit 3, e', h)) :
    WP Q (axl T [12, 14, 15] false L4_0 m e h) := by
  have hll : (listV fs).length = fs.length := by unfold listV; rw [List.length_map, snF_len]
  refine WP_loop (I := fun f e h' => ∃ j, f = fs.length - j ∧ j ≤ fs.length ∧ getE e 12 = .slice (.tok a) (some 2) (listV fs) ∧ getE e 14 = .slice (.tok b) (some 2) (listV fs) ∧ getE e 15 = i64 j ∧ h' = h) ?_ fs.length _ _
    ⟨0, rfl, Nat.zero_le _, e12, e14, e15, rfl⟩
  clear e12 e14 e15 e
  rintro f e h' ⟨j, rfl, hj, e12, e14, e15, rfl⟩
  rw [trim_off]
  by_cases hjn : j < fs.length
  · have hlt : (j : Int) < ((listV fs).length : Int) := by omega
    obtain ⟨nm, hx⟩ : ∃ nm, (snF fs)[j]? = some nm := ⟨_, List.getElem?_eq_getElem (by rw [snF_len]; exact hjn)⟩
    have hmem := List.mem_of_getElem? hx
    obtain ⟨r, hr⟩ := snF_mem w hmem
    have hnm := snF_names w hmem
    have hB : r.2.flatten.length ≤ 140737488355328 := by
      have := tot_erase (found hr)
      omega
    have hg : (listV fs)[j]? = some (.agg [stB' nm, .slice .none none (r.2.flatten.map u8)]) := by
      unfold listV
      rw [List.getElem?_map, hx]
      simp only [Option.map_some, contF, hr]
    have hbe := byteEls_u8 r.2.flatten
    have hse := ne_self (strOfNums r.2.flatten)
    have hsn := ne_self (strOfNums nm)
    have hw : IntKind.i64.wrap ((j : Int) + 1) = ((j + 1 : Nat) : Int) := by rw [IntKind.wrap_i64]; omega
    generalize hFF : r.2.flatten = FF at *
    generalize listV fs = L at *
    first | have hb := hb | have hb := trivial
    repeat' (first | (simp -implicitDefEqProofs (disch := omega) only [hb, L4_0, e12, e14, e15, hlt, hg, elemsOf, hbe, hse, hsn, hw, wC, initE, aop, Nat.reduceEqDiff, ↓reduceIte, Nat.reduceAdd, finish, resOf, tupOf, AM.freeze, freeze1, freezeL, closed, nam, namL, if_true, if_false, deref, boxAt, exAt, ldCells, oneL, oneCell, Nat.reduceLeDiff, evL, adopt, rigid, rigidL, trim, Int.reduceEq, Int.reduceMod, Int.reduceDiv, if_pos, if_neg, asI, forall_const, implies_true, chkD, chkO, chkW, effB, reB, vEq, beq_self_eq_true, Nat.reduceSub, Nat.reduceLT, Int.reduceSub, Int.reduceAdd, Int.reduceMul, Int.reduceLT, Int.reduceLE, Int.reduceToNat, optI, aslice, cutSl, cutMs, cutStr, cutOwn, cellsOf, one, elCells, lenOf, beqV, beqVL, strip, stripO, convS]) | ((first | rw [WP_condK] | rw [WP_opsG] | rw [WP_quiG] | rw [WP_dG]); refine And.intro (fun hb => ?_) (fun hb => ?_) <;> (first | have hd := dq1 hb | have hd := dq2 hb | have hd := dq3 hb | have hd := dq4 hb | skip)))
    exact ⟨fs.length - (j + 1), by omega, j + 1, rfl, by omega, rfl⟩
  · have hlt : ¬ ((j : Int) < ((listV fs).length : Int)) := by omega
    first | have hb := hb | have hb := trivial
    repeat' (first | (simp -implicitDefEqProofs (disch := omega) only [hb, L4_0, e12, e14, e15, hlt, wC, initE, aop, Nat.reduceEqDiff, ↓reduceIte, Nat.reduceAdd, finish, resOf, tupOf, AM.freeze, freeze1, freezeL, closed, nam, namL, if_true, if_false, deref, boxAt, exAt, ldCells, oneL, oneCell, Nat.reduceLeDiff, evL, adopt, rigid, rigidL, trim, Int.reduceEq, Int.reduceMod, Int.reduceDiv, if_pos, if_neg, asI, forall_const, implies_true, chkD, chkO, chkW, effB, reB, vEq, beq_self_eq_true, Nat.reduceSub, Nat.reduceLT, Int.reduceSub, Int.reduceAdd, Int.reduceMul, Int.reduceLT, Int.reduceLE, Int.reduceToNat, optI, aslice, cutSl, cutMs, cutStr, cutOwn, cellsOf, one, elCells, lenOf, beqV, beqVL, strip, stripO, convS]) | ((first | rw [WP_condK] | rw [WP_opsG] | rw [WP_quiG] | rw [WP_dG]); refine And.intro (fun hb => ?_) (fun hb => ?_) <;> (first | have hd := dq1 hb | have hd := dq2 hb | have hd := dq3 hb | have hd := dq4 hb | skip)))
    exact hQ _
end Go.Proofs.Ytccllndmknnehaa.AM

/- layer 10: FilesFall's run. -/
namespace Go.Proofs.Ytccllndmknnehaa.AM
open Go
set_option maxRecDepth 100000
set_option maxHeartbeats 4000000
set_option linter.unusedVariables false
set_option linter.unusedSimpArgs false
theorem DkH.app {h : Heap} {p n s : Nat} {J : List Nat} {d : Dk} (D : DkH h p n s J d) (G : Heap) : DkH (h ++ G) p n s J d := by
  obtain ⟨_, _, _, _, _, _, D⟩ := D
  exact ⟨_, _, _, _, _, _, D.app G⟩
theorem DkH.tot {h : Heap} {p n s : Nat} {J : List Nat} {d : Dk} (D : DkH h p n s J d) : totF d.now ≤ 268435456 := by
  obtain ⟨_, _, _, _, _, _, D⟩ := D
  have := D.tot
  have := D.big
  omega
theorem DkH.wn {h : Heap} {p n s : Nat} {J : List Nat} {d : Dk} (D : DkH h p n s J d) : ∃ c bs, Wf c bs d.now := by
  obtain ⟨_, _, _, _, _, _, D⟩ := D
  exact ⟨_, _, D.wn⟩
theorem DkH.hist {h : Heap} {p n s : Nat} {J : List Nat} {d : Dk} (D : DkH h p n s J d) : d.now = d.acts.foldl runA d.sure := by
  obtain ⟨_, _, _, _, _, _, D⟩ := D
  exact D.hist
theorem crash_all (d : Dk) (b : Nat) : crashS d d.acts.length b = d.acts.foldl runA d.sure := by
  unfold crashS
  rw [List.getElem?_eq_none (Nat.le_refl _), List.take_length]
/-- a disk at the end of the calls: c is -1, and all is small -/
structure Rest (d : Dk) : Prop where
  c : d.c = -1
  sure : d.sure.length ≤ 60
  now : d.now.length ≤ 60
  acts : d.acts.length ≤ 60
theorem Fall.rest {d : Dk} (f : Fall 60 d) : Rest d := ⟨f.c, by rw [f.sure]; simp, f.now, f.acts⟩
/-- what stands behind the calls and the Sync -/
theorem fall_tail {h : Heap} {s : Nat} {J : List Nat} {d : Dk} (D : DkH h 2 1 s J d) (R : Rest d) (k b : Int) :
    ∃ h1 L, ag T 16 [.ptr 2 0] h = some (.slice (.tok h.length) (some 2) L, h1) ∧ L = listV d.now ∧ ag T 17 [.ptr 2 0] h1 = some (i64 d.acts.length, h1) ∧
      ((k < 0 ∨ (d.acts.length : Int) < k ∨ b < 0) → ag T 18 [.ptr 2 0, i64 k, i64 b] h1 = some (i64 1, h1)) ∧
      (¬ (k < 0 ∨ (d.acts.length : Int) < k ∨ b < 0) → ∃ h2 h3 L2, ag T 18 [.ptr 2 0, i64 k, i64 b] h1 = some (i64 0, h2) ∧ ag T 16 [.ptr 2 0] h2 = some (.slice (.tok h2.length) (some 2) L2, h3) ∧ ag T 17 [.ptr 2 0] h3 = some (i64 0, h3) ∧ (k = d.acts.length → L2 = listV d.now)) := by
  obtain ⟨G, h1⟩ := d_list D (by have := R.now; omega)
  have D1 := D.app G
  refine ⟨_, _, h1, rfl, d_unsure D1, fun hc => d_crash_arg D1 k b hc, fun hc => ?_⟩
  obtain ⟨k', rfl⟩ : ∃ k' : Nat, k = k' := ⟨k.toNat, by omega⟩
  obtain ⟨b', rfl⟩ : ∃ b' : Nat, b = b' := ⟨b.toNat, by omega⟩
  obtain ⟨h2, n', hc2, _, D2⟩ := d_crash D1 k' b' (by omega)
  obtain ⟨G3, h3⟩ := d_list D2 (by show (crashS d k' b').length ≤ _; have := crash_len d k' b'; have := R.sure; have := R.acts; omega)
  have hu := d_unsure (D2.app G3)
  refine ⟨h2, _, _, hc2, h3, hu, fun hk => ?_⟩
  have hk : k' = d.acts.length := by omega
  show listV (crashS d k' b') = _
  rw [hk, crash_all, ← D.hist]
theorem fall_ok (W : List AV) (hW : ∀ v ∈ W, ∃ o : Op10, v = o.av ∧ o.ok) (k b : Int) (sy : Bool) : prun T F4 [.slice .none (some 6) W, i64 k, i64 b, .bool sy] = some (.bool true) := by
  refine WP_eq (prun_wp ?_)
  have hnew := call_new 65536 (by decide) (by decide)
  have hlv := call_lives
  have D0 := new_dk 65536 (by decide) (by decide) []
  rw [List.append_nil] at D0
  have F0 : Fall 0 (newD 65536) := ⟨rfl, rfl, Nat.le_refl _, rfl, fun x hx => (by cases hx), Nat.le_refl _⟩
  first | have hb := hb | have hb := trivial
  repeat' (first | (simp -implicitDefEqProofs (disch := omega) only [hb, F4, hnew, hlv, wC, wO, initE, aop, Nat.reduceEqDiff, ↓reduceIte, Nat.reduceAdd, finish, resOf, tupOf, AM.freeze, freeze1, freezeL, closed, nam, namL, if_true, if_false, deref, boxAt, exAt, ldCells, oneL, oneCell, Nat.reduceLeDiff, evL, adopt, rigid, rigidL, trim, Int.reduceEq, Int.reduceMod, Int.reduceDiv, if_pos, if_neg, asI, forall_const, implies_true, chkD, chkO, chkW, effB, reB, vEq, beq_self_eq_true, Nat.reduceSub, Nat.reduceLT, Int.reduceSub, Int.reduceAdd, Int.reduceMul, Int.reduceLT, Int.reduceLE, Int.reduceToNat, optI, aslice, cutSl, cutMs, cutStr, cutOwn]) | ((first | rw [WP_condK] | rw [WP_opsG] | rw [WP_quiG] | rw [WP_dG]); refine And.intro (fun hb => ?_) (fun hb => ?_) <;> (first | have hd := dq1 hb | have hd := dq2 hb | have hd := dq3 hb | have hd := dq4 hb | skip)))
  refine fall_loop W hW k b sy _ _ rfl rfl rfl rfl rfl rfl D0 F0 (fun e' h J d e1 e2 e3 e9 D F => ?_)
  have R := F.rest
  have hc0 : d.c = -1 := F.c
  clear F F0 D0 hnew hlv
  cases sy with
  | true =>
    obtain ⟨hs, ss, Js, hsy, _, D2⟩ := d_sync D
    rw [hc0, if_neg (by decide)] at hsy D2
    have R2 : Rest (syncD d) := ⟨by simp only [syncD, hc0]; rfl, R.now, R.now, by simp [syncD]⟩
    have ha0 : (syncD d).acts.length = 0 := rfl
    generalize syncD d = d2 at *
    obtain ⟨h1, L, hl, hL, hu, harg, hcr⟩ := fall_tail D2 R2 k b
    obtain ⟨cw, bw, hwf⟩ := D2.wn
    have htt := D2.tot
    have hnl := R2.now
    generalize hn : d2.acts.length = nn at *
    by_cases k0 : k < 0
    · have hc := harg (.inl k0)
      clear harg hcr hL
      first | have hb := hb | have hb := trivial
      repeat' (first | (simp -implicitDefEqProofs (disch := omega) only [hb, F4, e1, e2, e3, e9, hsy, hl, hu, hc, k0, wC, wO, initE, aop, Nat.reduceEqDiff, ↓reduceIte, Nat.reduceAdd, finish, resOf, tupOf, AM.freeze, freeze1, freezeL, closed, nam, namL, if_true, if_false, deref, boxAt, exAt, ldCells, oneL, oneCell, Nat.reduceLeDiff, evL, adopt, rigid, rigidL, trim, Int.reduceEq, Int.reduceMod, Int.reduceDiv, if_pos, if_neg, asI, forall_const, implies_true, chkD, chkO, chkW, effB, reB, vEq, beq_self_eq_true, Nat.reduceSub, Nat.reduceLT, Int.reduceSub, Int.reduceAdd, Int.reduceMul, Int.reduceLT, Int.reduceLE, Int.reduceToNat, optI, aslice, cutSl, cutMs, cutStr, cutOwn]) | ((first | rw [WP_condK] | rw [WP_opsG] | rw [WP_quiG] | rw [WP_dG]); refine And.intro (fun hb => ?_) (fun hb => ?_) <;> (first | have hd := dq1 hb | have hd := dq2 hb | have hd := dq3 hb | have hd := dq4 hb | skip)))
    · by_cases k1 : (nn : Int) < k
      · have hc := harg (.inr (.inl k1))
        clear harg hcr hL
        first | have hb := hb | have hb := trivial
        repeat' (first | (simp -implicitDefEqProofs (disch := omega) only [hb, F4, e1, e2, e3, e9, hsy, hl, hu, hc, k0, k1, wC, wO, initE, aop, Nat.reduceEqDiff, ↓reduceIte, Nat.reduceAdd, finish, resOf, tupOf, AM.freeze, freeze1, freezeL, closed, nam, namL, if_true, if_false, deref, boxAt, exAt, ldCells, oneL, oneCell, Nat.reduceLeDiff, evL, adopt, rigid, rigidL, trim, Int.reduceEq, Int.reduceMod, Int.reduceDiv, if_pos, if_neg, asI, forall_const, implies_true, chkD, chkO, chkW, effB, reB, vEq, beq_self_eq_true, Nat.reduceSub, Nat.reduceLT, Int.reduceSub, Int.reduceAdd, Int.reduceMul, Int.reduceLT, Int.reduceLE, Int.reduceToNat, optI, aslice, cutSl, cutMs, cutStr, cutOwn]) | ((first | rw [WP_condK] | rw [WP_opsG] | rw [WP_quiG] | rw [WP_dG]); refine And.intro (fun hb => ?_) (fun hb => ?_) <;> (first | have hd := dq1 hb | have hd := dq2 hb | have hd := dq3 hb | have hd := dq4 hb | skip)))
      · by_cases k2 : b < 0
        · have hc := harg (.inr (.inr k2))
          clear harg hcr hL
          first | have hb := hb | have hb := trivial
          repeat' (first | (simp -implicitDefEqProofs (disch := omega) only [hb, F4, e1, e2, e3, e9, hsy, hl, hu, hc, k0, k1, k2, wC, wO, initE, aop, Nat.reduceEqDiff, ↓reduceIte, Nat.reduceAdd, finish, resOf, tupOf, AM.freeze, freeze1, freezeL, closed, nam, namL, if_true, if_false, deref, boxAt, exAt, ldCells, oneL, oneCell, Nat.reduceLeDiff, evL, adopt, rigid, rigidL, trim, Int.reduceEq, Int.reduceMod, Int.reduceDiv, if_pos, if_neg, asI, forall_const, implies_true, chkD, chkO, chkW, effB, reB, vEq, beq_self_eq_true, Nat.reduceSub, Nat.reduceLT, Int.reduceSub, Int.reduceAdd, Int.reduceMul, Int.reduceLT, Int.reduceLE, Int.reduceToNat, optI, aslice, cutSl, cutMs, cutStr, cutOwn]) | ((first | rw [WP_condK] | rw [WP_opsG] | rw [WP_quiG] | rw [WP_dG]); refine And.intro (fun hb => ?_) (fun hb => ?_) <;> (first | have hd := dq1 hb | have hd := dq2 hb | have hd := dq3 hb | have hd := dq4 hb | skip)))
        · obtain ⟨h2, h3, L2, hc, hl2, hu2, hLL⟩ := hcr (by omega)
          clear harg hcr
          by_cases k3 : k < (nn : Int)
          · omega
          · have hLL := hLL (by omega)
            subst hL
            subst hLL
            first | have hb := hb | have hb := trivial
            repeat' (first | (simp -implicitDefEqProofs (disch := omega) only [hb, F4, e1, e2, e3, e9, hsy, hl, hu, hc, k0, k1, k2, k3, hl2, hu2, wC, wO, initE, aop, Nat.reduceEqDiff, ↓reduceIte, Nat.reduceAdd, finish, resOf, tupOf, AM.freeze, freeze1, freezeL, closed, nam, namL, if_true, if_false, deref, boxAt, exAt, ldCells, oneL, oneCell, Nat.reduceLeDiff, evL, adopt, rigid, rigidL, trim, Int.reduceEq, Int.reduceMod, Int.reduceDiv, if_pos, if_neg, asI, forall_const, implies_true, chkD, chkO, chkW, effB, reB, vEq, beq_self_eq_true, Nat.reduceSub, Nat.reduceLT, Int.reduceSub, Int.reduceAdd, Int.reduceMul, Int.reduceLT, Int.reduceLE, Int.reduceToNat, optI, aslice, cutSl, cutMs, cutStr, cutOwn]) | ((first | rw [WP_condK] | rw [WP_opsG] | rw [WP_quiG] | rw [WP_dG]); refine And.intro (fun hb => ?_) (fun hb => ?_) <;> (first | have hd := dq1 hb | have hd := dq2 hb | have hd := dq3 hb | have hd := dq4 hb | skip)))
            refine same_loop _ _ d2.now hwf htt _ _ rfl rfl rfl (by omega) _ (fun e' => ?_)
            first | have hb := hb | have hb := trivial
            repeat' (first | (simp -implicitDefEqProofs (disch := omega) only [hb, F4, wC, wO, initE, aop, Nat.reduceEqDiff, ↓reduceIte, Nat.reduceAdd, finish, resOf, tupOf, AM.freeze, freeze1, freezeL, closed, nam, namL, if_true, if_false, deref, boxAt, exAt, ldCells, oneL, oneCell, Nat.reduceLeDiff, evL, adopt, rigid, rigidL, trim, Int.reduceEq, Int.reduceMod, Int.reduceDiv, if_pos, if_neg, asI, forall_const, implies_true, chkD, chkO, chkW, effB, reB, vEq, beq_self_eq_true, Nat.reduceSub, Nat.reduceLT, Int.reduceSub, Int.reduceAdd, Int.reduceMul, Int.reduceLT, Int.reduceLE, Int.reduceToNat, optI, aslice, cutSl, cutMs, cutStr, cutOwn]) | ((first | rw [WP_condK] | rw [WP_opsG] | rw [WP_quiG] | rw [WP_dG]); refine And.intro (fun hb => ?_) (fun hb => ?_) <;> (first | have hd := dq1 hb | have hd := dq2 hb | have hd := dq3 hb | have hd := dq4 hb | skip)))
  | false =>
    have hsy := hc0
    clear hc0
    have D2 := D
    have R2 := R
    obtain ⟨h1, L, hl, hL, hu, harg, hcr⟩ := fall_tail D2 R2 k b
    obtain ⟨cw, bw, hwf⟩ := D2.wn
    have htt := D2.tot
    have hnl := R2.now
    generalize hn : d.acts.length = nn at *
    by_cases k0 : k < 0
    · have hc := harg (.inl k0)
      clear harg hcr hL
      first | have hb := hb | have hb := trivial
      repeat' (first | (simp -implicitDefEqProofs (disch := omega) only [hb, F4, e1, e2, e3, e9, hl, hu, hc, k0, wC, wO, initE, aop, Nat.reduceEqDiff, ↓reduceIte, Nat.reduceAdd, finish, resOf, tupOf, AM.freeze, freeze1, freezeL, closed, nam, namL, if_true, if_false, deref, boxAt, exAt, ldCells, oneL, oneCell, Nat.reduceLeDiff, evL, adopt, rigid, rigidL, trim, Int.reduceEq, Int.reduceMod, Int.reduceDiv, if_pos, if_neg, asI, forall_const, implies_true, chkD, chkO, chkW, effB, reB, vEq, beq_self_eq_true, Nat.reduceSub, Nat.reduceLT, Int.reduceSub, Int.reduceAdd, Int.reduceMul, Int.reduceLT, Int.reduceLE, Int.reduceToNat, optI, aslice, cutSl, cutMs, cutStr, cutOwn]) | ((first | rw [WP_condK] | rw [WP_opsG] | rw [WP_quiG] | rw [WP_dG]); refine And.intro (fun hb => ?_) (fun hb => ?_) <;> (first | have hd := dq1 hb | have hd := dq2 hb | have hd := dq3 hb | have hd := dq4 hb | skip)))
    · by_cases k1 : (nn : Int) < k
      · have hc := harg (.inr (.inl k1))
        clear harg hcr hL
        first | have hb := hb | have hb := trivial
        repeat' (first | (simp -implicitDefEqProofs (disch := omega) only [hb, F4, e1, e2, e3, e9, hl, hu, hc, k0, k1, wC, wO, initE, aop, Nat.reduceEqDiff, ↓reduceIte, Nat.reduceAdd, finish, resOf, tupOf, AM.freeze, freeze1, freezeL, closed, nam, namL, if_true, if_false, deref, boxAt, exAt, ldCells, oneL, oneCell, Nat.reduceLeDiff, evL, adopt, rigid, rigidL, trim, Int.reduceEq, Int.reduceMod, Int.reduceDiv, if_pos, if_neg, asI, forall_const, implies_true, chkD, chkO, chkW, effB, reB, vEq, beq_self_eq_true, Nat.reduceSub, Nat.reduceLT, Int.reduceSub, Int.reduceAdd, Int.reduceMul, Int.reduceLT, Int.reduceLE, Int.reduceToNat, optI, aslice, cutSl, cutMs, cutStr, cutOwn]) | ((first | rw [WP_condK] | rw [WP_opsG] | rw [WP_quiG] | rw [WP_dG]); refine And.intro (fun hb => ?_) (fun hb => ?_) <;> (first | have hd := dq1 hb | have hd := dq2 hb | have hd := dq3 hb | have hd := dq4 hb | skip)))
      · by_cases k2 : b < 0
        · have hc := harg (.inr (.inr k2))
          clear harg hcr hL
          first | have hb := hb | have hb := trivial
          repeat' (first | (simp -implicitDefEqProofs (disch := omega) only [hb, F4, e1, e2, e3, e9, hl, hu, hc, k0, k1, k2, wC, wO, initE, aop, Nat.reduceEqDiff, ↓reduceIte, Nat.reduceAdd, finish, resOf, tupOf, AM.freeze, freeze1, freezeL, closed, nam, namL, if_true, if_false, deref, boxAt, exAt, ldCells, oneL, oneCell, Nat.reduceLeDiff, evL, adopt, rigid, rigidL, trim, Int.reduceEq, Int.reduceMod, Int.reduceDiv, if_pos, if_neg, asI, forall_const, implies_true, chkD, chkO, chkW, effB, reB, vEq, beq_self_eq_true, Nat.reduceSub, Nat.reduceLT, Int.reduceSub, Int.reduceAdd, Int.reduceMul, Int.reduceLT, Int.reduceLE, Int.reduceToNat, optI, aslice, cutSl, cutMs, cutStr, cutOwn]) | ((first | rw [WP_condK] | rw [WP_opsG] | rw [WP_quiG] | rw [WP_dG]); refine And.intro (fun hb => ?_) (fun hb => ?_) <;> (first | have hd := dq1 hb | have hd := dq2 hb | have hd := dq3 hb | have hd := dq4 hb | skip)))
        · obtain ⟨h2, h3, L2, hc, hl2, hu2, hLL⟩ := hcr (by omega)
          clear harg hcr
          by_cases k3 : k < (nn : Int)
          · first | have hb := hb | have hb := trivial
            repeat' (first | (simp -implicitDefEqProofs (disch := omega) only [hb, F4, e1, e2, e3, e9, hl, hu, hc, k0, k1, k2, k3, hl2, hu2, wC, wO, initE, aop, Nat.reduceEqDiff, ↓reduceIte, Nat.reduceAdd, finish, resOf, tupOf, AM.freeze, freeze1, freezeL, closed, nam, namL, if_true, if_false, deref, boxAt, exAt, ldCells, oneL, oneCell, Nat.reduceLeDiff, evL, adopt, rigid, rigidL, trim, Int.reduceEq, Int.reduceMod, Int.reduceDiv, if_pos, if_neg, asI, forall_const, implies_true, chkD, chkO, chkW, effB, reB, vEq, beq_self_eq_true, Nat.reduceSub, Nat.reduceLT, Int.reduceSub, Int.reduceAdd, Int.reduceMul, Int.reduceLT, Int.reduceLE, Int.reduceToNat, optI, aslice, cutSl, cutMs, cutStr, cutOwn]) | ((first | rw [WP_condK] | rw [WP_opsG] | rw [WP_quiG] | rw [WP_dG]); refine And.intro (fun hb => ?_) (fun hb => ?_) <;> (first | have hd := dq1 hb | have hd := dq2 hb | have hd := dq3 hb | have hd := dq4 hb | skip)))
          · have hLL := hLL (by omega)
            subst hL
            subst hLL
            first | have hb := hb | have hb := trivial
            repeat' (first | (simp -implicitDefEqProofs (disch := omega) only [hb, F4, e1, e2, e3, e9, hl, hu, hc, k0, k1, k2, k3, hl2, hu2, wC, wO, initE, aop, Nat.reduceEqDiff, ↓reduceIte, Nat.reduceAdd, finish, resOf, tupOf, AM.freeze, freeze1, freezeL, closed, nam, namL, if_true, if_false, deref, boxAt, exAt, ldCells, oneL, oneCell, Nat.reduceLeDiff, evL, adopt, rigid, rigidL, trim, Int.reduceEq, Int.reduceMod, Int.reduceDiv, if_pos, if_neg, asI, forall_const, implies_true, chkD, chkO, chkW, effB, reB, vEq, beq_self_eq_true, Nat.reduceSub, Nat.reduceLT, Int.reduceSub, Int.reduceAdd, Int.reduceMul, Int.reduceLT, Int.reduceLE, Int.reduceToNat, optI, aslice, cutSl, cutMs, cutStr, cutOwn]) | ((first | rw [WP_condK] | rw [WP_opsG] | rw [WP_quiG] | rw [WP_dG]); refine And.intro (fun hb => ?_) (fun hb => ?_) <;> (first | have hd := dq1 hb | have hd := dq2 hb | have hd := dq3 hb | have hd := dq4 hb | skip)))
            refine same_loop _ _ d.now hwf htt _ _ rfl rfl rfl (by omega) _ (fun e' => ?_)
            first | have hb := hb | have hb := trivial
            repeat' (first | (simp -implicitDefEqProofs (disch := omega) only [hb, F4, wC, wO, initE, aop, Nat.reduceEqDiff, ↓reduceIte, Nat.reduceAdd, finish, resOf, tupOf, AM.freeze, freeze1, freezeL, closed, nam, namL, if_true, if_false, deref, boxAt, exAt, ldCells, oneL, oneCell, Nat.reduceLeDiff, evL, adopt, rigid, rigidL, trim, Int.reduceEq, Int.reduceMod, Int.reduceDiv, if_pos, if_neg, asI, forall_const, implies_true, chkD, chkO, chkW, effB, reB, vEq, beq_self_eq_true, Nat.reduceSub, Nat.reduceLT, Int.reduceSub, Int.reduceAdd, Int.reduceMul, Int.reduceLT, Int.reduceLE, Int.reduceToNat, optI, aslice, cutSl, cutMs, cutStr, cutOwn]) | ((first | rw [WP_condK] | rw [WP_opsG] | rw [WP_quiG] | rw [WP_dG]); refine And.intro (fun hb => ?_) (fun hb => ?_) <;> (first | have hd := dq1 hb | have hd := dq2 hb | have hd := dq3 hb | have hd := dq4 hb | skip)))
end Go.Proofs.Ytccllndmknnehaa.AM

/- layer 10: FilesFall, called. -/
namespace Go.Proofs.Ytccllndmknnehaa.AM
open Go
set_option linter.unusedSimpArgs false
set_option linter.unusedVariables false
theorem reads_ops {P : Program} {tl t ti ts tb e : TypeId} {f1 f2 f3 f4 f5 f6 : Field} (hsl : P.underlying tl = some (.slice t)) (hby : P.bytesOf t = 80) (ht : P.underlying t = some (.struct #[f1, f2, f3, f4, f5, f6])) (hc : P.cellsOf t = 6)
    (ho : [f1.offset, f2.offset, f3.offset, f4.offset, f5.offset, f6.offset] = [0, 1, 2, 3, 4, 5])
    (hg : [f1.type, f2.type, f3.type, f4.type, f5.type, f6.type] = [ti, ts, ts, tb, ti, ti])
    (hi : P.underlying ti = some (.int .i64)) (ci : P.cellsOf ti = 1) (hs : P.underlying ts = some .string) (cs : P.cellsOf ts = 1) (hb : P.underlying tb = some (.slice e)) (cb : P.cellsOf tb = 1) (he : P.underlying e = some (.int .u8)) (ce : P.cellsOf e = 1) (be : P.bytesOf e = 1) :
    Reads P tl (fun xs => ∃ l : List Op10, xs = [.slice .none (some 6) (l.map Op10.av)] ∧ (∀ o ∈ l, o.ok) ∧ l.length * 80 ≤ 140737488351232) :=
  reads_sl (k := some 6) (f := Op10.av) (p := Op10.ok) hsl hc (by decide) 80 hby (reads_op ht hc ho hg hi ci hs cs hb cb he ce be) (fun y ⟨⟨o, hy, h⟩, _, _⟩ => ⟨o, by rw [hy]; rfl, h⟩)
theorem ops_nam : ∀ l : List Op10, namL (fun _ => false) (l.map Op10.av) = true
  | [] => rfl
  | o :: l => by
    have h1 := u8_nam (fun _ => false) o.b
    have h2 := ops_nam l
    simp only [List.map_cons, Op10.av, namL, nam, h1, h2, Bool.and_self]
theorem call_fall (l : List Op10) (hl : ∀ o ∈ l, o.ok) (k b : Int) (sy : Bool) : ag T 4 [.slice .none (some 6) (l.map Op10.av), i64 k, i64 b, .bool sy] [] = some (.sc (.bool true), []) :=
  call_sc rfl t4 rfl rfl rfl (by
    have h1 := ops_nam l
    simp only [closedL, namL, nam, h1, Bool.and_self]) (fall_ok _ (fun v hv => by
      obtain ⟨o, ho, rfl⟩ := List.mem_map.1 hv
      exact ⟨o, rfl, hl o ho⟩) k b sy)
end Go.Proofs.Ytccllndmknnehaa.AM
