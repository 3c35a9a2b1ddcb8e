import Derived.Test.YtejnficfhoekiaaMe
/- The digest, as the machine runs it: all parts, bytes out, the whole. -/
namespace Go.Proofs.Ytejnficfhoekiaa.AM
open Go
set_option maxRecDepth 100000
set_option maxHeartbeats 4000000
set_option linter.unusedVariables false
set_option linter.unusedSimpArgs false
theorem k_roll {keep : List Nat} {gc : Bool} {b : AC} {m : Nat} {e : Env} {h : Heap} {Q : Res → Prop} (hw : WP (fun p => WP (LQ (fun _ e h => WP Q (axl T keep gc b m e h)) Q 1) (ax T b p.1 p.2)) (trim keep gc m e h)) : WP Q (axl T keep gc b m e h) := by
  rw [axl_eq, WP_bind]
  refine WP_mono hw fun p hp => ?_
  rw [BQ_eq, WP_bind]
  refine WP_mono hp fun r hr => ?_
  obtain ⟨x, e', h'⟩ := r
  cases x with
  | normal => rw [BQ_eq, nextR_normal]; rw [LQ_normal] at hr; obtain ⟨_, _, hr⟩ := hr; exact hr
  | exit i => exact hr
  | ret => exact hr
/-- one part: bytes, or nothing at all -/
structure PartR (x : AV) (l : List Int) : Prop where
  bytes : Bytes l
  len : l.length ≤ 140737488351232
  cl : closed x = true
  is : (∃ o, x = .slice o none (l.map u8)) ∨ (x = .nil ∧ l = [])
theorem PartR.lenOf {x : AV} {l : List Int} (h : PartR x l) : lenOf x = some l.length := by
  rcases h.is with ⟨o, rfl⟩ | ⟨rfl, rfl⟩
  · simp [AM.lenOf]
  · rfl
theorem spH_len (p : List Wd × Nat) : (spH p).length = 3 := rfl
theorem spH_take (p : List Wd × Nat) : (spH p).take 3 = spH p := rfl
theorem take_part (x : AV) (l : List Int) (hx : PartR x l) (p0 : List Wd × Nat) (hp : KS p0) (pv : AV) (en k i : Int) (keep : List Nat) (hkeep : keep = [0, 2, 10, 11, 12, 16, 17, 18]) (hcl : closed pv = true)
    (Q : Res → Prop) (e : Env) (h : Heap) (h0 : getE e 0 = .ptr 2 0) (h2 : getE e 2 = u8 en) (h10 : getE e 10 = pv) (h11 : getE e 11 = i64 k) (h12 : getE e 12 = i64 i) (h16 : getE e 16 = x) (h17 : getE e 17 = i64 l.length) (h18 : getE e 18 = i64 0) (hh : h = spH p0)
    (hq : ∀ e', getE e' 0 = .ptr 2 0 → getE e' 2 = u8 en → getE e' 10 = pv → getE e' 11 = i64 k → getE e' 12 = i64 i → Q (.exit 2, e', spH (l.foldl (kStep 136) p0))) :
    WP Q (axl T keep true L52_0 3 e h) := by
  rcases hx.is with ⟨o, rfl⟩ | ⟨rfl, rfl⟩
  · exact take_in l hx.bytes hx.len p0 hp o pv en k i keep hkeep hcl hx.cl Q e h h0 h2 h10 h11 h12 h16 h17 h18 hh hq
  · subst hkeep
    subst hh
    refine k_roll ?_
    have b10 := below_of 3 hcl
    rw [trim_take (by simp only [List.all_cons, List.all_nil, h0, h2, h10, h11, h12, h16, h17, h18, b10]; rfl) (spH_below _)]
    first | have hb := hb | have hb := trivial
    repeat' (first | (simp -implicitDefEqProofs (disch := omega) only [hb, L52_0, h0, h2, h10, h11, h12, h16, h17, h18, spH_take, wC, initE, aop, Nat.reduceEqDiff, ↓reduceIte, Nat.reduceAdd, finish, resOf, tupOf, AM.freeze, freeze1, freezeL, closed, nam, namL, if_true, if_false, deref, boxAt, exAt, ldCells, oneL, oneCell, Nat.reduceLeDiff, evL, adopt, rigid, rigidL, trim, Int.reduceEq, Int.reduceMod, Int.reduceDiv, if_pos, if_neg, asI, forall_const, implies_true, chkD, chkO, chkW, effB, reB, vEq, beq_self_eq_true, Nat.reduceSub, Nat.reduceLT, Int.reduceSub, Int.reduceAdd, Int.reduceMul, Int.reduceLT, Int.reduceLE, Int.reduceToNat, optI, aslice, cutSl, cutMs, cutStr, cutOwn, cellsOf, one, elCells, lenOf, beqV, beqVL, strip, stripO, convS]) | ((first | rw [WP_condK] | rw [WP_opsG] | rw [WP_quiG] | rw [WP_dG]); refine And.intro (fun hb => ?_) (fun hb => ?_) <;> (first | have hd := dq1 hb | have hd := dq2 hb | have hd := dq3 hb | have hd := dq4 hb | skip)))
    exact hq _ rfl rfl rfl rfl rfl
/-- all parts -/
structure PartsR (xs : List AV) (ls : List (List Int)) : Prop where
  len : ls.length = xs.length
  at_ : ∀ (i : Nat) (hi : i < xs.length) (hj : i < ls.length), PartR xs[i] ls[i]
theorem flat_snoc (ls : List (List Int)) (p : List Wd × Nat) {j : Nat} (hj : j < ls.length) : (ls.take (j + 1)).flatten.foldl (kStep 136) p = ls[j].foldl (kStep 136) ((ls.take j).flatten.foldl (kStep 136) p) := by
  rw [List.take_succ_eq_append_getElem hj, List.flatten_append, List.foldl_append]; simp
theorem take_all (xs : List AV) (ls : List (List Int)) (hx : PartsR xs ls) (p0 : List Wd × Nat) (hp : KS p0) (po : AOwn) (en : Int) (keep : List Nat) (hkeep : keep = [0, 2, 10, 11, 12]) (hcl : closed (.slice po none xs) = true) (hn : xs.length ≤ 140737488351232)
    (Q : Res → Prop) (e : Env) (h : Heap) (h0 : getE e 0 = .ptr 2 0) (h2 : getE e 2 = u8 en) (h10 : getE e 10 = .slice po none xs) (h11 : getE e 11 = i64 xs.length) (h12 : getE e 12 = i64 0) (hh : h = spH p0)
    (hq : ∀ e', getE e' 0 = .ptr 2 0 → getE e' 2 = u8 en → Q (.exit 0, e', spH (ls.flatten.foldl (kStep 136) p0))) :
    WP Q (axl T keep true L52_1 3 e h) := by
  subst hkeep
  refine WP_loop (I := fun n e h => ∃ j, j ≤ xs.length ∧ n = xs.length - j ∧ getE e 0 = .ptr 2 0 ∧ getE e 2 = u8 en ∧ getE e 10 = .slice po none xs ∧ getE e 11 = i64 xs.length ∧ getE e 12 = i64 j ∧ h = spH ((ls.take j).flatten.foldl (kStep 136) p0)) ?_ xs.length _ _ ⟨0, by omega, rfl, h0, h2, h10, h11, h12, hh⟩
  rintro n e h ⟨j, hj, rfl, h0, h2, h10, h11, h12, rfl⟩
  have b10 := below_of 3 hcl
  rw [trim_take (by simp only [List.all_cons, List.all_nil, h0, h2, h10, h11, h12, b10]; rfl) (spH_below _)]
  have hks := KS.fold (ls.take j).flatten hp
  by_cases hjl : j < xs.length
  · have hjl' : j < ls.length := by rw [hx.len]; exact hjl
    have hfs := flat_snoc ls p0 hjl'
    have hpart := hx.at_ j hjl hjl'
    have hln := hpart.lenOf
    have hg := get_lt hjl
    have hec : elCells xs[j] = [xs[j]] := by rcases hpart.is with ⟨o, ho⟩ | ⟨ho, _⟩ <;> rw [ho] <;> rfl
    have hll := hpart.len
    generalize (ls.take j).flatten.foldl (kStep 136) p0 = p at hks hfs ⊢
    first | have hb := hb | have hb := trivial
    repeat' (first | (simp -implicitDefEqProofs (disch := omega) only [hb, L52_1, spH_take, spH_len, h0, h2, h10, h11, h12, hg, hec, hln, wC, initE, aop, Nat.reduceEqDiff, ↓reduceIte, Nat.reduceAdd, finish, resOf, tupOf, AM.freeze, freeze1, freezeL, closed, nam, namL, if_true, if_false, deref, boxAt, exAt, ldCells, oneL, oneCell, Nat.reduceLeDiff, evL, adopt, rigid, rigidL, trim, Int.reduceEq, Int.reduceMod, Int.reduceDiv, if_pos, if_neg, asI, forall_const, implies_true, chkD, chkO, chkW, effB, reB, vEq, beq_self_eq_true, Nat.reduceSub, Nat.reduceLT, Int.reduceSub, Int.reduceAdd, Int.reduceMul, Int.reduceLT, Int.reduceLE, Int.reduceToNat, optI, aslice, cutSl, cutMs, cutStr, cutOwn, cellsOf, one, beqV, beqVL, strip, stripO, convS]) | ((first | rw [WP_condK] | rw [WP_opsG] | rw [WP_quiG] | rw [WP_dG]); refine And.intro (fun hb => ?_) (fun hb => ?_) <;> (first | have hd := dq1 hb | have hd := dq2 hb | have hd := dq3 hb | have hd := dq4 hb | skip)))
    refine take_part xs[j] ls[j] hpart p hks (.slice po none xs) en xs.length j _ rfl hcl _ _ _ rfl rfl rfl rfl rfl rfl rfl rfl rfl ?_
    intro e' g0 g2 g10 g11 g12
    first | have hb := hb | have hb := trivial
    repeat' (first | (simp -implicitDefEqProofs (disch := omega) only [hb, g0, g2, g10, g11, g12, wC, initE, aop, Nat.reduceEqDiff, ↓reduceIte, Nat.reduceAdd, finish, resOf, tupOf, AM.freeze, freeze1, freezeL, closed, nam, namL, if_true, if_false, deref, boxAt, exAt, ldCells, oneL, oneCell, Nat.reduceLeDiff, evL, adopt, rigid, rigidL, trim, Int.reduceEq, Int.reduceMod, Int.reduceDiv, if_pos, if_neg, asI, forall_const, implies_true, chkD, chkO, chkW, effB, reB, vEq, beq_self_eq_true, Nat.reduceSub, Nat.reduceLT, Int.reduceSub, Int.reduceAdd, Int.reduceMul, Int.reduceLT, Int.reduceLE, Int.reduceToNat, optI, aslice, cutSl, cutMs, cutStr, cutOwn, cellsOf, one, elCells, lenOf, beqV, beqVL, strip, stripO, convS]) | ((first | rw [WP_condK] | rw [WP_opsG] | rw [WP_quiG] | rw [WP_dG]); refine And.intro (fun hb => ?_) (fun hb => ?_) <;> (first | have hd := dq1 hb | have hd := dq2 hb | have hd := dq3 hb | have hd := dq4 hb | skip)))
    exact ⟨xs.length - (j + 1), by omega, j + 1, by omega, rfl, rfl, by rw [hfs]⟩
  · obtain rfl : j = xs.length := by omega
    first | have hb := hb | have hb := trivial
    repeat' (first | (simp -implicitDefEqProofs (disch := omega) only [hb, L52_1, spH_take, h0, h2, h10, h11, h12, wC, initE, aop, Nat.reduceEqDiff, ↓reduceIte, Nat.reduceAdd, finish, resOf, tupOf, AM.freeze, freeze1, freezeL, closed, nam, namL, if_true, if_false, deref, boxAt, exAt, ldCells, oneL, oneCell, Nat.reduceLeDiff, evL, adopt, rigid, rigidL, trim, Int.reduceEq, Int.reduceMod, Int.reduceDiv, if_pos, if_neg, asI, forall_const, implies_true, chkD, chkO, chkW, effB, reB, vEq, beq_self_eq_true, Nat.reduceSub, Nat.reduceLT, Int.reduceSub, Int.reduceAdd, Int.reduceMul, Int.reduceLT, Int.reduceLE, Int.reduceToNat, optI, aslice, cutSl, cutMs, cutStr, cutOwn, cellsOf, one, elCells, lenOf, beqV, beqVL, strip, stripO, convS]) | ((first | rw [WP_condK] | rw [WP_opsG] | rw [WP_quiG] | rw [WP_dG]); refine And.intro (fun hb => ?_) (fun hb => ?_) <;> (first | have hd := dq1 hb | have hd := dq2 hb | have hd := dq3 hb | have hd := dq4 hb | skip)))
    rw [show List.take xs.length ls = ls by rw [← hx.len]; exact List.take_length]
    exact hq _ rfl rfl
theorem take_ok (xs : List AV) (ls : List (List Int)) (hx : PartsR xs ls) (p0 : List Wd × Nat) (hp : KS p0) (po : AOwn) (hcl : closed (.slice po none xs) = true) (hn : xs.length ≤ 140737488351232) : ag T 52 [.ptr 2 0, .slice po none xs, u8 6] (spH p0) = some (.tup [], spH (kEnd (ls.flatten.foldl (kStep 136) p0), 0)) := by
  refine WP_eq (k_wp rfl t52 rfl rfl ?_)
  first | have hb := hb | have hb := trivial
  repeat' (first | (simp -implicitDefEqProofs (disch := omega) only [hb, F52, spH_len, wC, initE, aop, Nat.reduceEqDiff, ↓reduceIte, Nat.reduceAdd, finish, resOf, tupOf, AM.freeze, freeze1, freezeL, closed, nam, namL, if_true, if_false, deref, boxAt, exAt, ldCells, oneL, oneCell, Nat.reduceLeDiff, evL, adopt, rigid, rigidL, trim, Int.reduceEq, Int.reduceMod, Int.reduceDiv, if_pos, if_neg, asI, forall_const, implies_true, chkD, chkO, chkW, effB, reB, vEq, beq_self_eq_true, Nat.reduceSub, Nat.reduceLT, Int.reduceSub, Int.reduceAdd, Int.reduceMul, Int.reduceLT, Int.reduceLE, Int.reduceToNat, optI, aslice, cutSl, cutMs, cutStr, cutOwn, cellsOf, one, elCells, lenOf, beqV, beqVL, strip, stripO, convS]) | ((first | rw [WP_condK] | rw [WP_opsG] | rw [WP_quiG] | rw [WP_dG]); refine And.intro (fun hb => ?_) (fun hb => ?_) <;> (first | have hd := dq1 hb | have hd := dq2 hb | have hd := dq3 hb | have hd := dq4 hb | skip)))
  refine take_all xs ls hx p0 hp po 6 _ rfl hcl hn _ _ _ rfl rfl rfl rfl rfl rfl ?_
  intro e' g0 g2
  have hks := KS.fold ls.flatten hp
  generalize ls.flatten.foldl (kStep 136) p0 = p at hks ⊢
  obtain ⟨s, a⟩ := p
  have hs : s.length = 25 := hks.len
  have ha : a < 136 := hks.lt
  have hs1 : (wv (kAdd s a 6)).length = 25 := by rw [wv_len, kAdd_len hs]
  have f1 := spg_at (by rw [wv_len, hs] : (wv s).length = 25) 136 a
  have f2 := spg_rate hs1 136 a
  have h1 := add_ok s hs 136 a a (by omega) 6 (by decide) (by decide)
  have h2 := add_ok (kAdd s a 6) (kAdd_len hs _ _) 136 a 135 (by omega) 128 (by decide) (by decide)
  have hall := all_ok (kAdd (kAdd s a 6) 135 128) (kAdd_len (kAdd_len hs _ _) _ _) 136 a
  rw [show ((135 : Nat) : Int) = 135 from rfl] at h2
  first | have hb := hb | have hb := trivial
  repeat' (first | (simp -implicitDefEqProofs (disch := omega) only [hb, g0, g2, spH, f1, f2, h1, h2, hall, wC, initE, aop, Nat.reduceEqDiff, ↓reduceIte, Nat.reduceAdd, finish, resOf, tupOf, AM.freeze, freeze1, freezeL, closed, nam, namL, if_true, if_false, deref, boxAt, exAt, ldCells, oneL, oneCell, Nat.reduceLeDiff, evL, adopt, rigid, rigidL, trim, Int.reduceEq, Int.reduceMod, Int.reduceDiv, if_pos, if_neg, asI, forall_const, implies_true, chkD, chkO, chkW, effB, reB, vEq, beq_self_eq_true, Nat.reduceSub, Nat.reduceLT, Int.reduceSub, Int.reduceAdd, Int.reduceMul, Int.reduceLT, Int.reduceLE, Int.reduceToNat, optI, aslice, cutSl, cutMs, cutStr, cutOwn, cellsOf, one, elCells, lenOf, beqV, beqVL, strip, stripO, convS]) | ((first | rw [WP_condK] | rw [WP_opsG] | rw [WP_quiG] | rw [WP_dG]); refine And.intro (fun hb => ?_) (fun hb => ?_) <;> (first | have hd := dq1 hb | have hd := dq2 hb | have hd := dq3 hb | have hd := dq4 hb | skip)))
  rfl
end Go.Proofs.Ytejnficfhoekiaa.AM

/- The digest: keccak.Sum is it. -/
namespace Go.Proofs.Ytejnficfhoekiaa.AM
open Go
set_option maxRecDepth 100000
set_option maxHeartbeats 4000000
set_option linter.unusedVariables false
set_option linter.unusedSimpArgs false
def kZero : List Wd := List.replicate 25 0#64
theorem start_k : gcall T 200 51 [i64 136] [Z32, Z32] = some (.ptr 2 0, spH (kZero, 0)) := by kernel_rfl
theorem start_ok : ag T 51 [i64 136] [Z32, Z32] = some (.ptr 2 0, spH (kZero, 0)) := ag_of_gcall start_k
def outI (s : List Int) : List AV := k32.map fun i => .int .u8 (IntKind.u8.wrap (oI .shr (ni s (i / 8)) (8 * (i % 8) : Nat)))
theorem let_k (s0 s1 s2 s3 s4 s5 s6 s7 s8 s9 s10 s11 s12 s13 s14 s15 s16 s17 s18 s19 s20 s21 s22 s23 s24 : Int) :
    gcall T 60 53 [.ptr 2 0, .ms 1 0 none 32] [Z32, Z32, .cells (spgC (vI [s0, s1, s2, s3, s4, s5, s6, s7, s8, s9, s10, s11, s12, s13, s14, s15, s16, s17, s18, s19, s20, s21, s22, s23, s24]) 136 0)] =
      some (.tup [], [Z32, .cells (outI [s0, s1, s2, s3, s4, s5, s6, s7, s8, s9, s10, s11, s12, s13, s14, s15, s16, s17, s18, s19, s20, s21, s22, s23, s24]), .cells (spgC (vI [s0, s1, s2, s3, s4, s5, s6, s7, s8, s9, s10, s11, s12, s13, s14, s15, s16, s17, s18, s19, s20, s21, s22, s23, s24]) 136 32)]) := by kernel_rfl
theorem words_wI {s : List Wd} (hs : s.length = 25) : ([((nw s 0).toNat : Int), (nw s 1).toNat, (nw s 2).toNat, (nw s 3).toNat, (nw s 4).toNat, (nw s 5).toNat, (nw s 6).toNat, (nw s 7).toNat, (nw s 8).toNat, (nw s 9).toNat, (nw s 10).toNat, (nw s 11).toNat, (nw s 12).toNat, (nw s 13).toNat, (nw s 14).toNat, (nw s 15).toNat, (nw s 16).toNat, (nw s 17).toNat, (nw s 18).toNat, (nw s 19).toNat, (nw s 20).toNat, (nw s 21).toNat, (nw s 22).toNat, (nw s 23).toNat, (nw s 24).toNat] : List Int) = wI s := by
  conv => rhs; rw [words25 hs]
  rfl
theorem outI_w (s : List Wd) : outI (wI s) = (k32.map (kByte s)).map u8 := by
  rw [outI, List.map_map]
  apply List.map_congr_left
  intro i _
  simp only [Function.comp, ni_w, kByte]
  rw [oI_shr _ _ (by omega), w_u8]
  congr 2
theorem let_ok (s : List Wd) (hs : s.length = 25) : ag T 53 [.ptr 2 0, .ms 1 0 none 32] (spH (s, 0)) = some (.tup [], [Z32, .cells ((k32.map (kByte s)).map u8), .cells (spgC (wv s) 136 32)]) := by
  have hk := let_k (nw s 0).toNat (nw s 1).toNat (nw s 2).toNat (nw s 3).toNat (nw s 4).toNat (nw s 5).toNat (nw s 6).toNat (nw s 7).toNat (nw s 8).toNat (nw s 9).toNat (nw s 10).toNat (nw s 11).toNat (nw s 12).toNat (nw s 13).toNat (nw s 14).toNat (nw s 15).toNat (nw s 16).toNat (nw s 17).toNat (nw s 18).toNat (nw s 19).toNat (nw s 20).toNat (nw s 21).toNat (nw s 22).toNat (nw s 23).toNat (nw s 24).toNat
  rw [words_wI hs, outI_w] at hk
  exact ag_of_gcall hk
theorem z32_eq : AObj.box true [.int .u8 0, .int .u8 0, .int .u8 0, .int .u8 0, .int .u8 0, .int .u8 0, .int .u8 0, .int .u8 0, .int .u8 0, .int .u8 0, .int .u8 0, .int .u8 0, .int .u8 0, .int .u8 0, .int .u8 0, .int .u8 0, .int .u8 0, .int .u8 0, .int .u8 0, .int .u8 0, .int .u8 0, .int .u8 0, .int .u8 0, .int .u8 0, .int .u8 0, .int .u8 0, .int .u8 0, .int .u8 0, .int .u8 0, .int .u8 0, .int .u8 0, .int .u8 0] = Z32 := rfl
theorem spH_1 (p : List Wd × Nat) : (spH p)[1]? = some (AObj.box true (List.replicate 32 (.int .u8 0))) := rfl
theorem n32 : (((32 : Nat) : Int) - 0).toNat = 32 := rfl
theorem splice_all {xs cs : List AV} (h : xs.length = cs.length) : splice cs 0 xs = xs := by
  match xs, h with
  | [], h => rw [splice_nil]; exact List.eq_nil_of_length_eq_zero h.symm
  | [x], h =>
    match cs, h with
    | [c], _ => rfl
  | x :: y :: r, h => rw [splice_more, List.drop_of_length_le (by simp at h; omega)]; simp
theorem oneL_u8 : ∀ l : List Int, oneL (l.map u8) = true
  | [] => rfl
  | x :: l => by simp only [List.map_cons, oneL, one, oneCell, oneL_u8 l, Bool.and_self]
theorem kTake_eq (l : List Int) : kTake l = l.foldl (kStep 136) (kZero, 0) := rfl
theorem kzero_ks : KS (kZero, 0) := ⟨rfl, by show (0 : Nat) < 136; omega⟩
theorem kEnd_len {p : List Wd × Nat} (h : KS p) : (kEnd p).length = 25 := kPerm_len (kAdd_len (kAdd_len h.len _ _) _ _)
theorem sum_ok (xs : List AV) (ls : List (List Int)) (hx : PartsR xs ls) (po : AOwn) (hcl : closed (.slice po none xs) = true) (hn : xs.length ≤ 140737488351232) : prun T F36 [.slice po none xs] = some (.agg ((kSum ls.flatten).map u8)) := by
  refine WP_eq (prun_wp ?_)
  have h1 := start_ok
  have h2 := take_ok xs ls hx (kZero, 0) kzero_ks po hcl hn
  rw [← kTake_eq] at h2
  have h3 := let_ok (kEnd (kTake ls.flatten)) (kEnd_len (KS.fold _ kzero_ks))
  have hL : ((kSum ls.flatten).map u8).length = 32 := by rw [List.length_map, kSum_len]
  have hc := u8_closed (kSum ls.flatten)
  rw [show k32.map (kByte (kEnd (kTake ls.flatten))) = kSum ls.flatten from rfl] at h3
  have h1L := oneL_u8 (kSum ls.flatten)
  have hst : ((kSum ls.flatten).map u8).map strip = (kSum ls.flatten).map u8 := by rw [List.map_map]; rfl
  generalize (kSum ls.flatten).map u8 = D at h3 hL hc h1L hst ⊢
  have hT : List.take 32 D = D := List.take_of_length_le (by omega)
  have hsp : splice (List.replicate 32 (AV.int .u8 0)) 0 D = D := splice_all (by rw [hL]; rfl)
  first | have hb := hb | have hb := trivial
  repeat' (first | (simp -implicitDefEqProofs (disch := omega) only [hb, F36, z32_eq, h1, h2, h3, hL, hc, spH_1, n32, hT, h1L, wC, initE, aop, Nat.reduceEqDiff, ↓reduceIte, Nat.reduceAdd, finish, resOf, tupOf, AM.freeze, freeze1, freezeL, closed, nam, namL, if_true, if_false, deref, boxAt, exAt, ldCells, oneL, oneCell, Nat.reduceLeDiff, evL, adopt, rigid, rigidL, trim, Int.reduceEq, Int.reduceMod, Int.reduceDiv, if_pos, if_neg, asI, forall_const, implies_true, chkD, chkO, chkW, effB, reB, vEq, beq_self_eq_true, Nat.reduceSub, Nat.reduceLT, Int.reduceSub, Int.reduceAdd, Int.reduceMul, Int.reduceLT, Int.reduceLE, Int.reduceToNat, optI, aslice, cutSl, cutMs, cutStr, cutOwn, cellsOf, one, elCells, lenOf, beqV, beqVL, strip, stripO, convS]) | ((first | rw [WP_condK] | rw [WP_opsG] | rw [WP_quiG] | rw [WP_dG]); refine And.intro (fun hb => ?_) (fun hb => ?_) <;> (first | have hd := dq1 hb | have hd := dq2 hb | have hd := dq3 hb | have hd := dq4 hb | skip)))
  first | have hb := hb | have hb := trivial
  repeat' (first | (simp -implicitDefEqProofs (disch := omega) only [hb, Z32, hL, hc, hT, h1L, hsp, wC, initE, aop, Nat.reduceEqDiff, ↓reduceIte, Nat.reduceAdd, finish, resOf, tupOf, AM.freeze, freeze1, freezeL, closed, nam, namL, if_true, if_false, deref, boxAt, exAt, ldCells, oneL, oneCell, Nat.reduceLeDiff, evL, adopt, rigid, rigidL, trim, Int.reduceEq, Int.reduceMod, Int.reduceDiv, if_pos, if_neg, asI, forall_const, implies_true, chkD, chkO, chkW, effB, reB, vEq, beq_self_eq_true, Nat.reduceSub, Nat.reduceLT, Int.reduceSub, Int.reduceAdd, Int.reduceMul, Int.reduceLT, Int.reduceLE, Int.reduceToNat, optI, aslice, cutSl, cutMs, cutStr, cutOwn, cellsOf, one, elCells, lenOf, beqV, beqVL, strip, stripO, convS]) | ((first | rw [WP_condK] | rw [WP_opsG] | rw [WP_quiG] | rw [WP_dG]); refine And.intro (fun hb => ?_) (fun hb => ?_) <;> (first | have hd := dq1 hb | have hd := dq2 hb | have hd := dq3 hb | have hd := dq4 hb | skip)))
  rw [hst]
  exact ⟨hc, rfl⟩
end Go.Proofs.Ytejnficfhoekiaa.AM

/- The document's digest: its rounds. -/
namespace Go.Proofs.Ytejnficfhoekiaa.AM
open Go
set_option maxRecDepth 100000
set_option maxHeartbeats 4000000
set_option linter.unusedVariables false
set_option linter.unusedSimpArgs false
/-- what a function that makes all for itself gives, by a run -/
theorem prun_of_gcall {f n : Nat} {F : AFn} {args : List AV} {cs : List AV} (hx : T.ext f = none) (hf : T.fn f = some F) (hp : F.pure = true) (hl : args.length = F.np) (hm : args.map strip = args) (hc : closedL args = true) (hr : gcall T n f args [] = some (.agg cs, [])) : prun T F args = some (.agg cs) := by
  have h1 := ag_of_gcall hr
  rw [ag_pure hx hf hp args hl] at h1
  simp only [pcall, prep, hm, if_pos hc, Option.bind_some, Bool.false_eq_true, if_false, Option.bind_eq_some_iff] at h1
  obtain ⟨v, h2, h3⟩ := h1
  rw [h2]
  unfold adopt at h3
  split at h3
  · cases h3
  · cases h3
  · cases h3; rfl
def RoundK (n : Nat) : Prop := ∀ (s0 s1 s2 s3 s4 s5 s6 s7 s8 s9 s10 s11 s12 s13 s14 s15 s16 s17 s18 s19 s20 s21 s22 s23 s24 : Int), gcall T 60 68 [.ref tabC, .agg (vI [s0, s1, s2, s3, s4, s5, s6, s7, s8, s9, s10, s11, s12, s13, s14, s15, s16, s17, s18, s19, s20, s21, s22, s23, s24]), i64 n] [] = some (.agg (vI (iRoundR [s0, s1, s2, s3, s4, s5, s6, s7, s8, s9, s10, s11, s12, s13, s14, s15, s16, s17, s18, s19, s20, s21, s22, s23, s24] (nn kCon n))), [])
theorem round_k0 : RoundK 0 := fun s0 s1 s2 s3 s4 s5 s6 s7 s8 s9 s10 s11 s12 s13 s14 s15 s16 s17 s18 s19 s20 s21 s22 s23 s24 => by kernel_rfl
theorem round_k1 : RoundK 1 := fun s0 s1 s2 s3 s4 s5 s6 s7 s8 s9 s10 s11 s12 s13 s14 s15 s16 s17 s18 s19 s20 s21 s22 s23 s24 => by kernel_rfl
theorem round_k2 : RoundK 2 := fun s0 s1 s2 s3 s4 s5 s6 s7 s8 s9 s10 s11 s12 s13 s14 s15 s16 s17 s18 s19 s20 s21 s22 s23 s24 => by kernel_rfl
theorem round_k3 : RoundK 3 := fun s0 s1 s2 s3 s4 s5 s6 s7 s8 s9 s10 s11 s12 s13 s14 s15 s16 s17 s18 s19 s20 s21 s22 s23 s24 => by kernel_rfl
theorem round_k4 : RoundK 4 := fun s0 s1 s2 s3 s4 s5 s6 s7 s8 s9 s10 s11 s12 s13 s14 s15 s16 s17 s18 s19 s20 s21 s22 s23 s24 => by kernel_rfl
theorem round_k5 : RoundK 5 := fun s0 s1 s2 s3 s4 s5 s6 s7 s8 s9 s10 s11 s12 s13 s14 s15 s16 s17 s18 s19 s20 s21 s22 s23 s24 => by kernel_rfl
theorem round_k6 : RoundK 6 := fun s0 s1 s2 s3 s4 s5 s6 s7 s8 s9 s10 s11 s12 s13 s14 s15 s16 s17 s18 s19 s20 s21 s22 s23 s24 => by kernel_rfl
theorem round_k7 : RoundK 7 := fun s0 s1 s2 s3 s4 s5 s6 s7 s8 s9 s10 s11 s12 s13 s14 s15 s16 s17 s18 s19 s20 s21 s22 s23 s24 => by kernel_rfl
theorem round_k8 : RoundK 8 := fun s0 s1 s2 s3 s4 s5 s6 s7 s8 s9 s10 s11 s12 s13 s14 s15 s16 s17 s18 s19 s20 s21 s22 s23 s24 => by kernel_rfl
theorem round_k9 : RoundK 9 := fun s0 s1 s2 s3 s4 s5 s6 s7 s8 s9 s10 s11 s12 s13 s14 s15 s16 s17 s18 s19 s20 s21 s22 s23 s24 => by kernel_rfl
theorem round_k10 : RoundK 10 := fun s0 s1 s2 s3 s4 s5 s6 s7 s8 s9 s10 s11 s12 s13 s14 s15 s16 s17 s18 s19 s20 s21 s22 s23 s24 => by kernel_rfl
theorem round_k11 : RoundK 11 := fun s0 s1 s2 s3 s4 s5 s6 s7 s8 s9 s10 s11 s12 s13 s14 s15 s16 s17 s18 s19 s20 s21 s22 s23 s24 => by kernel_rfl
theorem round_k12 : RoundK 12 := fun s0 s1 s2 s3 s4 s5 s6 s7 s8 s9 s10 s11 s12 s13 s14 s15 s16 s17 s18 s19 s20 s21 s22 s23 s24 => by kernel_rfl
theorem round_k13 : RoundK 13 := fun s0 s1 s2 s3 s4 s5 s6 s7 s8 s9 s10 s11 s12 s13 s14 s15 s16 s17 s18 s19 s20 s21 s22 s23 s24 => by kernel_rfl
theorem round_k14 : RoundK 14 := fun s0 s1 s2 s3 s4 s5 s6 s7 s8 s9 s10 s11 s12 s13 s14 s15 s16 s17 s18 s19 s20 s21 s22 s23 s24 => by kernel_rfl
theorem round_k15 : RoundK 15 := fun s0 s1 s2 s3 s4 s5 s6 s7 s8 s9 s10 s11 s12 s13 s14 s15 s16 s17 s18 s19 s20 s21 s22 s23 s24 => by kernel_rfl
theorem round_k16 : RoundK 16 := fun s0 s1 s2 s3 s4 s5 s6 s7 s8 s9 s10 s11 s12 s13 s14 s15 s16 s17 s18 s19 s20 s21 s22 s23 s24 => by kernel_rfl
theorem round_k17 : RoundK 17 := fun s0 s1 s2 s3 s4 s5 s6 s7 s8 s9 s10 s11 s12 s13 s14 s15 s16 s17 s18 s19 s20 s21 s22 s23 s24 => by kernel_rfl
theorem round_k18 : RoundK 18 := fun s0 s1 s2 s3 s4 s5 s6 s7 s8 s9 s10 s11 s12 s13 s14 s15 s16 s17 s18 s19 s20 s21 s22 s23 s24 => by kernel_rfl
theorem round_k19 : RoundK 19 := fun s0 s1 s2 s3 s4 s5 s6 s7 s8 s9 s10 s11 s12 s13 s14 s15 s16 s17 s18 s19 s20 s21 s22 s23 s24 => by kernel_rfl
theorem round_k20 : RoundK 20 := fun s0 s1 s2 s3 s4 s5 s6 s7 s8 s9 s10 s11 s12 s13 s14 s15 s16 s17 s18 s19 s20 s21 s22 s23 s24 => by kernel_rfl
theorem round_k21 : RoundK 21 := fun s0 s1 s2 s3 s4 s5 s6 s7 s8 s9 s10 s11 s12 s13 s14 s15 s16 s17 s18 s19 s20 s21 s22 s23 s24 => by kernel_rfl
theorem round_k22 : RoundK 22 := fun s0 s1 s2 s3 s4 s5 s6 s7 s8 s9 s10 s11 s12 s13 s14 s15 s16 s17 s18 s19 s20 s21 s22 s23 s24 => by kernel_rfl
theorem round_k23 : RoundK 23 := fun s0 s1 s2 s3 s4 s5 s6 s7 s8 s9 s10 s11 s12 s13 s14 s15 s16 s17 s18 s19 s20 s21 s22 s23 s24 => by kernel_rfl
theorem round_k (s0 s1 s2 s3 s4 s5 s6 s7 s8 s9 s10 s11 s12 s13 s14 s15 s16 s17 s18 s19 s20 s21 s22 s23 s24 : Int) : ∀ n : Nat, n < 24 → gcall T 60 68 [.ref tabC, .agg (vI [s0, s1, s2, s3, s4, s5, s6, s7, s8, s9, s10, s11, s12, s13, s14, s15, s16, s17, s18, s19, s20, s21, s22, s23, s24]), i64 n] [] = some (.agg (vI (iRoundR [s0, s1, s2, s3, s4, s5, s6, s7, s8, s9, s10, s11, s12, s13, s14, s15, s16, s17, s18, s19, s20, s21, s22, s23, s24] (nn kCon n))), [])
  | 0, _ => round_k0 s0 s1 s2 s3 s4 s5 s6 s7 s8 s9 s10 s11 s12 s13 s14 s15 s16 s17 s18 s19 s20 s21 s22 s23 s24
  | 1, _ => round_k1 s0 s1 s2 s3 s4 s5 s6 s7 s8 s9 s10 s11 s12 s13 s14 s15 s16 s17 s18 s19 s20 s21 s22 s23 s24
  | 2, _ => round_k2 s0 s1 s2 s3 s4 s5 s6 s7 s8 s9 s10 s11 s12 s13 s14 s15 s16 s17 s18 s19 s20 s21 s22 s23 s24
  | 3, _ => round_k3 s0 s1 s2 s3 s4 s5 s6 s7 s8 s9 s10 s11 s12 s13 s14 s15 s16 s17 s18 s19 s20 s21 s22 s23 s24
  | 4, _ => round_k4 s0 s1 s2 s3 s4 s5 s6 s7 s8 s9 s10 s11 s12 s13 s14 s15 s16 s17 s18 s19 s20 s21 s22 s23 s24
  | 5, _ => round_k5 s0 s1 s2 s3 s4 s5 s6 s7 s8 s9 s10 s11 s12 s13 s14 s15 s16 s17 s18 s19 s20 s21 s22 s23 s24
  | 6, _ => round_k6 s0 s1 s2 s3 s4 s5 s6 s7 s8 s9 s10 s11 s12 s13 s14 s15 s16 s17 s18 s19 s20 s21 s22 s23 s24
  | 7, _ => round_k7 s0 s1 s2 s3 s4 s5 s6 s7 s8 s9 s10 s11 s12 s13 s14 s15 s16 s17 s18 s19 s20 s21 s22 s23 s24
  | 8, _ => round_k8 s0 s1 s2 s3 s4 s5 s6 s7 s8 s9 s10 s11 s12 s13 s14 s15 s16 s17 s18 s19 s20 s21 s22 s23 s24
  | 9, _ => round_k9 s0 s1 s2 s3 s4 s5 s6 s7 s8 s9 s10 s11 s12 s13 s14 s15 s16 s17 s18 s19 s20 s21 s22 s23 s24
  | 10, _ => round_k10 s0 s1 s2 s3 s4 s5 s6 s7 s8 s9 s10 s11 s12 s13 s14 s15 s16 s17 s18 s19 s20 s21 s22 s23 s24
  | 11, _ => round_k11 s0 s1 s2 s3 s4 s5 s6 s7 s8 s9 s10 s11 s12 s13 s14 s15 s16 s17 s18 s19 s20 s21 s22 s23 s24
  | 12, _ => round_k12 s0 s1 s2 s3 s4 s5 s6 s7 s8 s9 s10 s11 s12 s13 s14 s15 s16 s17 s18 s19 s20 s21 s22 s23 s24
  | 13, _ => round_k13 s0 s1 s2 s3 s4 s5 s6 s7 s8 s9 s10 s11 s12 s13 s14 s15 s16 s17 s18 s19 s20 s21 s22 s23 s24
  | 14, _ => round_k14 s0 s1 s2 s3 s4 s5 s6 s7 s8 s9 s10 s11 s12 s13 s14 s15 s16 s17 s18 s19 s20 s21 s22 s23 s24
  | 15, _ => round_k15 s0 s1 s2 s3 s4 s5 s6 s7 s8 s9 s10 s11 s12 s13 s14 s15 s16 s17 s18 s19 s20 s21 s22 s23 s24
  | 16, _ => round_k16 s0 s1 s2 s3 s4 s5 s6 s7 s8 s9 s10 s11 s12 s13 s14 s15 s16 s17 s18 s19 s20 s21 s22 s23 s24
  | 17, _ => round_k17 s0 s1 s2 s3 s4 s5 s6 s7 s8 s9 s10 s11 s12 s13 s14 s15 s16 s17 s18 s19 s20 s21 s22 s23 s24
  | 18, _ => round_k18 s0 s1 s2 s3 s4 s5 s6 s7 s8 s9 s10 s11 s12 s13 s14 s15 s16 s17 s18 s19 s20 s21 s22 s23 s24
  | 19, _ => round_k19 s0 s1 s2 s3 s4 s5 s6 s7 s8 s9 s10 s11 s12 s13 s14 s15 s16 s17 s18 s19 s20 s21 s22 s23 s24
  | 20, _ => round_k20 s0 s1 s2 s3 s4 s5 s6 s7 s8 s9 s10 s11 s12 s13 s14 s15 s16 s17 s18 s19 s20 s21 s22 s23 s24
  | 21, _ => round_k21 s0 s1 s2 s3 s4 s5 s6 s7 s8 s9 s10 s11 s12 s13 s14 s15 s16 s17 s18 s19 s20 s21 s22 s23 s24
  | 22, _ => round_k22 s0 s1 s2 s3 s4 s5 s6 s7 s8 s9 s10 s11 s12 s13 s14 s15 s16 s17 s18 s19 s20 s21 s22 s23 s24
  | 23, _ => round_k23 s0 s1 s2 s3 s4 s5 s6 s7 s8 s9 s10 s11 s12 s13 s14 s15 s16 s17 s18 s19 s20 s21 s22 s23 s24
  | n + 24, h => by omega
theorem vI_cl (p : Nat → Bool) : ∀ l : List Int, namL p (vI l) = true
  | [] => rfl
  | x :: l => vI_cl p l
theorem vI_strip (l : List Int) : (vI l).map strip = vI l := by rw [vI, List.map_map]; rfl
theorem vI_rigid : ∀ l : List Int, rigidL (vI l) = true
  | [] => rfl
  | x :: l => vI_rigid l
theorem vI_one : ∀ l : List Int, oneL (vI l) = true
  | [] => rfl
  | x :: l => vI_one l
theorem tab_cl : closedL tabC = true := by kernel_rfl
theorem con_lt (n : Nat) (hn : n < 24) : ((BitVec.ofNat 64 (nn kCon n)).toNat : Int) = (nn kCon n : Nat) := by
  have : ∀ n, n < 24 → (BitVec.ofNat 64 (nn kCon n)).toNat = nn kCon n := by decide
  rw [this n hn]
theorem round_ok (s : List Wd) (hs : s.length = 25) (n : Nat) (hn : n < 24) : prun T F68 [.ref tabC, .agg (wv s), i64 n] = some (.agg (wv (kRound s (BitVec.ofNat 64 (nn kCon n))))) := by
  have hk := round_k (nw s 0).toNat (nw s 1).toNat (nw s 2).toNat (nw s 3).toNat (nw s 4).toNat (nw s 5).toNat (nw s 6).toNat (nw s 7).toNat (nw s 8).toNat (nw s 9).toNat (nw s 10).toNat (nw s 11).toNat (nw s 12).toNat (nw s 13).toNat (nw s 14).toNat (nw s 15).toNat (nw s 16).toNat (nw s 17).toNat (nw s 18).toNat (nw s 19).toNat (nw s 20).toNat (nw s 21).toNat (nw s 22).toNat (nw s 23).toNat (nw s 24).toNat n hn
  rw [words_wI hs, ← con_lt n hn, iRoundR_w] at hk
  refine prun_of_gcall rfl t68 rfl rfl ?_ ?_ hk
  · simp [strip]
  · have h1 := tab_cl
    have h2 := vI_cl (fun _ => false) (wI s)
    simp only [closedL, namL, nam, Bool.and_true] at h1 h2 ⊢
    rw [h1, h2]; rfl
theorem rounds_ok (s : List Wd) (hs : s.length = 25) : prun T F65 [.ref tabC, .agg (wv s)] = some (.agg (wv (kPerm s))) := by
  refine WP_eq (prun_wp ?_)
  have h1L := vI_one (wI s)
  have hl : (wv s).length = 25 := by rw [wv_len, hs]
  have htk := tab_cl
  first | have hb := hb | have hb := trivial
  repeat' (first | (simp -implicitDefEqProofs (disch := omega) only [hb, F65, hl, h1L, wC, initE, aop, Nat.reduceEqDiff, ↓reduceIte, Nat.reduceAdd, finish, resOf, tupOf, AM.freeze, freeze1, freezeL, closed, nam, namL, if_true, if_false, deref, boxAt, exAt, ldCells, oneL, oneCell, Nat.reduceLeDiff, evL, adopt, rigid, rigidL, trim, Int.reduceEq, Int.reduceMod, Int.reduceDiv, if_pos, if_neg, asI, forall_const, implies_true, chkD, chkO, chkW, effB, reB, vEq, beq_self_eq_true, Nat.reduceSub, Nat.reduceLT, Int.reduceSub, Int.reduceAdd, Int.reduceMul, Int.reduceLT, Int.reduceLE, Int.reduceToNat, optI, aslice, cutSl, cutMs, cutStr, cutOwn, cellsOf, one, elCells, lenOf, beqV, beqVL, strip, stripO, convS]) | ((first | rw [WP_condK] | rw [WP_opsG] | rw [WP_quiG] | rw [WP_dG]); refine And.intro (fun hb => ?_) (fun hb => ?_) <;> (first | have hd := dq1 hb | have hd := dq2 hb | have hd := dq3 hb | have hd := dq4 hb | skip)))
  refine WP_loop (I := fun n e h => ∃ (i : Nat) (x : AObj), i ≤ 24 ∧ n = 24 - i ∧ getE e 0 = .ref tabC ∧ getE e 3 = .ptr 0 0 ∧ getE e 4 = .ptr 1 0 ∧ getE e 5 = i64 i ∧ h = [.cells (wv (kFold i s)), .cells (List.replicate 25 (.int .u64 0))]) ?_ 24 _ _ ⟨0, .cells [], by omega, rfl, rfl, rfl, rfl, rfl, rfl⟩
  rintro n e h ⟨i, x, hi, rfl, h0, h3, h4, h5, rfl⟩
  have hk := kFold_length hs i
  have hkl : (wv (kFold i s)).length = 25 := by rw [wv_len, hk]
  rw [trim_same' (by simp)]
  by_cases h24 : i < 24
  · have hcall := call_agg (T := T) (h := [.cells (wv (kFold i s)), .cells (List.replicate 25 (.int .u64 0))]) rfl t68 rfl rfl (args := [.ref tabC, .agg (wv (kFold i s)), i64 i]) (by simp [strip]) (by
      have h2 := vI_cl (fun _ => false) (wI (kFold i s))
      simp only [closedL, namL, nam, Bool.and_true] at htk h2 ⊢
      rw [htk, h2]; rfl) (round_ok (kFold i s) hk i h24)
    have hT : List.take 25 (wv (kFold i s)) = wv (kFold i s) := List.take_of_length_le (by omega)
    have hl2 : (wv (kRound (kFold i s) (BitVec.ofNat 64 (nn kCon i)))).length = 25 := by rw [wv_len, kRound_len]
    have h1 := vI_one (wI (kRound (kFold i s) (BitVec.ofNat 64 (nn kCon i))))
    have hsp : splice (wv (kFold i s)) 0 (wv (kRound (kFold i s) (BitVec.ofNat 64 (nn kCon i)))) = wv (kRound (kFold i s) (BitVec.ofNat 64 (nn kCon i))) := splice_all (by rw [hl2, hkl])
    first | have hb := hb | have hb := trivial
    repeat' (first | (simp -implicitDefEqProofs (disch := omega) only [hb, L65_0, h0, h3, h4, h5, hkl, hT, hcall, hl2, h1, hsp, wC, initE, aop, Nat.reduceEqDiff, ↓reduceIte, Nat.reduceAdd, finish, resOf, tupOf, AM.freeze, freeze1, freezeL, closed, nam, namL, if_true, if_false, deref, boxAt, exAt, ldCells, oneL, oneCell, Nat.reduceLeDiff, evL, adopt, rigid, rigidL, trim, Int.reduceEq, Int.reduceMod, Int.reduceDiv, if_pos, if_neg, asI, forall_const, implies_true, chkD, chkO, chkW, effB, reB, vEq, beq_self_eq_true, Nat.reduceSub, Nat.reduceLT, Int.reduceSub, Int.reduceAdd, Int.reduceMul, Int.reduceLT, Int.reduceLE, Int.reduceToNat, optI, aslice, cutSl, cutMs, cutStr, cutOwn, cellsOf, one, elCells, lenOf, beqV, beqVL, strip, stripO, convS]) | ((first | rw [WP_condK] | rw [WP_opsG] | rw [WP_quiG] | rw [WP_dG]); refine And.intro (fun hb => ?_) (fun hb => ?_) <;> (first | have hd := dq1 hb | have hd := dq2 hb | have hd := dq3 hb | have hd := dq4 hb | skip)))
    exact ⟨23 - i, by omega, i + 1, .cells [], by omega, by omega, rfl, by rw [kFold_succ _ _ h24]⟩
  · obtain rfl : i = 24 := by omega
    first | have hb := hb | have hb := trivial
    repeat' (first | (simp -implicitDefEqProofs (disch := omega) only [hb, L65_0, h0, h3, h4, h5, hkl, wC, initE, aop, Nat.reduceEqDiff, ↓reduceIte, Nat.reduceAdd, finish, resOf, tupOf, AM.freeze, freeze1, freezeL, closed, nam, namL, if_true, if_false, deref, boxAt, exAt, ldCells, oneL, oneCell, Nat.reduceLeDiff, evL, adopt, rigid, rigidL, trim, Int.reduceEq, Int.reduceMod, Int.reduceDiv, if_pos, if_neg, asI, forall_const, implies_true, chkD, chkO, chkW, effB, reB, vEq, beq_self_eq_true, Nat.reduceSub, Nat.reduceLT, Int.reduceSub, Int.reduceAdd, Int.reduceMul, Int.reduceLT, Int.reduceLE, Int.reduceToNat, optI, aslice, cutSl, cutMs, cutStr, cutOwn, cellsOf, one, elCells, lenOf, beqV, beqVL, strip, stripO, convS]) | ((first | rw [WP_condK] | rw [WP_opsG] | rw [WP_quiG] | rw [WP_dG]); refine And.intro (fun hb => ?_) (fun hb => ?_) <;> (first | have hd := dq1 hb | have hd := dq2 hb | have hd := dq3 hb | have hd := dq4 hb | skip)))
    have hT : List.take 25 (wv (kFold 24 s)) = wv (kFold 24 s) := List.take_of_length_le (by omega)
    have hsp : splice (List.replicate 25 (AV.int .u64 0)) 0 (wv (kFold 24 s)) = wv (kFold 24 s) := splice_all (by rw [hkl]; rfl)
    have hst := vI_strip (wI (kFold 24 s))
    rw [hT, hsp, hT, hst]
    exact ⟨⟨hkl, vI_one _⟩, by omega, vI_cl _ _, rfl⟩
end Go.Proofs.Ytejnficfhoekiaa.AM

/- The document's digest: what is taken in. -/
namespace Go.Proofs.Ytejnficfhoekiaa.AM
open Go
set_option maxRecDepth 100000
set_option maxHeartbeats 4000000
set_option linter.unusedVariables false
set_option linter.unusedSimpArgs false
theorem fzL_vI (h : Heap) : ∀ l : List Int, fzL h (vI l) = some (vI l)
  | [] => rfl
  | x :: l => by simp only [vI, List.map_cons, fzL, fz, Option.bind_some] at *; rw [fzL_vI h l]; rfl
theorem call_rounds (s : List Wd) (hs : s.length = 25) (h : Heap) (id : Nat) (hid : h[id]? = some (.cells tabC)) : ag T 65 [.ptr id 0, .agg (wv s)] h = some (.agg (wv (kPerm s)), h) := by
  rw [ag_pure rfl t65 rfl _ rfl]
  have hb : boxAt h id = some tabC := by simp [boxAt, hid]
  have hp : prep h [.ptr id 0, .agg (wv s)] = some ([.ref tabC, .agg (wv s)], true) := by
    have h1 : closedL ([AV.ptr id 0, .agg (wv s)].map strip) = false := rfl
    have h2 : closedL ([AV.ptr id 0, .agg (wv s)].map stripEl) = false := rfl
    unfold prep
    rw [h1, h2]
    simp only [Bool.false_eq_true, if_false, fzL, fz, hb, Option.bind_some, List.drop_zero, tab_cl, if_true, fzL_vI, Option.map_some]
  simp only [pcall, hp, Option.bind_some, rounds_ok s hs, if_true, rigid, vI_rigid]
theorem all_k : gcall T 200 64 [] [] = some (.agg tabC, []) := by kernel_rfl
theorem call_All (h : Heap) : ag T 64 [] h = some (.agg tabC, h) := by
  have hp := prun_of_gcall rfl t64 rfl rfl rfl rfl all_k
  exact call_agg rfl t64 rfl rfl rfl rfl hp
/-! ### what is padded, and folded -/
def kPad (l : List Int) : List Int := l ++ (6 :: List.replicate (135 - l.length % 136) 0)
def kPadL (l : List Int) : List Int := (kPad l).set ((kPad l).length - 1) (if l.length % 136 = 135 then 134 else 128)
theorem kPad_len (l : List Int) : (kPad l).length = (l.length / 136 + 1) * 136 := by
  simp only [kPad, List.length_append, List.length_cons, List.length_replicate]
  omega
theorem kAdd_zero {s : List Wd} (a : Nat) (ha : a / 8 < s.length) : kAdd s a 0 = s := by
  rw [kAdd]
  have h0 : (BitVec.ofInt 64 0 <<< (8 * (a % 8))) = (0#64) := by
    rw [show BitVec.ofInt 64 0 = 0#64 from rfl]; simp
  rw [h0, BitVec.xor_zero, nw, List.getD_eq_getElem?_getD, List.getElem?_eq_getElem ha]
  simp
theorem kAdd_twice (s : List Wd) (a : Nat) (ha : a / 8 < s.length) (x y z : Int) (hz : BitVec.ofInt 64 x ^^^ BitVec.ofInt 64 y = BitVec.ofInt 64 z) : kAdd (kAdd s a x) a y = kAdd s a z := by
  simp only [kAdd, List.set_set]
  congr 1
  have h1 : nw (s.set (a / 8) (nw s (a / 8) ^^^ BitVec.ofInt 64 x <<< (8 * (a % 8)))) (a / 8) = nw s (a / 8) ^^^ BitVec.ofInt 64 x <<< (8 * (a % 8)) := by
    rw [nw, List.getD_eq_getElem?_getD, List.getElem?_set_self ha]; rfl
  rw [h1, BitVec.xor_assoc, ← hz]
  congr 1
  exact (BitVec.shiftLeft_xor_distrib _ _ _).symm
theorem kStep_hit (s : List Wd) (a : Nat) (b : Int) (h : a + 1 = 136) : kStep 136 (s, a) b = (kPerm (kAdd s a b), 0) := by unfold kStep; rw [if_pos h]
theorem kStep_miss (s : List Wd) (a : Nat) (b : Int) (h : ¬ a + 1 = 136) : kStep 136 (s, a) b = (kAdd s a b, a + 1) := by unfold kStep; rw [if_neg h]
theorem fold_zeros (s : List Wd) (hs : s.length = 25) : ∀ (z a : Nat), a + z ≤ 135 → (List.replicate z (0 : Int)).foldl (kStep 136) (s, a) = (s, a + z)
  | 0, a, _ => rfl
  | z + 1, a, h => by
    rw [List.replicate_succ, List.foldl_cons]
    have h1 : kStep 136 (s, a) 0 = (s, a + 1) := by rw [kStep_miss _ _ _ (by omega), kAdd_zero a (by omega)]
    rw [h1, fold_zeros s hs z (a + 1) (by omega)]
    congr 1; omega
theorem fold_at : ∀ (l : List Int) (s : List Wd) (a : Nat), a < 136 → (l.foldl (kStep 136) (s, a)).2 = (a + l.length) % 136
  | [], s, a, h => by simp; omega
  | b :: l, s, a, h => by
    rw [List.foldl_cons]
    by_cases h1 : a + 1 = 136
    · rw [kStep_hit _ _ _ h1, fold_at l _ 0 (by omega), List.length_cons]; omega
    · rw [kStep_miss _ _ _ h1, fold_at l _ (a + 1) (by omega), List.length_cons]; congr 1; omega
theorem kPadL_fold (l : List Int) : (kPadL l).foldl (kStep 136) (kZero, 0) = (kEnd (kTake l), 0) := by
  have hk := KS.fold l kzero_ks
  have ha := fold_at l kZero 0 (by omega)
  have hle := kPad_len l
  have e : kPadL l = l ++ (if l.length % 136 = 135 then [134] else 6 :: (List.replicate (134 - l.length % 136) 0 ++ [128])) := by
    unfold kPadL
    have hpl : (kPad l).length - 1 = l.length + (135 - l.length % 136) := by
      simp only [kPad, List.length_append, List.length_cons, List.length_replicate]; omega
    rw [hpl, kPad, List.set_append_right _ _ (by omega), show l.length + (135 - l.length % 136) - l.length = 135 - l.length % 136 by omega]
    congr 1
    split
    · rename_i h; rw [h]; rfl
    · rename_i h
      have : 135 - l.length % 136 = (134 - l.length % 136) + 1 := by omega
      rw [this, List.set_cons_succ, List.replicate_succ', List.set_append_right _ _ (by simp)]
      simp
  rw [e, List.foldl_append, kTake]
  rw [show (List.replicate 25 (0#64)) = kZero from rfl] at *
  generalize l.foldl (kStep 136) (kZero, 0) = p at hk ha ⊢
  obtain ⟨s, a⟩ := p
  have hs : s.length = 25 := hk.len
  have ha' : a < 136 := hk.lt
  simp only [Nat.zero_add] at ha
  split
  · rename_i h
    have : a = 135 := by omega
    subst this
    show kStep 136 (s, 135) 134 = _
    rw [kStep_hit _ _ _ rfl, kEnd, kAdd_twice s 135 (by omega) 6 128 134 (by decide)]
  · rename_i h
    have hne : a ≠ 135 := by omega
    rw [List.foldl_cons, List.foldl_append]
    have h1 : kStep 136 (s, a) 6 = (kAdd s a 6, a + 1) := kStep_miss _ _ _ (by omega)
    rw [h1, fold_zeros _ (kAdd_len hs _ _) _ _ (by omega), show a + 1 + (134 - l.length % 136) = 135 by omega]
    show kStep 136 (kAdd s a 6, 135) 128 = _
    rw [kStep_hit _ _ _ rfl, kEnd]
/-- bytes into places, one after the other -/
def kAdds (s : List Wd) (a : Nat) : List Int → List Wd
  | [] => s
  | b :: l => kAdds (kAdd s a b) (a + 1) l
theorem kAdds_len : ∀ (l : List Int) {s : List Wd} (a : Nat), s.length = 25 → (kAdds s a l).length = 25
  | [], s, a, h => h
  | b :: l, s, a, h => kAdds_len l _ (kAdd_len h _ _)
theorem kAdds_snoc : ∀ (l : List Int) (s : List Wd) (a : Nat) (b : Int), kAdds s a (l ++ [b]) = kAdd (kAdds s a l) (a + l.length) b
  | [], s, a, b => rfl
  | c :: l, s, a, b => by
    rw [List.cons_append, kAdds, kAdds_snoc l, kAdds, List.length_cons]; congr 1; omega
theorem fold_block : ∀ (l : List Int) (s : List Wd) (a : Nat), a + l.length = 136 → 0 < l.length → l.foldl (kStep 136) (s, a) = (kPerm (kAdds s a l), 0)
  | [], s, a, h, h0 => by simp at h0
  | [b], s, a, h, h0 => by
    have : a = 135 := by simpa using h
    subst this
    rfl
  | b :: c :: l, s, a, h, h0 => by
    rw [List.foldl_cons]
    rw [kStep_miss _ _ _ (by simp only [List.length_cons] at h; omega), fold_block (c :: l) _ (a + 1) (by simp only [List.length_cons] at h ⊢; omega) (by simp)]
    rfl
end Go.Proofs.Ytejnficfhoekiaa.AM

/- The document's digest: the message, padded. -/
namespace Go.Proofs.Ytejnficfhoekiaa.AM
open Go
set_option maxRecDepth 100000
set_option maxHeartbeats 4000000
set_option linter.unusedVariables false
set_option linter.unusedSimpArgs false
theorem flatC (l : List Int) : ((l.map u8).map elCells).flatten = l.map u8 := by
  induction l with
  | nil => rfl
  | cons x l ih => simp only [List.map_cons, List.flatten_cons, ih]; rfl
theorem kfits {n : Nat} (h : n ≤ 140737488355328) : fitsB n 1 = true := by simp [fitsB]; omega
/-- the noughts behind -/
theorem pad_ok (b : List Int) (hn : b.length ≤ 140737488353000) (o8 : AV) (m : Nat) (keep : List Nat) (hkeep : keep = [0, 1, 9]) (z0 : Nat) (hz0 : z0 = 0)
    (Q : Res → Prop) (e : Env) (pre : Heap) (h : Heap) (h0 : getE e 0 = i64 32) (h1 : getE e 1 = i64 136) (h9 : getE e 9 = .ms pre.length 0 none (b.length + 1)) (hh : h = pre ++ [.vec ((b ++ [6]).map u8)])
    (hq : ∀ e' pre', getE e' 0 = i64 32 → getE e' 1 = i64 136 → getE e' 9 = .ms pre'.length 0 none (kPad b).length → Q (.exit 0, e', pre' ++ [.vec ((kPad b).map u8)])) :
    WP Q (axl T keep false L54_4 m e h) := by
  subst hkeep
  refine WP_loop (I := fun n e h => ∃ (z : Nat) (pre : Heap), z ≤ 135 - b.length % 136 ∧ n = 135 - b.length % 136 - z ∧ getE e 0 = i64 32 ∧ getE e 1 = i64 136 ∧ getE e 9 = .ms pre.length 0 none (b.length + 1 + z) ∧ h = pre ++ [.vec ((b ++ 6 :: List.replicate z 0).map u8)]) ?_ _ _ _ ⟨0, pre, by omega, rfl, h0, h1, h9, hh⟩
  rintro n e h ⟨z, pre, hz, rfl, h0, h1, h9, rfl⟩
  rw [trim_off]
  have hrem : (((b.length + 1 + z : Nat) : Int).tmod 136) = (((b.length + 1 + z) % 136 : Nat) : Int) := by rw [Int.tmod_eq_emod_of_nonneg (by omega)]; omega
  have hcl : ((b ++ 6 :: List.replicate z 0).map u8).length = b.length + 1 + z := by simp; omega
  have hf := kfits (n := b.length + 1 + z + 1) (by omega)
  by_cases hz1 : z < 135 - b.length % 136
  · have hne : ¬ (((b.length + 1 + z) % 136 : Nat) : Int) = 0 := by omega
    first | have hb := hb | have hb := trivial
    repeat' (first | (simp -implicitDefEqProofs (disch := omega) only [hb, L54_4, h0, h1, h9, hrem, hne, appV, setEls, elemsOf, hcl, hf, stripEl, elFits, List.replicate_succ, List.replicate_zero, wC, initE, aop, Nat.reduceEqDiff, ↓reduceIte, Nat.reduceAdd, finish, resOf, tupOf, AM.freeze, freeze1, freezeL, closed, nam, namL, if_true, if_false, deref, boxAt, exAt, ldCells, oneL, oneCell, Nat.reduceLeDiff, evL, adopt, rigid, rigidL, trim, Int.reduceEq, Int.reduceMod, Int.reduceDiv, if_pos, if_neg, asI, forall_const, implies_true, chkD, chkO, chkW, effB, reB, vEq, beq_self_eq_true, Nat.reduceSub, Nat.reduceLT, Int.reduceSub, Int.reduceAdd, Int.reduceMul, Int.reduceLT, Int.reduceLE, Int.reduceToNat, optI, aslice, cutSl, cutMs, cutStr, cutOwn, cellsOf, one, elCells, lenOf, beqV, beqVL, strip, stripO, convS]) | ((first | rw [WP_condK] | rw [WP_opsG] | rw [WP_quiG] | rw [WP_dG]); refine And.intro (fun hb => ?_) (fun hb => ?_) <;> (first | have hd := dq1 hb | have hd := dq2 hb | have hd := dq3 hb | have hd := dq4 hb | skip)))
    refine ⟨135 - b.length % 136 - (z + 1), by omega, z + 1, pre ++ [.row none 1], by omega, rfl, by simp only [List.length_append, List.length_cons, List.length_nil]; rfl, ?_⟩
    congr 2
    simp only [List.flatten_cons, List.flatten_nil, List.append_nil, List.replicate_succ', List.map_append, List.map_cons, List.append_assoc, List.map_replicate, List.map_nil, List.cons_append]
  · have hne : (((b.length + 1 + z) % 136 : Nat) : Int) = 0 := by omega
    first | have hb := hb | have hb := trivial
    repeat' (first | (simp -implicitDefEqProofs (disch := omega) only [hb, L54_4, h0, h1, h9, hrem, hne, wC, initE, aop, Nat.reduceEqDiff, ↓reduceIte, Nat.reduceAdd, finish, resOf, tupOf, AM.freeze, freeze1, freezeL, closed, nam, namL, if_true, if_false, deref, boxAt, exAt, ldCells, oneL, oneCell, Nat.reduceLeDiff, evL, adopt, rigid, rigidL, trim, Int.reduceEq, Int.reduceMod, Int.reduceDiv, if_pos, if_neg, asI, forall_const, implies_true, chkD, chkO, chkW, effB, reB, vEq, beq_self_eq_true, Nat.reduceSub, Nat.reduceLT, Int.reduceSub, Int.reduceAdd, Int.reduceMul, Int.reduceLT, Int.reduceLE, Int.reduceToNat, optI, aslice, cutSl, cutMs, cutStr, cutOwn, cellsOf, one, elCells, lenOf, beqV, beqVL, strip, stripO, convS]) | ((first | rw [WP_condK] | rw [WP_opsG] | rw [WP_quiG] | rw [WP_dG]); refine And.intro (fun hb => ?_) (fun hb => ?_) <;> (first | have hd := dq1 hb | have hd := dq2 hb | have hd := dq3 hb | have hd := dq4 hb | skip)))
    have hz2 : z = 135 - b.length % 136 := by omega
    subst hz2
    refine hq _ pre rfl rfl ?_
    show AV.ms pre.length 0 none (b.length + 1 + (135 - b.length % 136)) = _
    rw [show b.length + 1 + (135 - b.length % 136) = (kPad b).length by simp only [kPad, List.length_append, List.length_cons, List.length_replicate]; omega]
/-- a block's bytes -/
theorem blk_ok (s0 : List Wd) (hs : s0.length = 25) (M : List Int) (hM : Bytes M) (k : Nat) (hk : 136 * k + 136 ≤ M.length) (hML : M.length ≤ 140737488355328) (id m : Nat) (keep : List Nat) (hkeep : keep = [0, 1, 9, 10, 11, 12, 13])
    (Q : Res → Prop) (e : Env) (pre h : Heap) (hid : pre.length = id) (h0 : getE e 0 = i64 32) (h1 : getE e 1 = i64 136) (h9 : getE e 9 = .ms id 0 none M.length) (h10 : getE e 10 = .ptr (id + 1) 0) (h11 : getE e 11 = .ptr (id + 2) 0) (h12 : getE e 12 = i64 (136 * k : Nat)) (h13 : getE e 13 = i64 0)
    (hh : h = pre ++ [.vec (M.map u8), .cells tabC, .cells (wv s0)])
    (hq : ∀ e', getE e' 0 = i64 32 → getE e' 1 = i64 136 → getE e' 9 = .ms id 0 none M.length → getE e' 10 = .ptr (id + 1) 0 → getE e' 11 = .ptr (id + 2) 0 → getE e' 12 = i64 (136 * k : Nat) → Q (.exit 4, e', pre ++ [.vec (M.map u8), .cells tabC, .cells (wv (kAdds s0 0 ((M.drop (136 * k)).take 136)))])) :
    WP Q (axl T keep false L54_2 m e h) := by
  subst hkeep
  subst hid
  refine WP_loop (I := fun n e h => ∃ (i : Nat), i ≤ 136 ∧ n = 136 - i ∧ getE e 0 = i64 32 ∧ getE e 1 = i64 136 ∧ getE e 9 = .ms pre.length 0 none M.length ∧ getE e 10 = .ptr (pre.length + 1) 0 ∧ getE e 11 = .ptr (pre.length + 2) 0 ∧ getE e 12 = i64 (136 * k : Nat) ∧ getE e 13 = i64 i ∧ h = pre ++ [.vec (M.map u8), .cells tabC, .cells (wv (kAdds s0 0 ((M.drop (136 * k)).take i)))]) ?_ _ _ _ ⟨0, by omega, rfl, h0, h1, h9, h10, h11, h12, h13, hh⟩
  rintro n e h ⟨i, hi, rfl, h0, h1, h9, h10, h11, h12, h13, rfl⟩
  rw [trim_off]
  by_cases hlt : i < 136
  · have hsl : (kAdds s0 0 ((M.drop (136 * k)).take i)).length = 25 := kAdds_len _ _ hs
    have hget : (List.drop (136 * k + i) (M.map u8))[0]? = some (u8 M[136 * k + i]) := by rw [List.getElem?_drop, Nat.add_zero, get_u8]
    have hget2 : (M.map u8)[136 * k + i]? = some (u8 M[136 * k + i]) := get_u8 _
    have hsn : (M.drop (136 * k)).take (i + 1) = (M.drop (136 * k)).take i ++ [M[136 * k + i]] := by
      rw [List.take_succ_eq_append_getElem (by rw [List.length_drop]; omega), List.getElem_drop]
    have hstp : kAdds s0 0 ((M.drop (136 * k)).take (i + 1)) = kAdd (kAdds s0 0 ((M.drop (136 * k)).take i)) i M[136 * k + i] := by
      rw [hsn, kAdds_snoc, List.length_take, List.length_drop, Nat.zero_add, Nat.min_eq_left (by omega)]
    have hby := hM _ (List.getElem_mem (show 136 * k + i < M.length by omega))
    generalize kAdds s0 0 ((M.drop (136 * k)).take i) = s at hsl hstp ⊢
    generalize M[136 * k + i] = b at hget hget2 hstp hby
    have hq : ((i : Int).tdiv 8) = ((i / 8 : Nat) : Int) := by rw [Int.tdiv_eq_ediv_of_nonneg (by omega)]; omega
    have hm : ((i : Int).tmod 8) = ((i % 8 : Nat) : Int) := by rw [Int.tmod_eq_emod_of_nonneg (by omega)]; omega
    have h8 : (8 : Int) * ((i % 8 : Nat) : Int) = ((8 * (i % 8) : Nat) : Int) := by omega
    have hA : ((136 * k : Nat) : Int) + (i : Int) = ((136 * k + i : Nat) : Int) := by omega
    have hg := wv_get (s := s) (i := i / 8) (by omega)
    have hsh := bin_shlW .i64 b (8 * (i % 8)) (by omega) hby.1 hby.2
    have hx := bin_xorW (nw s (i / 8)) (BitVec.ofInt 64 b <<< (8 * (i % 8)))
    have hw : IntKind.u64.wrap b = b := by rw [IntKind.wrap_u64]; omega
    have hset := wv_set s (i / 8) ((nw s (i / 8)) ^^^ (BitVec.ofInt 64 b <<< (8 * (i % 8))))
    have hwl : (wv s).length = 25 := by rw [wv_len, hsl]
    first | have hb := hb | have hb := trivial
    repeat' (first | (simp -implicitDefEqProofs (disch := omega) only [hb, L54_2, h0, h1, h9, h10, h11, h12, h13, hq, hm, h8, hA, hg, hsh, hx, hw, hset, hwl, hget, hget2, wC, initE, aop, Nat.reduceEqDiff, ↓reduceIte, Nat.reduceAdd, finish, resOf, tupOf, AM.freeze, freeze1, freezeL, closed, nam, namL, if_true, if_false, deref, boxAt, exAt, ldCells, oneL, oneCell, Nat.reduceLeDiff, evL, adopt, rigid, rigidL, trim, Int.reduceEq, Int.reduceMod, Int.reduceDiv, if_pos, if_neg, asI, forall_const, implies_true, chkD, chkO, chkW, effB, reB, vEq, beq_self_eq_true, Nat.reduceSub, Nat.reduceLT, Int.reduceSub, Int.reduceAdd, Int.reduceMul, Int.reduceLT, Int.reduceLE, Int.reduceToNat, optI, aslice, cutSl, cutMs, cutStr, cutOwn, cellsOf, one, elCells, lenOf, beqV, beqVL, strip, stripO, convS]) | ((first | rw [WP_condK] | rw [WP_opsG] | rw [WP_quiG] | rw [WP_dG]); refine And.intro (fun hb => ?_) (fun hb => ?_) <;> (first | have hd := dq1 hb | have hd := dq2 hb | have hd := dq3 hb | have hd := dq4 hb | skip)))
    exact ⟨136 - (i + 1), by omega, i + 1, by omega, rfl, rfl, by rw [hstp]; rfl⟩
  · obtain rfl : i = 136 := by omega
    first | have hb := hb | have hb := trivial
    repeat' (first | (simp -implicitDefEqProofs (disch := omega) only [hb, L54_2, h0, h1, h9, h10, h11, h12, h13, wC, initE, aop, Nat.reduceEqDiff, ↓reduceIte, Nat.reduceAdd, finish, resOf, tupOf, AM.freeze, freeze1, freezeL, closed, nam, namL, if_true, if_false, deref, boxAt, exAt, ldCells, oneL, oneCell, Nat.reduceLeDiff, evL, adopt, rigid, rigidL, trim, Int.reduceEq, Int.reduceMod, Int.reduceDiv, if_pos, if_neg, asI, forall_const, implies_true, chkD, chkO, chkW, effB, reB, vEq, beq_self_eq_true, Nat.reduceSub, Nat.reduceLT, Int.reduceSub, Int.reduceAdd, Int.reduceMul, Int.reduceLT, Int.reduceLE, Int.reduceToNat, optI, aslice, cutSl, cutMs, cutStr, cutOwn, cellsOf, one, elCells, lenOf, beqV, beqVL, strip, stripO, convS]) | ((first | rw [WP_condK] | rw [WP_opsG] | rw [WP_quiG] | rw [WP_dG]); refine And.intro (fun hb => ?_) (fun hb => ?_) <;> (first | have hd := dq1 hb | have hd := dq2 hb | have hd := dq3 hb | have hd := dq4 hb | skip)))
    exact hq _ rfl rfl rfl rfl rfl rfl
end Go.Proofs.Ytejnficfhoekiaa.AM

/- The document's digest: all blocks, and what comes out. -/
namespace Go.Proofs.Ytejnficfhoekiaa.AM
open Go
set_option maxRecDepth 100000
set_option maxHeartbeats 4000000
set_option linter.unusedVariables false
set_option linter.unusedSimpArgs false
theorem fold_blk (M : List Int) (p : List Wd × Nat) (k : Nat) (hk : 136 * k + 136 ≤ M.length) (h0 : ((M.take (136 * k)).foldl (kStep 136) p).2 = 0) :
    (M.take (136 * (k + 1))).foldl (kStep 136) p = (kPerm (kAdds ((M.take (136 * k)).foldl (kStep 136) p).1 0 ((M.drop (136 * k)).take 136)), 0) := by
  have e : M.take (136 * (k + 1)) = M.take (136 * k) ++ (M.drop (136 * k)).take 136 := by
    rw [← List.take_add]; congr 1
  rw [e, List.foldl_append]
  generalize (M.take (136 * k)).foldl (kStep 136) p = q at h0 ⊢
  obtain ⟨s, a⟩ := q
  simp only at h0
  subst h0
  rw [fold_block _ s 0 (by simp; omega) (by simp; omega)]
theorem blks_ok (M : List Int) (hM : Bytes M) (B : Nat) (hB : M.length = B * 136) (hML : M.length ≤ 140737488355328) (id m : Nat) (keep : List Nat) (hkeep : keep = [0, 1, 9, 10, 11, 12])
    (Q : Res → Prop) (e : Env) (pre h : Heap) (hid : pre.length = id) (h0 : getE e 0 = i64 32) (h1 : getE e 1 = i64 136) (h9 : getE e 9 = .ms id 0 none M.length) (h10 : getE e 10 = .ptr (id + 1) 0) (h11 : getE e 11 = .ptr (id + 2) 0) (h12 : getE e 12 = i64 0)
    (hh : h = pre ++ [.vec (M.map u8), .cells tabC, .cells (wv kZero)])
    (hq : ∀ e', getE e' 0 = i64 32 → getE e' 1 = i64 136 → getE e' 10 = .ptr (id + 1) 0 → getE e' 11 = .ptr (id + 2) 0 → Q (.exit 2, e', pre ++ [.vec (M.map u8), .cells tabC, .cells (wv (M.foldl (kStep 136) (kZero, 0)).1)])) :
    WP Q (axl T keep false L54_3 m e h) := by
  subst hkeep
  subst hid
  refine WP_loop (I := fun n e h => ∃ (k : Nat), k ≤ B ∧ n = B - k ∧ getE e 0 = i64 32 ∧ getE e 1 = i64 136 ∧ getE e 9 = .ms pre.length 0 none M.length ∧ getE e 10 = .ptr (pre.length + 1) 0 ∧ getE e 11 = .ptr (pre.length + 2) 0 ∧ getE e 12 = i64 (136 * k : Nat) ∧ h = pre ++ [.vec (M.map u8), .cells tabC, .cells (wv ((M.take (136 * k)).foldl (kStep 136) (kZero, 0)).1)]) ?_ B _ _ ⟨0, by omega, rfl, h0, h1, h9, h10, h11, h12, hh⟩
  rintro n e h ⟨k, hk, rfl, h0, h1, h9, h10, h11, h12, rfl⟩
  rw [trim_off]
  have hks := KS.fold (M.take (136 * k)) kzero_ks
  have hat := fold_at (M.take (136 * k)) kZero 0 (by omega)
  rw [List.length_take, Nat.zero_add, Nat.min_eq_left (by omega), Nat.mul_mod_right] at hat
  by_cases hlt : k < B
  · have hfb := fold_blk M (kZero, 0) k (by omega) hat
    have hlen : 136 * k + 136 ≤ M.length := by omega
    have hlt2 : ((136 * k : Nat) : Int) < (M.length : Int) := by omega
    have hA : ((136 * k : Nat) : Int) + 136 = ((136 * (k + 1) : Nat) : Int) := by omega
    generalize (M.take (136 * k)).foldl (kStep 136) (kZero, 0) = p at hks hat hfb ⊢
    have hs := hks.len
    have hs2 : (kAdds p.1 0 ((M.drop (136 * k)).take 136)).length = 25 := kAdds_len _ _ hs
    first | have hb := hb | have hb := trivial
    repeat' (first | (simp -implicitDefEqProofs (disch := omega) only [hb, L54_3, h0, h1, h9, h10, h11, h12, wC, initE, aop, Nat.reduceEqDiff, ↓reduceIte, Nat.reduceAdd, finish, resOf, tupOf, AM.freeze, freeze1, freezeL, closed, nam, namL, if_true, if_false, deref, boxAt, exAt, ldCells, oneL, oneCell, Nat.reduceLeDiff, evL, adopt, rigid, rigidL, trim, Int.reduceEq, Int.reduceMod, Int.reduceDiv, if_pos, if_neg, asI, forall_const, implies_true, chkD, chkO, chkW, effB, reB, vEq, beq_self_eq_true, Nat.reduceSub, Nat.reduceLT, Int.reduceSub, Int.reduceAdd, Int.reduceMul, Int.reduceLT, Int.reduceLE, Int.reduceToNat, optI, aslice, cutSl, cutMs, cutStr, cutOwn, cellsOf, one, elCells, lenOf, beqV, beqVL, strip, stripO, convS]) | ((first | rw [WP_condK] | rw [WP_opsG] | rw [WP_quiG] | rw [WP_dG]); refine And.intro (fun hb => ?_) (fun hb => ?_) <;> (first | have hd := dq1 hb | have hd := dq2 hb | have hd := dq3 hb | have hd := dq4 hb | skip)))
    refine blk_ok p.1 hs M hM k hlen hML pre.length _ _ rfl _ _ pre _ rfl rfl rfl rfl rfl rfl rfl rfl rfl ?_
    intro e' g0 g1 g9 g10 g11 g12
    have hcall := fun h id hid => call_rounds (kAdds p.1 0 ((M.drop (136 * k)).take 136)) hs2 h id hid
    generalize kAdds p.1 0 ((M.drop (136 * k)).take 136) = s at hs2 hcall hfb
    have hwl : (wv s).length = 25 := by rw [wv_len, hs2]
    have hT : List.take 25 (wv s) = wv s := List.take_of_length_le (by omega)
    have hc := hcall (pre ++ [.vec (M.map u8), .cells tabC, .cells (wv s)]) (pre.length + 1) (by rw [get_app]; rfl)
    have hwl2 : (wv (kPerm s)).length = 25 := by rw [wv_len, kPerm_len hs2]
    have ho := vI_one (wI (kPerm s))
    have hsp : splice (wv s) 0 (wv (kPerm s)) = wv (kPerm s) := splice_all (by rw [hwl2, hwl])
    first | have hb := hb | have hb := trivial
    repeat' (first | (simp -implicitDefEqProofs (disch := omega) only [hb, g0, g1, g9, g10, g11, g12, hwl, hT, hc, hwl2, ho, hsp, hA, wC, initE, aop, Nat.reduceEqDiff, ↓reduceIte, Nat.reduceAdd, finish, resOf, tupOf, AM.freeze, freeze1, freezeL, closed, nam, namL, if_true, if_false, deref, boxAt, exAt, ldCells, oneL, oneCell, Nat.reduceLeDiff, evL, adopt, rigid, rigidL, trim, Int.reduceEq, Int.reduceMod, Int.reduceDiv, if_pos, if_neg, asI, forall_const, implies_true, chkD, chkO, chkW, effB, reB, vEq, beq_self_eq_true, Nat.reduceSub, Nat.reduceLT, Int.reduceSub, Int.reduceAdd, Int.reduceMul, Int.reduceLT, Int.reduceLE, Int.reduceToNat, optI, aslice, cutSl, cutMs, cutStr, cutOwn, cellsOf, one, elCells, lenOf, beqV, beqVL, strip, stripO, convS]) | ((first | rw [WP_condK] | rw [WP_opsG] | rw [WP_quiG] | rw [WP_dG]); refine And.intro (fun hb => ?_) (fun hb => ?_) <;> (first | have hd := dq1 hb | have hd := dq2 hb | have hd := dq3 hb | have hd := dq4 hb | skip)))
    exact ⟨B - (k + 1), by omega, k + 1, by omega, rfl, rfl, by rw [hfb]⟩
  · obtain rfl : k = B := by omega
    have hlt2 : ¬ ((136 * k : Nat) : Int) < (M.length : Int) := by omega
    first | have hb := hb | have hb := trivial
    repeat' (first | (simp -implicitDefEqProofs (disch := omega) only [hb, L54_3, h0, h1, h9, h10, h11, h12, wC, initE, aop, Nat.reduceEqDiff, ↓reduceIte, Nat.reduceAdd, finish, resOf, tupOf, AM.freeze, freeze1, freezeL, closed, nam, namL, if_true, if_false, deref, boxAt, exAt, ldCells, oneL, oneCell, Nat.reduceLeDiff, evL, adopt, rigid, rigidL, trim, Int.reduceEq, Int.reduceMod, Int.reduceDiv, if_pos, if_neg, asI, forall_const, implies_true, chkD, chkO, chkW, effB, reB, vEq, beq_self_eq_true, Nat.reduceSub, Nat.reduceLT, Int.reduceSub, Int.reduceAdd, Int.reduceMul, Int.reduceLT, Int.reduceLE, Int.reduceToNat, optI, aslice, cutSl, cutMs, cutStr, cutOwn, cellsOf, one, elCells, lenOf, beqV, beqVL, strip, stripO, convS]) | ((first | rw [WP_condK] | rw [WP_opsG] | rw [WP_quiG] | rw [WP_dG]); refine And.intro (fun hb => ?_) (fun hb => ?_) <;> (first | have hd := dq1 hb | have hd := dq2 hb | have hd := dq3 hb | have hd := dq4 hb | skip)))
    rw [show M.take (136 * k) = M from List.take_of_length_le (by omega)]
    exact hq _ rfl rfl rfl rfl
/-- the bytes that come out -/
theorem out_in (s : List Wd) (hs : s.length = 25) (id r m : Nat) (keep : List Nat) (hkeep : keep = [0, 1, 10, 11, 14, 15]) (tb : Nat)
    (Q : Res → Prop) (e : Env) (pre h : Heap) (hid : pre.length = r) (hsb : pre[id]? = some (.cells (wv s))) (h0 : getE e 0 = i64 32) (h1 : getE e 1 = i64 136) (h10 : getE e 10 = .ptr tb 0) (h11 : getE e 11 = .ptr id 0) (h14 : getE e 14 = .slice (.tok r) none []) (h15 : getE e 15 = i64 0)
    (hh : h = pre ++ [.row none 0])
    (hq : ∀ e', getE e' 0 = i64 32 → getE e' 1 = i64 136 → getE e' 10 = .ptr tb 0 → getE e' 11 = .ptr id 0 → getE e' 14 = .slice (.tok r) none ((k32.map (kByte s)).map u8) → Q (.exit 8, e', pre ++ [.row none 32])) :
    WP Q (axl T keep false L54_0 m e h) := by
  subst hkeep
  subst hid
  refine WP_loop (I := fun n e h => ∃ (i : Nat), i ≤ 32 ∧ n = 32 - i ∧ getE e 0 = i64 32 ∧ getE e 1 = i64 136 ∧ getE e 10 = .ptr tb 0 ∧ getE e 11 = .ptr id 0 ∧ getE e 14 = .slice (.tok pre.length) none (((k32.take i).map (kByte s)).map u8) ∧ getE e 15 = i64 i ∧ h = pre ++ [.row none i]) ?_ 32 _ _ ⟨0, by omega, rfl, h0, h1, h10, h11, h14, h15, hh⟩
  rintro n e h ⟨i, hi, rfl, h0, h1, h10, h11, h14, h15, rfl⟩
  rw [trim_off]
  have hl : (((k32.take i).map (kByte s)).map u8).length = i := by simp [k32]; omega
  have hidl : id < pre.length := (List.getElem?_eq_some_iff.1 hsb).1
  have hgs : (pre ++ [AObj.row none i])[id]? = some (.cells (wv s)) := by rw [get_appl hidl, hsb]
  by_cases hlt : i < 32
  · have hq' : ((i : Int).tdiv 8) = ((i / 8 : Nat) : Int) := by rw [Int.tdiv_eq_ediv_of_nonneg (by omega)]; omega
    have hm : ((i : Int).tmod 8) = ((i % 8 : Nat) : Int) := by rw [Int.tmod_eq_emod_of_nonneg (by omega)]; omega
    have h8 : (8 : Int) * ((i % 8 : Nat) : Int) = ((8 * (i % 8) : Nat) : Int) := by omega
    have hg := wv_get (s := s) (i := i / 8) (by omega)
    have hsh := bin_shrW .i64 (nw s (i / 8)) (8 * (i % 8)) (by omega)
    have hkb : IntKind.u8.wrap ((nw s (i / 8) >>> (8 * (i % 8))).toNat : Int) = kByte s i := by rw [w_u8, kByte]; omega
    have hf := kfits (n := i + 1) (by omega)
    have hk : ((k32.take (i + 1)).map (kByte s)).map u8 = ((k32.take i).map (kByte s)).map u8 ++ [u8 (kByte s i)] := by
      have h1 : k32.take (i + 1) = k32.take i ++ [i] := by
        have : ∀ i, i < 32 → k32.take (i + 1) = k32.take i ++ [i] := by decide
        exact this i hlt
      rw [h1]; simp
    generalize ((k32.take i).map (kByte s)).map u8 = L at hl hk h14
    first | have hb := hb | have hb := trivial
    repeat' (first | (simp -implicitDefEqProofs (disch := omega) only [hb, L54_0, h0, h1, h10, h11, h14, h15, hq', hm, h8, hg, hsh, hkb, hf, hl, hgs, setEls, elemsOf, aappend, stripEl, elFits, List.replicate_succ, List.replicate_zero, wC, initE, aop, Nat.reduceEqDiff, ↓reduceIte, Nat.reduceAdd, finish, resOf, tupOf, AM.freeze, freeze1, freezeL, closed, nam, namL, if_true, if_false, deref, boxAt, exAt, ldCells, oneL, oneCell, Nat.reduceLeDiff, evL, adopt, rigid, rigidL, trim, Int.reduceEq, Int.reduceMod, Int.reduceDiv, if_pos, if_neg, asI, forall_const, implies_true, chkD, chkO, chkW, effB, reB, vEq, beq_self_eq_true, Nat.reduceSub, Nat.reduceLT, Int.reduceSub, Int.reduceAdd, Int.reduceMul, Int.reduceLT, Int.reduceLE, Int.reduceToNat, optI, aslice, cutSl, cutMs, cutStr, cutOwn, cellsOf, one, elCells, lenOf, beqV, beqVL, strip, stripO, convS]) | ((first | rw [WP_condK] | rw [WP_opsG] | rw [WP_quiG] | rw [WP_dG]); refine And.intro (fun hb => ?_) (fun hb => ?_) <;> (first | have hd := dq1 hb | have hd := dq2 hb | have hd := dq3 hb | have hd := dq4 hb | skip)))
    exact ⟨32 - (i + 1), by omega, i + 1, by omega, rfl, by rw [hk], rfl, rfl⟩
  · obtain rfl : i = 32 := by omega
    first | have hb := hb | have hb := trivial
    repeat' (first | (simp -implicitDefEqProofs (disch := omega) only [hb, L54_0, h0, h1, h10, h11, h14, h15, hl, wC, initE, aop, Nat.reduceEqDiff, ↓reduceIte, Nat.reduceAdd, finish, resOf, tupOf, AM.freeze, freeze1, freezeL, closed, nam, namL, if_true, if_false, deref, boxAt, exAt, ldCells, oneL, oneCell, Nat.reduceLeDiff, evL, adopt, rigid, rigidL, trim, Int.reduceEq, Int.reduceMod, Int.reduceDiv, if_pos, if_neg, asI, forall_const, implies_true, chkD, chkO, chkW, effB, reB, vEq, beq_self_eq_true, Nat.reduceSub, Nat.reduceLT, Int.reduceSub, Int.reduceAdd, Int.reduceMul, Int.reduceLT, Int.reduceLE, Int.reduceToNat, optI, aslice, cutSl, cutMs, cutStr, cutOwn, cellsOf, one, elCells, lenOf, beqV, beqVL, strip, stripO, convS]) | ((first | rw [WP_condK] | rw [WP_opsG] | rw [WP_quiG] | rw [WP_dG]); refine And.intro (fun hb => ?_) (fun hb => ?_) <;> (first | have hd := dq1 hb | have hd := dq2 hb | have hd := dq3 hb | have hd := dq4 hb | skip)))
    exact hq _ rfl rfl rfl rfl rfl
end Go.Proofs.Ytejnficfhoekiaa.AM

/- The document's digest, whole. -/
namespace Go.Proofs.Ytejnficfhoekiaa.AM
open Go
set_option maxRecDepth 100000
set_option maxHeartbeats 4000000
set_option linter.unusedVariables false
set_option linter.unusedSimpArgs false
theorem kPadL_bytes {l : List Int} (h : Bytes l) : Bytes (kPadL l) := by
  intro c hc
  unfold kPadL at hc
  rcases List.mem_or_eq_of_mem_set hc with hc | rfl
  · unfold kPad at hc
    rcases List.mem_append.1 hc with hc | hc
    · exact h c hc
    · rcases List.mem_cons.1 hc with rfl | hc
      · omega
      · rw [(List.mem_replicate.1 hc).2]; omega
  · split <;> omega
theorem kPadL_len (l : List Int) : (kPadL l).length = (l.length / 136 + 1) * 136 := by rw [kPadL, List.length_set, kPad_len]
/-- the last byte, and the other one in its place -/
theorem pad_last (l : List Int) : (kPad l)[(kPad l).length - 1]? = some (if l.length % 136 = 135 then 6 else 0) := by
  have hpl : (kPad l).length - 1 = l.length + (135 - l.length % 136) := by
    simp only [kPad, List.length_append, List.length_cons, List.length_replicate]; omega
  rw [hpl, kPad, List.getElem?_append_right (by omega), Nat.add_sub_cancel_left]
  split
  · rename_i h; rw [h]; rfl
  · rename_i h
    have : 135 - l.length % 136 = (134 - l.length % 136) + 1 := by omega
    rw [this, List.getElem?_cons_succ, List.getElem?_replicate, if_pos (by omega)]
theorem xor128 (l : List Int) : abin .xor (.int .u8 (if l.length % 136 = 135 then 6 else 0)) (.int .u8 128) = some (.int .u8 (if l.length % 136 = 135 then 134 else 128)) := by
  split <;> rfl
def tab0 : List AV := [.int .i64 0, .int .i64 0, .int .i64 0, .int .i64 0, .int .i64 0, .int .i64 0, .int .i64 0, .int .i64 0, .int .i64 0, .int .i64 0, .int .i64 0, .int .i64 0, .int .i64 0, .int .i64 0, .int .i64 0, .int .i64 0, .int .i64 0, .int .i64 0, .int .i64 0, .int .i64 0, .int .i64 0, .int .i64 0, .int .i64 0, .int .i64 0, .int .i64 0, .int .u64 0, .int .u64 0, .int .u64 0, .int .u64 0, .int .u64 0, .int .u64 0, .int .u64 0, .int .u64 0, .int .u64 0, .int .u64 0, .int .u64 0, .int .u64 0, .int .u64 0, .int .u64 0, .int .u64 0, .int .u64 0, .int .u64 0, .int .u64 0, .int .u64 0, .int .u64 0, .int .u64 0, .int .u64 0, .int .u64 0, .int .u64 0]
theorem z49_eq : AObj.box true [.int .i64 0, .int .i64 0, .int .i64 0, .int .i64 0, .int .i64 0, .int .i64 0, .int .i64 0, .int .i64 0, .int .i64 0, .int .i64 0, .int .i64 0, .int .i64 0, .int .i64 0, .int .i64 0, .int .i64 0, .int .i64 0, .int .i64 0, .int .i64 0, .int .i64 0, .int .i64 0, .int .i64 0, .int .i64 0, .int .i64 0, .int .i64 0, .int .i64 0, .int .u64 0, .int .u64 0, .int .u64 0, .int .u64 0, .int .u64 0, .int .u64 0, .int .u64 0, .int .u64 0, .int .u64 0, .int .u64 0, .int .u64 0, .int .u64 0, .int .u64 0, .int .u64 0, .int .u64 0, .int .u64 0, .int .u64 0, .int .u64 0, .int .u64 0, .int .u64 0, .int .u64 0, .int .u64 0, .int .u64 0, .int .u64 0] = AObj.box true tab0 := rfl
theorem z25_eq : AObj.box true [.int .u64 0, .int .u64 0, .int .u64 0, .int .u64 0, .int .u64 0, .int .u64 0, .int .u64 0, .int .u64 0, .int .u64 0, .int .u64 0, .int .u64 0, .int .u64 0, .int .u64 0, .int .u64 0, .int .u64 0, .int .u64 0, .int .u64 0, .int .u64 0, .int .u64 0, .int .u64 0, .int .u64 0, .int .u64 0, .int .u64 0, .int .u64 0, .int .u64 0] = AObj.box true (wv kZero) := rfl
theorem out_ok (o : AOwn) (b : List Int) (hb : Bytes b) (hn : b.length ≤ 140737488353000) : prun T F54 [i64 32, i64 136, u8 6, .slice o none (b.map u8)] = some (.slice .fresh none ((kSum b).map u8)) := by
  have hpl := kPad_len b
  have hpos : 0 < (kPad b).length := by rw [hpl]; omega
  have hle : (kPad b).length ≤ 140737488353200 := by rw [hpl]; omega
  have hpd : ∀ (e : Env) (pre : Heap) (h : Heap) (m : Nat) (Q : Res → Prop), getE e 0 = i64 32 → getE e 1 = i64 136 → getE e 9 = .ms pre.length 0 none (b.length + 1) → h = pre ++ [.vec ((b ++ [6]).map u8)] →
    (∀ e' pre', getE e' 0 = i64 32 → getE e' 1 = i64 136 → getE e' 9 = .ms pre'.length 0 none (kPad b).length → Q (.exit 0, e', pre' ++ [.vec ((kPad b).map u8)])) → WP Q (axl T [0, 1, 9] false L54_4 m e h) :=
    fun e pre h m Q g0 g1 g9 hh hq => pad_ok b hn .unk m _ rfl 0 rfl Q e pre h g0 g1 g9 hh hq
  refine WP_eq (prun_wp ?_)
  have hf := kfits (n := b.length) (by omega)
  have hf1 := kfits (n := b.length + 1) (by omega)
  have hfl := flatC b
  have hx := xor128 b
  have hgl : ((kPad b).map u8)[(kPad b).length - 1]? = some (u8 (if b.length % 136 = 135 then 6 else 0)) := by rw [List.getElem?_map, pad_last]; rfl
  have hset : ((kPad b).map u8).set ((kPad b).length - 1) (u8 (if b.length % 136 = 135 then 134 else 128)) = (kPadL b).map u8 := by rw [kPadL, List.map_set]
  have htl : tabC.length = 49 := rfl
  have hto : oneL tabC = true := by kernel_rfl
  have htT : List.take 49 tabC = tabC := rfl
  have hts : splice tab0 0 tabC = tabC := splice_all rfl
  have h0l : tab0.length = 49 := rfl
  have hML := kPadL_len b
  have hPL : (kPadL b).length = (kPad b).length := by rw [hML, hpl]
  have hMB := kPadL_bytes hb
  have hfold := kPadL_fold b
  have hks := KS.fold (kPadL b) kzero_ks
  have hks0 : KS (kTake b) := KS.fold b kzero_ks
  have hcl := u8_closed (kSum b)
  have hl32 : ((kSum b).map u8).length = 32 := by rw [List.length_map, kSum_len]
  by_cases hb0 : b.length = 0
  · obtain rfl := List.eq_nil_of_length_eq_zero hb0
    first | have hb := hb | have hb := trivial
    repeat' (first | (simp -implicitDefEqProofs (disch := omega) only [hb, F54, appV, setEls, elemsOf, stripEl, elFits, List.replicate_succ, List.replicate_zero, hf, hf1, hfl, wC, initE, aop, Nat.reduceEqDiff, ↓reduceIte, Nat.reduceAdd, finish, resOf, tupOf, AM.freeze, freeze1, freezeL, closed, nam, namL, if_true, if_false, deref, boxAt, exAt, ldCells, oneL, oneCell, Nat.reduceLeDiff, evL, adopt, rigid, rigidL, trim, Int.reduceEq, Int.reduceMod, Int.reduceDiv, if_pos, if_neg, asI, forall_const, implies_true, chkD, chkO, chkW, effB, reB, vEq, beq_self_eq_true, Nat.reduceSub, Nat.reduceLT, Int.reduceSub, Int.reduceAdd, Int.reduceMul, Int.reduceLT, Int.reduceLE, Int.reduceToNat, optI, aslice, cutSl, cutMs, cutStr, cutOwn, cellsOf, one, elCells, lenOf, beqV, beqVL, strip, stripO, convS]) | ((first | rw [WP_condK] | rw [WP_opsG] | rw [WP_quiG] | rw [WP_dG]); refine And.intro (fun hb => ?_) (fun hb => ?_) <;> (first | have hd := dq1 hb | have hd := dq2 hb | have hd := dq3 hb | have hd := dq4 hb | skip)))
    refine hpd _ [] _ _ _ rfl rfl rfl rfl ?_
    intro e' pre' g0 g1 g9
    generalize (if ([] : List Int).length % 136 = 135 then (6 : Int) else 0) = x6 at hx hgl
    generalize (if ([] : List Int).length % 136 = 135 then (134 : Int) else 128) = x7 at hx hset
    first | have hb := hb | have hb := trivial
    repeat' (first | (simp -implicitDefEqProofs (disch := omega) only [hb, g0, g1, g9, hgl, hx, hset, call_All, z49_eq, z25_eq, htl, hto, htT, hts, h0l, app_app, wC, initE, aop, Nat.reduceEqDiff, ↓reduceIte, Nat.reduceAdd, finish, resOf, tupOf, AM.freeze, freeze1, freezeL, closed, nam, namL, if_true, if_false, deref, boxAt, exAt, ldCells, oneL, oneCell, Nat.reduceLeDiff, evL, adopt, rigid, rigidL, trim, Int.reduceEq, Int.reduceMod, Int.reduceDiv, if_pos, if_neg, asI, forall_const, implies_true, chkD, chkO, chkW, effB, reB, vEq, beq_self_eq_true, Nat.reduceSub, Nat.reduceLT, Int.reduceSub, Int.reduceAdd, Int.reduceMul, Int.reduceLT, Int.reduceLE, Int.reduceToNat, optI, aslice, cutSl, cutMs, cutStr, cutOwn, cellsOf, one, elCells, lenOf, beqV, beqVL, strip, stripO, convS]) | ((first | rw [WP_condK] | rw [WP_opsG] | rw [WP_quiG] | rw [WP_dG]); refine And.intro (fun hb => ?_) (fun hb => ?_) <;> (first | have hd := dq1 hb | have hd := dq2 hb | have hd := dq3 hb | have hd := dq4 hb | skip)))
    refine blks_ok (kPadL ([] : List Int)) hMB (([] : List Int).length / 136 + 1) hML (by rw [hPL]; omega) pre'.length _ _ rfl _ _ pre' _ rfl g0 g1 (by rw [hPL]; exact g9) rfl rfl rfl rfl ?_
    intro e2 q0 q1 q10 q11
    rw [hfold]
    have hel := kEnd_len hks0
    have hend : k32.map (kByte (kEnd (kTake ([] : List Int)))) = kSum ([] : List Int) := rfl
    generalize kEnd (kTake ([] : List Int)) = s at hel hend ⊢
    first | have hb := hb | have hb := trivial
    repeat' (first | (simp -implicitDefEqProofs (disch := omega) only [hb, q0, q1, q10, q11, app_app, wC, initE, aop, Nat.reduceEqDiff, ↓reduceIte, Nat.reduceAdd, finish, resOf, tupOf, AM.freeze, freeze1, freezeL, closed, nam, namL, if_true, if_false, deref, boxAt, exAt, ldCells, oneL, oneCell, Nat.reduceLeDiff, evL, adopt, rigid, rigidL, trim, Int.reduceEq, Int.reduceMod, Int.reduceDiv, if_pos, if_neg, asI, forall_const, implies_true, chkD, chkO, chkW, effB, reB, vEq, beq_self_eq_true, Nat.reduceSub, Nat.reduceLT, Int.reduceSub, Int.reduceAdd, Int.reduceMul, Int.reduceLT, Int.reduceLE, Int.reduceToNat, optI, aslice, cutSl, cutMs, cutStr, cutOwn, cellsOf, one, elCells, lenOf, beqV, beqVL, strip, stripO, convS]) | ((first | rw [WP_condK] | rw [WP_opsG] | rw [WP_quiG] | rw [WP_dG]); refine And.intro (fun hb => ?_) (fun hb => ?_) <;> (first | have hd := dq1 hb | have hd := dq2 hb | have hd := dq3 hb | have hd := dq4 hb | skip)))
    refine k_roll ?_
    rw [trim_off]
    first | have hb := hb | have hb := trivial
    repeat' (first | (simp -implicitDefEqProofs (disch := omega) only [hb, L54_1, q0, q1, q10, q11, wC, initE, aop, Nat.reduceEqDiff, ↓reduceIte, Nat.reduceAdd, finish, resOf, tupOf, AM.freeze, freeze1, freezeL, closed, nam, namL, if_true, if_false, deref, boxAt, exAt, ldCells, oneL, oneCell, Nat.reduceLeDiff, evL, adopt, rigid, rigidL, trim, Int.reduceEq, Int.reduceMod, Int.reduceDiv, if_pos, if_neg, asI, forall_const, implies_true, chkD, chkO, chkW, effB, reB, vEq, beq_self_eq_true, Nat.reduceSub, Nat.reduceLT, Int.reduceSub, Int.reduceAdd, Int.reduceMul, Int.reduceLT, Int.reduceLE, Int.reduceToNat, optI, aslice, cutSl, cutMs, cutStr, cutOwn, cellsOf, one, elCells, lenOf, beqV, beqVL, strip, stripO, convS]) | ((first | rw [WP_condK] | rw [WP_opsG] | rw [WP_quiG] | rw [WP_dG]); refine And.intro (fun hb => ?_) (fun hb => ?_) <;> (first | have hd := dq1 hb | have hd := dq2 hb | have hd := dq3 hb | have hd := dq4 hb | skip)))
    refine out_in s hel (pre'.length + 2) (pre'.length + 3) _ _ rfl (pre'.length + 1) _ _ (pre' ++ [.vec ((kPadL ([] : List Int)).map u8), .cells tabC, .cells (wv s)]) _ (by simp) (by rw [get_app]; rfl) rfl rfl rfl rfl rfl rfl (by simp) ?_
    intro e3 p0 p1 p10 p11 p14
    rw [hend] at p14
    first | have hb := hb | have hb := trivial
    repeat' (first | (simp -implicitDefEqProofs (disch := omega) only [hb, p0, p1, p10, p11, p14, q0, q1, wC, initE, aop, Nat.reduceEqDiff, ↓reduceIte, Nat.reduceAdd, finish, resOf, tupOf, AM.freeze, freeze1, freezeL, closed, nam, namL, if_true, if_false, deref, boxAt, exAt, ldCells, oneL, oneCell, Nat.reduceLeDiff, evL, adopt, rigid, rigidL, trim, Int.reduceEq, Int.reduceMod, Int.reduceDiv, if_pos, if_neg, asI, forall_const, implies_true, chkD, chkO, chkW, effB, reB, vEq, beq_self_eq_true, Nat.reduceSub, Nat.reduceLT, Int.reduceSub, Int.reduceAdd, Int.reduceMul, Int.reduceLT, Int.reduceLE, Int.reduceToNat, optI, aslice, cutSl, cutMs, cutStr, cutOwn, cellsOf, one, elCells, lenOf, beqV, beqVL, strip, stripO, convS]) | ((first | rw [WP_condK] | rw [WP_opsG] | rw [WP_quiG] | rw [WP_dG]); refine And.intro (fun hb => ?_) (fun hb => ?_) <;> (first | have hd := dq1 hb | have hd := dq2 hb | have hd := dq3 hb | have hd := dq4 hb | skip)))
    refine ⟨0, by omega, ?_⟩
    refine k_roll ?_
    rw [trim_off]
    have hrow : (pre' ++ [AObj.vec ((kPadL ([] : List Int)).map u8), AObj.cells tabC, AObj.cells (wv s)] ++ [AObj.row none 32])[pre'.length + 3]? = some (.row none 32) := by rw [List.append_assoc, get_app]; rfl
    first | have hb := hb | have hb := trivial
    repeat' (first | (simp -implicitDefEqProofs (disch := omega) only [hb, L54_1, p0, p1, p10, p11, p14, hl32, hcl, hrow, wC, initE, aop, Nat.reduceEqDiff, ↓reduceIte, Nat.reduceAdd, finish, resOf, tupOf, AM.freeze, freeze1, freezeL, closed, nam, namL, if_true, if_false, deref, boxAt, exAt, ldCells, oneL, oneCell, Nat.reduceLeDiff, evL, adopt, rigid, rigidL, trim, Int.reduceEq, Int.reduceMod, Int.reduceDiv, if_pos, if_neg, asI, forall_const, implies_true, chkD, chkO, chkW, effB, reB, vEq, beq_self_eq_true, Nat.reduceSub, Nat.reduceLT, Int.reduceSub, Int.reduceAdd, Int.reduceMul, Int.reduceLT, Int.reduceLE, Int.reduceToNat, optI, aslice, cutSl, cutMs, cutStr, cutOwn, cellsOf, one, elCells, lenOf, beqV, beqVL, strip, stripO, convS]) | ((first | rw [WP_condK] | rw [WP_opsG] | rw [WP_quiG] | rw [WP_dG]); refine And.intro (fun hb => ?_) (fun hb => ?_) <;> (first | have hd := dq1 hb | have hd := dq2 hb | have hd := dq3 hb | have hd := dq4 hb | skip)))
  · first | have hb := hb | have hb := trivial
    repeat' (first | (simp -implicitDefEqProofs (disch := omega) only [hb, F54, appV, setEls, elemsOf, stripEl, elFits, List.replicate_succ, List.replicate_zero, hf, hf1, hb0, hfl, wC, initE, aop, Nat.reduceEqDiff, ↓reduceIte, Nat.reduceAdd, finish, resOf, tupOf, AM.freeze, freeze1, freezeL, closed, nam, namL, if_true, if_false, deref, boxAt, exAt, ldCells, oneL, oneCell, Nat.reduceLeDiff, evL, adopt, rigid, rigidL, trim, Int.reduceEq, Int.reduceMod, Int.reduceDiv, if_pos, if_neg, asI, forall_const, implies_true, chkD, chkO, chkW, effB, reB, vEq, beq_self_eq_true, Nat.reduceSub, Nat.reduceLT, Int.reduceSub, Int.reduceAdd, Int.reduceMul, Int.reduceLT, Int.reduceLE, Int.reduceToNat, optI, aslice, cutSl, cutMs, cutStr, cutOwn, cellsOf, one, elCells, lenOf, beqV, beqVL, strip, stripO, convS]) | ((first | rw [WP_condK] | rw [WP_opsG] | rw [WP_quiG] | rw [WP_dG]); refine And.intro (fun hb => ?_) (fun hb => ?_) <;> (first | have hd := dq1 hb | have hd := dq2 hb | have hd := dq3 hb | have hd := dq4 hb | skip)))
    refine hpd _ [.row none 1] _ _ _ rfl rfl rfl (by simp) ?_
    intro e' pre' g0 g1 g9
    generalize (if b.length % 136 = 135 then (6 : Int) else 0) = x6 at hx hgl
    generalize (if b.length % 136 = 135 then (134 : Int) else 128) = x7 at hx hset
    first | have hb := hb | have hb := trivial
    repeat' (first | (simp -implicitDefEqProofs (disch := omega) only [hb, g0, g1, g9, hgl, hx, hset, call_All, z49_eq, z25_eq, htl, hto, htT, hts, h0l, app_app, wC, initE, aop, Nat.reduceEqDiff, ↓reduceIte, Nat.reduceAdd, finish, resOf, tupOf, AM.freeze, freeze1, freezeL, closed, nam, namL, if_true, if_false, deref, boxAt, exAt, ldCells, oneL, oneCell, Nat.reduceLeDiff, evL, adopt, rigid, rigidL, trim, Int.reduceEq, Int.reduceMod, Int.reduceDiv, if_pos, if_neg, asI, forall_const, implies_true, chkD, chkO, chkW, effB, reB, vEq, beq_self_eq_true, Nat.reduceSub, Nat.reduceLT, Int.reduceSub, Int.reduceAdd, Int.reduceMul, Int.reduceLT, Int.reduceLE, Int.reduceToNat, optI, aslice, cutSl, cutMs, cutStr, cutOwn, cellsOf, one, elCells, lenOf, beqV, beqVL, strip, stripO, convS]) | ((first | rw [WP_condK] | rw [WP_opsG] | rw [WP_quiG] | rw [WP_dG]); refine And.intro (fun hb => ?_) (fun hb => ?_) <;> (first | have hd := dq1 hb | have hd := dq2 hb | have hd := dq3 hb | have hd := dq4 hb | skip)))
    refine blks_ok (kPadL b) hMB (b.length / 136 + 1) hML (by rw [hPL]; omega) pre'.length _ _ rfl _ _ pre' _ rfl g0 g1 (by rw [hPL]; exact g9) rfl rfl rfl rfl ?_
    intro e2 q0 q1 q10 q11
    rw [hfold]
    have hel := kEnd_len hks0
    have hend : k32.map (kByte (kEnd (kTake b))) = kSum b := rfl
    generalize kEnd (kTake b) = s at hel hend ⊢
    first | have hb := hb | have hb := trivial
    repeat' (first | (simp -implicitDefEqProofs (disch := omega) only [hb, q0, q1, q10, q11, app_app, wC, initE, aop, Nat.reduceEqDiff, ↓reduceIte, Nat.reduceAdd, finish, resOf, tupOf, AM.freeze, freeze1, freezeL, closed, nam, namL, if_true, if_false, deref, boxAt, exAt, ldCells, oneL, oneCell, Nat.reduceLeDiff, evL, adopt, rigid, rigidL, trim, Int.reduceEq, Int.reduceMod, Int.reduceDiv, if_pos, if_neg, asI, forall_const, implies_true, chkD, chkO, chkW, effB, reB, vEq, beq_self_eq_true, Nat.reduceSub, Nat.reduceLT, Int.reduceSub, Int.reduceAdd, Int.reduceMul, Int.reduceLT, Int.reduceLE, Int.reduceToNat, optI, aslice, cutSl, cutMs, cutStr, cutOwn, cellsOf, one, elCells, lenOf, beqV, beqVL, strip, stripO, convS]) | ((first | rw [WP_condK] | rw [WP_opsG] | rw [WP_quiG] | rw [WP_dG]); refine And.intro (fun hb => ?_) (fun hb => ?_) <;> (first | have hd := dq1 hb | have hd := dq2 hb | have hd := dq3 hb | have hd := dq4 hb | skip)))
    refine k_roll ?_
    rw [trim_off]
    first | have hb := hb | have hb := trivial
    repeat' (first | (simp -implicitDefEqProofs (disch := omega) only [hb, L54_1, q0, q1, q10, q11, wC, initE, aop, Nat.reduceEqDiff, ↓reduceIte, Nat.reduceAdd, finish, resOf, tupOf, AM.freeze, freeze1, freezeL, closed, nam, namL, if_true, if_false, deref, boxAt, exAt, ldCells, oneL, oneCell, Nat.reduceLeDiff, evL, adopt, rigid, rigidL, trim, Int.reduceEq, Int.reduceMod, Int.reduceDiv, if_pos, if_neg, asI, forall_const, implies_true, chkD, chkO, chkW, effB, reB, vEq, beq_self_eq_true, Nat.reduceSub, Nat.reduceLT, Int.reduceSub, Int.reduceAdd, Int.reduceMul, Int.reduceLT, Int.reduceLE, Int.reduceToNat, optI, aslice, cutSl, cutMs, cutStr, cutOwn, cellsOf, one, elCells, lenOf, beqV, beqVL, strip, stripO, convS]) | ((first | rw [WP_condK] | rw [WP_opsG] | rw [WP_quiG] | rw [WP_dG]); refine And.intro (fun hb => ?_) (fun hb => ?_) <;> (first | have hd := dq1 hb | have hd := dq2 hb | have hd := dq3 hb | have hd := dq4 hb | skip)))
    refine out_in s hel (pre'.length + 2) (pre'.length + 3) _ _ rfl (pre'.length + 1) _ _ (pre' ++ [.vec ((kPadL b).map u8), .cells tabC, .cells (wv s)]) _ (by simp) (by rw [get_app]; rfl) rfl rfl rfl rfl rfl rfl (by simp) ?_
    intro e3 p0 p1 p10 p11 p14
    rw [hend] at p14
    first | have hb := hb | have hb := trivial
    repeat' (first | (simp -implicitDefEqProofs (disch := omega) only [hb, p0, p1, p10, p11, p14, q0, q1, wC, initE, aop, Nat.reduceEqDiff, ↓reduceIte, Nat.reduceAdd, finish, resOf, tupOf, AM.freeze, freeze1, freezeL, closed, nam, namL, if_true, if_false, deref, boxAt, exAt, ldCells, oneL, oneCell, Nat.reduceLeDiff, evL, adopt, rigid, rigidL, trim, Int.reduceEq, Int.reduceMod, Int.reduceDiv, if_pos, if_neg, asI, forall_const, implies_true, chkD, chkO, chkW, effB, reB, vEq, beq_self_eq_true, Nat.reduceSub, Nat.reduceLT, Int.reduceSub, Int.reduceAdd, Int.reduceMul, Int.reduceLT, Int.reduceLE, Int.reduceToNat, optI, aslice, cutSl, cutMs, cutStr, cutOwn, cellsOf, one, elCells, lenOf, beqV, beqVL, strip, stripO, convS]) | ((first | rw [WP_condK] | rw [WP_opsG] | rw [WP_quiG] | rw [WP_dG]); refine And.intro (fun hb => ?_) (fun hb => ?_) <;> (first | have hd := dq1 hb | have hd := dq2 hb | have hd := dq3 hb | have hd := dq4 hb | skip)))
    refine ⟨0, by omega, ?_⟩
    refine k_roll ?_
    rw [trim_off]
    have hrow : (pre' ++ [AObj.vec ((kPadL b).map u8), AObj.cells tabC, AObj.cells (wv s)] ++ [AObj.row none 32])[pre'.length + 3]? = some (.row none 32) := by rw [List.append_assoc, get_app]; rfl
    first | have hb := hb | have hb := trivial
    repeat' (first | (simp -implicitDefEqProofs (disch := omega) only [hb, L54_1, p0, p1, p10, p11, p14, hl32, hcl, hrow, wC, initE, aop, Nat.reduceEqDiff, ↓reduceIte, Nat.reduceAdd, finish, resOf, tupOf, AM.freeze, freeze1, freezeL, closed, nam, namL, if_true, if_false, deref, boxAt, exAt, ldCells, oneL, oneCell, Nat.reduceLeDiff, evL, adopt, rigid, rigidL, trim, Int.reduceEq, Int.reduceMod, Int.reduceDiv, if_pos, if_neg, asI, forall_const, implies_true, chkD, chkO, chkW, effB, reB, vEq, beq_self_eq_true, Nat.reduceSub, Nat.reduceLT, Int.reduceSub, Int.reduceAdd, Int.reduceMul, Int.reduceLT, Int.reduceLE, Int.reduceToNat, optI, aslice, cutSl, cutMs, cutStr, cutOwn, cellsOf, one, elCells, lenOf, beqV, beqVL, strip, stripO, convS]) | ((first | rw [WP_condK] | rw [WP_opsG] | rw [WP_quiG] | rw [WP_dG]); refine And.intro (fun hb => ?_) (fun hb => ?_) <;> (first | have hd := dq1 hb | have hd := dq2 hb | have hd := dq3 hb | have hd := dq4 hb | skip)))
/-- a call of Out, at bytes that name nothing -/
theorem call_out (o : AOwn) (b : List Int) (hb : Bytes b) (hn : b.length ≤ 140737488353000) (ho : stripO o = .none ∨ stripO o = .full) (h : Heap) : ag T 54 [i64 32, i64 136, u8 6, .slice o none (b.map u8)] h = some (.slice (.tok h.length) none ((kSum b).map u8), h ++ [.row none 32]) := by
  have hcl := u8_closed b
  have := call_pure (T := T) (h := h) (args := [i64 32, i64 136, u8 6, .slice o none (b.map u8)]) rfl t54 rfl rfl (by
    simp only [List.map_cons, List.map_nil, strip]
    rcases ho with ho | ho <;> rw [ho] <;> simp only [closedL, namL, nam, Bool.true_and, Bool.and_true] at hcl ⊢ <;> exact hcl) (by
    simp only [List.map_cons, List.map_nil, strip]
    exact out_ok _ b hb hn)
  rw [this]
  simp only [AM.adopt, List.length_map, kSum_len]
theorem rsum_ok (o : AOwn) (b : List Int) (hb : Bytes b) (hn : b.length ≤ 140737488353000) (ho : stripO o = .none ∨ stripO o = .full) : prun T F38 [.slice o none (b.map u8)] = some (.agg ((kSum b).map u8)) := by
  refine WP_eq (prun_wp ?_)
  have hcall := call_out o b hb hn ho
  have hS : (kSum b).length = 32 := kSum_len b
  generalize kSum b = S at hcall hS ⊢
  have hc := u8_closed S
  have hst : (S.map u8).map strip = S.map u8 := by rw [List.map_map]; rfl
  have h1 := oneL_u8 S
  first | have hb := hb | have hb := trivial
  repeat' (first | (simp -implicitDefEqProofs (disch := omega) only [hb, F38, hcall, z32_eq, wC, initE, aop, Nat.reduceEqDiff, ↓reduceIte, Nat.reduceAdd, finish, resOf, tupOf, AM.freeze, freeze1, freezeL, closed, nam, namL, if_true, if_false, deref, boxAt, exAt, ldCells, oneL, oneCell, Nat.reduceLeDiff, evL, adopt, rigid, rigidL, trim, Int.reduceEq, Int.reduceMod, Int.reduceDiv, if_pos, if_neg, asI, forall_const, implies_true, chkD, chkO, chkW, effB, reB, vEq, beq_self_eq_true, Nat.reduceSub, Nat.reduceLT, Int.reduceSub, Int.reduceAdd, Int.reduceMul, Int.reduceLT, Int.reduceLE, Int.reduceToNat, optI, aslice, cutSl, cutMs, cutStr, cutOwn, cellsOf, one, elCells, lenOf, beqV, beqVL, strip, stripO, convS]) | ((first | rw [WP_condK] | rw [WP_opsG] | rw [WP_quiG] | rw [WP_dG]); refine And.intro (fun hb => ?_) (fun hb => ?_) <;> (first | have hd := dq1 hb | have hd := dq2 hb | have hd := dq3 hb | have hd := dq4 hb | skip)))
  refine WP_loop (I := fun n e h => ∃ i, i ≤ 32 ∧ n = 32 - i ∧ getE e 2 = .ptr 0 0 ∧ getE e 3 = .ptr 1 0 ∧ getE e 4 = .slice (.tok 2) none (S.map u8) ∧ getE e 5 = i64 i ∧ h = [Z32, .cells ((S.take i).map u8 ++ List.replicate (32 - i) (u8 0)), .row none 32]) ?_ 32 _ _ ⟨0, by omega, rfl, rfl, rfl, rfl, rfl, rfl⟩
  rintro n e h ⟨i, hi, rfl, h2, h3, h4, h5, rfl⟩
  have b4 : below 3 (.slice (.tok 2) none (S.map u8)) = true := by
    have := closed_below' 3 (.slice .none none (S.map u8)) (by simp only [closed, nam, Bool.true_and]; exact hc)
    simp only [below, nam, Bool.true_and] at this ⊢
    rw [this]; rfl
  have bc : namL (fun x => decide (x < 3)) ((S.take i).map u8 ++ List.replicate (32 - i) (u8 0)) = true := by
    rw [namL_app]
    have r1 : namL (fun x => decide (x < 3)) ((S.take i).map u8) = true := namL_imp (fun _ h => by cases h) _ (u8_closed (S.take i))
    have r2 : ∀ k, namL (fun x => decide (x < 3)) (List.replicate k (u8 0)) = true := fun k => by
      induction k with
      | zero => rfl
      | succ k ih => rw [List.replicate_succ]; exact ih
    rw [r1, r2]; rfl
  rw [trim_take (by simp only [List.all_cons, List.all_nil, h2, h3, h4, h5, b4]; rfl) (by simp only [List.take_succ_cons, List.take_zero, List.all_cons, List.all_nil, belowO, belowL, bc, Bool.and_true]; rfl)]
  have hlen : ((S.take i).map u8 ++ List.replicate (32 - i) (u8 0)).length = 32 := by simp; omega
  by_cases hlt : i < 32
  · have hg := get_u8 (l := S) (i := i) (by omega)
    have hset : ((S.take i).map u8 ++ List.replicate (32 - i) (u8 0)).set i (u8 (S[i]'(by omega))) = (S.take (i + 1)).map u8 ++ List.replicate (32 - (i + 1)) (u8 0) := by
      rw [List.set_append_right _ _ (by simp; omega)]
      have e1 : (i - ((S.take i).map u8).length) = 0 := by simp; omega
      rw [e1, List.take_succ_eq_append_getElem (by omega), show 32 - i = (32 - (i + 1)) + 1 by omega, List.replicate_succ, List.set_cons_zero, List.map_append, List.append_assoc]
      rfl
    first | have hb := hb | have hb := trivial
    repeat' (first | (simp -implicitDefEqProofs (disch := omega) only [hb, L38_0, h2, h3, h4, h5, hg, hset, hlen, wC, initE, aop, Nat.reduceEqDiff, ↓reduceIte, Nat.reduceAdd, finish, resOf, tupOf, AM.freeze, freeze1, freezeL, closed, nam, namL, if_true, if_false, deref, boxAt, exAt, ldCells, oneL, oneCell, Nat.reduceLeDiff, evL, adopt, rigid, rigidL, trim, Int.reduceEq, Int.reduceMod, Int.reduceDiv, if_pos, if_neg, asI, forall_const, implies_true, chkD, chkO, chkW, effB, reB, vEq, beq_self_eq_true, Nat.reduceSub, Nat.reduceLT, Int.reduceSub, Int.reduceAdd, Int.reduceMul, Int.reduceLT, Int.reduceLE, Int.reduceToNat, optI, aslice, cutSl, cutMs, cutStr, cutOwn, cellsOf, one, elCells, lenOf, beqV, beqVL, strip, stripO, convS]) | ((first | rw [WP_condK] | rw [WP_opsG] | rw [WP_quiG] | rw [WP_dG]); refine And.intro (fun hb => ?_) (fun hb => ?_) <;> (first | have hd := dq1 hb | have hd := dq2 hb | have hd := dq3 hb | have hd := dq4 hb | skip)))
    exact ⟨32 - (i + 1), by omega, i + 1, by omega, rfl, rfl, rfl⟩
  · obtain rfl : i = 32 := by omega
    have hT : S.take 32 = S := List.take_of_length_le (by omega)
    rw [hT] at hlen ⊢
    rw [show List.replicate (32 - 32) (u8 0) = [] from rfl, List.append_nil] at hlen ⊢
    have hTm : List.take 32 (S.map u8) = S.map u8 := List.take_of_length_le (by omega)
    have hsp : splice (List.replicate 32 (AV.int .u8 0)) 0 (S.map u8) = S.map u8 := splice_all (by rw [hlen]; rfl)
    first | have hb := hb | have hb := trivial
    repeat' (first | (simp -implicitDefEqProofs (disch := omega) only [hb, L38_0, h2, h3, h4, h5, Z32, hTm, hlen, h1, hsp, hc, wC, initE, aop, Nat.reduceEqDiff, ↓reduceIte, Nat.reduceAdd, finish, resOf, tupOf, AM.freeze, freeze1, freezeL, closed, nam, namL, if_true, if_false, deref, boxAt, exAt, ldCells, oneL, oneCell, Nat.reduceLeDiff, evL, adopt, rigid, rigidL, trim, Int.reduceEq, Int.reduceMod, Int.reduceDiv, if_pos, if_neg, asI, forall_const, implies_true, chkD, chkO, chkW, effB, reB, vEq, beq_self_eq_true, Nat.reduceSub, Nat.reduceLT, Int.reduceSub, Int.reduceAdd, Int.reduceMul, Int.reduceLT, Int.reduceLE, Int.reduceToNat, optI, aslice, cutSl, cutMs, cutStr, cutOwn, cellsOf, one, elCells, lenOf, beqV, beqVL, strip, stripO, convS]) | ((first | rw [WP_condK] | rw [WP_opsG] | rw [WP_quiG] | rw [WP_dG]); refine And.intro (fun hb => ?_) (fun hb => ?_) <;> (first | have hd := dq1 hb | have hd := dq2 hb | have hd := dq3 hb | have hd := dq4 hb | skip)))
    rw [hst]
    exact ⟨hc, rfl⟩
end Go.Proofs.Ytejnficfhoekiaa.AM

/- The digests, as they are called; and as contracts that the kernel can reckon. -/
namespace Go.Proofs.Ytejnficfhoekiaa.AM
open Go
set_option maxRecDepth 100000
set_option linter.unusedVariables false
set_option linter.unusedSimpArgs false
/-- a part's bytes -/
def partB : AV → Option (List Int)
  | .slice _ none els => byteEls els
  | .sc (.slice none 0 0) => some []
  | _ => none
def okB (l : List Int) : Bool := l.all (fun c => decide (0 ≤ c) && decide (c ≤ 255)) && decide (l.length ≤ 140737488351232)
def partsB : List AV → Option (List (List Int))
  | [] => some []
  | x :: r => (partB x).bind fun l => if okB l then (partsB r).map (l :: ·) else none
theorem okB_spec {l : List Int} (h : okB l = true) : Bytes l ∧ l.length ≤ 140737488351232 := by
  simp only [okB, Bool.and_eq_true, List.all_eq_true, decide_eq_true_eq] at h
  exact h
theorem byteEls_inv : ∀ {els : List AV} {l : List Int}, byteEls els = some l → els = l.map u8
  | [], l, h => by simp only [byteEls] at h; cases h; rfl
  | x :: r, l, h => by
    unfold byteEls at h
    split at h
    · rename_i heq; cases heq
    · rename_i n r' heq
      cases heq
      rw [Option.map_eq_some_iff] at h
      obtain ⟨l', h1, rfl⟩ := h
      rw [byteEls_inv h1]; rfl
    · cases h
theorem partsB_spec : ∀ {xs : List AV} {ls : List (List Int)}, partsB xs = some ls → closedL xs = true → PartsR xs ls
  | [], ls, h, _ => by simp only [partsB] at h; cases h; exact ⟨rfl, fun i hi => by simp at hi⟩
  | x :: r, ls, h, hc => by
    simp only [partsB, Option.bind_eq_some_iff] at h
    obtain ⟨l, h1, h⟩ := h
    split at h
    · rename_i hok
      rw [Option.map_eq_some_iff] at h
      obtain ⟨ls', h2, rfl⟩ := h
      simp only [closedL, namL, Bool.and_eq_true] at hc
      have ih := partsB_spec h2 hc.2
      obtain ⟨k1, k2⟩ := okB_spec hok
      refine ⟨by simp [ih.len], fun i hi hj => ?_⟩
      cases i with
      | zero =>
        refine ⟨k1, k2, hc.1, ?_⟩
        unfold partB at h1
        split at h1
        · rename_i o els; left; exact ⟨o, by rw [byteEls_inv h1]; rfl⟩
        · cases h1; exact .inr ⟨rfl, rfl⟩
        · cases h1
      | succ i => exact ih.at_ i (by simpa using hi) (by simpa using hj)
    · cases h
/-- the digest, for the kernel -/
def sumN (l : List Int) : AV := .agg (((nSum (l.map Int.toNat)).map Int.ofNat).map u8)
theorem sumN_eq {l : List Int} (h : Bytes l) : sumN l = .agg ((kSum l).map u8) := by
  rw [sumN, kSum_nSum l fun b hb => ⟨(h b hb).1, by have := (h b hb).2; omega⟩]
theorem flatP_bytes {xs : List AV} {ls : List (List Int)} (h : PartsR xs ls) : Bytes ls.flatten := by
  intro c hc
  rw [List.mem_flatten] at hc
  obtain ⟨l, hl, hc⟩ := hc
  obtain ⟨i, hi, rfl⟩ := List.mem_iff_getElem.1 hl
  exact (h.at_ i (by rw [← h.len]; exact hi) hi).bytes c hc
def sumG (els : List AV) : Option AV := if closedL els && decide (els.length ≤ 140737488351232) then (partsB els).map fun ls => sumN ls.flatten else none
def sumX : List AV → Option AV
  | [.slice .none none els] => sumG els
  | [.slice .full none els] => sumG els
  | _ => none
def rsumG (els : List AV) : Option AV := (byteEls els).bind fun l => if okB l then some (sumN l) else none
def rsumX : List AV → Option AV
  | [.slice .none none els] => rsumG els
  | [.slice .full none els] => rsumG els
  | _ => none
theorem sumG_ok {els : List AV} {v : AV} (h : sumG els = some v) (o : AOwn) (ho : o = .none ∨ o = .full) : prun T F36 [.slice o none els] = some v := by
  unfold sumG at h
  split at h
  · rename_i hc
    simp only [Bool.and_eq_true, decide_eq_true_eq] at hc
    rw [Option.map_eq_some_iff] at h
    obtain ⟨ls, h1, rfl⟩ := h
    have hp := partsB_spec h1 hc.1
    rw [sumN_eq (flatP_bytes hp)]
    refine sum_ok els ls hp o ?_ hc.2
    rcases ho with rfl | rfl <;> simp only [closed, nam, Bool.true_and] <;> exact hc.1
  · cases h
theorem rsumG_ok {els : List AV} {v : AV} (h : rsumG els = some v) (o : AOwn) (ho : o = .none ∨ o = .full) : prun T F38 [.slice o none els] = some v := by
  simp only [rsumG, Option.bind_eq_some_iff] at h
  obtain ⟨l, h1, h⟩ := h
  split at h
  · rename_i hok
    cases h
    obtain ⟨k1, k2⟩ := okB_spec hok
    rw [byteEls_inv h1, sumN_eq k1]
    refine rsum_ok o l k1 (by omega) ?_
    rcases ho with rfl | rfl
    · exact .inl rfl
    · exact .inr rfl
  · cases h
theorem sumX_ok {a : List AV} {v : AV} (h : sumX a = some v) : prun T F36 a = some v := by
  unfold sumX at h
  split at h
  · exact sumG_ok h _ (.inl rfl)
  · exact sumG_ok h _ (.inr rfl)
  · cases h
theorem rsumX_ok {a : List AV} {v : AV} (h : rsumX a = some v) : prun T F38 a = some v := by
  unfold rsumX at h
  split at h
  · exact rsumG_ok h _ (.inl rfl)
  · exact rsumG_ok h _ (.inr rfl)
  · cases h
theorem kfzL_len (h : Heap) : ∀ {l r : List AV}, fzL h l = some r → r.length = l.length
  | [], r, hh => by simp only [fzL] at hh; cases hh; rfl
  | x :: l, r, hh => by
    simp only [fzL, Option.bind_eq_some_iff, Option.map_eq_some_iff] at hh
    obtain ⟨y, _, z, h1, rfl⟩ := hh
    simp [kfzL_len h h1]
theorem prep_len {h : Heap} {l r : List AV} {b : Bool} (hh : prep h l = some (r, b)) : r.length = l.length := by
  unfold prep at hh
  split at hh
  · cases hh; simp
  · split at hh
    · cases hh; simp
    · rw [Option.map_eq_some_iff] at hh
      obtain ⟨a, h1, h2⟩ := hh
      cases h2
      exact kfzL_len h h1
theorem pcall_ole {f : Nat} {F : AFn} (hx : T.ext f = none) (hf : T.fn f = some F) (hp : F.pure = true) {g : List AV → Option AV} (hg : ∀ a v, g a = some v → a.length = F.np ∧ prun T F a = some v) (args : List AV) (h : Heap) : ole (pcall g args h) (ag T f args h) := by
  intro r hr
  have hr' := hr
  simp only [pcall, Option.bind_eq_some_iff] at hr
  obtain ⟨⟨a, b⟩, h1, v, h2, _⟩ := hr
  have hl := (hg a v h2).1
  rw [prep_len h1] at hl
  rw [ag_pure hx hf hp args hl]
  exact pcall_le (fun a w hw => (hg a w hw).2) args h r hr'
def sumsX (f : Nat) : Option (List AV → Option AV) := if f = 36 then some sumX else if f = 38 then some rsumX else none
theorem sumX_len {a : List AV} {v : AV} (h : sumX a = some v) : a.length = 1 := by
  unfold sumX at h
  split at h
  · rfl
  · rfl
  · cases h
theorem rsumX_len {a : List AV} {v : AV} (h : rsumX a = some v) : a.length = 1 := by
  unfold rsumX at h
  split at h
  · rfl
  · rfl
  · cases h
theorem sumsX_ok : ∀ f g, sumsX f = some g → T.pure f = true ∧ ∀ args h, ole (pcall g args h) (ag T f args h) := by
  intro f g h
  unfold sumsX at h
  split at h
  · rename_i hf
    cases h
    subst hf
    exact ⟨rfl, pcall_ole rfl t36 rfl fun a v hv => ⟨sumX_len hv, sumX_ok hv⟩⟩
  · split at h
    · rename_i hf
      cases h
      subst hf
      exact ⟨rfl, pcall_ole rfl t38 rfl fun a v hv => ⟨rsumX_len hv, rsumX_ok hv⟩⟩
    · cases h
/-- a run with the digests as contracts -/
theorem ag_of_sums {n f : Nat} {args : List AV} {h : Heap} {r : AV × Heap} (hr : gcall (Over T sumsX) n f args h = some r) : ag T f args h = some r := ag_of_over sumsX_ok hr
end Go.Proofs.Ytejnficfhoekiaa.AM

/- bigsize's streams: plain laws. -/
namespace Go.Proofs.Ytejnficfhoekiaa.AM
open Go
set_option linter.unusedSimpArgs false
set_option linter.unusedVariables false
theorem be_cons (c : Int) (l : List Int) : be (c :: l) = c * 256 ^ l.length + be l := by
  have key : ∀ (l : List Int) (x : Int), l.foldl (fun x c => x * 256 + c) x = x * 256 ^ l.length + l.foldl (fun x c => x * 256 + c) 0 := by
    intro l
    induction l with
    | nil => intro x; simp
    | cons d l ih =>
      intro x
      rw [List.foldl_cons, List.foldl_cons, ih, ih (0 * 256 + d), List.length_cons, Int.pow_succ, Int.add_mul, Int.zero_mul, Int.zero_add, Int.mul_assoc, Int.mul_comm 256]
      omega
  unfold be
  rw [List.foldl_cons, key, Int.zero_mul, Int.zero_add]
theorem tailS_add (n : Nat) : ∀ (c y : Int), tailS n (c * 256 ^ n + y) = tailS n y ∧ ∀ m, n ≤ m → tailS n (c * 256 ^ m + y) = tailS n y := by
  induction n with
  | zero => intro c y; exact ⟨rfl, fun m _ => rfl⟩
  | succ n ih =>
    intro c y
    have h : ∀ m, n + 1 ≤ m → tailS (n + 1) (c * 256 ^ m + y) = tailS (n + 1) y := by
      intro m hm
      obtain ⟨d, rfl⟩ : ∃ d, m = d + (n + 1) := ⟨m - (n + 1), by omega⟩
      have e : c * 256 ^ (d + (n + 1)) = (c * 256 ^ d * 256) * 256 ^ n := by
        rw [Int.pow_add, Int.pow_succ, Int.mul_comm (256 ^ n) 256, ← Int.mul_assoc, ← Int.mul_assoc]
      have hpos : (256 : Int) ^ n ≠ 0 := Int.ne_of_gt (Int.pow_pos (by omega))
      rw [tail_snoc, tail_snoc, e, Int.add_comm, Int.add_mul_ediv_right _ _ hpos, Int.add_mul_emod_self_right]
      congr 1
      rw [Int.add_comm]
      exact (ih (c * 256 ^ d * 256) y).1
    exact ⟨h _ (Nat.le_refl _), h⟩
theorem tailS_be : ∀ (l : List Int), Bytes l → tailS l.length (be l) = l
  | [], _ => rfl
  | c :: l, h => by
    have hc := h c List.mem_cons_self
    have hl : Bytes l := fun x hx => h x (List.mem_cons_of_mem _ hx)
    have hb := be_bound l hl
    have hpos : (256 : Int) ^ l.length ≠ 0 := Int.ne_of_gt (Int.pow_pos (by omega))
    rw [be_cons, List.length_cons, tail_snoc, (tailS_add l.length c (be l)).1, tailS_be l hl, Int.add_comm, Int.add_mul_ediv_right _ _ hpos, Int.ediv_eq_zero_of_lt hb.1 hb.2, Int.zero_add, Int.emod_eq_of_lt hc.1 (by omega)]
/-- what is read is the number's one form -/
theorem num_readS {l : List Int} (h : Bytes l) {x n : Int} (hr : readS l = (x, n, 0)) : l = numS x ++ l.drop n.toNat ∧ n.toNat = (numS x).length := by
  cases l with
  | nil => simp [readS] at hr
  | cons b r =>
    have hbb := h b List.mem_cons_self
    have hrr : Bytes r := fun y hy => h y (List.mem_cons_of_mem _ hy)
    rw [readS_cons] at hr
    split at hr
    · rename_i hlt
      simp only [Prod.mk.injEq] at hr
      obtain ⟨rfl, rfl, _⟩ := hr
      have : numS b = [b] := by unfold numS; rw [if_pos hlt]
      rw [this]; exact ⟨rfl, rfl⟩
    · rename_i hge
      split at hr
      · cases hr
      · rename_i hlen
        split at hr
        · rename_i hsz
          cases hr
          have htl : (r.take (wideS b)).length = wideS b := by rw [List.length_take]; omega
          have hte := tailS_be (r.take (wideS b)) (take_bytes hrr _)
          rw [htl] at hte
          have hn : numS (be (r.take (wideS b))) = b :: r.take (wideS b) := by
            generalize hx : be (r.take (wideS b)) = x at *
            have hw : b = 253 ∧ wideS b = 2 ∨ b = 254 ∧ wideS b = 4 ∨ b = 255 ∧ wideS b = 8 := by
              unfold wideS
              split
              · exact .inl ⟨by assumption, rfl⟩
              · split
                · exact .inr (.inl ⟨by assumption, rfl⟩)
                · exact .inr (.inr ⟨by omega, rfl⟩)
            unfold sizeS at hsz
            unfold numS
            rcases hw with ⟨hb1, hw⟩ | ⟨hb1, hw⟩ | ⟨hb1, hw⟩ <;> rw [hw] at hsz hte <;> subst hb1
            · split at hsz
              · omega
              · split at hsz
                · rw [if_neg (by assumption), if_pos (by assumption), hte, hw]
                · split at hsz <;> omega
            · split at hsz
              · omega
              · split at hsz
                · omega
                · split at hsz
                  · rw [if_neg (by assumption), if_neg (by assumption), if_pos (by assumption), hte, hw]
                  · omega
            · split at hsz
              · omega
              · split at hsz
                · omega
                · split at hsz
                  · omega
                  · rw [if_neg (by assumption), if_neg (by assumption), if_neg (by assumption), hte, hw]
          rw [hn]
          have e : ((wideS b : Int) + 1).toNat = wideS b + 1 := by omega
          rw [e]
          exact ⟨by simp, by rw [List.length_cons, htl]⟩
        · cases hr
theorem flatS_snoc (l : List Rc) (r : Rc) : flatS (l ++ [r]) = flatS l ++ recS r := by
  unfold flatS; rw [List.flatMap_append, List.flatMap_singleton]
theorem asc_snoc {acc : List Rc} {r : Rc} (ha : ascB acc = true) (ht : topB acc r.t = true) : ascB (acc ++ [r]) = true := by
  refine ascB_of fun i hi => ?_
  rw [List.length_append, List.length_singleton] at hi
  by_cases h : i + 1 < acc.length
  · rw [List.getElem_append_left (by omega), List.getElem_append_left h]
    exact ascB_at h ha
  · have e : i + 1 = acc.length := by omega
    have ht' := top_at (acc := acc) (x := r.t) (by omega)
    rw [ht] at ht'
    have := of_decide_eq_true ht'.symm
    rw [List.getElem_append_left (by omega), List.getElem_append_right (by omega)]
    simp only [e, Nat.sub_self, List.getElem_singleton]
    have e2 : acc.length - 1 = i := by omega
    simp only [e2] at this
    exact this
theorem dec_back (ks : List Int) : ∀ (f : Nat) (acc : List Rc) (s : List Int) (l : List Rc), Bytes s → decL ks f acc s = (l, 0) → ascB acc = true → acc.length + f ≤ 64 → (∀ r ∈ acc, Rc.ok r) → ascB l = true ∧ l.length ≤ 64 ∧ flatS l = flatS acc ++ s ∧ ∀ r ∈ l, Rc.ok r
  | f, acc, [], l, hs, hd, ha, hf, hok => by
    rw [decL_nil] at hd
    cases hd
    exact ⟨ha, by omega, by rw [List.append_nil], hok⟩
  | 0, acc, c :: s, l, hs, hd, ha, hf, hok => by
    rw [decL_full _ _ _ (by simp)] at hd
    cases hd
  | f + 1, acc, c :: s', l, hs, hd, ha, hf, hok => by
    generalize hsd : c :: s' = s at *
    have hne : s ≠ [] := by rw [← hsd]; simp
    obtain ⟨x, n, e1, hr1⟩ : ∃ x n e1, readS s = (x, n, e1) := ⟨_, _, _, rfl⟩
    obtain ⟨s1, hs1⟩ : ∃ s1, s.drop n.toNat = s1 := ⟨_, rfl⟩
    obtain ⟨y, m, e2, hr2⟩ : ∃ x n e1, readS s1 = (x, n, e1) := ⟨_, _, _, rfl⟩
    obtain ⟨s2, hs2⟩ : ∃ s2, s1.drop m.toNat = s2 := ⟨_, rfl⟩
    have hb1 : Bytes s1 := hs1 ▸ drop_bytes hs _
    have hb2 : Bytes s2 := hs2 ▸ drop_bytes hb1 _
    have hf1 := readS_fine s hs
    have hf2 := readS_fine s1 hb1
    rw [hr1] at hf1
    rw [hr2] at hf2
    simp only at hf1 hf2
    rw [decL_step ks f acc s hne x n e1 y m e2 s1 s2 hr1 hs1 hr2 hs2] at hd
    split at hd
    · rename_i h; cases hd; exact absurd rfl h
    · rename_i he1
      split at hd
      · cases hd
      · rename_i htop
        split at hd
        · rename_i h; cases hd; exact absurd rfl h
        · rename_i he2
          split at hd
          · cases hd
          · rename_i hlen
            split at hd
            · cases hd
            · have he1 : e1 = 0 := by omega
              have he2 : e2 = 0 := by omega
              subst he1
              subst he2
              have ht : topB acc x = true := by simpa using htop
              have hvl : ((s2.take y.toNat).length : Int) = y := by rw [List.length_take]; omega
              have hrec := dec_back ks f (acc ++ [⟨x, s2.take y.toNat⟩]) (s2.drop y.toNat) l (drop_bytes hb2 _) hd (asc_snoc ha ht) (by rw [List.length_append, List.length_singleton]; omega) (by
                intro r hr
                rcases List.mem_append.1 hr with h | h
                · exact hok r h
                · rw [List.mem_singleton] at h
                  subst h
                  exact ⟨hf1.1, take_bytes hb2 _⟩)
              refine ⟨hrec.1, hrec.2.1, ?_, hrec.2.2.2⟩
              rw [hrec.2.2.1, flatS_snoc]
              have q1 := (num_readS hs hr1).1
              have q2 := (num_readS hb1 hr2).1
              rw [hs1] at q1
              rw [hs2] at q2
              unfold recS
              simp only [hvl]
              rw [List.append_assoc, List.append_assoc, List.append_assoc, List.take_append_drop, ← q2, ← q1]
theorem decodes_law (ks b : List Int) (hb : Bytes b) (h : (decS ks b).2 = 0) : encS (decS ks b).1 = (b, 0) ∧ (flatS (decS ks b).1).length ≤ 65536 ∧ (decS ks b).1.length ≤ 64 ∧ ∀ r ∈ (decS ks b).1, Rc.ok r := by
  unfold decS at h ⊢
  split at h
  · cases h
  · rename_i hl
    rw [if_neg hl]
    have := dec_back ks 64 [] b (decL ks 64 [] b).1 hb (by rw [← h]) rfl (by simp) (by simp)
    obtain ⟨q1, q2, q3, q4⟩ := this
    have q3 : flatS (decL ks 64 [] b).1 = b := q3
    refine ⟨?_, by rw [q3]; omega, q2, q4⟩
    rw [encS_ok q1 ⟨q2, by rw [q3]; omega⟩, q3]
end Go.Proofs.Ytejnficfhoekiaa.AM

/- invoice: a number's bytes; hashes; check sums. -/
namespace Go.Proofs.Ytejnficfhoekiaa.AM
open Go
set_option maxRecDepth 100000
set_option maxHeartbeats 4000000
set_option linter.unusedSimpArgs false
set_option linter.unusedVariables false
theorem rhigh_ok (n : Nat) (x : Nat) (hn : 1 ≤ n ∧ n ≤ 8) (hx : x ≤ 9223372036854775807) : prun T F20 [i64 n, i64 x] = some (.slice .fresh none ((tailS n x).map u8)) := by
  refine WP_eq (prun_wp ?_)
  have hl := tailS_len n x
  first | have hb := hb | have hb := trivial
  repeat' (first | (simp -implicitDefEqProofs (disch := omega) only [hb, F20, wC, initE, aop, Nat.reduceEqDiff, ↓reduceIte, Nat.reduceAdd, finish, resOf, tupOf, AM.freeze, freeze1, freezeL, closed, nam, namL, if_true, if_false, deref, boxAt, exAt, ldCells, oneL, oneCell, Nat.reduceLeDiff, evL, adopt, rigid, rigidL, trim, Int.reduceEq, Int.reduceMod, Int.reduceDiv, if_pos, if_neg, asI, forall_const, implies_true, chkD, chkO, chkW, effB, reB, vEq, beq_self_eq_true, Nat.reduceSub, Nat.reduceLT, Int.reduceSub, Int.reduceAdd, Int.reduceMul, Int.reduceLT, Int.reduceLE, Int.reduceToNat, optI, aslice, cutSl, cutMs, cutStr, cutOwn, cellsOf, one, elCells, lenOf, beqV, beqVL, strip, stripO, convS]) | ((first | rw [WP_condK] | rw [WP_opsG] | rw [WP_quiG] | rw [WP_dG]); refine And.intro (fun hb => ?_) (fun hb => ?_) <;> (first | have hd := dq1 hb | have hd := dq2 hb | have hd := dq3 hb | have hd := dq4 hb | skip)))
  refine WP_loop (I := fun k e h => ∃ j : Nat, k + j = n ∧ h = [.row none j] ∧ getE e 1 = i64 x ∧ getE e 5 = .slice (.tok 0) none (((tailS n x).take j).map u8) ∧ getE e 6 = i64 ((n : Int) - 1 - j)) ?_ n _ _ ?_
  rotate_left
  · exact ⟨0, rfl, rfl, rfl, rfl, by simp [getE]⟩
  rintro k e h ⟨j, hk, rfl, h1, h5, h6⟩
  rw [trim_same' (by simp)]
  have hlj : (((tailS n x).take j).map u8).length = j := by rw [List.length_map, List.length_take, hl]; omega
  by_cases hlt : j < n
  · have e1 := shr_n .i64 x (8 * (n - 1 - j)) (by simp [IntKind.bits]; omega)
    rw [show ((8 * (n - 1 - j) : Nat) : Int) = 8 * ((n : Int) - 1 - j) by omega] at e1
    have e2 := high_byte x (n - 1 - j)
    have e3 : (tailS n x).take (j + 1) = (tailS n x).take j ++ [(x : Int) / 256 ^ (n - 1 - j) % 256] := by
      have hg := tailS_get x n j hlt
      rw [List.getElem?_eq_getElem (by omega)] at hg
      rw [List.take_succ_eq_append_getElem (by omega), Option.some.inj hg]
    obtain ⟨c, hc⟩ : ∃ c, (x : Int) / 256 ^ (n - 1 - j) % 256 = c := ⟨_, rfl⟩
    rw [hc] at e2 e3
    have ef : fitsB (j + 1) 1 = true := by simp [fitsB]; omega
    first | have hb := hb | have hb := trivial
    repeat' (first | (simp -implicitDefEqProofs (disch := omega) only [hb, L20_0, h1, h5, h6, e1, e2, ef, hlj, aappend, elemsOf, setEls, elFits_sc, stripEl_sc, one_int, List.replicate_succ, List.replicate_zero, wC, initE, aop, Nat.reduceEqDiff, ↓reduceIte, Nat.reduceAdd, finish, resOf, tupOf, AM.freeze, freeze1, freezeL, closed, nam, namL, if_true, if_false, deref, boxAt, exAt, ldCells, oneL, oneCell, Nat.reduceLeDiff, evL, adopt, rigid, rigidL, trim, Int.reduceEq, Int.reduceMod, Int.reduceDiv, if_pos, if_neg, asI, forall_const, implies_true, chkD, chkO, chkW, effB, reB, vEq, beq_self_eq_true, Nat.reduceSub, Nat.reduceLT, Int.reduceSub, Int.reduceAdd, Int.reduceMul, Int.reduceLT, Int.reduceLE, Int.reduceToNat, optI, aslice, cutSl, cutMs, cutStr, cutOwn, cellsOf, one, elCells, lenOf, beqV, beqVL, strip, stripO, convS]) | ((first | rw [WP_condK] | rw [WP_opsG] | rw [WP_quiG] | rw [WP_dG]); refine And.intro (fun hb => ?_) (fun hb => ?_) <;> (first | have hd := dq1 hb | have hd := dq2 hb | have hd := dq3 hb | have hd := dq4 hb | skip)))
    exact ⟨k - 1, by omega, j + 1, by omega, rfl, by rw [e3]; simp, by simp; omega⟩
  · obtain rfl : j = n := by omega
    have hc := u8_closed (tailS j x)
    rw [List.take_of_length_le (by omega)] at h5 hlj
    first | have hb := hb | have hb := trivial
    repeat' (first | (simp -implicitDefEqProofs (disch := omega) only [hb, L20_0, h1, h5, h6, hlj, wC, initE, aop, Nat.reduceEqDiff, ↓reduceIte, Nat.reduceAdd, finish, resOf, tupOf, AM.freeze, freeze1, freezeL, closed, nam, namL, if_true, if_false, deref, boxAt, exAt, ldCells, oneL, oneCell, Nat.reduceLeDiff, evL, adopt, rigid, rigidL, trim, Int.reduceEq, Int.reduceMod, Int.reduceDiv, if_pos, if_neg, asI, forall_const, implies_true, chkD, chkO, chkW, effB, reB, vEq, beq_self_eq_true, Nat.reduceSub, Nat.reduceLT, Int.reduceSub, Int.reduceAdd, Int.reduceMul, Int.reduceLT, Int.reduceLE, Int.reduceToNat, optI, aslice, cutSl, cutMs, cutStr, cutOwn, cellsOf, one, elCells, lenOf, beqV, beqVL, strip, stripO, convS]) | ((first | rw [WP_condK] | rw [WP_opsG] | rw [WP_quiG] | rw [WP_dG]); refine And.intro (fun hb => ?_) (fun hb => ?_) <;> (first | have hd := dq1 hb | have hd := dq2 hb | have hd := dq3 hb | have hd := dq4 hb | skip)))
theorem hash_ok (b : H32) : prun T F33 [.slice .none none (b.1.map u8)] = some (.agg (b.1.map u8)) := by
  refine WP_eq (prun_wp ?_)
  have hb : (b.1.map u8).length = 32 := l32 b
  first | have hb := hb | have hb := trivial
  repeat' (first | (simp -implicitDefEqProofs (disch := omega) only [hb, F33, wV, wC, wO, initE, aop, Nat.reduceEqDiff, ↓reduceIte, Nat.reduceAdd, finish, resOf, tupOf, AM.freeze, freeze1, freezeL, closed, nam, namL, if_true, if_false, deref, boxAt, exAt, ldCells, oneL, oneCell, Nat.reduceLeDiff, evL, adopt, rigid, rigidL, trim, Int.reduceEq, Int.reduceMod, Int.reduceDiv, if_pos, if_neg, asI, forall_const, implies_true, chkD, chkO, chkW, effB, reB, vEq, beq_self_eq_true, Nat.reduceSub, Nat.reduceLT, Int.reduceSub, Int.reduceAdd, Int.reduceMul, Int.reduceLT, Int.reduceLE, Int.reduceToNat, optI, aslice, cutSl, cutMs, cutStr, cutOwn]) | ((first | rw [WP_condK] | rw [WP_opsG] | rw [WP_quiG] | rw [WP_dG]); refine And.intro (fun hb => ?_) (fun hb => ?_) <;> (first | have hd := dq1 hb | have hd := dq2 hb | have hd := dq3 hb | have hd := dq4 hb | skip)))
  refine WP_loop (I := fun k e h => ∃ (i : Nat) (c : H32), k + i = 32 ∧ c.1 = b.1.take i ++ List.replicate (32 - i) 0 ∧ h = [.cells (zero32.1.map u8), .cells (c.1.map u8)] ∧ getE e 0 = .slice .none none (b.1.map u8) ∧ getE e 2 = .ptr 0 0 ∧ getE e 3 = .ptr 1 0 ∧ getE e 4 = i64 i) ?_ 32 _ _ ?_
  rotate_left
  · exact ⟨0, zero32, rfl, rfl, rfl, rfl, rfl, rfl, rfl⟩
  rintro k e h ⟨i, c, hk, hc, rfl, h0, h2, h3, h4⟩
  rw [trim_same' (by simp)]
  have hb2 : b.1.length = 32 := b.2
  have hcl : (c.1.map u8).length = 32 := l32 c
  by_cases hlt : i < 32
  · have hg := get_u8 (l := b.1) (i := i) (by omega)
    have e1 : (c.1.map u8).set i (u8 (b.1[i]'(by omega))) = (c.1.set i (b.1[i]'(by omega))).map u8 := by rw [List.map_set]
    have e2 : c.1.set i (b.1[i]'(by omega)) = b.1.take (i + 1) ++ List.replicate (32 - (i + 1)) 0 := by
      rw [hc, List.set_append_right _ _ (by rw [List.length_take]; omega), List.length_take, Nat.min_eq_left (by omega), Nat.sub_self, show 32 - i = (32 - (i + 1)) + 1 by omega, List.replicate_succ, List.set_cons_zero, List.take_succ_eq_append_getElem (by omega), List.append_assoc]
      rfl
    first | have hb := hb | have hb := trivial
    repeat' (first | (simp -implicitDefEqProofs (disch := omega) only [hb, L33_0, wV, hb, hcl, h0, h2, h3, h4, hg, e1, wC, wO, initE, aop, Nat.reduceEqDiff, ↓reduceIte, Nat.reduceAdd, finish, resOf, tupOf, AM.freeze, freeze1, freezeL, closed, nam, namL, if_true, if_false, deref, boxAt, exAt, ldCells, oneL, oneCell, Nat.reduceLeDiff, evL, adopt, rigid, rigidL, trim, Int.reduceEq, Int.reduceMod, Int.reduceDiv, if_pos, if_neg, asI, forall_const, implies_true, chkD, chkO, chkW, effB, reB, vEq, beq_self_eq_true, Nat.reduceSub, Nat.reduceLT, Int.reduceSub, Int.reduceAdd, Int.reduceMul, Int.reduceLT, Int.reduceLE, Int.reduceToNat, optI, aslice, cutSl, cutMs, cutStr, cutOwn]) | ((first | rw [WP_condK] | rw [WP_opsG] | rw [WP_quiG] | rw [WP_dG]); refine And.intro (fun hb => ?_) (fun hb => ?_) <;> (first | have hd := dq1 hb | have hd := dq2 hb | have hd := dq3 hb | have hd := dq4 hb | skip)))
    exact ⟨k - 1, by omega, i + 1, ⟨c.1.set i (b.1[i]'(by omega)), by rw [List.length_set]; exact c.2⟩, by omega, e2, rfl, rfl⟩
  · obtain rfl : i = 32 := by omega
    have hcb : c = b := Subtype.ext (by rw [hc, List.take_of_length_le (by omega)]; simp)
    subst hcb
    have hz : zero32.1.length = 32 := zero32.2
    first | have hb := hb | have hb := trivial
    repeat' (first | (simp -implicitDefEqProofs (disch := omega) only [hb, L33_0, wV, hb, hcl, hz, oneL_u8, h0, h2, h3, h4, wC, wO, initE, aop, Nat.reduceEqDiff, ↓reduceIte, Nat.reduceAdd, finish, resOf, tupOf, AM.freeze, freeze1, freezeL, closed, nam, namL, if_true, if_false, deref, boxAt, exAt, ldCells, oneL, oneCell, Nat.reduceLeDiff, evL, adopt, rigid, rigidL, trim, Int.reduceEq, Int.reduceMod, Int.reduceDiv, if_pos, if_neg, asI, forall_const, implies_true, chkD, chkO, chkW, effB, reB, vEq, beq_self_eq_true, Nat.reduceSub, Nat.reduceLT, Int.reduceSub, Int.reduceAdd, Int.reduceMul, Int.reduceLT, Int.reduceLE, Int.reduceToNat, optI, aslice, cutSl, cutMs, cutStr, cutOwn]) | ((first | rw [WP_condK] | rw [WP_opsG] | rw [WP_quiG] | rw [WP_dG]); refine And.intro (fun hb => ?_) (fun hb => ?_) <;> (first | have hd := dq1 hb | have hd := dq2 hb | have hd := dq3 hb | have hd := dq4 hb | skip)))
    exact ⟨by rw [strip_u8]; exact u8_closed _, by rw [strip_u8]⟩
theorem h32_of {l : List Int} (h : l.length = 32) : ∃ D : H32, l = D.1 := ⟨⟨l, h⟩, rfl⟩
/-- the check sum's four bytes -/
def sumS (b : List Int) : List Int := (kSum ([105, 110, 118, 111, 105, 99, 101] ++ b)).take 4
theorem sumS_len (b : List Int) : (sumS b).length = 4 := by rw [sumS, List.length_take, kSum_len]; rfl
theorem sumS_bytes (b : List Int) : Bytes (sumS b) := fun c hc => by
  have := kSum_byte _ c (List.mem_of_mem_take hc)
  omega
theorem inv_bytes : Bytes [105, 110, 118, 111, 105, 99, 101] := by unfold Bytes; decide
theorem call_rsum3 (o : AOwn) (b : List Int) (hb : Bytes b) (hn : b.length ≤ 140737488353000) (ho : stripO o = .none ∨ stripO o = .full) (h : Heap) : ag T 38 [.slice o none (b.map u8)] h = some (.agg ((kSum b).map u8), h) := by
  have hc : closedL ([AV.slice o none (b.map u8)].map strip) = true := by
    have := u8_closed b
    simp only [List.map_cons, List.map_nil, strip, closedL, namL, nam, Bool.and_true] at this ⊢
    rcases ho with ho | ho <;> rw [ho] <;> simp only [this] <;> rfl
  have h1 := rsum_ok (stripO o) b hb hn (by rcases ho with ho | ho <;> rw [ho] <;> simp [stripO])
  exact call_pure (T := T) (v := .agg ((kSum b).map u8)) rfl t38 rfl rfl hc (by simpa [strip] using h1)
theorem take4 (D : H32) : D.1.take 4 = [D.1[0]'(by rw [D.2]; omega), D.1[1]'(by rw [D.2]; omega), D.1[2]'(by rw [D.2]; omega), D.1[3]'(by rw [D.2]; omega)] := by
  have h := D.2
  rw [List.take_succ_eq_append_getElem (i := 3) (by omega), List.take_succ_eq_append_getElem (i := 2) (by omega), List.take_succ_eq_append_getElem (i := 1) (by omega), List.take_succ_eq_append_getElem (i := 0) (by omega), List.take_zero]
  rfl
set_option maxHeartbeats 400000 in
theorem rsum_ok4 (b : List Int) (hb : Bytes b) (hn : b.length ≤ 140737488300000) : prun T F22 [.slice .none none (b.map u8)] = some (.slice .full none ((sumS b).map u8)) := by
  refine WP_eq (prun_wp ?_)
  have e1 := fun i h => call_rsum3 (.tok i) ([105, 110, 118, 111, 105, 99, 101] ++ b) (bytes_append inv_bytes hb) (by simp; omega) (.inl rfl) h
  obtain ⟨D, hD⟩ : ∃ D : H32, kSum ([105, 110, 118, 111, 105, 99, 101] ++ b) = D.1 := h32_of (kSum_len _)
  have hDl : D.1.length = 32 := D.2
  have hz : zero32.1.length = 32 := zero32.2
  rw [hD] at e1
  have hS : sumS b = D.1.take 4 := by rw [sumS, hD]
  have g0 := get_u8 (l := D.1) (i := 0) (by omega)
  have g1 := get_u8 (l := D.1) (i := 1) (by omega)
  have g2 := get_u8 (l := D.1) (i := 2) (by omega)
  have g3 := get_u8 (l := D.1) (i := 3) (by omega)
  have hS4 := take4 D
  rw [hS]
  clear hS hD
  generalize D.1[0]'(by omega) = x0 at g0 hS4
  generalize D.1[1]'(by omega) = x1 at g1 hS4
  generalize D.1[2]'(by omega) = x2 at g2 hS4
  generalize D.1[3]'(by omega) = x3 at g3 hS4
  simp only [List.map_append, List.map_cons, List.map_nil, List.cons_append, List.nil_append] at e1
  have ef : fitsB (7 + b.length) 1 = true := by simp [fitsB]; omega
  first | have hb := hb | have hb := trivial
  repeat' (first | (simp -implicitDefEqProofs (disch := omega) only [hb, F22, wV, hDl, hz, g0, g1, g2, g3, hS4, oneL_u8, e1, ef, p38, aappend, elems_slice, setEls, elFits_sc, stripEl_sc, one_int, List.replicate_succ, List.replicate_zero, wC, wO, initE, aop, Nat.reduceEqDiff, ↓reduceIte, Nat.reduceAdd, finish, resOf, tupOf, AM.freeze, freeze1, freezeL, closed, nam, namL, if_true, if_false, deref, boxAt, exAt, ldCells, oneL, oneCell, Nat.reduceLeDiff, evL, adopt, rigid, rigidL, trim, Int.reduceEq, Int.reduceMod, Int.reduceDiv, if_pos, if_neg, asI, forall_const, implies_true, chkD, chkO, chkW, effB, reB, vEq, beq_self_eq_true, Nat.reduceSub, Nat.reduceLT, Int.reduceSub, Int.reduceAdd, Int.reduceMul, Int.reduceLT, Int.reduceLE, Int.reduceToNat, optI, aslice, cutSl, cutMs, cutStr, cutOwn]) | ((first | rw [WP_condK] | rw [WP_opsG] | rw [WP_quiG] | rw [WP_dG]); refine And.intro (fun hb => ?_) (fun hb => ?_) <;> (first | have hd := dq1 hb | have hd := dq2 hb | have hd := dq3 hb | have hd := dq4 hb | skip)))
theorem four_of : ∀ (l : List Int), 4 ≤ l.length → ∃ x0 x1 x2 x3 r, l = x0 :: x1 :: x2 :: x3 :: r
  | [], h => by simp at h
  | [_], h => by simp at h
  | [_, _], h => by simp at h
  | [_, _, _], h => by simp at h
  | a :: b :: c :: d :: r, _ => ⟨a, b, c, d, r, rfl⟩
theorem parts2 (b : List Int) (hb : Bytes b) (hn : b.length ≤ 140737488351232) : PartsR [.slice .full none ([105, 110, 118, 111, 105, 99, 101].map u8), .slice .none none (b.map u8)] [[105, 110, 118, 111, 105, 99, 101], b] := by
  refine ⟨rfl, fun i hi hj => ?_⟩
  match i, hi with
  | 0, _ => exact ⟨inv_bytes, by simp, rfl, .inl ⟨_, rfl⟩⟩
  | 1, _ => exact ⟨hb, hn, by have := u8_closed b; simp only [closed, nam, Bool.true_and]; exact this, .inl ⟨_, rfl⟩⟩
theorem call_ksum2 (b : List Int) (hb : Bytes b) (hn : b.length ≤ 140737488351232) (h : Heap) : ag T 36 [.slice .full none [.slice .full none ([105, 110, 118, 111, 105, 99, 101].map u8), .slice .none none (b.map u8)]] h = some (.agg ((kSum ([105, 110, 118, 111, 105, 99, 101] ++ b)).map u8), h) := by
  have hc := u8_closed b
  have hcl : closed (.slice .full none [.slice .full none ([105, 110, 118, 111, 105, 99, 101].map u8), .slice .none none (b.map u8)]) = true := by
    simp only [closed, closedL, nam, namL, Bool.true_and, Bool.and_true] at hc ⊢
    simp only [hc, Bool.and_true]
    rfl
  have h1 := sum_ok _ _ (parts2 b hb hn) .full hcl (by simp)
  have e : [[105, 110, 118, 111, 105, 99, 101], b].flatten = ([105, 110, 118, 111, 105, 99, 101] ++ b : List Int) := by simp
  rw [e] at h1
  exact call_pure (T := T) (v := .agg ((kSum ([105, 110, 118, 111, 105, 99, 101] ++ b)).map u8)) rfl t36 rfl rfl (by simp only [List.map_cons, List.map_nil, strip, stripO, closedL, namL, Bool.and_true]; exact hcl) (by simpa [strip, stripO] using h1)
set_option maxHeartbeats 400000 in
theorem sum_ok4 (b : List Int) (hb : Bytes b) (hn : b.length ≤ 140737488300000) : prun T F19 [.slice .none none (b.map u8)] = some (.slice .none none ((sumS b).map u8)) := by
  refine WP_eq (prun_wp ?_)
  have e1 := fun h => call_ksum2 b hb (by omega) h
  obtain ⟨D, hD⟩ : ∃ D : H32, kSum ([105, 110, 118, 111, 105, 99, 101] ++ b) = D.1 := h32_of (kSum_len _)
  have hDl : D.1.length = 32 := D.2
  have hz : zero32.1.length = 32 := zero32.2
  rw [hD] at e1
  have hS : sumS b = D.1.take 4 := by rw [sumS, hD]
  have hS4 := take4 D
  rw [hS]
  clear hS hD
  simp only [List.map_cons, List.map_nil] at e1
  first | have hb := hb | have hb := trivial
  repeat' (first | (simp -implicitDefEqProofs (disch := omega) only [hb, F19, wV, hDl, hz, oneL_u8, e1, p36, aappend, elems_slice, setEls, elFits_sc, elFits_slice, stripEl_slice, stripO_full, stripO_none, stripEl_sc, one_int, one_slice, List.replicate_succ, List.replicate_zero, wC, wO, initE, aop, Nat.reduceEqDiff, ↓reduceIte, Nat.reduceAdd, finish, resOf, tupOf, AM.freeze, freeze1, freezeL, closed, nam, namL, if_true, if_false, deref, boxAt, exAt, ldCells, oneL, oneCell, Nat.reduceLeDiff, evL, adopt, rigid, rigidL, trim, Int.reduceEq, Int.reduceMod, Int.reduceDiv, if_pos, if_neg, asI, forall_const, implies_true, chkD, chkO, chkW, effB, reB, vEq, beq_self_eq_true, Nat.reduceSub, Nat.reduceLT, Int.reduceSub, Int.reduceAdd, Int.reduceMul, Int.reduceLT, Int.reduceLE, Int.reduceToNat, optI, aslice, cutSl, cutMs, cutStr, cutOwn]) | ((first | rw [WP_condK] | rw [WP_opsG] | rw [WP_quiG] | rw [WP_dG]); refine And.intro (fun hb => ?_) (fun hb => ?_) <;> (first | have hd := dq1 hb | have hd := dq2 hb | have hd := dq3 hb | have hd := dq4 hb | skip)))
  obtain ⟨x0, x1, x2, x3, r, hr⟩ := four_of D.1 (by omega)
  have hrl : r.length = 28 := by
    have := congrArg List.length hr
    simp at this
    omega
  have e2 : msEls [AObj.box true (D.1.map u8)] 0 0 none 4 = some ((D.1.take 4).map u8) := by
    rw [hr]
    simp [msEls, boxAt, chunks, mkEl, kz]
  have e3 : msOwn [AObj.box true (D.1.map u8)] 0 0 none 4 = .none := by
    simp [msOwn, boxAt, hDl, kz]
  rw [e2, e3]
  simp only [WP, BQ]
  rw [if_pos (u8_closed _)]
end Go.Proofs.Ytejnficfhoekiaa.AM

/- invoice's Bytes. -/
namespace Go.Proofs.Ytejnficfhoekiaa.AM
open Go
set_option maxRecDepth 100000
set_option maxHeartbeats 4000000
set_option linter.unusedSimpArgs false
set_option linter.unusedVariables false
def unV : Option (List Int) → AV
  | some l => .tup [.slice .fresh none (l.map u8), i64 0]
  | none => .tup [.nil, i64 10]
theorem undig_none : ∀ {l : List Int} {i : Nat} (h : i < l.length), dgt l[i] < 0 → undig l = none
  | c :: l, 0, _, hd => by rw [undig, if_pos (show dgt c < 0 from hd)]
  | c :: l, i + 1, h, hd => by
    rw [undig]
    split
    · rfl
    · rw [undig_none (l := l) (i := i) (by simpa using h) hd]; rfl
theorem undig_snoc : ∀ {l : List Int} {c : Int} {ds : List Nat}, undig l = some ds → ¬ dgt c < 0 → undig (l ++ [c]) = some (ds ++ [(dgt c).toNat])
  | [], c, ds, h, hc => by cases h; simp [undig, hc]
  | x :: l, c, ds, h, hc => by
    rw [undig] at h
    split at h
    · cases h
    · rename_i hx
      obtain ⟨r, hr, rfl⟩ := Option.map_eq_some_iff.1 h
      rw [List.cons_append, undig, if_neg hx, undig_snoc hr hc]
      rfl
theorem unS2_none {l : List Int} {i : Nat} (h : i < l.length) (hd : dgt l[i] < 0) : unS2 l = none := by unfold unS2; rw [undig_none h hd]; rfl
theorem unS2_end {l : List Int} {ds : List Nat} {out : List Int} {p : List Bool} (h : undig l = some ds) (hb : bits5 ds = bits8 out ++ p) (ho : Bytes out) (hp : p.length < 8) : unS2 l = if p.length < 5 ∧ val p = 0 then some out else none := by
  unfold unS2 unS
  rw [h, Option.bind_some, hb, eight_bits8 out p ho hp]
theorem bits8_snoc (out : List Int) (q : List Bool) (h : 8 ≤ q.length) : bits8 (out ++ [((val (q.take 8) : Nat) : Int)]) ++ q.drop 8 = bits8 out ++ q := by
  have hb := bitsN_val (q.take 8)
  rw [List.length_take, Nat.min_eq_left h] at hb
  rw [bits8_append, bits8, bits8, List.append_nil, Int.toNat_natCast, hb, List.append_assoc, List.take_append_drop]
theorem call_ix (c : Int) (h : Heap) : ag T 29 [.sc (.string digB), u8 c] h = some (i64 (dgt c), h) := by
  refine call_sc rfl t29 rfl rfl rfl rfl ?_
  refine WP_eq (prun_wp ?_)
  have hx : ∀ h, ag T 46 [.sc (.string digB), u8 c] h = some (i64 (dgt c), h) := fun h => by
    rw [ag_ext e46]
    unfold dgt
    rw [← digB_eq]
    rfl
  first | have hb := hb | have hb := trivial
  repeat' (first | (simp -implicitDefEqProofs (disch := omega) only [hb, F29, hx, wC, initE, aop, Nat.reduceEqDiff, ↓reduceIte, Nat.reduceAdd, finish, resOf, tupOf, AM.freeze, freeze1, freezeL, closed, nam, namL, if_true, if_false, deref, boxAt, exAt, ldCells, oneL, oneCell, Nat.reduceLeDiff, evL, adopt, rigid, rigidL, trim, Int.reduceEq, Int.reduceMod, Int.reduceDiv, if_pos, if_neg, asI, forall_const, implies_true, chkD, chkO, chkW, effB, reB, vEq, beq_self_eq_true, Nat.reduceSub, Nat.reduceLT, Int.reduceSub, Int.reduceAdd, Int.reduceMul, Int.reduceLT, Int.reduceLE, Int.reduceToNat, optI, aslice, cutSl, cutMs, cutStr, cutOwn, cellsOf, one, elCells, lenOf, beqV, beqVL, strip, stripO, convS]) | ((first | rw [WP_condK] | rw [WP_opsG] | rw [WP_quiG] | rw [WP_dG]); refine And.intro (fun hb => ?_) (fun hb => ?_) <;> (first | have hd := dq1 hb | have hd := dq2 hb | have hd := dq3 hb | have hd := dq4 hb | skip)))
theorem bytes_ok (s : List Int) (hs : Bytes s) (hn : s.length ≤ 1000000000000) : prun T F13 [.sc (.string (strOfNums s))] = some (unV (unS2 s)) := by
  refine WP_eq (prun_wp ?_)
  have hsz := st_size s
  first | have hb := hb | have hb := trivial
  repeat' (first | (simp -implicitDefEqProofs (disch := omega) only [hb, F13, hsz, wC, initE, aop, Nat.reduceEqDiff, ↓reduceIte, Nat.reduceAdd, finish, resOf, tupOf, AM.freeze, freeze1, freezeL, closed, nam, namL, if_true, if_false, deref, boxAt, exAt, ldCells, oneL, oneCell, Nat.reduceLeDiff, evL, adopt, rigid, rigidL, trim, Int.reduceEq, Int.reduceMod, Int.reduceDiv, if_pos, if_neg, asI, forall_const, implies_true, chkD, chkO, chkW, effB, reB, vEq, beq_self_eq_true, Nat.reduceSub, Nat.reduceLT, Int.reduceSub, Int.reduceAdd, Int.reduceMul, Int.reduceLT, Int.reduceLE, Int.reduceToNat, optI, aslice, cutSl, cutMs, cutStr, cutOwn, cellsOf, one, elCells, lenOf, beqV, beqVL, strip, stripO, convS]) | ((first | rw [WP_condK] | rw [WP_opsG] | rw [WP_quiG] | rw [WP_dG]); refine And.intro (fun hb => ?_) (fun hb => ?_) <;> (first | have hd := dq1 hb | have hd := dq2 hb | have hd := dq3 hb | have hd := dq4 hb | skip)))
  refine WP_loop (I := fun k e h => ∃ (i : Nat) (p : List Bool) (out : List Int) (ds : List Nat), k + i = s.length ∧ i ≤ s.length ∧ h = [.row none out.length] ∧ getE e 0 = .str (strOfNums s) ∧ getE e 4 = .slice (.tok 0) none (out.map u8) ∧ getE e 5 = u64 ((val p : Nat) : Int) ∧ getE e 6 = i64 ((p.length : Nat) : Int) ∧ getE e 10 = i64 s.length ∧ getE e 11 = i64 i ∧ p.length < 8 ∧ Bytes out ∧ undig (s.take i) = some ds ∧ bits5 ds = bits8 out ++ p ∧ out.length ≤ i) ?_ s.length _ _ ?_
  rotate_left
  · exact ⟨0, [], [], [], by omega, by omega, rfl, rfl, rfl, rfl, rfl, rfl, rfl, by simp, (by intro c hc; cases hc), by simp [undig], rfl, by simp⟩
  rintro k e h ⟨i, p, out, ds, hk, hi, rfl, h0, h4, h5, h6, h10, h11, hp8, hob, hud, hbits, hol⟩
  rw [trim_same' (by simp)]
  have hvp := val_lt p
  have hvp7 : val p < 128 := Nat.lt_of_lt_of_le hvp (Nat.pow_le_pow_right (by omega) (show p.length ≤ 7 by omega))
  by_cases hlt : i < s.length
  · obtain ⟨w, e1, e2⟩ : ∃ w : UInt8, (strOfNums s).data.toList[i]? = some w ∧ (w.toNat : Int) = s[i] := by
      have hg := st_get hs hlt
      obtain ⟨w, hw, he⟩ := Option.map_eq_some_iff.1 hg
      exact ⟨w, hw, by simpa using he⟩
    obtain ⟨d1, d2, d3, _⟩ := dgt_fine (bytes_get hs hlt)
    have hcall := fun h => call_ix s[i] h
    by_cases hneg : dgt s[i] < 0
    · first | have hb := hb | have hb := trivial
      repeat' (first | (simp -implicitDefEqProofs (disch := omega) only [hb, L13_0, h0, h4, h5, h6, h10, h11, e1, e2, hcall, p29, hsz, wC, initE, aop, Nat.reduceEqDiff, ↓reduceIte, Nat.reduceAdd, finish, resOf, tupOf, AM.freeze, freeze1, freezeL, closed, nam, namL, if_true, if_false, deref, boxAt, exAt, ldCells, oneL, oneCell, Nat.reduceLeDiff, evL, adopt, rigid, rigidL, trim, Int.reduceEq, Int.reduceMod, Int.reduceDiv, if_pos, if_neg, asI, forall_const, implies_true, chkD, chkO, chkW, effB, reB, vEq, beq_self_eq_true, Nat.reduceSub, Nat.reduceLT, Int.reduceSub, Int.reduceAdd, Int.reduceMul, Int.reduceLT, Int.reduceLE, Int.reduceToNat, optI, aslice, cutSl, cutMs, cutStr, cutOwn, cellsOf, one, elCells, lenOf, beqV, beqVL, strip, stripO, convS]) | ((first | rw [WP_condK] | rw [WP_opsG] | rw [WP_quiG] | rw [WP_dG]); refine And.intro (fun hb => ?_) (fun hb => ?_) <;> (first | have hd := dq1 hb | have hd := dq2 hb | have hd := dq3 hb | have hd := dq4 hb | skip)))
      rw [unS2_none hlt hneg]
      simp [unV]
    · obtain ⟨d, hdd⟩ := Int.eq_ofNat_of_zero_le (show 0 ≤ dgt s[i] by omega)
      have hd32 : d < 32 := by omega
      obtain ⟨q, hq⟩ : ∃ q, q = p ++ bitsN 5 d := ⟨_, rfl⟩
      have hvq : val q = val p * 32 + d := by rw [hq, val_append, val_bitsN, bitsN_len, Nat.mod_eq_of_lt (by omega)]
      have hql : q.length = p.length + 5 := by rw [hq, List.length_append, bitsN_len]
      have hnew : undig (s.take (i + 1)) = some (ds ++ [d]) := by
        rw [List.take_succ_eq_append_getElem hlt, undig_snoc hud hneg, hdd, Int.toNat_natCast]
      have hnb : bits5 (ds ++ [d]) = bits8 out ++ q := by rw [bits5_append, hbits, bits5, bits5, List.append_nil, hq, List.append_assoc]
      have f1 : abin .shl (.int .u64 (val p : Int)) (.int .u64 5) = some (.int .u64 ((val p * 2 ^ 5 : Nat) : Int)) := shl_n .u64 (val p) 5 (by omega) (by omega)
      have f2 := or_low (val p) d 5 (by omega) (by omega)
      rw [show val p * 2 ^ 5 + d = val q by omega] at f2
      by_cases hq8 : 8 ≤ q.length
      · obtain ⟨m, hm⟩ : ∃ m, q.length = m + 8 := ⟨q.length - 8, by omega⟩
        have f3 := shr_n .u64 (val q) m (by simp [IntKind.bits]; omega)
        have f4 := shl_1 m (by omega)
        have f5 := and_mask (val q) m (by omega) (by omega)
        have f6 : (p.length : Int) + 5 - 8 = (m : Int) := by omega
        have hpw : (2 : Nat) ^ m < 2 ^ 64 := Nat.pow_lt_pow_right (by omega) (by omega)
        have hpw0 : 0 < (2 : Nat) ^ m := Nat.pow_pos (by omega)
        have hvt : val (q.take 8) = val q / 2 ^ m := by rw [val_take _ 8 hq8, show q.length - 8 = m by omega]
        have hvt8 : val (q.take 8) < 256 := by
          have := val_lt (q.take 8)
          rwa [List.length_take, Nat.min_eq_left hq8] at this
        obtain ⟨x, hx⟩ : ∃ x, val q / 2 ^ m = x := ⟨_, rfl⟩
        rw [hx] at f3 hvt
        have f7 : IntKind.u8.wrap (x : Int) = (x : Int) := by rw [w_u8]; omega
        have ef : fitsB (out.length + 1) 1 = true := by simp [fitsB]; omega
        first | have hb := hb | have hb := trivial
        repeat' (first | (simp -implicitDefEqProofs (disch := omega) only [hb, L13_0, h0, h4, h5, h6, h10, h11, e1, e2, hcall, p29, hdd, f1, f2, f3, f4, f5, f6, f7, ef, aappend, elemsOf, setEls, elFits_sc, stripEl_sc, one_int, List.replicate_succ, List.replicate_zero, wC, initE, aop, Nat.reduceEqDiff, ↓reduceIte, Nat.reduceAdd, finish, resOf, tupOf, AM.freeze, freeze1, freezeL, closed, nam, namL, if_true, if_false, deref, boxAt, exAt, ldCells, oneL, oneCell, Nat.reduceLeDiff, evL, adopt, rigid, rigidL, trim, Int.reduceEq, Int.reduceMod, Int.reduceDiv, if_pos, if_neg, asI, forall_const, implies_true, chkD, chkO, chkW, effB, reB, vEq, beq_self_eq_true, Nat.reduceSub, Nat.reduceLT, Int.reduceSub, Int.reduceAdd, Int.reduceMul, Int.reduceLT, Int.reduceLE, Int.reduceToNat, optI, aslice, cutSl, cutMs, cutStr, cutOwn, cellsOf, one, elCells, lenOf, beqV, beqVL, strip, stripO, convS]) | ((first | rw [WP_condK] | rw [WP_opsG] | rw [WP_quiG] | rw [WP_dG]); refine And.intro (fun hb => ?_) (fun hb => ?_) <;> (first | have hd := dq1 hb | have hd := dq2 hb | have hd := dq3 hb | have hd := dq4 hb | skip)))
        have hdl : (q.drop 8).length = m := by rw [List.length_drop]; omega
        refine ⟨k - 1, by omega, i + 1, q.drop 8, out ++ [(x : Int)], ds ++ [d], by omega, by omega, by simp, by simp, ?_, by rw [hdl], rfl, by omega, ?_, hnew, ?_, by simp; omega⟩
        · have hdm : val (q.drop 8) = val q % 2 ^ m := by rw [val_drop _ 8 hq8, show q.length - 8 = m by omega]
          rw [hdm]
        · refine bytes_append hob fun c hc => ?_
          rw [List.mem_singleton.1 hc]
          omega
        · rw [hnb, ← bits8_snoc out q hq8, hvt]
      · first | have hb := hb | have hb := trivial
        repeat' (first | (simp -implicitDefEqProofs (disch := omega) only [hb, L13_0, h0, h4, h5, h6, h10, h11, e1, e2, hcall, p29, hdd, f1, f2, wC, initE, aop, Nat.reduceEqDiff, ↓reduceIte, Nat.reduceAdd, finish, resOf, tupOf, AM.freeze, freeze1, freezeL, closed, nam, namL, if_true, if_false, deref, boxAt, exAt, ldCells, oneL, oneCell, Nat.reduceLeDiff, evL, adopt, rigid, rigidL, trim, Int.reduceEq, Int.reduceMod, Int.reduceDiv, if_pos, if_neg, asI, forall_const, implies_true, chkD, chkO, chkW, effB, reB, vEq, beq_self_eq_true, Nat.reduceSub, Nat.reduceLT, Int.reduceSub, Int.reduceAdd, Int.reduceMul, Int.reduceLT, Int.reduceLE, Int.reduceToNat, optI, aslice, cutSl, cutMs, cutStr, cutOwn, cellsOf, one, elCells, lenOf, beqV, beqVL, strip, stripO, convS]) | ((first | rw [WP_condK] | rw [WP_opsG] | rw [WP_quiG] | rw [WP_dG]); refine And.intro (fun hb => ?_) (fun hb => ?_) <;> (first | have hd := dq1 hb | have hd := dq2 hb | have hd := dq3 hb | have hd := dq4 hb | skip)))
        exact ⟨k - 1, by omega, i + 1, q, out, ds ++ [d], by omega, by omega, rfl, rfl, rfl, by rw [hql]; rfl, rfl, by omega, hob, hnew, hnb, by omega⟩
  · obtain rfl : i = s.length := by omega
    rw [List.take_length] at hud
    have hend := unS2_end hud hbits hob hp8
    first | have hb := hb | have hb := trivial
    repeat' (first | (simp -implicitDefEqProofs (disch := omega) only [hb, L13_0, h0, h4, h5, h6, h10, h11, wC, initE, aop, Nat.reduceEqDiff, ↓reduceIte, Nat.reduceAdd, finish, resOf, tupOf, AM.freeze, freeze1, freezeL, closed, nam, namL, if_true, if_false, deref, boxAt, exAt, ldCells, oneL, oneCell, Nat.reduceLeDiff, evL, adopt, rigid, rigidL, trim, Int.reduceEq, Int.reduceMod, Int.reduceDiv, if_pos, if_neg, asI, forall_const, implies_true, chkD, chkO, chkW, effB, reB, vEq, beq_self_eq_true, Nat.reduceSub, Nat.reduceLT, Int.reduceSub, Int.reduceAdd, Int.reduceMul, Int.reduceLT, Int.reduceLE, Int.reduceToNat, optI, aslice, cutSl, cutMs, cutStr, cutOwn, cellsOf, one, elCells, lenOf, beqV, beqVL, strip, stripO, convS]) | ((first | rw [WP_condK] | rw [WP_opsG] | rw [WP_quiG] | rw [WP_dG]); refine And.intro (fun hb => ?_) (fun hb => ?_) <;> (first | have hd := dq1 hb | have hd := dq2 hb | have hd := dq3 hb | have hd := dq4 hb | skip)))
    · rw [hend, if_neg (by omega)]; rfl
    · refine ⟨u8_closed _, ?_⟩
      rw [hend, if_pos ⟨by omega, by simp at hb; omega⟩]; rfl
    · rw [hend, if_neg (by simp at hb; omega)]; rfl
end Go.Proofs.Ytejnficfhoekiaa.AM

/- the reference's Bytes. -/
namespace Go.Proofs.Ytejnficfhoekiaa.AM
open Go
set_option maxRecDepth 100000
set_option maxHeartbeats 4000000
set_option linter.unusedSimpArgs false
set_option linter.unusedVariables false
def bV (b : Bool) : AV := i64 (b.toNat : Nat)
theorem bV_get {l : List Bool} {i : Nat} (h : i < l.length) : (l.map bV)[i]? = some (i64 ((l[i].toNat : Nat) : Int)) := by rw [List.getElem?_map, List.getElem?_eq_getElem h]; rfl
def lastK (c : Int) (k : Nat) : Int := (List.range k).foldl (fun (d : Int) k => if digI k = c then (k : Int) else d) (-1)
theorem lastK_succ (c : Int) (k : Nat) : lastK c (k + 1) = if digI k = c then (k : Int) else lastK c k := by
  unfold lastK
  rw [List.range_succ, List.foldl_append]
  rfl
theorem bV_append (a b : List Bool) : (a ++ b).map bV = a.map bV ++ b.map bV := List.map_append
end Go.Proofs.Ytejnficfhoekiaa.AM

/- The calls of Digits and Bytes; InvoiceDigits' run. -/
namespace Go.Proofs.Ytejnficfhoekiaa.AM
open Go
set_option maxRecDepth 100000
set_option maxHeartbeats 4000000
set_option linter.unusedSimpArgs false
set_option linter.unusedVariables false
theorem call_digits (o : AOwn) (ho : stripO o = .none) (l : List Int) (hl : Bytes l) (hn : l.length ≤ 1000000000000) (h : Heap) : ag T 12 [.slice o none (l.map u8)] h = some (.str (strOfNums (digitsS l)), h) := by
  have hs : ([AV.slice o none (l.map u8)]).map strip = [AV.slice .none none (l.map u8)] := by simp [strip, ho]
  have hc : closedL [AV.slice .none none (l.map u8)] = true := by
    have := u8_closed l
    simp only [closedL, namL, nam, Bool.and_true, Bool.true_and] at this ⊢
    exact this
  exact call_pure (T := T) rfl t12 rfl rfl (by rw [hs]; exact hc) (by rw [hs]; exact digits_ok l hl hn)
theorem call_rdigits (o : AOwn) (ho : stripO o = .none) (l : List Int) (hl : Bytes l) (hn : l.length ≤ 1000000000000) (h : Heap) : ag T 15 [.slice o none (l.map u8)] h = some (.str (strOfNums (digitsS l)), h) := by
  have hs : ([AV.slice o none (l.map u8)]).map strip = [AV.slice .none none (l.map u8)] := by simp [strip, ho]
  have hc : closedL [AV.slice .none none (l.map u8)] = true := by
    have := u8_closed l
    simp only [closedL, namL, nam, Bool.and_true, Bool.true_and] at this ⊢
    exact this
  exact call_pure (T := T) rfl t15 rfl rfl (by rw [hs]; exact hc) (by rw [hs]; exact rdigits_ok l hl hn)
theorem call_bytes (s : List Int) (hs : Bytes s) (hn : s.length ≤ 1000000000000) (h : Heap) : ag T 13 [.str (strOfNums s)] h = some (adopt (unV (unS2 s)) h) :=
  call_pure (T := T) rfl t13 rfl rfl rfl (bytes_ok s hs hn)
end Go.Proofs.Ytejnficfhoekiaa.AM

/- layer 01: what is encoded is decoded again. -/
namespace Go.Proofs.Ytejnficfhoekiaa.AM
open Go
set_option maxRecDepth 100000
set_option maxHeartbeats 4000000
set_option linter.unusedSimpArgs false
set_option linter.unusedVariables false
theorem flatS_cons (r : Rc) (l : List Rc) : flatS (r :: l) = recS r ++ flatS l := by unfold flatS; rw [List.flatMap_cons]
theorem numS_pos (x : Int) : 0 < (numS x).length := by
  have := numS_len x
  have := sizeS_pos x
  omega
theorem dec_fwd (ks : List Int) : ∀ (l acc : List Rc) (f : Nat), l.length ≤ f → ascB (acc ++ l) = true → (∀ r ∈ l, Rc.ok r) → (∀ r ∈ l, r.t % 2 = 0 → r.t ∈ ks) → (flatS l).length ≤ 65536 → decL ks f acc (flatS l) = (acc ++ l, 0)
  | [], acc, f, _, _, _, _, _ => by rw [show flatS [] = [] from rfl, decL_nil, List.append_nil]
  | r :: l, acc, f, hf, ha, hok, hev, hB => by
    obtain ⟨f, rfl⟩ : ∃ g, f = g + 1 := ⟨f - 1, by rw [List.length_cons] at hf; omega⟩
    have hr := hok r List.mem_cons_self
    obtain ⟨⟨t0, t1⟩, hv⟩ := hr
    have hfl := flatS_cons r l
    have hlen : (flatS (r :: l)).length = (numS r.t).length + (numS r.v.length).length + r.v.length + (flatS l).length := by
      rw [hfl]; unfold recS; simp only [List.length_append]
    have hp := numS_pos r.t
    have e0 : flatS (r :: l) = numS r.t ++ (numS r.v.length ++ (r.v ++ flatS l)) := by rw [hfl]; unfold recS; simp only [List.append_assoc]
    have hr1 := readS_num r.t t0 t1 (numS r.v.length ++ (r.v ++ flatS l))
    have hr2 := readS_num r.v.length (by omega) (by omega) (r.v ++ flatS l)
    rw [e0, decL_step ks f acc _ (by intro h; have := congrArg List.length h; simp only [List.length_append, List.length_nil] at this; omega) _ _ _ _ _ _ _ (r.v ++ flatS l) hr1 (by rw [Int.toNat_natCast, List.drop_left]) hr2 (by rw [Int.toNat_natCast, List.drop_left])]
    have ht : topB acc r.t = true := by
      unfold topB
      cases hg : acc.getLast? with
      | none => rfl
      | some q =>
        have hne : acc ≠ [] := by intro h; rw [h] at hg; cases hg
        have hpos : 0 < acc.length := List.length_pos_iff.2 hne
        have := ascB_at (l := acc ++ r :: l) (i := acc.length - 1) (by rw [List.length_append, List.length_cons]; omega) ha
        rw [List.getElem_append_left (by omega), List.getElem_append_right (by omega)] at this
        rw [List.getLast?_eq_getElem?, List.getElem?_eq_getElem (by omega)] at hg
        cases hg
        have e2 : acc.length - 1 + 1 - acc.length = 0 := by omega
        simp only [e2, List.getElem_cons_zero] at this
        exact decide_eq_true this
    rw [if_neg (by simp), if_neg (by rw [ht]; decide), if_neg (by simp), if_neg (by rw [List.length_append]; omega), if_neg (fun hh => hh.2 (hev r List.mem_cons_self hh.1)), Int.toNat_natCast, List.take_left, List.drop_left, dec_fwd ks l (acc ++ [r]) f (by rw [List.length_cons] at hf; omega) (by rw [List.append_assoc]; exact ha) (fun q hq => hok q (List.mem_cons_of_mem _ hq)) (fun q hq => hev q (List.mem_cons_of_mem _ hq)) (by omega)]
    rw [List.append_assoc]; rfl
theorem dec_enc (ks : List Int) (l : List Rc) (hok : ∀ r ∈ l, Rc.ok r) (hev : ∀ r ∈ l, r.t % 2 = 0 → r.t ∈ ks) (s : List Int) (h : encS l = (s, 0)) : decS ks s = (l, 0) := by
  unfold encS at h
  split at h
  · rename_i ha
    split at h
    · rename_i hl
      cases h
      unfold decS
      rw [if_neg (by omega)]
      have := dec_fwd ks l [] 64 hl.1 ha hok hev hl.2
      rw [List.nil_append] at this
      exact this
    · cases h
  · cases h
end Go.Proofs.Ytejnficfhoekiaa.AM

/- invoice: what a text is as an invoice; calls. -/
namespace Go.Proofs.Ytejnficfhoekiaa.AM
open Go
set_option maxRecDepth 100000
set_option maxHeartbeats 1000000
set_option linter.unusedSimpArgs false
set_option linter.unusedVariables false
def h32S (l : List Int) : H32 := if h : l.length = 32 then ⟨l, h⟩ else zero32
theorem h32S_val {l : List Int} (h : l.length = 32) : (h32S l).1 = l := by unfold h32S; rw [dif_pos h]
theorem h32S_self (x : H32) : h32S x.1 = x := by unfold h32S; rw [dif_pos x.2]
/-- the value of a type, of a length (below 0: any) -/
def valS (t n : Int) (l : List Rc) : Option (List Int) := (findS t l).bind fun r => if n < 0 ∨ (r.v.length : Int) = n then some r.v else none
def chkI (i : Iv) : Option Iv := if MayI i then some i else none
def ivOf (l : List Rc) : Option Iv :=
  (valS 1 1 l).bind fun nd => (valS 3 1 l).bind fun kd => (valS 7 32 l).bind fun sc => (valS 9 8 l).bind fun am => (valS 11 4 l).bind fun ex => (valS 13 (-1) l).bind fun tx =>
    if numW kd = 3 then chkI ⟨numW nd, numW kd, zero32, h32S sc, numW am, numW ex, tx⟩
    else (valS 5 32 l).bind fun hh => chkI ⟨numW nd, numW kd, h32S hh, h32S sc, numW am, numW ex, tx⟩
def decB (b : List Int) : Iv × Int := if (decS [] b).2 ≠ 0 then (Iv.zero, 10) else match ivOf (decS [] b).1 with | none => (Iv.zero, 10) | some i => (i, 0)
def decI (s : List Int) : Iv × Int :=
  if s.take 3 ≠ [116, 104, 49] then (Iv.zero, 10) else match unS2 (s.drop 3) with
    | none => (Iv.zero, 10)
    | some all => if all.length < 4 then (Iv.zero, 10) else if sumS (all.take (all.length - 4)) ≠ all.drop (all.length - 4) then (Iv.zero, 90) else decB (all.take (all.length - 4))
theorem call_number (o : AOwn) (ho : stripO o = .none) (l : List Int) (hl : Bytes l) (hn : l.length ≤ 4611686018427387904) (h : Heap) : ag T 45 [.slice o none (l.map u8)] h = some (i64 (numW l), h) :=
  call_pure (T := T) (v := i64 (numW l)) rfl t45 rfl rfl (by have := u8_closed l; simp only [List.map_cons, List.map_nil, strip, ho, closedL, namL, nam, Bool.and_true, Bool.true_and] at this ⊢; exact this) (by simpa [strip, ho] using number_ok l hl hn)
theorem call_rnumber (o : AOwn) (ho : stripO o = .none) (l : List Int) (hl : Bytes l) (hn : l.length ≤ 4611686018427387904) (h : Heap) : ag T 32 [.slice o none (l.map u8)] h = some (i64 (numW l), h) :=
  call_pure (T := T) (v := i64 (numW l)) rfl t32 rfl rfl (by have := u8_closed l; simp only [List.map_cons, List.map_nil, strip, ho, closedL, namL, nam, Bool.and_true, Bool.true_and] at this ⊢; exact this) (by simpa [strip, ho] using rnumber_ok l hl hn)
theorem call_hash (o : AOwn) (ho : stripO o = .none) (l : List Int) (hl : l.length = 32) (h : Heap) : ag T 33 [.slice o none (l.map u8)] h = some (.agg ((h32S l).1.map u8), h) := by
  have h1 := hash_ok (h32S l)
  rw [h32S_val hl] at h1 ⊢
  exact call_pure (T := T) (v := .agg (l.map u8)) rfl t33 rfl rfl (by have := u8_closed l; simp only [List.map_cons, List.map_nil, strip, ho, closedL, namL, nam, Bool.and_true, Bool.true_and] at this ⊢; exact this) (by simpa [strip, ho] using h1)
theorem call_rsum4 (b : List Int) (hb : Bytes b) (hn : b.length ≤ 140737488300000) (h : Heap) : ag T 22 [.slice .none none (b.map u8)] h = some (.slice .full none ((sumS b).map u8), h) :=
  call_pure (T := T) (v := .slice .full none ((sumS b).map u8)) rfl t22 rfl rfl (by have := u8_closed b; simp only [List.map_cons, List.map_nil, strip, stripO, closedL, namL, nam, Bool.and_true, Bool.true_and] at this ⊢; exact this) (by simpa [strip, stripO] using rsum_ok4 b hb hn)
theorem call_sum4 (o : AOwn) (ho : stripO o = .none) (b : List Int) (hb : Bytes b) (hn : b.length ≤ 140737488300000) (h : Heap) : ag T 19 [.slice o none (b.map u8)] h = some (.slice .none none ((sumS b).map u8), h) :=
  call_pure (T := T) (v := .slice .none none ((sumS b).map u8)) rfl t19 rfl rfl (by have := u8_closed b; simp only [List.map_cons, List.map_nil, strip, ho, closedL, namL, nam, Bool.and_true, Bool.true_and] at this ⊢; exact this) (by simpa [strip, ho] using sum_ok4 b hb hn)
theorem call_may (i : Iv) (ht : Bytes i.t) (hn : i.t.length ≤ 140737488351232) (h : Heap) : ag T 9 [.agg (ivC i)] h = some (.bool (decide (MayI i)), h) :=
  call_pure (T := T) (v := .bool (decide (MayI i))) rfl t9 rfl rfl (by simp only [List.map_cons, List.map_nil, strip, closedL, namL, nam, Bool.and_true]; exact iv_closed i) (may_ok i ht hn)
theorem call_rmay (i : Iv) (ht : Bytes i.t) (hn : i.t.length ≤ 140737488351232) (h : Heap) : ag T 10 [.agg (ivC i)] h = some (.bool (decide (MayI i)), h) :=
  call_pure (T := T) (v := .bool (decide (MayI i))) rfl t10 rfl rfl (by simp only [List.map_cons, List.map_nil, strip, closedL, namL, nam, Bool.and_true]; exact iv_closed i) (rmay_ok i ht hn)
theorem recs_closed (o : AOwn) (ho : stripO o = .none) (l : List Rc) (r : List AV) (hr : closedL (r.map strip) = true) : closedL ((AV.slice o (some 2) (l.map Rc.av) :: r).map strip) = true := by
  have h1 := rc_closed l
  simp only [List.map_cons, strip, ho, closedL, namL, nam, Bool.true_and, Bool.and_eq_true] at h1 hr ⊢
  exact ⟨h1, hr⟩
/-- the reference's find, as it is called -/
theorem call_rfind (l : List Rc) (t n : Int) (hv : ∀ r ∈ l, r.v.length ≤ 65536) (hn : l.length ≤ 64) : ∃ (v : AV) (b : Bool), (∀ o, stripO o = .none → ∀ h, ag T 31 [.slice o (some 2) (l.map Rc.av), u64 t, i64 n] h = some (.tup [v, .bool b], h)) ∧ ((b = true ∧ ∃ x, valS t n l = some x ∧ v = .slice .none none (x.map u8)) ∨ (b = false ∧ valS t n l = none)) := by
  have h1 := rfind_ok l t n (fun r hr => by have := hv r hr; omega) (by omega)
  have h2 : ∀ o, stripO o = .none → ∀ h, ag T 31 [.slice o (some 2) (l.map Rc.av), u64 t, i64 n] h = some (adopt (findR t n l) h) := fun o ho h =>
    call_pure (T := T) rfl t31 rfl rfl (recs_closed o ho l _ rfl) (by simpa [strip, ho] using h1)
  unfold valS
  unfold findR at h2
  cases hf : findS t l with
  | none =>
    rw [hf] at h2
    exact ⟨_, _, h2, .inr ⟨rfl, rfl⟩⟩
  | some r =>
    rw [hf] at h2
    by_cases hc : n < 0 ∨ (r.v.length : Int) = n
    · refine ⟨_, _, h2, .inl ⟨?_, r.v, ?_, rfl⟩⟩
      · simpa using hc
      · simp [hc]
    · refine ⟨_, _, h2, .inr ⟨?_, ?_⟩⟩
      · simp only [not_or] at hc
        simp [hc]
      · simp [hc]
theorem valS_in {t n : Int} {l : List Rc} {x : List Int} (h : valS t n l = some x) : (∃ r ∈ l, r.v = x) ∧ (0 ≤ n → (x.length : Int) = n) := by
  obtain ⟨r, hr, h2⟩ := Option.bind_eq_some_iff.1 h
  split at h2
  · rename_i hc
    cases h2
    exact ⟨⟨r, (findS_mem hr).1, rfl⟩, fun hn => by rcases hc with hc | hc <;> omega⟩
  · cases h2
end Go.Proofs.Ytejnficfhoekiaa.AM

/- invoice: the reference's Decode. -/
namespace Go.Proofs.Ytejnficfhoekiaa.AM
open Go
set_option maxRecDepth 100000
set_option maxHeartbeats 1000000
set_option linter.unusedSimpArgs false
set_option linter.unusedVariables false
def decV (p : Iv × Int) : AV := .tup [.agg (ivC p.1), i64 p.2]
theorem th1_eq : bs [116, 104, 49] = strOfNums [116, 104, 49] := rfl
theorem th1_bytes : Bytes [116, 104, 49] := by unfold Bytes; decide
theorem decV_err (e : Int) : AV.tup [.agg (ivC Iv.zero), i64 e] = decV (Iv.zero, e) := rfl
end Go.Proofs.Ytejnficfhoekiaa.AM

/- invoice: the front, bytes.Equal; read's closure. -/
namespace Go.Proofs.Ytejnficfhoekiaa.AM
open Go
set_option maxRecDepth 100000
set_option maxHeartbeats 1000000
set_option linter.unusedSimpArgs false
set_option linter.unusedVariables false
theorem call_prefix (s : List Int) (hs : Bytes s) (hn : s.length ≤ 1000000000000) (h : Heap) : ag T 55 [.str (strOfNums s), .str (strOfNums [116, 104, 49])] h = some (.bool (decide (s.take 3 = [116, 104, 49])), h) := by
  refine call_sc rfl t55 rfl rfl rfl rfl ?_
  refine WP_eq (prun_wp ?_)
  have hsz := st_size s
  have hsz3 : (strOfNums [116, 104, 49]).size = 3 := st_size _
  by_cases hl3 : s.length < 3
  · have hne : ¬ s.take 3 = [116, 104, 49] := fun hh => by
      have := congrArg List.length hh
      rw [List.length_take] at this
      simp at this
      omega
    rw [decide_eq_false hne]
    first | have hb := hb | have hb := trivial
    repeat' (first | (simp -implicitDefEqProofs (disch := omega) only [hb, F55, hsz, hsz3, wC, wO, initE, aop, Nat.reduceEqDiff, ↓reduceIte, Nat.reduceAdd, finish, resOf, tupOf, AM.freeze, freeze1, freezeL, closed, nam, namL, if_true, if_false, deref, boxAt, exAt, ldCells, oneL, oneCell, Nat.reduceLeDiff, evL, adopt, rigid, rigidL, trim, Int.reduceEq, Int.reduceMod, Int.reduceDiv, if_pos, if_neg, asI, forall_const, implies_true, chkD, chkO, chkW, effB, reB, vEq, beq_self_eq_true, Nat.reduceSub, Nat.reduceLT, Int.reduceSub, Int.reduceAdd, Int.reduceMul, Int.reduceLT, Int.reduceLE, Int.reduceToNat, optI, aslice, cutSl, cutMs, cutStr, cutOwn]) | ((first | rw [WP_condK] | rw [WP_opsG] | rw [WP_quiG] | rw [WP_dG]); refine And.intro (fun hb => ?_) (fun hb => ?_) <;> (first | have hd := dq1 hb | have hd := dq2 hb | have hd := dq3 hb | have hd := dq4 hb | skip)))
  · have hct3 : (strOfNums s).extract 0 3 = strOfNums (s.take 3) := by rw [st_cut, List.drop_zero]
    have he := st_eq (take_bytes hs 3) th1_bytes
    first | have hb := hb | have hb := trivial
    repeat' (first | (simp -implicitDefEqProofs (disch := omega) only [hb, F55, hsz, hsz3, hct3, he, wC, wO, initE, aop, Nat.reduceEqDiff, ↓reduceIte, Nat.reduceAdd, finish, resOf, tupOf, AM.freeze, freeze1, freezeL, closed, nam, namL, if_true, if_false, deref, boxAt, exAt, ldCells, oneL, oneCell, Nat.reduceLeDiff, evL, adopt, rigid, rigidL, trim, Int.reduceEq, Int.reduceMod, Int.reduceDiv, if_pos, if_neg, asI, forall_const, implies_true, chkD, chkO, chkW, effB, reB, vEq, beq_self_eq_true, Nat.reduceSub, Nat.reduceLT, Int.reduceSub, Int.reduceAdd, Int.reduceMul, Int.reduceLT, Int.reduceLE, Int.reduceToNat, optI, aslice, cutSl, cutMs, cutStr, cutOwn]) | ((first | rw [WP_condK] | rw [WP_opsG] | rw [WP_quiG] | rw [WP_dG]); refine And.intro (fun hb => ?_) (fun hb => ?_) <;> (first | have hd := dq1 hb | have hd := dq2 hb | have hd := dq3 hb | have hd := dq4 hb | skip)))
theorem call_cut (s : List Int) (hs : Bytes s) (hn : s.length ≤ 1000000000000) (h : Heap) : ag T 25 [.str (strOfNums s), .str (strOfNums [116, 104, 49])] h = some (.tup [.str (strOfNums (if s.take 3 = [116, 104, 49] then s.drop 3 else s)), .bool (decide (s.take 3 = [116, 104, 49]))], h) := by
  have h1 : ∀ h, ag T 39 [.str (strOfNums s), .str (strOfNums [116, 104, 49])] h = some (.tup [.str (strOfNums (if s.take 3 = [116, 104, 49] then s.drop 3 else s)), .bool (decide (s.take 3 = [116, 104, 49]))], h) := fun h => by
    refine call_tup rfl t39 rfl rfl rfl rfl ?_
    refine WP_eq (prun_wp ?_)
    have hc := fun h => call_prefix s hs hn h
    have hsz := st_size s
    have hsz3 : (strOfNums [116, 104, 49]).size = 3 := st_size _
    by_cases hpre : s.take 3 = [116, 104, 49]
    · have hl3 : 3 ≤ s.length := by
        have := congrArg List.length hpre
        rw [List.length_take] at this
        simp at this
        omega
      have hct : (strOfNums s).extract 3 s.length = strOfNums (s.drop 3) := by rw [st_cut, List.take_length]
      rw [decide_eq_true hpre] at hc ⊢
      rw [if_pos hpre]
      first | have hb := hb | have hb := trivial
      repeat' (first | (simp -implicitDefEqProofs (disch := omega) only [hb, F39, hc, hsz, hsz3, hct, wC, wO, initE, aop, Nat.reduceEqDiff, ↓reduceIte, Nat.reduceAdd, finish, resOf, tupOf, AM.freeze, freeze1, freezeL, closed, nam, namL, if_true, if_false, deref, boxAt, exAt, ldCells, oneL, oneCell, Nat.reduceLeDiff, evL, adopt, rigid, rigidL, trim, Int.reduceEq, Int.reduceMod, Int.reduceDiv, if_pos, if_neg, asI, forall_const, implies_true, chkD, chkO, chkW, effB, reB, vEq, beq_self_eq_true, Nat.reduceSub, Nat.reduceLT, Int.reduceSub, Int.reduceAdd, Int.reduceMul, Int.reduceLT, Int.reduceLE, Int.reduceToNat, optI, aslice, cutSl, cutMs, cutStr, cutOwn]) | ((first | rw [WP_condK] | rw [WP_opsG] | rw [WP_quiG] | rw [WP_dG]); refine And.intro (fun hb => ?_) (fun hb => ?_) <;> (first | have hd := dq1 hb | have hd := dq2 hb | have hd := dq3 hb | have hd := dq4 hb | skip)))
    · rw [decide_eq_false hpre] at hc ⊢
      rw [if_neg hpre]
      first | have hb := hb | have hb := trivial
      repeat' (first | (simp -implicitDefEqProofs (disch := omega) only [hb, F39, hc, hsz, hsz3, wC, wO, initE, aop, Nat.reduceEqDiff, ↓reduceIte, Nat.reduceAdd, finish, resOf, tupOf, AM.freeze, freeze1, freezeL, closed, nam, namL, if_true, if_false, deref, boxAt, exAt, ldCells, oneL, oneCell, Nat.reduceLeDiff, evL, adopt, rigid, rigidL, trim, Int.reduceEq, Int.reduceMod, Int.reduceDiv, if_pos, if_neg, asI, forall_const, implies_true, chkD, chkO, chkW, effB, reB, vEq, beq_self_eq_true, Nat.reduceSub, Nat.reduceLT, Int.reduceSub, Int.reduceAdd, Int.reduceMul, Int.reduceLT, Int.reduceLE, Int.reduceToNat, optI, aslice, cutSl, cutMs, cutStr, cutOwn]) | ((first | rw [WP_condK] | rw [WP_opsG] | rw [WP_quiG] | rw [WP_dG]); refine And.intro (fun hb => ?_) (fun hb => ?_) <;> (first | have hd := dq1 hb | have hd := dq2 hb | have hd := dq3 hb | have hd := dq4 hb | skip)))
  refine call_tup rfl t25 rfl rfl rfl rfl ?_
  refine WP_eq (prun_wp ?_)
  first | have hb := hb | have hb := trivial
  repeat' (first | (simp -implicitDefEqProofs (disch := omega) only [hb, F25, h1, wC, wO, initE, aop, Nat.reduceEqDiff, ↓reduceIte, Nat.reduceAdd, finish, resOf, tupOf, AM.freeze, freeze1, freezeL, closed, nam, namL, if_true, if_false, deref, boxAt, exAt, ldCells, oneL, oneCell, Nat.reduceLeDiff, evL, adopt, rigid, rigidL, trim, Int.reduceEq, Int.reduceMod, Int.reduceDiv, if_pos, if_neg, asI, forall_const, implies_true, chkD, chkO, chkW, effB, reB, vEq, beq_self_eq_true, Nat.reduceSub, Nat.reduceLT, Int.reduceSub, Int.reduceAdd, Int.reduceMul, Int.reduceLT, Int.reduceLE, Int.reduceToNat, optI, aslice, cutSl, cutMs, cutStr, cutOwn]) | ((first | rw [WP_condK] | rw [WP_opsG] | rw [WP_quiG] | rw [WP_dG]); refine And.intro (fun hb => ?_) (fun hb => ?_) <;> (first | have hd := dq1 hb | have hd := dq2 hb | have hd := dq3 hb | have hd := dq4 hb | skip)))
theorem call_equal (o p : AOwn) (ho : stripO o = .none) (hp : stripO p = .none) (a b : List Int) (ha : Bytes a) (hb : Bytes b) (h : Heap) : ag T 26 [.slice o none (a.map u8), .slice p none (b.map u8)] h = some (.bool (decide (a = b)), h) := by
  have h1 : prun T F26 [.slice .none none (a.map u8), .slice .none none (b.map u8)] = some (.bool (decide (a = b))) := by
    refine WP_eq (prun_wp ?_)
    have e1 := byteEls_u8 a
    have e2 := byteEls_u8 b
    have e3 := st_eq ha hb
    first | have hb := hb | have hb := trivial
    repeat' (first | (simp -implicitDefEqProofs (disch := omega) only [hb, F26, e1, e2, e3, convS_slice, wC, wO, initE, aop, Nat.reduceEqDiff, ↓reduceIte, Nat.reduceAdd, finish, resOf, tupOf, AM.freeze, freeze1, freezeL, closed, nam, namL, if_true, if_false, deref, boxAt, exAt, ldCells, oneL, oneCell, Nat.reduceLeDiff, evL, adopt, rigid, rigidL, trim, Int.reduceEq, Int.reduceMod, Int.reduceDiv, if_pos, if_neg, asI, forall_const, implies_true, chkD, chkO, chkW, effB, reB, vEq, beq_self_eq_true, Nat.reduceSub, Nat.reduceLT, Int.reduceSub, Int.reduceAdd, Int.reduceMul, Int.reduceLT, Int.reduceLE, Int.reduceToNat, optI, aslice, cutSl, cutMs, cutStr, cutOwn]) | ((first | rw [WP_condK] | rw [WP_opsG] | rw [WP_quiG] | rw [WP_dG]); refine And.intro (fun hb => ?_) (fun hb => ?_) <;> (first | have hd := dq1 hb | have hd := dq2 hb | have hd := dq3 hb | have hd := dq4 hb | skip)))
  refine call_pure (T := T) (v := .bool (decide (a = b))) rfl t26 rfl rfl ?_ ?_
  · have h2 := u8_closed a
    have h3 := u8_closed b
    simp only [List.map_cons, List.map_nil, strip, ho, hp, closedL, namL, nam, Bool.and_true, Bool.true_and, Bool.and_eq_true] at h2 h3 ⊢
    exact ⟨h2, h3⟩
  · simpa [strip, ho, hp] using h1
def v43 (l : List Rc) (t : Int) (k : Nat) : AV := match findS t l with | some r => .slice (.tok (k + 2)) none (r.v.map u8) | none => .nil
def r43 (l : List Rc) (t : Int) : List AObj := match findS t l with | some r => [.row none r.v.length] | none => []
def g43 (l : List Rc) (t : Int) : List Int := match findS t l with | some r => r.v | none => []
theorem call_find (l : List Rc) (t : Int) (hv : ∀ r ∈ l, r.v.length ≤ 65536) (hn : l.length ≤ 64) (h : Heap) : ag T 44 [.slice .none (some 2) (l.map Rc.av), u64 t] h = some (adopt (findT t l) h) :=
  call_pure (T := T) rfl t44 rfl rfl (recs_closed .none rfl l _ rfl) (find_ok l t (fun r hr => by have := hv r hr; omega) (by omega))
theorem call43 (l : List Rc) (t n : Int) (hn1 : -1 ≤ n) (hv : ∀ r ∈ l, r.v.length ≤ 65536) (hn : l.length ≤ 64) (A : AObj) (r : Bool) (tl : Heap) :
    ag T 43 [u64 t, i64 n, .ref [.slice .none (some 2) (l.map Rc.av)], .ptr 1 0] (A :: .box true [.bool r] :: tl) = some (v43 l t tl.length, A :: .box true [.bool (r && (valS t n l).isSome)] :: (tl ++ r43 l t)) := by
  have hf := fun h => call_find l t hv hn h
  unfold v43 r43 valS
  unfold findT at hf
  refine WP_eq (ag_wp rfl t43 rfl rfl ?_)
  cases hq : findS t l with
  | none =>
    rw [hq] at hf
    simp only [adopt] at hf
    first | have hb := hb | have hb := trivial
    repeat' (first | (simp -implicitDefEqProofs (disch := omega) only [hb, F43, hf, p44, wC, wO, initE, aop, Nat.reduceEqDiff, ↓reduceIte, Nat.reduceAdd, finish, resOf, tupOf, AM.freeze, freeze1, freezeL, closed, nam, namL, if_true, if_false, deref, boxAt, exAt, ldCells, oneL, oneCell, Nat.reduceLeDiff, evL, adopt, rigid, rigidL, trim, Int.reduceEq, Int.reduceMod, Int.reduceDiv, if_pos, if_neg, asI, forall_const, implies_true, chkD, chkO, chkW, effB, reB, vEq, beq_self_eq_true, Nat.reduceSub, Nat.reduceLT, Int.reduceSub, Int.reduceAdd, Int.reduceMul, Int.reduceLT, Int.reduceLE, Int.reduceToNat, optI, aslice, cutSl, cutMs, cutStr, cutOwn]) | ((first | rw [WP_condK] | rw [WP_opsG] | rw [WP_quiG] | rw [WP_dG]); refine And.intro (fun hb => ?_) (fun hb => ?_) <;> (first | have hd := dq1 hb | have hd := dq2 hb | have hd := dq3 hb | have hd := dq4 hb | skip)))
    all_goals rfl
  | some x =>
    rw [hq] at hf
    simp only [adopt] at hf
    first | have hb := hb | have hb := trivial
    repeat' (first | (simp -implicitDefEqProofs (disch := omega) only [hb, F43, hf, p44, wC, wO, initE, aop, Nat.reduceEqDiff, ↓reduceIte, Nat.reduceAdd, finish, resOf, tupOf, AM.freeze, freeze1, freezeL, closed, nam, namL, if_true, if_false, deref, boxAt, exAt, ldCells, oneL, oneCell, Nat.reduceLeDiff, evL, adopt, rigid, rigidL, trim, Int.reduceEq, Int.reduceMod, Int.reduceDiv, if_pos, if_neg, asI, forall_const, implies_true, chkD, chkO, chkW, effB, reB, vEq, beq_self_eq_true, Nat.reduceSub, Nat.reduceLT, Int.reduceSub, Int.reduceAdd, Int.reduceMul, Int.reduceLT, Int.reduceLE, Int.reduceToNat, optI, aslice, cutSl, cutMs, cutStr, cutOwn]) | ((first | rw [WP_condK] | rw [WP_opsG] | rw [WP_quiG] | rw [WP_dG]); refine And.intro (fun hb => ?_) (fun hb => ?_) <;> (first | have hd := dq1 hb | have hd := dq2 hb | have hd := dq3 hb | have hd := dq4 hb | skip)))
    all_goals first
    | rfl
    | (have hn0 : ¬ n < 0 := by omega
       by_cases hq2 : (x.v.length : Int) = n <;> simp [hn0, hq2])
end Go.Proofs.Ytejnficfhoekiaa.AM

/- invoice: read. -/
namespace Go.Proofs.Ytejnficfhoekiaa.AM
open Go
set_option maxRecDepth 100000
set_option maxHeartbeats 1000000
set_option linter.unusedSimpArgs false
set_option linter.unusedVariables false
theorem number_nil (h : Heap) : ag T 45 [.nil] h = some (i64 (numW []), h) := by
  refine call_sc rfl t45 rfl rfl rfl rfl ?_
  refine WP_eq (prun_wp ?_)
  first | have hb := hb | have hb := trivial
  repeat' (first | (simp -implicitDefEqProofs (disch := omega) only [hb, F45, wC, initE, aop, Nat.reduceEqDiff, ↓reduceIte, Nat.reduceAdd, finish, resOf, tupOf, AM.freeze, freeze1, freezeL, closed, nam, namL, if_true, if_false, deref, boxAt, exAt, ldCells, oneL, oneCell, Nat.reduceLeDiff, evL, adopt, rigid, rigidL, trim, Int.reduceEq, Int.reduceMod, Int.reduceDiv, if_pos, if_neg, asI, forall_const, implies_true, chkD, chkO, chkW, effB, reB, vEq, beq_self_eq_true, Nat.reduceSub, Nat.reduceLT, Int.reduceSub, Int.reduceAdd, Int.reduceMul, Int.reduceLT, Int.reduceLE, Int.reduceToNat, optI, aslice, cutSl, cutMs, cutStr, cutOwn, cellsOf, one, elCells, lenOf, beqV, beqVL, strip, stripO, convS]) | ((first | rw [WP_condK] | rw [WP_opsG] | rw [WP_quiG] | rw [WP_dG]); refine And.intro (fun hb => ?_) (fun hb => ?_) <;> (first | have hd := dq1 hb | have hd := dq2 hb | have hd := dq3 hb | have hd := dq4 hb | skip)))
  refine WP_loop (I := fun k e h => h = [] ∧ getE e 3 = i64 0 ∧ getE e 6 = .nil ∧ getE e 7 = i64 0 ∧ getE e 8 = i64 0) ?_ 0 _ _ ⟨rfl, rfl, rfl, rfl, rfl⟩
  rintro k e h ⟨rfl, h3, h6, h7, h8⟩
  rw [trim_same' (by simp)]
  first | have hb := hb | have hb := trivial
  repeat' (first | (simp -implicitDefEqProofs (disch := omega) only [hb, L45_0, h3, h6, h7, h8, wC, initE, aop, Nat.reduceEqDiff, ↓reduceIte, Nat.reduceAdd, finish, resOf, tupOf, AM.freeze, freeze1, freezeL, closed, nam, namL, if_true, if_false, deref, boxAt, exAt, ldCells, oneL, oneCell, Nat.reduceLeDiff, evL, adopt, rigid, rigidL, trim, Int.reduceEq, Int.reduceMod, Int.reduceDiv, if_pos, if_neg, asI, forall_const, implies_true, chkD, chkO, chkW, effB, reB, vEq, beq_self_eq_true, Nat.reduceSub, Nat.reduceLT, Int.reduceSub, Int.reduceAdd, Int.reduceMul, Int.reduceLT, Int.reduceLE, Int.reduceToNat, optI, aslice, cutSl, cutMs, cutStr, cutOwn, cellsOf, one, elCells, lenOf, beqV, beqVL, strip, stripO, convS]) | ((first | rw [WP_condK] | rw [WP_opsG] | rw [WP_quiG] | rw [WP_dG]); refine And.intro (fun hb => ?_) (fun hb => ?_) <;> (first | have hd := dq1 hb | have hd := dq2 hb | have hd := dq3 hb | have hd := dq4 hb | skip)))
  rfl
theorem g43_fine {l : List Rc} (hok : ∀ r ∈ l, Rc.ok r) (hv : ∀ r ∈ l, r.v.length ≤ 65536) (t : Int) : Bytes (g43 l t) ∧ (g43 l t).length ≤ 65536 := by
  unfold g43
  cases hq : findS t l with
  | none => exact ⟨(by intro c hc; cases hc), by simp⟩
  | some r => exact ⟨(hok r (findS_mem hq).1).2, hv r (findS_mem hq).1⟩
theorem n43 {l : List Rc} (hok : ∀ r ∈ l, Rc.ok r) (hv : ∀ r ∈ l, r.v.length ≤ 65536) (t : Int) (k : Nat) (h : Heap) : ag T 45 [v43 l t k] h = some (i64 (numW (g43 l t)), h) := by
  obtain ⟨h1, h2⟩ := g43_fine hok hv t
  unfold g43 at h1 h2 ⊢
  unfold v43
  cases hq : findS t l with
  | none => exact number_nil h
  | some r => rw [hq] at h1 h2; exact call_number (.tok (k + 2)) rfl r.v h1 (by simp only at h2; omega) h
theorem e43 (l : List Rc) (t : Int) (k : Nat) (h : Heap) : elemsOf h none (v43 l t k) = some ((g43 l t).map u8) := by
  unfold v43 g43
  cases hq : findS t l with
  | none => rfl
  | some r => simp [elemsOf]
theorem s43 (l : List Rc) (t : Int) (k : Nat) (h : Heap) : convS h (v43 l t k) = some (.str (strOfNums (g43 l t))) := by
  unfold v43 g43
  cases hq : findS t l with
  | none => rfl
  | some r => simp [convS, elemsOf, byteEls_u8]
theorem g43_val {l : List Rc} {t n : Int} {x : List Int} (h : valS t n l = some x) : g43 l t = x := by
  obtain ⟨r, hr, h2⟩ := Option.bind_eq_some_iff.1 h
  unfold g43
  rw [hr]
  split at h2
  · cases h2; rfl
  · cases h2
/-- what is copied over thirty two bytes -/
def ovl (x : H32) (g : List Int) : H32 := ⟨g.take 32 ++ x.1.drop (g.take 32).length, by
  have := x.2
  rw [List.length_append, List.length_drop, List.length_take]
  omega⟩
theorem ovl_full {x : H32} {g : List Int} (h : g.length = 32) : ovl x g = h32S g := by
  apply Subtype.ext
  rw [h32S_val h]
  show g.take 32 ++ x.1.drop (g.take 32).length = g
  rw [List.take_of_length_le (by omega), List.drop_eq_nil_of_le (by rw [x.2]; omega), List.append_nil]
theorem isp2o (i : Iv) (g : List Int) : splice (ivC i) 2 ((g.take 32).map u8) = ivC { i with h := ovl i.h g } := by
  have h1 := i.h.2
  have hle : (g.take 32).length ≤ 32 := by rw [List.length_take]; omega
  rw [spl (by rw [List.length_map, iv_len]; omega), List.length_map]
  have e : (ivC i).drop (2 + (g.take 32).length) = (i.h.1.drop (g.take 32).length).map u8 ++ (i.s.1.map u8 ++ ivR i) := by
    rw [← List.drop_drop, id2, List.drop_append_of_le_length (by rw [l32]; omega), List.map_drop]
  rw [e]
  simp [ivC, ivR, ovl]
theorem isp34o (i : Iv) (g : List Int) : splice (ivC i) 34 ((g.take 32).map u8) = ivC { i with s := ovl i.s g } := by
  have h1 := i.s.2
  have hle : (g.take 32).length ≤ 32 := by rw [List.length_take]; omega
  rw [spl (by rw [List.length_map, iv_len]; omega), List.length_map, ik34]
  have e : (ivC i).drop (34 + (g.take 32).length) = (i.s.1.drop (g.take 32).length).map u8 ++ ivR i := by
    rw [← List.drop_drop, id34, List.drop_append_of_le_length (by rw [l32]; omega), List.map_drop]
  rw [e]
  simp [ivC, ivR, ovl]
theorem flat_u8 (l : List Int) : (l.map u8).flatMap elCells = l.map u8 := by
  induction l with
  | nil => rfl
  | cons x l ih => simp [List.flatMap_cons, elCells, ih]
/-- what read makes of records -/
def iv43 (l : List Rc) : Iv := ⟨numW (g43 l 1), numW (g43 l 3), if numW (g43 l 3) = 3 then zero32 else ovl zero32 (g43 l 5), ovl zero32 (g43 l 7), numW (g43 l 9), numW (g43 l 11), g43 l 13⟩
def ok43 (l : List Rc) : Bool := (valS 1 1 l).isSome && (valS 3 1 l).isSome && (decide (numW (g43 l 3) = 3) || (valS 5 32 l).isSome) && (valS 7 32 l).isSome && (valS 9 8 l).isSome && (valS 11 4 l).isSome && (valS 13 (-1) l).isSome
theorem tn32 : (((32 : Nat) : Int) - 0).toNat = 32 := rfl
theorem le34 (g : List Int) : (34 + (List.take 32 g).length ≤ 69) = True := eq_true (by rw [List.length_take]; omega)
theorem le2 (g : List Int) : (2 + (List.take 32 g).length ≤ 69) = True := eq_true (by rw [List.length_take]; omega)
theorem r43_cases (l : List Rc) (t : Int) : r43 l t = [] ∨ ∃ n, r43 l t = [.row none n] := by
  unfold r43
  cases findS t l with
  | none => exact .inl rfl
  | some r => exact .inr ⟨_, rfl⟩
theorem read_run (l : List Rc) (hok : ∀ r ∈ l, Rc.ok r) (hv : ∀ r ∈ l, r.v.length ≤ 65536) (hn : l.length ≤ 64) : prun T F28 [.slice .none (some 2) (l.map Rc.av)] = some (.tup [.agg (ivC (iv43 l)), .bool (ok43 l && decide (MayI (iv43 l)))]) := by
  refine WP_eq (prun_wp ?_)
  have c1 := fun A r tl => call43 l 1 1 (by omega) hv hn A r tl
  have c3 := fun A r tl => call43 l 3 1 (by omega) hv hn A r tl
  have c5 := fun A r tl => call43 l 5 32 (by omega) hv hn A r tl
  have c7 := fun A r tl => call43 l 7 32 (by omega) hv hn A r tl
  have c9 := fun A r tl => call43 l 9 8 (by omega) hv hn A r tl
  have c11 := fun A r tl => call43 l 11 4 (by omega) hv hn A r tl
  have c13 := fun A r tl => call43 l 13 (-1) (by omega) hv hn A r tl
  have nn := fun t k h => n43 (l := l) hok hv t k h
  have ee := fun t k h => e43 l t k h
  have sv := fun t k h => s43 l t k h
  have q32 := fun (x : H32) => x.2
  rcases r43_cases l 1 with w1 | ⟨m1, w1⟩ <;> rcases r43_cases l 3 with w3 | ⟨m3, w3⟩
  all_goals
    rw [w1] at c1
    rw [w3] at c3
    by_cases hk : numW (g43 l 3) = 3
    · have hiv : iv43 l = ⟨numW (g43 l 1), 3, Iv.zero.h, ovl Iv.zero.s (g43 l 7), numW (g43 l 9), numW (g43 l 11), g43 l 13⟩ := by simp [iv43, hk]; exact ⟨rfl, rfl⟩
      have hok43 : ok43 l = ((valS 1 1 l).isSome && (valS 3 1 l).isSome && (valS 7 32 l).isSome && (valS 9 8 l).isSome && (valS 11 4 l).isSome && (valS 13 (-1) l).isSome) := by simp [ok43, hk]
      have e8 := fun h => call_may ⟨numW (g43 l 1), 3, Iv.zero.h, ovl Iv.zero.s (g43 l 7), numW (g43 l 9), numW (g43 l 11), g43 l 13⟩ (g43_fine hok hv 13).1 (by have := (g43_fine hok hv 13).2; show (g43 l 13).length ≤ _; omega) h
      rw [hiv, hok43]
      first | have hb := hb | have hb := trivial
      repeat' (first | (simp -implicitDefEqProofs (disch := omega) only [hb, F28, wV, c1, c3, c5, c7, c9, c11, c13, nn, ee, sv, q32, hk, isp2o, isp34o, tn32, le34, le2, flat_u8, strip_u8, iv_beq, oneL_u8, rigidL_u8, rigid, u8_take, e8, p45, p9, wC, wO, initE, aop, Nat.reduceEqDiff, ↓reduceIte, Nat.reduceAdd, finish, resOf, tupOf, AM.freeze, freeze1, freezeL, closed, nam, namL, if_true, if_false, deref, boxAt, exAt, ldCells, oneL, oneCell, Nat.reduceLeDiff, evL, adopt, rigid, rigidL, trim, Int.reduceEq, Int.reduceMod, Int.reduceDiv, if_pos, if_neg, asI, forall_const, implies_true, chkD, chkO, chkW, effB, reB, vEq, beq_self_eq_true, Nat.reduceSub, Nat.reduceLT, Int.reduceSub, Int.reduceAdd, Int.reduceMul, Int.reduceLT, Int.reduceLE, Int.reduceToNat, optI, aslice, cutSl, cutMs, cutStr, cutOwn]) | ((first | rw [WP_condK] | rw [WP_opsG] | rw [WP_quiG] | rw [WP_dG]); refine And.intro (fun hb => ?_) (fun hb => ?_) <;> (first | have hd := dq1 hb | have hd := dq2 hb | have hd := dq3 hb | have hd := dq4 hb | skip)))
    · have hiv : iv43 l = ⟨numW (g43 l 1), numW (g43 l 3), ovl Iv.zero.h (g43 l 5), ovl Iv.zero.s (g43 l 7), numW (g43 l 9), numW (g43 l 11), g43 l 13⟩ := by simp [iv43, hk]; exact ⟨rfl, rfl⟩
      have hok43 : ok43 l = ((valS 1 1 l).isSome && (valS 3 1 l).isSome && (valS 5 32 l).isSome && (valS 7 32 l).isSome && (valS 9 8 l).isSome && (valS 11 4 l).isSome && (valS 13 (-1) l).isSome) := by simp [ok43, hk]
      have e8 := fun h => call_may ⟨numW (g43 l 1), numW (g43 l 3), ovl Iv.zero.h (g43 l 5), ovl Iv.zero.s (g43 l 7), numW (g43 l 9), numW (g43 l 11), g43 l 13⟩ (g43_fine hok hv 13).1 (by have := (g43_fine hok hv 13).2; show (g43 l 13).length ≤ _; omega) h
      rw [hiv, hok43]
      first | have hb := hb | have hb := trivial
      repeat' (first | (simp -implicitDefEqProofs (disch := omega) only [hb, F28, wV, c1, c3, c5, c7, c9, c11, c13, nn, ee, sv, q32, hk, isp2o, isp34o, tn32, le34, le2, flat_u8, strip_u8, iv_beq, oneL_u8, rigidL_u8, rigid, u8_take, e8, p45, p9, wC, wO, initE, aop, Nat.reduceEqDiff, ↓reduceIte, Nat.reduceAdd, finish, resOf, tupOf, AM.freeze, freeze1, freezeL, closed, nam, namL, if_true, if_false, deref, boxAt, exAt, ldCells, oneL, oneCell, Nat.reduceLeDiff, evL, adopt, rigid, rigidL, trim, Int.reduceEq, Int.reduceMod, Int.reduceDiv, if_pos, if_neg, asI, forall_const, implies_true, chkD, chkO, chkW, effB, reB, vEq, beq_self_eq_true, Nat.reduceSub, Nat.reduceLT, Int.reduceSub, Int.reduceAdd, Int.reduceMul, Int.reduceLT, Int.reduceLE, Int.reduceToNat, optI, aslice, cutSl, cutMs, cutStr, cutOwn]) | ((first | rw [WP_condK] | rw [WP_opsG] | rw [WP_quiG] | rw [WP_dG]); refine And.intro (fun hb => ?_) (fun hb => ?_) <;> (first | have hd := dq1 hb | have hd := dq2 hb | have hd := dq3 hb | have hd := dq4 hb | skip)))
end Go.Proofs.Ytejnficfhoekiaa.AM

/- invoice: Decode. -/
namespace Go.Proofs.Ytejnficfhoekiaa.AM
open Go
set_option maxRecDepth 100000
set_option maxHeartbeats 1000000
set_option linter.unusedSimpArgs false
set_option linter.unusedVariables false
theorem ivOf_43 (l : List Rc) : ivOf l = if (ok43 l && decide (MayI (iv43 l))) = true then some (iv43 l) else none := by
  unfold ivOf ok43
  cases h1 : valS 1 1 l with
  | none => simp
  | some x1 =>
  cases h3 : valS 3 1 l with
  | none => simp
  | some x3 =>
  cases h7 : valS 7 32 l with
  | none => simp
  | some x7 =>
  cases h9 : valS 9 8 l with
  | none => simp
  | some x9 =>
  cases h11 : valS 11 4 l with
  | none => simp
  | some x11 =>
  cases h13 : valS 13 (-1) l with
  | none => simp
  | some x13 =>
  have l7 : x7.length = 32 := by have := (valS_in h7).2 (by omega); omega
  have g1 := g43_val h1
  have g3 := g43_val h3
  have g7 := g43_val h7
  have g9 := g43_val h9
  have g11 := g43_val h11
  have g13 := g43_val h13
  by_cases hk : numW x3 = 3
  · have e : iv43 l = ⟨numW x1, numW x3, zero32, h32S x7, numW x9, numW x11, x13⟩ := by
      unfold iv43
      rw [g1, g3, g7, g9, g11, g13, if_pos hk, ovl_full l7]
    rw [e, g3]
    simp [hk, chkI]
  · cases h5 : valS 5 32 l with
    | none => simp [hk, g3]
    | some x5 =>
      have l5 : x5.length = 32 := by have := (valS_in h5).2 (by omega); omega
      have g5 := g43_val h5
      have e : iv43 l = ⟨numW x1, numW x3, h32S x5, h32S x7, numW x9, numW x11, x13⟩ := by
        unfold iv43
        rw [g1, g3, g5, g7, g9, g11, g13, if_neg hk, ovl_full l7, ovl_full l5]
      rw [e, g3]
      simp [hk, chkI]
theorem call_iread (l : List Rc) (hok : ∀ r ∈ l, Rc.ok r) (hv : ∀ r ∈ l, r.v.length ≤ 65536) (hn : l.length ≤ 64) (o : AOwn) (ho : stripO o = .none) (h : Heap) : ag T 28 [.slice o (some 2) (l.map Rc.av)] h = some (.tup [.agg (ivC (iv43 l)), .bool (ok43 l && decide (MayI (iv43 l)))], h) :=
  call_pure (T := T) (v := .tup [.agg (ivC (iv43 l)), .bool (ok43 l && decide (MayI (iv43 l)))]) rfl t28 rfl rfl (recs_closed o ho l [] rfl) (by simpa [strip, ho] using read_run l hok hv hn)
theorem decode_ok (s : List Int) (hs : Bytes s) (hn : s.length ≤ 1000000000000) : prun T F11 [.sc (.string (strOfNums s))] = some (decV (decI s)) := by
  refine WP_eq (prun_wp ?_)
  have hcut := fun h => call_cut s hs hn h
  have hz69 := iv_len Iv.zero
  by_cases hpre : s.take 3 = [116, 104, 49]
  · rw [if_pos hpre, decide_eq_true hpre] at hcut
    have hld : (s.drop 3).length = s.length - 3 := List.length_drop
    have hsd := drop_bytes hs 3
    have e1 := fun h => call_bytes (s.drop 3) hsd (by omega) h
    cases hu : unS2 (s.drop 3) with
    | none =>
      have hd : decI s = (Iv.zero, 10) := by unfold decI; rw [if_neg (fun h => h hpre), hu]
      rw [hu] at e1
      simp only [unV, adopt] at e1
      first | have hb := hb | have hb := trivial
      repeat' (first | (simp -implicitDefEqProofs (disch := omega) only [hb, F11, wV, th1_eq, hz69, hcut, e1, wC, wO, initE, aop, Nat.reduceEqDiff, ↓reduceIte, Nat.reduceAdd, finish, resOf, tupOf, AM.freeze, freeze1, freezeL, closed, nam, namL, if_true, if_false, deref, boxAt, exAt, ldCells, oneL, oneCell, Nat.reduceLeDiff, evL, adopt, rigid, rigidL, trim, Int.reduceEq, Int.reduceMod, Int.reduceDiv, if_pos, if_neg, asI, forall_const, implies_true, chkD, chkO, chkW, effB, reB, vEq, beq_self_eq_true, Nat.reduceSub, Nat.reduceLT, Int.reduceSub, Int.reduceAdd, Int.reduceMul, Int.reduceLT, Int.reduceLE, Int.reduceToNat, optI, aslice, cutSl, cutMs, cutStr, cutOwn]) | ((first | rw [WP_condK] | rw [WP_opsG] | rw [WP_quiG] | rw [WP_dG]); refine And.intro (fun hb => ?_) (fun hb => ?_) <;> (first | have hd := dq1 hb | have hd := dq2 hb | have hd := dq3 hb | have hd := dq4 hb | skip)))
      rw [hd]
      rfl
    | some all =>
      obtain ⟨hab, hal⟩ := unS2_bytes hsd hu
      rw [hu] at e1
      simp only [unV, adopt] at e1
      have hdec : decI s = if all.length < 4 then (Iv.zero, 10) else if sumS (all.take (all.length - 4)) ≠ all.drop (all.length - 4) then (Iv.zero, 90) else decB (all.take (all.length - 4)) := by
        unfold decI; rw [if_neg (fun h => h hpre), hu]
      by_cases hl4 : all.length < 4
      · rw [if_pos hl4] at hdec
        first | have hb := hb | have hb := trivial
        repeat' (first | (simp -implicitDefEqProofs (disch := omega) only [hb, F11, wV, th1_eq, hz69, hcut, e1, wC, wO, initE, aop, Nat.reduceEqDiff, ↓reduceIte, Nat.reduceAdd, finish, resOf, tupOf, AM.freeze, freeze1, freezeL, closed, nam, namL, if_true, if_false, deref, boxAt, exAt, ldCells, oneL, oneCell, Nat.reduceLeDiff, evL, adopt, rigid, rigidL, trim, Int.reduceEq, Int.reduceMod, Int.reduceDiv, if_pos, if_neg, asI, forall_const, implies_true, chkD, chkO, chkW, effB, reB, vEq, beq_self_eq_true, Nat.reduceSub, Nat.reduceLT, Int.reduceSub, Int.reduceAdd, Int.reduceMul, Int.reduceLT, Int.reduceLE, Int.reduceToNat, optI, aslice, cutSl, cutMs, cutStr, cutOwn]) | ((first | rw [WP_condK] | rw [WP_opsG] | rw [WP_quiG] | rw [WP_dG]); refine And.intro (fun hb => ?_) (fun hb => ?_) <;> (first | have hd := dq1 hb | have hd := dq2 hb | have hd := dq3 hb | have hd := dq4 hb | skip)))
        rw [hdec]
        rfl
      · rw [if_neg hl4] at hdec
        obtain ⟨n, hn4⟩ : ∃ n, all.length = n + 4 := ⟨all.length - 4, by omega⟩
        have f1 : (all.length : Int) - 4 = (n : Int) := by omega
        have htb := take_bytes hab n
        have hdb := drop_bytes hab n
        rw [show all.length - 4 = n by omega] at hdec
        have hbl : (all.take n).length = n := by rw [List.length_take]; omega
        obtain ⟨b, hb⟩ : ∃ b, all.take n = b := ⟨_, rfl⟩
        obtain ⟨cS, hcS⟩ : ∃ c, all.drop n = c := ⟨_, rfl⟩
        have g1 : List.take n (all.map u8) = b.map u8 := by rw [u8_take, hb]
        have g2 : List.drop n (all.map u8) = cS.map u8 := by rw [u8_drop, hcS]
        rw [hb] at hdec htb hbl
        rw [hcS] at hdec hdb
        have e2 := fun h => call_sum4 .none rfl b htb (by omega) h
        have e3 := fun h => call_equal .none .none rfl rfl (sumS b) cS (sumS_bytes b) hdb h
        by_cases hsum : sumS b = cS
        · rw [if_neg (fun h => h hsum)] at hdec
          rw [decide_eq_true hsum] at e3
          have hcl := u8_closed b
          obtain ⟨v, hv, e7⟩ := call_decN b htb (by omega)
          unfold decB at hdec
          rcases hv with ⟨hp2, hp1, rfl⟩ | ⟨hp2, o, ho, rfl⟩
          · rw [if_pos hp2] at hdec
            simp only [adopt] at e7
            first | have hb := hb | have hb := trivial
            repeat' (first | (simp -implicitDefEqProofs (disch := omega) only [hb, F11, wV, th1_eq, hz69, hcut, e1, e2, e3, f1, g1, g2, e7, hp2, beqVL_u8, p19, p26, wC, wO, initE, aop, Nat.reduceEqDiff, ↓reduceIte, Nat.reduceAdd, finish, resOf, tupOf, AM.freeze, freeze1, freezeL, closed, nam, namL, if_true, if_false, deref, boxAt, exAt, ldCells, oneL, oneCell, Nat.reduceLeDiff, evL, adopt, rigid, rigidL, trim, Int.reduceEq, Int.reduceMod, Int.reduceDiv, if_pos, if_neg, asI, forall_const, implies_true, chkD, chkO, chkW, effB, reB, vEq, beq_self_eq_true, Nat.reduceSub, Nat.reduceLT, Int.reduceSub, Int.reduceAdd, Int.reduceMul, Int.reduceLT, Int.reduceLE, Int.reduceToNat, optI, aslice, cutSl, cutMs, cutStr, cutOwn]) | ((first | rw [WP_condK] | rw [WP_opsG] | rw [WP_quiG] | rw [WP_dG]); refine And.intro (fun hb => ?_) (fun hb => ?_) <;> (first | have hd := dq1 hb | have hd := dq2 hb | have hd := dq3 hb | have hd := dq4 hb | skip)))
            all_goals rw [hdec]
            all_goals rfl
          · rw [if_neg (fun h => h hp2)] at hdec
            obtain ⟨_, hfl, hl64, hok⟩ := decodes_law [] b htb hp2
            obtain ⟨l, hl⟩ : ∃ l, (decS [] b).1 = l := ⟨_, rfl⟩
            rw [hl] at hdec hfl hl64 hok e7
            have hv : ∀ r ∈ l, r.v.length ≤ 65536 := fun r hr => by have := v_le_flat hr; omega
            rw [ivOf_43] at hdec
            obtain ⟨B, hB⟩ : ∃ B, (ok43 l && decide (MayI (iv43 l))) = B := ⟨_, rfl⟩
            have r1 := fun i h => call_iread l hok hv hl64 (.tok i) rfl h
            have r2 := fun h => call_iread l hok hv hl64 .none rfl h
            rw [hB] at hdec r1 r2
            cases B <;> rcases ho with rfl | rfl <;> simp only [adopt] at e7
            all_goals
              first | have hb := hb | have hb := trivial
              repeat' (first | (simp -implicitDefEqProofs (disch := omega) only [hb, F11, wV, th1_eq, hz69, hcut, e1, e2, e3, f1, g1, g2, e7, hp2, r1, r2, iv_beq, beqVL_u8, p19, p26, wC, wO, initE, aop, Nat.reduceEqDiff, ↓reduceIte, Nat.reduceAdd, finish, resOf, tupOf, AM.freeze, freeze1, freezeL, closed, nam, namL, if_true, if_false, deref, boxAt, exAt, ldCells, oneL, oneCell, Nat.reduceLeDiff, evL, adopt, rigid, rigidL, trim, Int.reduceEq, Int.reduceMod, Int.reduceDiv, if_pos, if_neg, asI, forall_const, implies_true, chkD, chkO, chkW, effB, reB, vEq, beq_self_eq_true, Nat.reduceSub, Nat.reduceLT, Int.reduceSub, Int.reduceAdd, Int.reduceMul, Int.reduceLT, Int.reduceLE, Int.reduceToNat, optI, aslice, cutSl, cutMs, cutStr, cutOwn]) | ((first | rw [WP_condK] | rw [WP_opsG] | rw [WP_quiG] | rw [WP_dG]); refine And.intro (fun hb => ?_) (fun hb => ?_) <;> (first | have hd := dq1 hb | have hd := dq2 hb | have hd := dq3 hb | have hd := dq4 hb | skip)))
              rw [hdec]
              rfl
        · rw [if_pos hsum] at hdec
          rw [decide_eq_false hsum] at e3
          first | have hb := hb | have hb := trivial
          repeat' (first | (simp -implicitDefEqProofs (disch := omega) only [hb, F11, wV, th1_eq, hz69, hcut, e1, e2, e3, f1, g1, g2, beqVL_u8, p19, p26, wC, wO, initE, aop, Nat.reduceEqDiff, ↓reduceIte, Nat.reduceAdd, finish, resOf, tupOf, AM.freeze, freeze1, freezeL, closed, nam, namL, if_true, if_false, deref, boxAt, exAt, ldCells, oneL, oneCell, Nat.reduceLeDiff, evL, adopt, rigid, rigidL, trim, Int.reduceEq, Int.reduceMod, Int.reduceDiv, if_pos, if_neg, asI, forall_const, implies_true, chkD, chkO, chkW, effB, reB, vEq, beq_self_eq_true, Nat.reduceSub, Nat.reduceLT, Int.reduceSub, Int.reduceAdd, Int.reduceMul, Int.reduceLT, Int.reduceLE, Int.reduceToNat, optI, aslice, cutSl, cutMs, cutStr, cutOwn]) | ((first | rw [WP_condK] | rw [WP_opsG] | rw [WP_quiG] | rw [WP_dG]); refine And.intro (fun hb => ?_) (fun hb => ?_) <;> (first | have hd := dq1 hb | have hd := dq2 hb | have hd := dq3 hb | have hd := dq4 hb | skip)))
          all_goals rw [hdec]
          all_goals rfl
  · rw [if_neg hpre, decide_eq_false hpre] at hcut
    have hd : decI s = (Iv.zero, 10) := by unfold decI; rw [if_pos hpre]
    have e1 := fun h => call_bytes s hs (by omega) h
    cases hu : unS2 s with
    | none =>
      rw [hu] at e1
      simp only [unV, adopt] at e1
      first | have hb := hb | have hb := trivial
      repeat' (first | (simp -implicitDefEqProofs (disch := omega) only [hb, F11, wV, th1_eq, hz69, hcut, e1, wC, wO, initE, aop, Nat.reduceEqDiff, ↓reduceIte, Nat.reduceAdd, finish, resOf, tupOf, AM.freeze, freeze1, freezeL, closed, nam, namL, if_true, if_false, deref, boxAt, exAt, ldCells, oneL, oneCell, Nat.reduceLeDiff, evL, adopt, rigid, rigidL, trim, Int.reduceEq, Int.reduceMod, Int.reduceDiv, if_pos, if_neg, asI, forall_const, implies_true, chkD, chkO, chkW, effB, reB, vEq, beq_self_eq_true, Nat.reduceSub, Nat.reduceLT, Int.reduceSub, Int.reduceAdd, Int.reduceMul, Int.reduceLT, Int.reduceLE, Int.reduceToNat, optI, aslice, cutSl, cutMs, cutStr, cutOwn]) | ((first | rw [WP_condK] | rw [WP_opsG] | rw [WP_quiG] | rw [WP_dG]); refine And.intro (fun hb => ?_) (fun hb => ?_) <;> (first | have hd := dq1 hb | have hd := dq2 hb | have hd := dq3 hb | have hd := dq4 hb | skip)))
      rw [hd]
      rfl
    | some all =>
      have hal := (unS2_bytes hs hu).2
      rw [hu] at e1
      simp only [unV, adopt] at e1
      first | have hb := hb | have hb := trivial
      repeat' (first | (simp -implicitDefEqProofs (disch := omega) only [hb, F11, wV, th1_eq, hz69, hcut, e1, wC, wO, initE, aop, Nat.reduceEqDiff, ↓reduceIte, Nat.reduceAdd, finish, resOf, tupOf, AM.freeze, freeze1, freezeL, closed, nam, namL, if_true, if_false, deref, boxAt, exAt, ldCells, oneL, oneCell, Nat.reduceLeDiff, evL, adopt, rigid, rigidL, trim, Int.reduceEq, Int.reduceMod, Int.reduceDiv, if_pos, if_neg, asI, forall_const, implies_true, chkD, chkO, chkW, effB, reB, vEq, beq_self_eq_true, Nat.reduceSub, Nat.reduceLT, Int.reduceSub, Int.reduceAdd, Int.reduceMul, Int.reduceLT, Int.reduceLE, Int.reduceToNat, optI, aslice, cutSl, cutMs, cutStr, cutOwn]) | ((first | rw [WP_condK] | rw [WP_opsG] | rw [WP_quiG] | rw [WP_dG]); refine And.intro (fun hb => ?_) (fun hb => ?_) <;> (first | have hd := dq1 hb | have hd := dq2 hb | have hd := dq3 hb | have hd := dq4 hb | skip)))
      rw [hd]
      rfl
end Go.Proofs.Ytejnficfhoekiaa.AM

/- invoice: the reference's Encode; what is encoded is decoded again. -/
namespace Go.Proofs.Ytejnficfhoekiaa.AM
open Go
set_option maxRecDepth 100000
set_option maxHeartbeats 1000000
set_option linter.unusedSimpArgs false
set_option linter.unusedVariables false
def recsI (i : Iv) : List Rc := ⟨1, tailS 1 i.n⟩ :: ⟨3, tailS 1 i.k⟩ :: ((if i.k = 3 then [] else [⟨5, i.h.1⟩]) ++ [⟨7, i.s.1⟩, ⟨9, tailS 8 i.a⟩, ⟨11, tailS 4 i.e⟩, ⟨13, i.t⟩])
def bytesI (i : Iv) : List Int := flatS (recsI i)
def textI (i : Iv) : List Int := [116, 104, 49] ++ digitsS (bytesI i ++ sumS (bytesI i))
structure FineI (i : Iv) : Prop where
  h : Bytes i.h.1
  s : Bytes i.s.1
  t : Bytes i.t
  a : i.a ≤ 9223372036854775807
theorem numS_small {x : Int} (h0 : 0 ≤ x) (h : x < 253) : numS x = [x] := by unfold numS; rw [if_pos h]
theorem recS_small {r : Rc} (h0 : 0 ≤ r.t) (h : r.t < 253) (hv : r.v.length < 253) : recS r = r.t :: (r.v.length : Int) :: r.v := by
  unfold recS
  rw [numS_small h0 h, numS_small (by omega) (by omega)]
  rfl
theorem recsI_ok {i : Iv} (hm : MayI i) (hf : FineI i) : ∀ r ∈ recsI i, Rc.ok r ∧ r.v.length ≤ 64 ∧ 0 ≤ r.t ∧ r.t < 253 ∧ r.t % 2 = 1 := by
  obtain ⟨q1, q2, q3, q4, q5, q6, q7, q8, q9, q10⟩ := hm
  intro r hr
  unfold recsI at hr
  have hh := i.h.2
  have hs := i.s.2
  simp only [List.mem_cons, List.mem_append, List.not_mem_nil, or_false] at hr
  have key : ∀ (t : Int) (v : List Int), 0 ≤ t → t < 253 → t % 2 = 1 → Bytes v → v.length ≤ 64 → Rc.ok ⟨t, v⟩ ∧ v.length ≤ 64 ∧ 0 ≤ t ∧ t < 253 ∧ t % 2 = 1 := fun t v h1 h2 h3 h4 h5 => ⟨⟨⟨h1, by show t ≤ _; omega⟩, h4⟩, h5, h1, h2, h3⟩
  rcases hr with rfl | rfl | hr | rfl | rfl | rfl | rfl
  · exact key _ _ (by omega) (by omega) (by omega) (tailS_bytes _ (by omega) _) (by rw [tailS_len]; omega)
  · exact key _ _ (by omega) (by omega) (by omega) (tailS_bytes _ (by omega) _) (by rw [tailS_len]; omega)
  · split at hr
    · cases hr
    · rw [List.mem_singleton.1 hr]
      exact key _ _ (by omega) (by omega) (by omega) hf.h (by omega)
  · exact key _ _ (by omega) (by omega) (by omega) hf.s (by omega)
  · exact key _ _ (by omega) (by omega) (by omega) (tailS_bytes _ (by omega) _) (by rw [tailS_len]; omega)
  · exact key _ _ (by omega) (by omega) (by omega) (tailS_bytes _ (by omega) _) (by rw [tailS_len]; omega)
  · exact key _ _ (by omega) (by omega) (by omega) hf.t (by omega)
theorem flat_small : ∀ (l : List Rc), (∀ r ∈ l, Rc.ok r ∧ r.v.length ≤ 64 ∧ 0 ≤ r.t ∧ r.t < 253 ∧ r.t % 2 = 1) → Bytes (flatS l) ∧ (flatS l).length ≤ 66 * l.length
  | [], _ => ⟨(by intro c hc; cases hc), by simp [flatS]⟩
  | r :: l, h => by
    obtain ⟨g1, g2⟩ := flat_small l (fun x hx => h x (List.mem_cons_of_mem _ hx))
    obtain ⟨⟨u, b⟩, k1, k2, k3, k4⟩ := h r List.mem_cons_self
    rw [flatS_cons, recS_small k2 k3 (by omega)]
    constructor
    · refine bytes_append ?_ g1
      intro c hc
      rcases List.mem_cons.1 hc with rfl | hc
      · omega
      · rcases List.mem_cons.1 hc with rfl | hc
        · omega
        · exact b c hc
    · simp only [List.length_append, List.length_cons]; omega
theorem recsI_len (i : Iv) : (recsI i).length ≤ 7 := by
  unfold recsI
  split <;> simp
theorem recsI_asc (i : Iv) : ascB (recsI i) = true := by
  unfold recsI
  split <;> simp [ascB]
theorem encI {i : Iv} (hm : MayI i) (hf : FineI i) : encS (recsI i) = (bytesI i, 0) := by
  have h1 := flat_small (recsI i) (recsI_ok hm hf)
  have h2 := recsI_len i
  exact encS_ok (recsI_asc i) ⟨by omega, by omega⟩
theorem bytesI_fine {i : Iv} (hm : MayI i) (hf : FineI i) : Bytes (bytesI i) ∧ (bytesI i).length ≤ 462 := by
  have h1 := flat_small (recsI i) (recsI_ok hm hf)
  have h2 := recsI_len i
  exact ⟨h1.1, by unfold bytesI; omega⟩
theorem decsI {i : Iv} (hm : MayI i) (hf : FineI i) : decS [] (bytesI i) = (recsI i, 0) :=
  dec_enc [] (recsI i) (fun r hr => (recsI_ok hm hf r hr).1) (fun r hr he => by have := (recsI_ok hm hf r hr).2.2.2.2; omega) _ (encI hm hf)
theorem numW_tail {n : Nat} {x : Int} (h0 : 0 ≤ x) (hx : x < 256 ^ n) (h1 : x ≤ 9223372036854775807) : numW (tailS n x) = x := by
  unfold numW
  rw [be_tailS x h0 n hx, IntKind.wrap_i64]
  omega
theorem bytesI_pos (i : Iv) : 0 < (bytesI i).length := by
  unfold bytesI recsI
  rw [flatS_cons, recS_small (by show (0 : Int) ≤ 1; omega) (by show (1 : Int) < 253; omega) (by show (tailS 1 i.n).length < 253; rw [tailS_len]; omega)]
  simp
theorem ivOf_recs {i : Iv} (hm : MayI i) (hf : FineI i) : ivOf (recsI i) = some i := by
  obtain ⟨q1, q2, q3, q4, q5, q6, q7, q8, q9, q10⟩ := id hm
  have hh := i.h.2
  have hs := i.s.2
  have e1 : numW (tailS 1 i.n) = i.n := numW_tail q1 (by omega) (by omega)
  have e3 : numW (tailS 1 i.k) = i.k := numW_tail (by omega) (by omega) (by omega)
  have e9 : numW (tailS 8 i.a) = i.a := numW_tail (by omega) (by rw [show (256 : Int) ^ 8 = 18446744073709551616 by decide]; have := hf.a; omega) hf.a
  have e11 : numW (tailS 4 i.e) = i.e := numW_tail (by omega) (by omega) (by omega)
  have l1 := tailS_len 1 i.n
  have l3 := tailS_len 1 i.k
  have l9 := tailS_len 8 i.a
  have l11 := tailS_len 4 i.e
  by_cases hk : i.k = 3
  · have hz := q8.2 hk
    have e : (⟨i.n, 3, zero32, i.s, i.a, i.e, i.t⟩ : Iv) = i := by rw [← hz, ← hk]
    have e3' : numW (tailS 1 3) = 3 := by rw [hk] at e3; exact e3
    have l3' : (tailS 1 3).length = 1 := tailS_len 1 3
    simp [ivOf, valS, findS, recsI, hk, l1, l3', l9, l11, e1, e9, e11, e3', h32S_self, hs, chkI, e]
    exact hm
  · simp [ivOf, valS, findS, recsI, hk, l1, l3, l9, l11, e1, e3, e9, e11, h32S_self, hs, hh, chkI]
    exact hm
theorem decB_I {i : Iv} (hm : MayI i) (hf : FineI i) : decB (bytesI i) = (i, 0) := by
  unfold decB
  rw [decsI hm hf]
  simp only [ne_eq, not_true_eq_false, if_false, ivOf_recs hm hf]
theorem decI_text {i : Iv} (hm : MayI i) (hf : FineI i) : decI (textI i) = (i, 0) := by
  obtain ⟨hb, hl⟩ := bytesI_fine hm hf
  have hsb := sumS_bytes (bytesI i)
  have hsl := sumS_len (bytesI i)
  unfold decI textI
  have h3 : ([116, 104, 49] ++ digitsS (bytesI i ++ sumS (bytesI i))).take 3 = [116, 104, 49] := List.take_left' rfl
  have hd : ([116, 104, 49] ++ digitsS (bytesI i ++ sumS (bytesI i))).drop 3 = digitsS (bytesI i ++ sumS (bytesI i)) := List.drop_left' rfl
  have hlen : (bytesI i ++ sumS (bytesI i)).length - 4 = (bytesI i).length := by rw [List.length_append, hsl]; omega
  have ht : (bytesI i ++ sumS (bytesI i)).take (bytesI i).length = bytesI i := List.take_left' rfl
  have hdd : (bytesI i ++ sumS (bytesI i)).drop (bytesI i).length = sumS (bytesI i) := List.drop_left' rfl
  rw [if_neg (fun h => h h3), hd, unS2_digits _ (bytes_append hb hsb)]
  simp only [hlen, ht, hdd]
  rw [if_neg (by rw [List.length_append, hsl]; omega), if_neg (fun h => h rfl)]
  exact decB_I hm hf
theorem textI_fine {i : Iv} (hm : MayI i) (hf : FineI i) : Bytes (textI i) ∧ (textI i).length ≤ 1000 ∧ 3 ≤ (textI i).length := by
  obtain ⟨hb, hl⟩ := bytesI_fine hm hf
  have hsl := sumS_len (bytesI i)
  have hdl := digitsS_len (bytesI i ++ sumS (bytesI i))
  rw [List.length_append, hsl] at hdl
  refine ⟨bytes_append th1_bytes (digitsS_bytes _), ?_, ?_⟩
  · unfold textI; rw [List.length_append]; simp; omega
  · unfold textI; rw [List.length_append]; simp
end Go.Proofs.Ytejnficfhoekiaa.AM

/- invoice: the reference's Encode. -/
namespace Go.Proofs.Ytejnficfhoekiaa.AM
open Go
set_option maxRecDepth 100000
set_option maxHeartbeats 1000000
set_option linter.unusedSimpArgs false
set_option linter.unusedVariables false
def encV (i : Iv) : AV := if MayI i then .tup [.str (strOfNums (textI i)), i64 0] else .tup [.str (strOfNums []), i64 1]
theorem call_rhigh (n : Nat) (x : Int) (hn : 1 ≤ n ∧ n ≤ 8) (h0 : 0 ≤ x) (h1 : x ≤ 9223372036854775807) (h : Heap) : ag T 20 [i64 n, i64 x] h = some (.slice (.tok h.length) none ((tailS n x).map u8), h ++ [.row none n]) := by
  obtain ⟨m, rfl⟩ := Int.eq_ofNat_of_zero_le h0
  have h2 := rhigh_ok n m hn (by omega)
  have h3 := call_pure (T := T) (h := h) (args := [i64 n, i64 m]) rfl t20 rfl rfl rfl h2
  rw [h3]
  simp only [adopt, List.length_map, tailS_len]
theorem call_rsum4t (j : Nat) (b : List Int) (hb : Bytes b) (hn : b.length ≤ 140737488300000) (h : Heap) : ag T 22 [.slice (.tok j) none (b.map u8)] h = some (.slice .full none ((sumS b).map u8), h) :=
  call_pure (T := T) (v := .slice .full none ((sumS b).map u8)) rfl t22 rfl rfl (by have := u8_closed b; simp only [List.map_cons, List.map_nil, strip, stripO, closedL, namL, nam, Bool.and_true, Bool.true_and] at this ⊢; exact this) (by simpa [strip, stripO] using rsum_ok4 b hb hn)
theorem ch32 (x : H32) (r : List AV) : chunks none 32 (x.1.map u8 ++ r) = x.1.map u8 := ht32 x r
theorem recsA_nil : RecsA [] [] := ⟨rfl, rfl, fun i h => by simp at h⟩
theorem recsA_cons {A : List AV} {l : List Rc} {w : AV} {t : Int} {v : List Int} (hw : Tx w v) (h : RecsA A l) : RecsA (.agg [u64 t, w] :: A) (⟨t, v⟩ :: l) := by
  obtain ⟨h1, h2, h3⟩ := h
  refine ⟨by simp [h1], ?_, fun i hi => ?_⟩
  · have hc := hw.cl
    simp only [closed, closedL, namL, nam, Bool.true_and, Bool.and_true, Bool.and_eq_true] at hc h2 ⊢
    exact ⟨hc, h2⟩
  · cases i with
    | zero => exact ⟨w, rfl, hw⟩
    | succ i =>
      obtain ⟨w', g1, g2⟩ := h3 i (by simpa using hi)
      exact ⟨w', by simpa using g1, g2⟩
theorem call_renc7 (i : Iv) (hm : MayI i) (hf : FineI i) (A : List AV) (hA : RecsA A (recsI i)) : ∃ o, (o = .fresh ∨ o = .none) ∧ ∀ j h, ag T 21 [.slice (.tok j) (some 2) A] h = some (adopt (.tup [.slice o none ((bytesI i).map u8), i64 0]) h) := by
  have hok := recsI_ok hm hf
  have hl := recsI_len i
  obtain ⟨v, hv, hc⟩ := call_rencA A (recsI i) hA (fun r hr => (hok r hr).1) (fun r hr => by have := (hok r hr).2.1; omega) (by omega)
  rw [encI hm hf] at hv
  have hpos := bytesI_pos i
  rcases hv with ⟨h1, _⟩ | ⟨_, ⟨h1, _⟩ | ⟨o, ho, rfl⟩⟩
  · exact absurd rfl h1
  · simp only at h1; rw [h1] at hpos; simp at hpos
  · exact ⟨o, ho, fun j h => hc _ rfl h⟩
theorem rencode_ok (i : Iv) (hf : FineI i) (htl : i.t.length ≤ 140737488351232) : prun T F7 [.agg (ivC i)] = some (encV i) := by
  refine WP_eq (prun_wp ?_)
  have hmay := fun h => call_rmay i hf.t htl h
  by_cases hm : MayI i
  · rw [decide_eq_true hm] at hmay
    obtain ⟨q1, q2, q3, q4, q5, q6, q7, q8, q9, q10⟩ := id hm
    have c1 : ∀ h, ag T 20 [i64 1, i64 i.n] h = some (.slice (.tok h.length) none ((tailS 1 i.n).map u8), h ++ [.row none 1]) := fun h => call_rhigh 1 i.n (by omega) q1 (by omega) h
    have c3 : ∀ h, ag T 20 [i64 1, i64 i.k] h = some (.slice (.tok h.length) none ((tailS 1 i.k).map u8), h ++ [.row none 1]) := fun h => call_rhigh 1 i.k (by omega) (by omega) (by omega) h
    have c9 : ∀ h, ag T 20 [i64 8, i64 i.a] h = some (.slice (.tok h.length) none ((tailS 8 i.a).map u8), h ++ [.row none 8]) := fun h => call_rhigh 8 i.a (by omega) (by omega) hf.a h
    have c11 : ∀ h, ag T 20 [i64 4, i64 i.e] h = some (.slice (.tok h.length) none ((tailS 4 i.e).map u8), h ++ [.row none 4]) := fun h => call_rhigh 4 i.e (by omega) q6 (by omega) h
    have se := st_els hf.t
    have ss := st_size i.t
    have hh := i.h.2
    have hs := i.s.2
    obtain ⟨hbb, hbl⟩ := bytesI_fine hm hf
    have hsb := sumS_bytes (bytesI i)
    have hsl := sumS_len (bytesI i)
    have c4 := fun h => call_rsum4 (bytesI i) hbb (by omega) h
    have c5 := fun j h => call_rdigits (.tok j) rfl (bytesI i ++ sumS (bytesI i)) (bytes_append hbb hsb) (by rw [List.length_append, hsl]; omega) h
    have c6 := fun j h => call_rsum4t j (bytesI i) hbb (by omega) h
    simp only [List.map_append] at c5
    have hdl := digitsS_len (bytesI i ++ sumS (bytesI i))
    rw [List.length_append, hsl] at hdl
    have ca := st_add (a := [116, 104, 49]) (b := digitsS (bytesI i ++ sumS (bytesI i))) (by simp; omega)
    have ef1 : fitsB (bytesI i).length 1 = true := by simp [fitsB]; omega
    have ef2 : fitsB ((bytesI i).length + 4) 1 = true := by simp [fitsB]; omega
    by_cases hk : i.k = 3
    · rw [hk] at c3
      have hrec : recsI i = [⟨1, tailS 1 i.n⟩, ⟨3, tailS 1 3⟩, ⟨7, i.s.1⟩, ⟨9, tailS 8 i.a⟩, ⟨11, tailS 4 i.e⟩, ⟨13, i.t⟩] := by simp [recsI, hk]
      obtain ⟨o, ho, ce⟩ := call_renc7 i hm hf _ (by rw [hrec]; exact recsA_cons (tx_slice _) (recsA_cons (tx_slice _) (recsA_cons (tx_full _) (recsA_cons (tx_slice _) (recsA_cons (tx_slice _) (recsA_cons (tx_slice _) recsA_nil))))))
      rcases ho with rfl | rfl <;> simp only [adopt] at ce
      all_goals
       first | have hb := hb | have hb := trivial
       repeat' (first | (simp -implicitDefEqProofs (disch := omega) only [hb, F7, wV, th1_eq, hmay, c1, c3, c9, c11, c4, c5, c6, ce, ca, ef1, ef2, hsl, ch32, hk, se, ss, hh, hs, setEls, elFits_agg, stripEl_agg, one_slice, one_int, elems_slice, aappend, beqVL_u8, List.replicate_succ, List.replicate_zero, p10, p22, p15, wC, wO, initE, aop, Nat.reduceEqDiff, ↓reduceIte, Nat.reduceAdd, finish, resOf, tupOf, AM.freeze, freeze1, freezeL, closed, nam, namL, if_true, if_false, deref, boxAt, exAt, ldCells, oneL, oneCell, Nat.reduceLeDiff, evL, adopt, rigid, rigidL, trim, Int.reduceEq, Int.reduceMod, Int.reduceDiv, if_pos, if_neg, asI, forall_const, implies_true, chkD, chkO, chkW, effB, reB, vEq, beq_self_eq_true, Nat.reduceSub, Nat.reduceLT, Int.reduceSub, Int.reduceAdd, Int.reduceMul, Int.reduceLT, Int.reduceLE, Int.reduceToNat, optI, aslice, cutSl, cutMs, cutStr, cutOwn]) | ((first | rw [WP_condK] | rw [WP_opsG] | rw [WP_quiG] | rw [WP_dG]); refine And.intro (fun hb => ?_) (fun hb => ?_) <;> (first | have hd := dq1 hb | have hd := dq2 hb | have hd := dq3 hb | have hd := dq4 hb | skip)))
       rw [encV, if_pos hm]
       rfl
    · have hrec : recsI i = [⟨1, tailS 1 i.n⟩, ⟨3, tailS 1 i.k⟩, ⟨5, i.h.1⟩, ⟨7, i.s.1⟩, ⟨9, tailS 8 i.a⟩, ⟨11, tailS 4 i.e⟩, ⟨13, i.t⟩] := by simp [recsI, hk]
      obtain ⟨o, ho, ce⟩ := call_renc7 i hm hf _ (by rw [hrec]; exact recsA_cons (tx_slice _) (recsA_cons (tx_slice _) (recsA_cons (tx_full _) (recsA_cons (tx_full _) (recsA_cons (tx_slice _) (recsA_cons (tx_slice _) (recsA_cons (tx_slice _) recsA_nil)))))))
      rcases ho with rfl | rfl <;> simp only [adopt] at ce
      all_goals
       first | have hb := hb | have hb := trivial
       repeat' (first | (simp -implicitDefEqProofs (disch := omega) only [hb, F7, wV, th1_eq, hmay, c1, c3, c9, c11, c4, c5, c6, ce, ca, ef1, ef2, hsl, ch32, hk, se, ss, hh, hs, setEls, elFits_agg, stripEl_agg, one_slice, one_int, elems_slice, aappend, beqVL_u8, List.replicate_succ, List.replicate_zero, p10, p22, p15, wC, wO, initE, aop, Nat.reduceEqDiff, ↓reduceIte, Nat.reduceAdd, finish, resOf, tupOf, AM.freeze, freeze1, freezeL, closed, nam, namL, if_true, if_false, deref, boxAt, exAt, ldCells, oneL, oneCell, Nat.reduceLeDiff, evL, adopt, rigid, rigidL, trim, Int.reduceEq, Int.reduceMod, Int.reduceDiv, if_pos, if_neg, asI, forall_const, implies_true, chkD, chkO, chkW, effB, reB, vEq, beq_self_eq_true, Nat.reduceSub, Nat.reduceLT, Int.reduceSub, Int.reduceAdd, Int.reduceMul, Int.reduceLT, Int.reduceLE, Int.reduceToNat, optI, aslice, cutSl, cutMs, cutStr, cutOwn]) | ((first | rw [WP_condK] | rw [WP_opsG] | rw [WP_quiG] | rw [WP_dG]); refine And.intro (fun hb => ?_) (fun hb => ?_) <;> (first | have hd := dq1 hb | have hd := dq2 hb | have hd := dq3 hb | have hd := dq4 hb | skip)))
       rw [encV, if_pos hm]
       rfl
  · rw [decide_eq_false hm] at hmay
    first | have hb := hb | have hb := trivial
    repeat' (first | (simp -implicitDefEqProofs (disch := omega) only [hb, F7, wV, hmay, p10, wC, wO, initE, aop, Nat.reduceEqDiff, ↓reduceIte, Nat.reduceAdd, finish, resOf, tupOf, AM.freeze, freeze1, freezeL, closed, nam, namL, if_true, if_false, deref, boxAt, exAt, ldCells, oneL, oneCell, Nat.reduceLeDiff, evL, adopt, rigid, rigidL, trim, Int.reduceEq, Int.reduceMod, Int.reduceDiv, if_pos, if_neg, asI, forall_const, implies_true, chkD, chkO, chkW, effB, reB, vEq, beq_self_eq_true, Nat.reduceSub, Nat.reduceLT, Int.reduceSub, Int.reduceAdd, Int.reduceMul, Int.reduceLT, Int.reduceLE, Int.reduceToNat, optI, aslice, cutSl, cutMs, cutStr, cutOwn]) | ((first | rw [WP_condK] | rw [WP_opsG] | rw [WP_quiG] | rw [WP_dG]); refine And.intro (fun hb => ?_) (fun hb => ?_) <;> (first | have hd := dq1 hb | have hd := dq2 hb | have hd := dq3 hb | have hd := dq4 hb | skip)))
    rw [encV, if_neg hm]
end Go.Proofs.Ytejnficfhoekiaa.AM

/- bigsize's Encode: its bytes are a row of their own. -/
namespace Go.Proofs.Ytejnficfhoekiaa.AM
open Go
set_option maxRecDepth 100000
set_option maxHeartbeats 1000000
set_option linter.unusedSimpArgs false
set_option linter.unusedVariables false
theorem enc_fresh (A : List AV) (l : List Rc) (hA : RecsA A l) (hok : ∀ r ∈ l, Rc.ok r) (hl : l.length ≤ 64 ∧ (flatS l).length ≤ 65536) (hall : ascB l = true) (hpos : 0 < l.length) : prun T F18 [.slice .none (some 2) A] = some (.tup [.slice .fresh none ((flatS l).map u8), i64 0]) := by
  refine WP_eq ?_
  have hB : (flatS l).length ≤ 1152921504606846976 := by omega
  have hn : l.length ≤ 140737488351232 := by omega
  have hcl := hA.2.1
  have hAl := hA.1
  refine prun_wp ?_
  simp -implicitDefEqProofs (disch := omega) only [F18, hAl, wC, initE, aop, Nat.reduceEqDiff, ↓reduceIte, Nat.reduceAdd, finish, resOf, tupOf, AM.freeze, freeze1, freezeL, closed, nam, namL, if_true, if_false, deref, boxAt, exAt, ldCells, oneL, oneCell, Nat.reduceLeDiff, evL, adopt, rigid, rigidL, trim, Int.reduceEq, Int.reduceMod, Int.reduceDiv, if_pos, if_neg, asI, forall_const, implies_true, chkD, chkO, chkW, effB, reB, vEq, beq_self_eq_true, Nat.reduceSub, Nat.reduceLT, Int.reduceSub, Int.reduceAdd, Int.reduceMul, Int.reduceLT, Int.reduceLE, Int.reduceToNat, optI, aslice, cutSl, cutMs, cutStr, cutOwn, cellsOf, one, elCells, lenOf, beqV, beqVL, strip, stripO, convS]
  refine WP_loop (I := fun k e h => ∃ i : Nat, k + i = l.length ∧ getE e 0 = .slice .none (some 2) A ∧ getE e 4 = i64 (flatS (l.take i)).length ∧ getE e 10 = .slice .none (some 2) A ∧ getE e 11 = i64 l.length ∧ getE e 12 = i64 i ∧ ascB (l.take i) = true) ?_ l.length _ _ ⟨0, by omega, rfl, rfl, rfl, rfl, rfl, rfl⟩
  rintro k e h ⟨i, hk, h0, h4, h10, h11, h12, hasc⟩
  rw [trim_off]
  by_cases hlt : i < l.length
  · obtain ⟨w, hg, tx⟩ := hA.2.2 i hlt
    have txl := tx.len
    have txe := tx.els
    have txo := tx.one
    have hu := (hok l[i] (List.getElem_mem hlt)).1
    have hsz1 := sizeS_le l[i].t
    have hsz2 := sizeS_le l[i].v.length
    have hfl := flatS_take_succ hlt
    have hrl := recS_len l[i]
    have hle := flatS_take_le l (i + 1)
    have hfl2 : (flatS (l.take (i + 1))).length = (flatS (l.take i)).length + (recS l[i]).length := by rw [hfl, List.length_append]
    have hbv := tx.beq
    by_cases hi0 : i = 0
    · subst hi0
      have hz : flatS (l.take 0) = [] := rfl
      have hz' : (flatS ([] : List Rc)).length = 0 := rfl
      rw [hz] at hfl2
      simp only [List.length_nil] at hfl2
      first | have hb := hb | have hb := trivial
      repeat' (first | (simp -implicitDefEqProofs (disch := omega) only [hb, hAl, txo, L18_1, h0, h4, h10, h11, h12, hg, txl, txe, call_size, p34, hbv, Bool.and_self, hz', wC, wO, initE, aop, Nat.reduceEqDiff, ↓reduceIte, Nat.reduceAdd, finish, resOf, tupOf, AM.freeze, freeze1, freezeL, closed, nam, namL, if_true, if_false, deref, boxAt, exAt, ldCells, oneL, oneCell, Nat.reduceLeDiff, evL, adopt, rigid, rigidL, trim, Int.reduceEq, Int.reduceMod, Int.reduceDiv, if_pos, if_neg, asI, forall_const, implies_true, chkD, chkO, chkW, effB, reB, vEq, beq_self_eq_true, Nat.reduceSub, Nat.reduceLT, Int.reduceSub, Int.reduceAdd, Int.reduceMul, Int.reduceLT, Int.reduceLE, Int.reduceToNat, optI, aslice, cutSl, cutMs, cutStr, cutOwn]) | ((first | rw [WP_condK] | rw [WP_opsG] | rw [WP_quiG] | rw [WP_dG]); refine And.intro (fun hb => ?_) (fun hb => ?_) <;> (first | have hd := dq1 hb | have hd := dq2 hb | have hd := dq3 hb | have hd := dq4 hb | skip)))
      refine ⟨k - 1, by omega, 1, by omega, ?_, rfl, ?_⟩
      · rw [hfl2]
        simp only [Int.natCast_zero, Int.zero_add, Int.natCast_add, hrl]
      · cases l with
        | nil => rfl
        | cons a r => rfl
    · obtain ⟨w', hg', tx'⟩ := hA.2.2 (i - 1) (by omega)
      have hbv' := tx'.beq
      first | have hb := hb | have hb := trivial
      repeat' (first | (simp -implicitDefEqProofs (disch := omega) only [hb, hAl, txo, L18_1, h0, h4, h10, h11, h12, hg, hg', tx'.one, txl, txe, hbv', call_size, p34, hbv, Bool.and_self, wC, wO, initE, aop, Nat.reduceEqDiff, ↓reduceIte, Nat.reduceAdd, finish, resOf, tupOf, AM.freeze, freeze1, freezeL, closed, nam, namL, if_true, if_false, deref, boxAt, exAt, ldCells, oneL, oneCell, Nat.reduceLeDiff, evL, adopt, rigid, rigidL, trim, Int.reduceEq, Int.reduceMod, Int.reduceDiv, if_pos, if_neg, asI, forall_const, implies_true, chkD, chkO, chkW, effB, reB, vEq, beq_self_eq_true, Nat.reduceSub, Nat.reduceLT, Int.reduceSub, Int.reduceAdd, Int.reduceMul, Int.reduceLT, Int.reduceLE, Int.reduceToNat, optI, aslice, cutSl, cutMs, cutStr, cutOwn]) | ((first | rw [WP_condK] | rw [WP_opsG] | rw [WP_quiG] | rw [WP_dG]); refine And.intro (fun hb => ?_) (fun hb => ?_) <;> (first | have hd := dq1 hb | have hd := dq2 hb | have hd := dq3 hb | have hd := dq4 hb | skip)))
      · exfalso
        have hbad := asc_bad (l := l) (i := i - 1) (by omega) (by simp only [show i - 1 + 1 = i by omega]; omega)
        rw [hall] at hbad
        cases hbad
      · refine ⟨k - 1, by omega, i + 1, by omega, ?_, rfl, ?_⟩
        · rw [hfl2]
          simp only [Int.natCast_add, hrl]
        · have := ascB_take_succ (l := l) (i := i - 1) (by omega) (by rw [show i - 1 + 1 = i by omega]; exact hasc) (by simp only [show i - 1 + 1 = i by omega]; omega)
          rwa [show i - 1 + 2 = i + 1 by omega] at this
  · have hi : i = l.length := by omega
    subst hi
    rw [List.take_length] at h4 hasc
    first | have hb := hb | have hb := trivial
    repeat' (first | (simp -implicitDefEqProofs (disch := omega) only [hb, hAl, L18_1, h0, h4, h10, h11, h12, wC, initE, aop, Nat.reduceEqDiff, ↓reduceIte, Nat.reduceAdd, finish, resOf, tupOf, AM.freeze, freeze1, freezeL, closed, nam, namL, if_true, if_false, deref, boxAt, exAt, ldCells, oneL, oneCell, Nat.reduceLeDiff, evL, adopt, rigid, rigidL, trim, Int.reduceEq, Int.reduceMod, Int.reduceDiv, if_pos, if_neg, asI, forall_const, implies_true, chkD, chkO, chkW, effB, reB, vEq, beq_self_eq_true, Nat.reduceSub, Nat.reduceLT, Int.reduceSub, Int.reduceAdd, Int.reduceMul, Int.reduceLT, Int.reduceLE, Int.reduceToNat, optI, aslice, cutSl, cutMs, cutStr, cutOwn, cellsOf, one, elCells, lenOf, beqV, beqVL, strip, stripO, convS]) | ((first | rw [WP_condK] | rw [WP_opsG] | rw [WP_quiG] | rw [WP_dG]); refine And.intro (fun hb => ?_) (fun hb => ?_) <;> (first | have hd := dq1 hb | have hd := dq2 hb | have hd := dq3 hb | have hd := dq4 hb | skip)))
    · skip
      refine WP_loop (I := fun k e h => ∃ i : Nat, k + i = l.length ∧ Out (getE e 7) (flatS (l.take i)) ∧ (0 < i → ∃ j, getE e 7 = .slice (.tok j) none ((flatS (l.take i)).map u8) ∧ h[j]? = some (.row none (flatS (l.take i)).length)) ∧ getE e 53 = .slice .none (some 2) A ∧ getE e 54 = i64 l.length ∧ getE e 55 = i64 i) ?_ l.length _ _ ⟨0, by omega, .inl ⟨rfl, rfl⟩, (fun h0 => by omega), rfl, rfl, rfl⟩
      rintro k e h ⟨i, hk, h7, hj7, h53, h54, h55⟩
      rw [trim_off]
      by_cases hlt : i < l.length
      · obtain ⟨w, hg, tx⟩ := hA.2.2 i hlt
        have txl := tx.len
        have txe := tx.els
        have txo := tx.one
        have hu := (hok l[i] (List.getElem_mem hlt)).1
        have hfl := flatS_take_succ hlt
        have hrl := recS_len l[i]
        have hle := flatS_take_le l (i + 1)
        have hfl2 : (flatS (l.take (i + 1))).length = (flatS (l.take i)).length + (recS l[i]).length := by rw [hfl, List.length_append]
        have hbv := tx.beq
        have hsz1 := sizeS_le l[i].t
        have hsz2 := sizeS_le l[i].v.length
        have ln := numS_len l[i].t
        have ln2 := numS_len l[i].v.length
        have hp1 := out_put h7 l[i].t hu (by omega)
        have hu2 : U64 (l[i].v.length : Int) := by constructor <;> omega
        have hp2 := fun (o : AOwn) (h : Heap) => call_put o (flatS (l.take i) ++ numS l[i].t) l[i].v.length hu2 (by rw [List.length_append]; omega) h
        generalize hv7 : getE e 7 = v7 at *
        first | have hb := hb | have hb := trivial
        repeat' (first | (simp -implicitDefEqProofs (disch := omega) only [hb, hAl, txo, L18_0, h53, h54, h55, hg, txl, txe, hv7, hp1, hp2, p35, hbv, Bool.and_self, gA, gB1, gB2, gB3, gC1, gC2, sB3, u8_len, aappend, wC, wO, initE, aop, Nat.reduceEqDiff, ↓reduceIte, Nat.reduceAdd, finish, resOf, tupOf, AM.freeze, freeze1, freezeL, closed, nam, namL, if_true, if_false, deref, boxAt, exAt, ldCells, oneL, oneCell, Nat.reduceLeDiff, evL, adopt, rigid, rigidL, trim, Int.reduceEq, Int.reduceMod, Int.reduceDiv, if_pos, if_neg, asI, forall_const, implies_true, chkD, chkO, chkW, effB, reB, vEq, beq_self_eq_true, Nat.reduceSub, Nat.reduceLT, Int.reduceSub, Int.reduceAdd, Int.reduceMul, Int.reduceLT, Int.reduceLE, Int.reduceToNat, optI, aslice, cutSl, cutMs, cutStr, cutOwn]) | ((first | rw [WP_condK] | rw [WP_opsG] | rw [WP_quiG] | rw [WP_dG]); refine And.intro (fun hb => ?_) (fun hb => ?_) <;> (first | have hd := dq1 hb | have hd := dq2 hb | have hd := dq3 hb | have hd := dq4 hb | skip)))
        have hel : (flatS (l.take i) ++ numS l[i].t ++ numS l[i].v.length).map u8 ++ l[i].v.map u8 = (flatS (l.take (i + 1))).map u8 := by
          rw [hfl, recS, ← List.append_assoc, ← List.append_assoc, List.map_append (l₂ := l[i].v)]
        refine ⟨k - 1, by omega, i + 1, by omega, .inr ⟨.tok (List.length h + 1 + 1), by simp, ?_⟩, fun _ => ⟨List.length h + 1 + 1, ?_, ?_⟩, rfl⟩
        · rw [← hel]
        · rw [← hel]
        · rw [gB3, hfl2, recS, List.length_append, List.length_append]
          congr 2
          omega
      · have hi : i = l.length := by omega
        subst hi
        rw [List.take_length] at h7
        generalize hv7 : getE e 7 = v7 at *
        first | have hb := hb | have hb := trivial
        repeat' (first | (simp -implicitDefEqProofs (disch := omega) only [hb, hAl, L18_0, h53, h54, h55, hv7, wC, initE, aop, Nat.reduceEqDiff, ↓reduceIte, Nat.reduceAdd, finish, resOf, tupOf, freezeL, closed, nam, namL, if_true, if_false, deref, boxAt, exAt, ldCells, oneL, oneCell, Nat.reduceLeDiff, evL, adopt, rigid, rigidL, trim, Int.reduceEq, Int.reduceMod, Int.reduceDiv, if_pos, if_neg, asI, forall_const, implies_true, chkD, chkO, chkW, effB, reB, vEq, beq_self_eq_true, Nat.reduceSub, Nat.reduceLT, Int.reduceSub, Int.reduceAdd, Int.reduceMul, Int.reduceLT, Int.reduceLE, Int.reduceToNat, optI, aslice, cutSl, cutMs, cutStr, cutOwn, cellsOf, one, elCells, lenOf, beqV, beqVL, strip, stripO, convS]) | ((first | rw [WP_condK] | rw [WP_opsG] | rw [WP_quiG] | rw [WP_dG]); refine And.intro (fun hb => ?_) (fun hb => ?_) <;> (first | have hd := dq1 hb | have hd := dq2 hb | have hd := dq3 hb | have hd := dq4 hb | skip)))
        obtain ⟨j, hj, hrow⟩ := hj7 hpos
        rw [List.take_length] at hj hrow
        subst hj
        have hc := u8_closed (flatS l)
        simp only [freeze, freezeL, freeze1, hc, if_true, hrow, List.length_map, closed, nam, Option.bind_some, Option.map_some, WP]
theorem call_enc_fresh (A : List AV) (l : List Rc) (hA : RecsA A l) (hok : ∀ r ∈ l, Rc.ok r) (hl : l.length ≤ 64 ∧ (flatS l).length ≤ 65536) (hall : ascB l = true) (hpos : 0 < l.length) (h : Heap) : ag T 18 [.slice .none (some 2) A] h = some (.tup [.slice (.tok h.length) none ((flatS l).map u8), i64 0], h ++ [.row none (flatS l).length]) := by
  have h1 := call_pure (T := T) (h := h) (args := [.slice .none (some 2) A]) rfl t18 rfl rfl (by
    have := hA.2.1
    simp only [List.map_cons, List.map_nil, strip, stripO, closedL, namL, nam, Bool.and_true, Bool.true_and] at this ⊢
    exact this) (by simpa [strip, stripO] using enc_fresh A l hA hok hl hall hpos)
  rw [h1]
  simp only [adopt, List.length_map]
end Go.Proofs.Ytejnficfhoekiaa.AM

/- invoice: Encode. -/
namespace Go.Proofs.Ytejnficfhoekiaa.AM
open Go
set_option maxRecDepth 100000
set_option maxHeartbeats 1000000
set_option linter.unusedSimpArgs false
set_option linter.unusedVariables false
theorem call_enc7 (i : Iv) (hm : MayI i) (hf : FineI i) (A : List AV) (hA : RecsA A (recsI i)) (h : Heap) : ag T 18 [.slice .none (some 2) A] h = some (.tup [.slice (.tok h.length) none ((bytesI i).map u8), i64 0], h ++ [.row none (bytesI i).length]) := by
  have hok := recsI_ok hm hf
  have hl := recsI_len i
  have hb := (bytesI_fine hm hf).2
  exact call_enc_fresh A (recsI i) hA (fun r hr => (hok r hr).1) ⟨by omega, by unfold bytesI at hb; omega⟩ (recsI_asc i) (by unfold recsI; simp) h
section
variable {a0 a1 a2 a3 a4 a5 a6 a7 a8 a9 a10 a11 a12 a13 : AV}
theorem q_fl7 : List.flatten [[a0, a1], [a2, a3], [a4, a5], [a6, a7], [a8, a9], [a10, a11], [a12, a13]] = [a0, a1, a2, a3, a4, a5, a6, a7, a8, a9, a10, a11, a12, a13] := rfl
theorem q_fl4 : List.flatten [[a0, a1], [a2, a3], [a4, a5], [a6, a7]] = [a0, a1, a2, a3, a4, a5, a6, a7] := rfl
theorem q_ln : (List.length [a0, a1, a2, a3, a4, a5, a6, a7, a8, a9, a10, a11, a12, a13]) = 14 := rfl
theorem q_ln12 : (List.length [a0, a1, a2, a3, a4, a5, a6, a7, a8, a9, a10, a11]) = 12 := rfl
theorem q_dr : List.drop (3 * 2) [a0, a1, a2, a3, a4, a5, a6, a7, a8, a9, a10, a11, a12, a13] = [a6, a7, a8, a9, a10, a11, a12, a13] := rfl
theorem q_tk : List.take (2 * 2) [a0, a1, a2, a3, a4, a5, a6, a7, a8, a9, a10, a11, a12, a13] = [a0, a1, a2, a3] := rfl
theorem q_ag4 : aggs 2 4 [a0, a1, a2, a3, a4, a5, a6, a7] = [.agg [a0, a1], .agg [a2, a3], .agg [a4, a5], .agg [a6, a7]] := rfl
theorem q_ag6 : aggs 2 6 [a0, a1, a2, a3, a4, a5, a6, a7, a8, a9, a10, a11] = [.agg [a0, a1], .agg [a2, a3], .agg [a4, a5], .agg [a6, a7], .agg [a8, a9], .agg [a10, a11]] := rfl
theorem q_ag7 : aggs 2 7 [a0, a1, a2, a3, a4, a5, a6, a7, a8, a9, a10, a11, a12, a13] = [.agg [a0, a1], .agg [a2, a3], .agg [a4, a5], .agg [a6, a7], .agg [a8, a9], .agg [a10, a11], .agg [a12, a13]] := rfl
end
theorem q_73 : (((7 : Nat) : Int) - 3).toNat = 4 := rfl
theorem q_20 : ((2 : Int) - 0).toNat = 2 := rfl
theorem encode_ok (i : Iv) (hf : FineI i) (htl : i.t.length ≤ 140737488351232) : prun T F6 [.agg (ivC i)] = some (encV i) := by
  refine WP_eq (prun_wp ?_)
  have hmay := fun h => call_may i hf.t htl h
  by_cases hm : MayI i
  · rw [decide_eq_true hm] at hmay
    obtain ⟨q1, q2, q3, q4, q5, q6, q7, q8, q9, q10⟩ := id hm
    have c1 : ∀ h, ag T 17 [i64 1, i64 i.n] h = some (.slice .full none ((tailS 1 i.n).map u8), h) := fun h => call_high 1 i.n (by omega) q1 (by omega) h
    have c3 : ∀ h, ag T 17 [i64 1, i64 i.k] h = some (.slice .full none ((tailS 1 i.k).map u8), h) := fun h => call_high 1 i.k (by omega) (by omega) (by omega) h
    have c9 : ∀ h, ag T 17 [i64 8, i64 i.a] h = some (.slice .full none ((tailS 8 i.a).map u8), h) := fun h => call_high 8 i.a (by omega) (by omega) hf.a h
    have c11 : ∀ h, ag T 17 [i64 4, i64 i.e] h = some (.slice .full none ((tailS 4 i.e).map u8), h) := fun h => call_high 4 i.e (by omega) q6 (by omega) h
    have se := st_els hf.t
    have ss := st_size i.t
    have hh := i.h.2
    have hs := i.s.2
    obtain ⟨hbb, hbl⟩ := bytesI_fine hm hf
    have hsb := sumS_bytes (bytesI i)
    have hsl := sumS_len (bytesI i)
    have c4 := fun h => call_sum4 .none rfl (bytesI i) hbb (by omega) h
    have c6 := fun j h => call_sum4 (.tok j) rfl (bytesI i) hbb (by omega) h
    have c5 := fun j h => call_digits (.tok j) rfl (bytesI i ++ sumS (bytesI i)) (bytes_append hbb hsb) (by rw [List.length_append, hsl]; omega) h
    simp only [List.map_append] at c5
    have hdl := digitsS_len (bytesI i ++ sumS (bytesI i))
    rw [List.length_append, hsl] at hdl
    have ca := st_add (a := [116, 104, 49]) (b := digitsS (bytesI i ++ sumS (bytesI i))) (by simp; omega)
    have ef1 : fitsB (bytesI i).length 1 = true := by simp [fitsB]; omega
    have ef2 : fitsB ((bytesI i).length + 4) 1 = true := by simp [fitsB]; omega
    have ef3 : fitsB 6 32 = true := rfl
    by_cases hk : i.k = 3
    · rw [hk] at c3
      have hrec : recsI i = [⟨1, tailS 1 i.n⟩, ⟨3, tailS 1 3⟩, ⟨7, i.s.1⟩, ⟨9, tailS 8 i.a⟩, ⟨11, tailS 4 i.e⟩, ⟨13, i.t⟩] := by simp [recsI, hk]
      have ce := fun h => call_enc7 i hm hf _ (by rw [hrec]; exact recsA_cons (tx_full _) (recsA_cons (tx_full _) (recsA_cons (tx_full _) (recsA_cons (tx_full _) (recsA_cons (tx_full _) (recsA_cons (tx_slice _) recsA_nil)))))) h
      first | have hb := hb | have hb := trivial
      repeat' (first | (simp -implicitDefEqProofs (disch := omega) only [hb, F6, wV, th1_eq, hmay, c1, c3, c9, c11, c4, c5, c6, ce, ca, ef1, ef2, ef3, hsl, ch32, hk, se, ss, hh, hs, setEls, elFits_agg, stripEl_agg, one_slice, one_int, elems_slice, aappend, appV, q_fl7, q_fl4, q_ln, q_ln12, q_dr, q_tk, q_ag4, q_ag6, q_ag7, q_73, q_20, msEls, boxAt, chunks, elC_agg, beqVL_u8, List.replicate_succ, List.replicate_zero, p9, p19, p12, p17, wC, wO, initE, aop, Nat.reduceEqDiff, ↓reduceIte, Nat.reduceAdd, finish, resOf, tupOf, AM.freeze, freeze1, freezeL, closed, nam, namL, if_true, if_false, deref, boxAt, exAt, ldCells, oneL, oneCell, Nat.reduceLeDiff, evL, adopt, rigid, rigidL, trim, Int.reduceEq, Int.reduceMod, Int.reduceDiv, if_pos, if_neg, asI, forall_const, implies_true, chkD, chkO, chkW, effB, reB, vEq, beq_self_eq_true, Nat.reduceSub, Nat.reduceLT, Int.reduceSub, Int.reduceAdd, Int.reduceMul, Int.reduceLT, Int.reduceLE, Int.reduceToNat, optI, aslice, cutSl, cutMs, cutStr, cutOwn]) | ((first | rw [WP_condK] | rw [WP_opsG] | rw [WP_quiG] | rw [WP_dG]); refine And.intro (fun hb => ?_) (fun hb => ?_) <;> (first | have hd := dq1 hb | have hd := dq2 hb | have hd := dq3 hb | have hd := dq4 hb | skip)))
      rw [encV, if_pos hm]
      rfl
    · have hrec : recsI i = [⟨1, tailS 1 i.n⟩, ⟨3, tailS 1 i.k⟩, ⟨5, i.h.1⟩, ⟨7, i.s.1⟩, ⟨9, tailS 8 i.a⟩, ⟨11, tailS 4 i.e⟩, ⟨13, i.t⟩] := by simp [recsI, hk]
      have ce := fun h => call_enc7 i hm hf _ (by rw [hrec]; exact recsA_cons (tx_full _) (recsA_cons (tx_full _) (recsA_cons (tx_full _) (recsA_cons (tx_full _) (recsA_cons (tx_full _) (recsA_cons (tx_full _) (recsA_cons (tx_slice _) recsA_nil))))))) h
      first | have hb := hb | have hb := trivial
      repeat' (first | (simp -implicitDefEqProofs (disch := omega) only [hb, F6, wV, th1_eq, hmay, c1, c3, c9, c11, c4, c5, c6, ce, ca, ef1, ef2, ef3, hsl, ch32, hk, se, ss, hh, hs, setEls, elFits_agg, stripEl_agg, one_slice, one_int, elems_slice, aappend, appV, q_fl7, q_fl4, q_ln, q_ln12, q_dr, q_tk, q_ag4, q_ag6, q_ag7, q_73, q_20, msEls, boxAt, chunks, elC_agg, beqVL_u8, List.replicate_succ, List.replicate_zero, p9, p19, p12, p17, wC, wO, initE, aop, Nat.reduceEqDiff, ↓reduceIte, Nat.reduceAdd, finish, resOf, tupOf, AM.freeze, freeze1, freezeL, closed, nam, namL, if_true, if_false, deref, boxAt, exAt, ldCells, oneL, oneCell, Nat.reduceLeDiff, evL, adopt, rigid, rigidL, trim, Int.reduceEq, Int.reduceMod, Int.reduceDiv, if_pos, if_neg, asI, forall_const, implies_true, chkD, chkO, chkW, effB, reB, vEq, beq_self_eq_true, Nat.reduceSub, Nat.reduceLT, Int.reduceSub, Int.reduceAdd, Int.reduceMul, Int.reduceLT, Int.reduceLE, Int.reduceToNat, optI, aslice, cutSl, cutMs, cutStr, cutOwn]) | ((first | rw [WP_condK] | rw [WP_opsG] | rw [WP_quiG] | rw [WP_dG]); refine And.intro (fun hb => ?_) (fun hb => ?_) <;> (first | have hd := dq1 hb | have hd := dq2 hb | have hd := dq3 hb | have hd := dq4 hb | skip)))
      rw [encV, if_pos hm]
      rfl
  · rw [decide_eq_false hm] at hmay
    first | have hb := hb | have hb := trivial
    repeat' (first | (simp -implicitDefEqProofs (disch := omega) only [hb, F6, wV, hmay, p9, wC, wO, initE, aop, Nat.reduceEqDiff, ↓reduceIte, Nat.reduceAdd, finish, resOf, tupOf, AM.freeze, freeze1, freezeL, closed, nam, namL, if_true, if_false, deref, boxAt, exAt, ldCells, oneL, oneCell, Nat.reduceLeDiff, evL, adopt, rigid, rigidL, trim, Int.reduceEq, Int.reduceMod, Int.reduceDiv, if_pos, if_neg, asI, forall_const, implies_true, chkD, chkO, chkW, effB, reB, vEq, beq_self_eq_true, Nat.reduceSub, Nat.reduceLT, Int.reduceSub, Int.reduceAdd, Int.reduceMul, Int.reduceLT, Int.reduceLE, Int.reduceToNat, optI, aslice, cutSl, cutMs, cutStr, cutOwn]) | ((first | rw [WP_condK] | rw [WP_opsG] | rw [WP_quiG] | rw [WP_dG]); refine And.intro (fun hb => ?_) (fun hb => ?_) <;> (first | have hd := dq1 hb | have hd := dq2 hb | have hd := dq3 hb | have hd := dq4 hb | skip)))
    rw [encV, if_neg hm]
end Go.Proofs.Ytejnficfhoekiaa.AM

/- invoice: the calls of the reference's Encode and of both Decodes. -/
namespace Go.Proofs.Ytejnficfhoekiaa.AM
open Go
set_option maxRecDepth 100000
set_option linter.unusedSimpArgs false
set_option linter.unusedVariables false
theorem call_rencode (i : Iv) (hf : FineI i) (htl : i.t.length ≤ 140737488351232) (h : Heap) : ag T 7 [.agg (ivC i)] h = some (encV i, h) := by
  have h1 := call_pure (T := T) (h := h) (args := [.agg (ivC i)]) rfl t7 rfl rfl (by simp only [List.map_cons, List.map_nil, strip, closedL, namL, nam, Bool.and_true]; exact iv_closed i) (rencode_ok i hf htl)
  rw [h1]
  unfold encV
  split <;> rfl
theorem call_decode (s : List Int) (hs : Bytes s) (hn : s.length ≤ 1000000000000) (h : Heap) : ag T 11 [.sc (.string (strOfNums s))] h = some (decV (decI s), h) :=
  call_pure (T := T) (v := decV (decI s)) rfl t11 rfl rfl rfl (decode_ok s hs hn)
end Go.Proofs.Ytejnficfhoekiaa.AM

/- invoice: InvoiceEncodes' run. -/
namespace Go.Proofs.Ytejnficfhoekiaa.AM
open Go
set_option maxRecDepth 100000
set_option maxHeartbeats 1000000
set_option linter.unusedSimpArgs false
set_option linter.unusedVariables false
theorem call_encode (i : Iv) (hf : FineI i) (htl : i.t.length ≤ 140737488351232) (h : Heap) : ag T 6 [.agg (ivC i)] h = some (encV i, h) := by
  have h1 := call_pure (T := T) (h := h) (args := [.agg (ivC i)]) rfl t6 rfl rfl (by simp only [List.map_cons, List.map_nil, strip, closedL, namL, nam, Bool.and_true]; exact iv_closed i) (encode_ok i hf htl)
  rw [h1]
  unfold encV
  split <;> rfl
theorem encodes_of (hlv : ∀ h, ag T 8 [] h = some (.bool true, h)) (i : Iv) (hf : FineI i) (htl : i.t.length ≤ 140737488351232) : ag T 3 [.agg (ivC i)] [] = some (.bool true, []) := by
  refine call_sc rfl t3 rfl rfl (by simp [strip, iv_strip]) (by simp only [closedL, namL, nam, Bool.and_true]; exact iv_closed i) ?_
  refine WP_eq (prun_wp ?_)
  have c1 := hlv
  have c2 := fun h => call_encode i hf htl h
  have c3 := fun h => call_rencode i hf htl h
  have c4 := fun h => call_may i hf.t htl h
  have c5 := fun h => call_rmay i hf.t htl h
  have pl := p8
  have hz := iv_len Iv.zero
  by_cases hm : MayI i
  · have he : encV i = .tup [.str (strOfNums (textI i)), i64 0] := if_pos hm
    rw [he] at c2 c3
    rw [decide_eq_true hm] at c4 c5
    obtain ⟨hb, hl, hl3⟩ := textI_fine hm hf
    have hdec := decI_text hm hf
    obtain ⟨t, ht⟩ : ∃ t, textI i = t := ⟨_, rfl⟩
    rw [ht] at c2 c3 hb hl hl3 hdec
    clear ht he
    have c6 := fun h => call_decode t hb (by omega) h
    rw [hdec] at c6
    simp only [decV] at c6
    have q1 := iv_eq i i hf.t hf.t
    rw [decide_eq_true rfl] at q1
    have q2 : abin .neq (.string (strOfNums t)) (.string (strOfNums t)) = some (.bool false) := by rw [st_ne hb hb]; simp
    first | have hb := hb | have hb := trivial
    repeat' (first | (simp -implicitDefEqProofs (disch := omega) only [hb, F3, wV, c1, c2, c3, c4, c5, c6, pl, hz, ivK_eq, q1, q2, p11, p6, p9, p10, p7, wC, wO, initE, aop, Nat.reduceEqDiff, ↓reduceIte, Nat.reduceAdd, finish, resOf, tupOf, AM.freeze, freeze1, freezeL, closed, nam, namL, if_true, if_false, deref, boxAt, exAt, ldCells, oneL, oneCell, Nat.reduceLeDiff, evL, adopt, rigid, rigidL, trim, Int.reduceEq, Int.reduceMod, Int.reduceDiv, if_pos, if_neg, asI, forall_const, implies_true, chkD, chkO, chkW, effB, reB, vEq, beq_self_eq_true, Nat.reduceSub, Nat.reduceLT, Int.reduceSub, Int.reduceAdd, Int.reduceMul, Int.reduceLT, Int.reduceLE, Int.reduceToNat, optI, aslice, cutSl, cutMs, cutStr, cutOwn]) | ((first | rw [WP_condK] | rw [WP_opsG] | rw [WP_quiG] | rw [WP_dG]); refine And.intro (fun hb => ?_) (fun hb => ?_) <;> (first | have hd := dq1 hb | have hd := dq2 hb | have hd := dq3 hb | have hd := dq4 hb | skip)))
  · have he : encV i = .tup [.str (strOfNums []), i64 1] := if_neg hm
    rw [he] at c2 c3
    rw [decide_eq_false hm] at c4 c5
    have q2 : abin .neq (.string (strOfNums [])) (.string (strOfNums [])) = some (.bool false) := by rw [st_ne (fun c hc => by cases hc) (fun c hc => by cases hc)]; rfl
    first | have hb := hb | have hb := trivial
    repeat' (first | (simp -implicitDefEqProofs (disch := omega) only [hb, F3, wV, c1, c2, c3, c4, c5, pl, hz, ivK_eq, q2, p11, p6, p9, p10, p7, wC, wO, initE, aop, Nat.reduceEqDiff, ↓reduceIte, Nat.reduceAdd, finish, resOf, tupOf, AM.freeze, freeze1, freezeL, closed, nam, namL, if_true, if_false, deref, boxAt, exAt, ldCells, oneL, oneCell, Nat.reduceLeDiff, evL, adopt, rigid, rigidL, trim, Int.reduceEq, Int.reduceMod, Int.reduceDiv, if_pos, if_neg, asI, forall_const, implies_true, chkD, chkO, chkW, effB, reB, vEq, beq_self_eq_true, Nat.reduceSub, Nat.reduceLT, Int.reduceSub, Int.reduceAdd, Int.reduceMul, Int.reduceLT, Int.reduceLE, Int.reduceToNat, optI, aslice, cutSl, cutMs, cutStr, cutOwn]) | ((first | rw [WP_condK] | rw [WP_opsG] | rw [WP_quiG] | rw [WP_dG]); refine And.intro (fun hb => ?_) (fun hb => ?_) <;> (first | have hd := dq1 hb | have hd := dq2 hb | have hd := dq3 hb | have hd := dq4 hb | skip)))
end Go.Proofs.Ytejnficfhoekiaa.AM

/- what must come of every program: by the kernel, with the digests as contracts. -/
namespace Go.Proofs.Ytejnficfhoekiaa.AM
open Go
set_option maxRecDepth 100000
set_option linter.unusedSimpArgs false
set_option linter.unusedVariables false
/-- a call that gives a plain value gives it wherever it is made -/
theorem k_any {f : Nat} {F : AFn} {args : List AV} {v : Value} (hx : T.ext f = none) (hf : T.fn f = some F) (hp : F.pure = true) (hl : args.length = F.np) (hm : args.map strip = args) (hc : closedL args = true) (hr : ag T f args [] = some (.sc v, [])) (h : Heap) : ag T f args h = some (.sc v, h) := by
  rw [ag_pure hx hf hp args hl] at hr ⊢
  simp only [pcall, prep, hm, if_pos hc, Option.bind_some, Bool.false_eq_true, if_false, Option.bind_eq_some_iff] at hr ⊢
  obtain ⟨w, h1, h2⟩ := hr
  refine ⟨w, h1, ?_⟩
  have h2' := Option.some.inj h2
  have : w = .sc v := by
    unfold adopt at h2'
    split at h2'
    · cases h2'
    · cases h2'
    · cases h2'; rfl
  subst this
  rfl
theorem lives_k : ag T 8 [] [] = some (.sc (.bool true), []) := ag_of_sums (n := 1000) (by kernel_rfl)
theorem call_lives (h : Heap) : ag T 8 [] h = some (.bool true, h) := k_any rfl t8 rfl rfl rfl rfl lives_k h
end Go.Proofs.Ytejnficfhoekiaa.AM

/- What comes in: bytes, numbers, hashes, records. -/
namespace Go.Proofs.Ytejnficfhoekiaa.AM
open Go
set_option linter.unusedSimpArgs false
set_option linter.unusedVariables false
theorem oc_slice {S : St} {xs : List AV} {a : Option Addr} {n c : Nat} (h : VL S xs (Value.slice a n c).cells.toList) : VL S xs [.slice a n c] := h
theorem oc_agg {S : St} {xs : List AV} {c : Array Value} (h : VL S xs (Value.agg c).cells.toList) : VL S [.agg xs] [.agg c] := VL_cons (by simp only [V]; exact ⟨c, rfl, h⟩) VL_nil
theorem okWide_array {P : Program} {w : World} {r : Reach} {base : Nat} {t : TypeId} {v : Value} {n : Nat} {e : TypeId} (ht : P.underlying t = some (.array n e)) (h : Value.okWide P w r base t v) : ∃ cs, v = .agg cs ∧ cs.size = P.cellsOf t := by
  simp only [Value.okWide, ht] at h
  obtain ⟨cs, h1, h2, _⟩ := h
  exact ⟨cs, h1, h2⟩
theorem wf_i64 {x : Int} (h : (Lit.int .i64 x).wf = true) : I64 x := by
  simp [Lit.wf, IntKind.min, IntKind.max, IntKind.bits, IntKind.signed] at h
  unfold I64
  omega
theorem wf_u64 {x : Int} (h : (Lit.int .u64 x).wf = true) : U64 x := by
  simp [Lit.wf, IntKind.min, IntKind.max, IntKind.bits, IntKind.signed] at h
  unfold U64
  omega
theorem wf_b {x : Int} (h : (Lit.int .u8 x).wf = true) : 0 ≤ x ∧ x ≤ 255 := by
  simp [Lit.wf, IntKind.min, IntKind.max, IntKind.bits, IntKind.signed] at h
  omega
theorem reads_i64 {P : Program} {t : TypeId} (ht : P.underlying t = some (.int .i64)) : Reads P t (fun xs => ∃ x, xs = [i64 x] ∧ I64 x) :=
  (Reads.int ht).imp fun xs ⟨x, h, w⟩ => ⟨x, h, wf_i64 w⟩
theorem reads_u64 {P : Program} {t : TypeId} (ht : P.underlying t = some (.int .u64)) : Reads P t (fun xs => ∃ x, xs = [u64 x] ∧ U64 x) :=
  (Reads.int ht).imp fun xs ⟨x, h, w⟩ => ⟨x, h, wf_u64 w⟩
theorem els_of {I : List AV → Prop} {α : Type} {k : Option Nat} {f : α → AV} {p : α → Prop} (hI : ∀ y, I y ∧ y.length = kz k ∧ oneL y = true → ∃ x, mkEl k y = f x ∧ p x) : ∀ {ys : List (List AV)}, (∀ y ∈ ys, I y ∧ y.length = kz k ∧ oneL y = true) → ∃ l : List α, ys.map (mkEl k) = l.map f ∧ l.length = ys.length ∧ ∀ x ∈ l, p x := by
  intro ys
  induction ys with
  | nil => intro _; exact ⟨[], rfl, rfl, by intro c hc; cases hc⟩
  | cons y ys ih =>
    intro h
    obtain ⟨l, h1, h2, h3⟩ := ih fun z hz => h z (List.mem_cons_of_mem _ hz)
    obtain ⟨x, hx, px⟩ := hI y (h y List.mem_cons_self)
    refine ⟨x :: l, by rw [List.map_cons, List.map_cons, h1, hx], by simp [h2], ?_⟩
    intro c hc
    rcases List.mem_cons.1 hc with rfl | hc
    · exact px
    · exact h3 c hc
theorem reads_sl {P : Program} {t e : TypeId} {k : Option Nat} {I : List AV → Prop} {α : Type} {f : α → AV} {p : α → Prop} (ht : P.underlying t = some (.slice e)) (hc : P.cellsOf e = kz k) (hz : 0 < kz k) (B : Nat) (hb : P.bytesOf e = B) (h : Reads P e I)
    (hI : ∀ y, I y ∧ y.length = kz k ∧ oneL y = true → ∃ x, mkEl k y = f x ∧ p x) : Reads P t (fun xs => ∃ l : List α, xs = [.slice .none k (l.map f)] ∧ (∀ x ∈ l, p x) ∧ l.length * B ≤ 140737488351232) :=
  (Reads.slice ht hc hz h).imp fun xs ⟨ys, h1, h2, h3⟩ => by
    obtain ⟨l, g1, g2, g3⟩ := els_of hI h3
    refine ⟨l, by rw [h1, g1], g3, ?_⟩
    rw [g2, ← hb]
    exact h2
theorem reads_bytes {P : Program} {t e : TypeId} (ht : P.underlying t = some (.slice e)) (he : P.underlying e = some (.int .u8)) (hc : P.cellsOf e = 1) (hb : P.bytesOf e = 1) : Reads P t (fun xs => ∃ l : List Int, xs = [.slice .none none (l.map u8)] ∧ Bytes l ∧ l.length ≤ 140737488351232) :=
  (reads_sl (k := none) (f := u8) (p := fun c => 0 ≤ c ∧ c ≤ 255) ht hc (by decide) 1 hb (Reads.int he) (fun y ⟨⟨x, hy, hw⟩, _, _⟩ => ⟨x, by rw [hy]; rfl, wf_b hw⟩)).imp fun xs ⟨l, h1, h2, h3⟩ => ⟨l, h1, h2, by omega⟩
theorem reads_nums {P : Program} {t e : TypeId} (ht : P.underlying t = some (.slice e)) (he : P.underlying e = some (.int .u64)) (hc : P.cellsOf e = 1) (hb : P.bytesOf e = 8) : Reads P t (fun xs => ∃ l : List Int, xs = [.slice .none none (l.map u64)] ∧ (∀ x ∈ l, U64 x) ∧ l.length * 8 ≤ 140737488351232) :=
  reads_sl (k := none) (f := u64) ht hc (by decide) 8 hb (Reads.int he) (fun y ⟨⟨x, hy, hw⟩, _, _⟩ => ⟨x, by rw [hy]; rfl, wf_u64 hw⟩)
theorem flat_bytes : ∀ {ys : List (List AV)}, (∀ y ∈ ys, (∃ x, y = [u8 x] ∧ (Lit.int .u8 x).wf = true) ∧ y.length = 1) → ∃ l : List Int, ys.flatten = l.map u8 ∧ l.length = ys.length ∧ Bytes l
  | [], _ => ⟨[], rfl, rfl, by intro c hc; cases hc⟩
  | y :: ys, h => by
    obtain ⟨l, h1, h2, h3⟩ := flat_bytes fun z hz => h z (List.mem_cons_of_mem _ hz)
    obtain ⟨⟨x, rfl, hx⟩, _⟩ := h y List.mem_cons_self
    refine ⟨x :: l, by rw [List.flatten_cons, h1]; rfl, by simp [h2], ?_⟩
    intro c hc
    rcases List.mem_cons.1 hc with rfl | hc
    · exact wf_b hx
    · exact h3 c hc
theorem reads_hash {P : Program} {t e : TypeId} {n : Nat} (ht : P.underlying t = some (.array n e)) (hc : P.cellsOf t = n * P.cellsOf e) (he : P.underlying e = some (.int .u8)) (hc1 : P.cellsOf e = 1) : Reads P t (fun xs => ∃ l : List Int, xs = l.map u8 ∧ l.length = n ∧ Bytes l) :=
  (Reads.array ht hc (Reads.int he)).imp fun xs ⟨ys, h1, h2, h3⟩ => by
    obtain ⟨l, g1, g2, g3⟩ := flat_bytes fun y hy => ⟨(h3 y hy).1, by rw [(h3 y hy).2, hc1]⟩
    exact ⟨l, by rw [h1, g1], by omega, g3⟩
theorem reads_rec {P : Program} {t t1 t2 e : TypeId} {f1 f2 : Field} (ht : P.underlying t = some (.struct #[f1, f2])) (hc : P.cellsOf t = 2) (o1 : f1.offset = 0) (o2 : f2.offset = 1) (g1 : f1.type = t1) (g2 : f2.type = t2)
    (h1 : P.underlying t1 = some (.int .u64)) (h2 : P.underlying t2 = some (.slice e)) (c1 : P.cellsOf t1 = 1) (c2 : P.cellsOf t2 = 1) (he : P.underlying e = some (.int .u8)) (hce : P.cellsOf e = 1) (hbe : P.bytesOf e = 1) :
    Reads P t (fun xs => ∃ r : Rc, xs = [u64 r.t, .slice .none none (r.v.map u8)] ∧ Rc.ok r ∧ r.v.length ≤ 140737488351232) := by
  subst g1; subst g2
  refine (Reads.struct (fs := [f1, f2]) ht (by rw [hc]; simp [c1, c2]) (ReadsF.cons (reads_u64 h1) o1 c1 (ReadsF.cons (a := 1) (reads_bytes h2 he hce hbe) (by rw [o2]) c2 ReadsF.nil))).imp ?_
  rintro xs ⟨x, y, rfl, ⟨n, rfl, hn⟩, z, w, rfl, ⟨l, rfl, hl, hll⟩, rfl⟩
  exact ⟨⟨n, l⟩, rfl, ⟨hn, hl⟩, hll⟩
theorem reads_recs {P : Program} {ts t t1 t2 e : TypeId} {f1 f2 : Field} (hs : P.underlying ts = some (.slice t)) (hb : P.bytesOf t = 32) (ht : P.underlying t = some (.struct #[f1, f2])) (hc : P.cellsOf t = 2) (o1 : f1.offset = 0) (o2 : f2.offset = 1) (g1 : f1.type = t1) (g2 : f2.type = t2)
    (h1 : P.underlying t1 = some (.int .u64)) (h2 : P.underlying t2 = some (.slice e)) (c1 : P.cellsOf t1 = 1) (c2 : P.cellsOf t2 = 1) (he : P.underlying e = some (.int .u8)) (hce : P.cellsOf e = 1) (hbe : P.bytesOf e = 1) :
    Reads P ts (fun xs => ∃ l : List Rc, xs = [.slice .none (some 2) (l.map Rc.av)] ∧ (∀ r ∈ l, Rc.ok r ∧ r.v.length ≤ 140737488351232) ∧ l.length * 32 ≤ 140737488351232) :=
  reads_sl (k := some 2) (f := Rc.av) (p := fun r => Rc.ok r ∧ r.v.length ≤ 140737488351232) hs hc (by decide) 32 hb (reads_rec ht hc o1 o2 g1 g2 h1 h2 c1 c2 he hce hbe) (fun y ⟨⟨r, hy, h1, h2⟩, _, _⟩ => ⟨r, by rw [hy]; rfl, h1, h2⟩)
end Go.Proofs.Ytejnficfhoekiaa.AM

/- invoice: what comes in. -/
namespace Go.Proofs.Ytejnficfhoekiaa.AM
open Go
set_option linter.unusedSimpArgs false
set_option linter.unusedVariables false
theorem reads_iv {P : Program} {t ti th ts te : TypeId} {f1 f2 f3 f4 f5 f6 f7 : Field} (ht : P.underlying t = some (.struct #[f1, f2, f3, f4, f5, f6, f7])) (hc : P.cellsOf t = 69)
    (ho : [f1.offset, f2.offset, f3.offset, f4.offset, f5.offset, f6.offset, f7.offset] = [0, 1, 2, 34, 66, 67, 68])
    (hg : [f1.type, f2.type, f3.type, f4.type, f5.type, f6.type, f7.type] = [ti, ti, th, th, ti, ti, ts])
    (hi : P.underlying ti = some (.int .i64)) (ci : P.cellsOf ti = 1) (hh : P.underlying th = some (.array 32 te)) (ch : P.cellsOf th = 32) (hs : P.underlying ts = some .string) (cs : P.cellsOf ts = 1) (he : P.underlying te = some (.int .u8)) (ce : P.cellsOf te = 1) :
    Reads P t (fun xs => ∃ i : Iv, xs = ivC i ∧ FineI i ∧ i.t.length ≤ 140737488351232) := by
  simp only [List.cons.injEq, and_true] at ho hg
  obtain ⟨o1, o2, o3, o4, o5, o6, o7⟩ := ho
  obtain ⟨g1, g2, g3, g4, g5, g6, g7⟩ := hg
  have rI : Reads P ti _ := reads_i64 hi
  have rH : Reads P th _ := reads_hash hh (by rw [ch, ce]) he ce
  have rS : Reads P ts _ := Reads.string hs
  refine (Reads.struct (fs := [f1, f2, f3, f4, f5, f6, f7]) ht (by rw [hc]; simp [g1, g2, g3, g4, g5, g6, g7, ci, ch, cs])
    (ReadsF.cons (a := 1) (by rw [g1]; exact rI) (by rw [o1]) (by rw [g1]; exact ci) (ReadsF.cons (a := 1) (by rw [g2]; exact rI) (by rw [o2]) (by rw [g2]; exact ci) (ReadsF.cons (a := 32) (by rw [g3]; exact rH) (by rw [o3]) (by rw [g3]; exact ch) (ReadsF.cons (a := 32) (by rw [g4]; exact rH) (by rw [o4]) (by rw [g4]; exact ch) (ReadsF.cons (a := 1) (by rw [g5]; exact rI) (by rw [o5]) (by rw [g5]; exact ci) (ReadsF.cons (a := 1) (by rw [g6]; exact rI) (by rw [o6]) (by rw [g6]; exact ci) (ReadsF.cons (a := 1) (by rw [g7]; exact rS) (by rw [o7]) (by rw [g7]; exact cs) (ReadsF.nil))))))))).imp ?_
  rintro xs ⟨_, _, rfl, ⟨x1, rfl, w1⟩, _, _, rfl, ⟨x2, rfl, w2⟩, _, _, rfl, ⟨x3, rfl, n3, w3⟩, _, _, rfl, ⟨x4, rfl, n4, w4⟩, _, _, rfl, ⟨x5, rfl, w5⟩, _, _, rfl, ⟨x6, rfl, w6⟩, _, _, rfl, ⟨x7, rfl, n7⟩, rfl⟩
  obtain ⟨l, hl, rfl⟩ := st_of x7
  rw [st_size] at n7
  refine ⟨⟨x1, x2, ⟨x3, n3⟩, ⟨x4, n4⟩, x5, x6, l⟩, ?_, ⟨w3, w4, hl, w5.2⟩, n7⟩
  simp only [ivC, List.cons_append, List.nil_append, List.append_nil]
end Go.Proofs.Ytejnficfhoekiaa.AM

/- invoice: InvoiceEncodes' call. -/
namespace Go.Proofs.Ytejnficfhoekiaa.AM
open Go
theorem call_encodes (i : Iv) (hf : FineI i) (htl : i.t.length ≤ 140737488351232) : ag T 3 [.agg (ivC i)] [] = some (.bool true, []) := encodes_of call_lives i hf htl
end Go.Proofs.Ytejnficfhoekiaa.AM
