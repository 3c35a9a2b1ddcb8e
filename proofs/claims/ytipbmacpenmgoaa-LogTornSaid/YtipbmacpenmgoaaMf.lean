import Derived.Test.YtipbmacpenmgoaaMe
/- layer 11: what a cut row of records scans to (plain law). -/
namespace Go.Proofs.Ytipbmacpenmgoaa.AM
open Go
set_option maxRecDepth 100000
set_option linter.unusedVariables false
set_option linter.unusedSimpArgs false
theorem byteAt_eq (x : Nat) (j : Nat) : byteAt x j = ((x / 2 ^ (8 * j) % 256 : Nat) : Int) := by
  unfold byteAt
  rw [IntKind.wrap_u8, Int.fdiv_eq_ediv_of_nonneg _ (Int.pow_nonneg (by omega))]
  have e : ((2 : Int) ^ (8 * j)) = ((2 ^ (8 * j) : Nat) : Int) := by rw [Int.natCast_pow]; rfl
  rw [e]
  omega
theorem rec_gI (i : Int) (p r : List Int) (j : Nat) (hj : j < 4) : gI (recS i p ++ r) j = byteAt p.length j := by
  unfold gI
  have h : (recS i p ++ r)[j]? = some (byteAt p.length j) := by
    rw [List.getElem?_append_left (by rw [recS_len]; omega)]
    unfold recS
    rw [List.append_assoc, List.getElem?_append_left (by rw [lowS_len]; omega)]
    simp [lowS, hj]
  rw [List.getD_eq_getElem?_getD, h]
  rfl
theorem rec_hdN (i : Int) (p r : List Int) (hp : p.length < 4294967296) : hdN (recS i p ++ r) = p.length := by
  simp only [hdN, accS, rec_gI i p r _ (show 0 < 4 by omega), rec_gI i p r _ (show 1 < 4 by omega), rec_gI i p r _ (show 2 < 4 by omega), rec_gI i p r _ (show 3 < 4 by omega), byteAt_eq]
  generalize p.length = n at *
  simp only [Nat.mul_zero, Nat.mul_one, Nat.pow_zero, Int.pow_zero, Nat.div_one]
  omega
theorem hdN_take (b : List Int) (k : Nat) (hk : 4 ≤ k) : hdN (b.take k) = hdN b := by
  have h : ∀ j, j < 4 → gI (b.take k) j = gI b j := fun j hj => by
    unfold gI
    rw [List.getD_eq_getElem?_getD, List.getD_eq_getElem?_getD, List.getElem?_take_of_lt (by omega)]
  simp only [hdN, accS, h 0 (by omega), h 1 (by omega), h 2 (by omega), h 3 (by omega)]
theorem fst_rec (i : Int) (p r : List Int) (he : recE i p = 0) : fstR i (recS i p ++ r) = some p := by
  have hp : p.length ≤ 65536 := by
    unfold recE at he
    split at he
    · cases he
    · omega
  have hh := rec_hdN i p r (by omega)
  have hl := recS_len i p
  have hd : ((recS i p ++ r).drop 12).take p.length = p := by
    have e : recS i p ++ r = (lowS 4 p.length ++ (recH i p).take 8) ++ (p ++ r) := by simp [recS]
    have e2 : (lowS 4 p.length ++ (recH i p).take 8).length = 12 := by rw [List.length_append, lowS_len, List.length_take, recH_len]; omega
    rw [e, ← e2, List.drop_left, List.take_left]
  have ht : (recS i p ++ r).take (12 + p.length) = recS i p := by rw [← hl, List.take_left]
  unfold fstR
  rw [hh, Int.toNat_natCast, hd, ht, if_pos ⟨by rw [List.length_append, hl]; omega, by rw [List.length_append, hl]; omega, he, rfl⟩]
theorem fst_cut (i j : Int) (p r : List Int) (k : Nat) (hp : p.length ≤ 65536) (hk : k < 12 + p.length) : fstR i ((recS j p ++ r).take k) = none := by
  unfold fstR
  rw [if_neg]
  rintro ⟨h1, h2, _, _⟩
  rw [List.length_take] at h1 h2
  rw [hdN_take _ _ (by omega), rec_hdN j p r (by omega)] at h2
  omega
/-- records, one behind the other, from the i-th on -/
def recsS (i : Nat) : List (List Int) → List Int
  | [] => []
  | p :: r => recS i p ++ recsS (i + 1) r
/-- how many are whole in so many bytes -/
def whole : List (List Int) → Nat → Nat
  | [], _ => 0
  | p :: r, m => if 12 + p.length ≤ m then whole r (m - (12 + p.length)) + 1 else 0
def recsZ (ps : List (List Int)) : Nat := (ps.map fun p => 12 + p.length).sum
theorem scan_torn {b : List Int} : ∀ (ps : List (List Int)) (f a m : Nat) (out : List (List Int)), (∀ p ∈ ps, p.length ≤ 65536) → b.drop a = (recsS out.length ps).take m → whole ps m < f →
    scanS b f a out = (out ++ ps.take (whole ps m), a + recsZ (ps.take (whole ps m)))
  | [], f, a, m, out, hs, hb', hf => by
    obtain ⟨f, rfl⟩ : ∃ g, f = g + 1 := ⟨f - 1, by omega⟩
    have hn : fstR out.length (b.drop a) = none := by
      rw [hb']
      unfold fstR
      rw [if_neg (by simp [recsS])]
    simp [scanS, hn, whole, recsZ]
  | p :: ps, f, a, m, out, hs, hb', hf => by
    obtain ⟨f, rfl⟩ : ∃ g, f = g + 1 := ⟨f - 1, by omega⟩
    have hp := hs p List.mem_cons_self
    by_cases hw : 12 + p.length ≤ m
    · have he : recE (out.length : Int) p = 0 := by unfold recE; rw [if_neg (by omega), if_neg (by omega)]
      have hsp : (recsS out.length (p :: ps)).take m = recS out.length p ++ (recsS (out.length + 1) ps).take (m - (12 + p.length)) := by
        show (recS out.length p ++ recsS (out.length + 1) ps).take m = _
        rw [List.take_append, recS_len, List.take_of_length_le (by rw [recS_len]; omega)]
      have hn : fstR out.length (b.drop a) = some p := by rw [hb', hsp]; exact fst_rec _ _ _ he
      have hdr : b.drop (a + 12 + p.length) = (recsS (out ++ [p]).length ps).take (m - (12 + p.length)) := by
        have : b.drop (a + 12 + p.length) = (b.drop a).drop (12 + p.length) := by rw [List.drop_drop]; congr 1; omega
        rw [this, hb', hsp]
        have hl := recS_len (out.length : Int) p
        rw [← hl, List.drop_left, hl, List.length_append]
        rfl
      have ih := scan_torn ps f (a + 12 + p.length) (m - (12 + p.length)) (out ++ [p]) (fun q hq => hs q (List.mem_cons_of_mem _ hq)) hdr (by simp only [whole, if_pos hw] at hf; omega)
      simp only [scanS, hn]
      rw [ih]
      simp only [whole, if_pos hw, List.take_succ_cons, List.append_assoc, List.singleton_append, recsZ, List.map_cons, List.sum_cons]
      congr 1
      omega
    · have hn : fstR out.length (b.drop a) = none := by
        rw [hb']
        exact fst_cut _ _ p _ m hp (by omega)
      simp only [scanS, hn, whole, if_neg hw, List.take_zero, List.append_nil, recsZ, List.map_nil, List.sum_nil, Nat.add_zero]
theorem whole_12 : ∀ (ps : List (List Int)) (m : Nat), 12 * whole ps m ≤ m
  | [], m => Nat.zero_le _
  | p :: ps, m => by
    have := whole_12 ps (m - (12 + p.length))
    simp only [whole]
    split <;> omega
theorem scanR_torn (ps : List (List Int)) (k : Nat) (hs : ∀ p ∈ ps, p.length ≤ 65536) (hk : k ≤ (recsS 0 ps).length) : scanR ((recsS 0 ps).take k) = (ps.take (whole ps k), recsZ (ps.take (whole ps k))) := by
  unfold scanR
  rw [scan_torn ps _ 0 k [] hs (by simp) (by have := whole_12 ps k; rw [List.length_take]; omega), List.nil_append, Nat.zero_add]
end Go.Proofs.Ytipbmacpenmgoaa.AM

/- layer 11: LogTorn: the records joined, as the program joins them. -/
namespace Go.Proofs.Ytipbmacpenmgoaa.AM
open Go
set_option maxRecDepth 100000
set_option maxHeartbeats 4000000
set_option linter.unusedVariables false
set_option linter.unusedSimpArgs false
theorem whole_iff : ∀ (ps : List (List Int)) (m t : Nat), t < ps.length → (t < whole ps m ↔ recsZ (ps.take (t + 1)) ≤ m)
  | [], m, t, h => by simp at h
  | p :: ps, m, 0, h => by
    simp only [whole, List.take_succ_cons, List.take_zero, recsZ, List.map_cons, List.map_nil, List.sum_cons, List.sum_nil]
    split <;> omega
  | p :: ps, m, t + 1, h => by
    have ih := whole_iff ps (m - (12 + p.length)) t (by simpa using h)
    simp only [recsZ] at ih
    simp only [whole, List.take_succ_cons, recsZ, List.map_cons, List.sum_cons] at ih ⊢
    split
    · rw [Nat.add_lt_add_iff_right, ih]; omega
    · omega
theorem whole_le : ∀ (ps : List (List Int)) (m : Nat), whole ps m ≤ ps.length
  | [], m => Nat.le_refl _
  | p :: ps, m => by
    have := whole_le ps (m - (12 + p.length))
    simp only [whole, List.length_cons]
    split <;> omega
theorem recs_len (i : Nat) : ∀ ps : List (List Int), (recsS i ps).length = recsZ ps
  | [] => rfl
  | p :: ps => by
    have := recs_len (i + 1) ps
    simp only [recsS, List.length_append, recS_len, recsZ, List.map_cons, List.sum_cons] at this ⊢
    omega
theorem recs_snoc : ∀ (ps : List (List Int)) (i : Nat) (p : List Int), recsS i (ps ++ [p]) = recsS i ps ++ recS (i + ps.length : Nat) p
  | [], i, p => by simp [recsS]
  | q :: ps, i, p => by
    have := recs_snoc ps (i + 1) p
    simp only [List.cons_append, recsS, this, List.append_assoc, List.length_cons]
    rw [show i + 1 + ps.length = i + (ps.length + 1) by omega]
theorem recsZ_snoc (ps : List (List Int)) (p : List Int) : recsZ (ps ++ [p]) = recsZ ps + (12 + p.length) := by
  simp [recsZ, List.map_append, List.sum_append]
theorem recs_bytes : ∀ (ps : List (List Int)) (i : Nat), (∀ p ∈ ps, Bytes p) → Bytes (recsS i ps)
  | [], i, h => fun c hc => by cases hc
  | p :: ps, i, h => fun c hc => by
    rcases List.mem_append.1 hc with hc | hc
    · unfold recS at hc
      rcases List.mem_append.1 hc with hc | hc
      · rcases List.mem_append.1 hc with hc | hc
        · exact lowS_bytes _ _ c hc
        · have := kSum_byte _ c (List.mem_of_mem_take hc)
          omega
      · exact h p List.mem_cons_self c hc
    · exact recs_bytes ps (i + 1) (fun q hq => h q (List.mem_cons_of_mem _ hq)) c hc
end Go.Proofs.Ytipbmacpenmgoaa.AM

/- layer 11: LogTorn's run. -/
namespace Go.Proofs.Ytipbmacpenmgoaa.AM
open Go
set_option maxRecDepth 100000
set_option maxHeartbeats 4000000
set_option linter.unusedVariables false
set_option linter.unusedSimpArgs false
def endsV (ps : List (List Int)) (j : Nat) : List AV := (List.range j).map fun t => i64 (recsZ (ps.take (t + 1)) : Nat)
theorem ends_succ (ps : List (List Int)) (j : Nat) : endsV ps (j + 1) = endsV ps j ++ [i64 (recsZ (ps.take (j + 1)) : Nat)] := by
  simp [endsV, List.range_succ]
theorem ends_len (ps : List (List Int)) (j : Nat) : (endsV ps j).length = j := by simp [endsV]
theorem torn_join (ps : List (List Int)) (hps : ∀ p ∈ ps, Bytes p) (hZb : ∀ j, j ≤ 50 → (∀ p ∈ ps.take j, p.length ≤ 65536) → recsZ (ps.take j) ≤ 4000000) (cut : Int) (e : Env) (e0 : getE e 0 = .slice .none none (ps.map bsl)) (e1 : getE e 1 = i64 cut) (e5 : getE e 5 = .slice (.tok 0) none []) (e6 : getE e 6 = .slice (.tok 1) none []) (e7 : getE e 7 = i64 0) {Q : Res → Prop} (m : Nat)
    (hR : ∀ e' h', getE e' 4 = .bool true → Q (.ret, e', h'))
    (hQ : ∀ e' h' j, j ≤ 50 → j ≤ ps.length → (∀ p ∈ ps.take j, p.length ≤ 65536) → getE e' 0 = .slice .none none (ps.map bsl) → getE e' 1 = i64 cut → getE e' 5 = .slice (.tok 0) none ((recsS 0 (ps.take j)).map u8) → getE e' 6 = .slice (.tok 1) none (endsV ps j) → Q (.exit 0, e', h')) :
    WP Q (axl T [0, 1, 5, 6, 7] false L4_1 m e [.row none 0, .row none 0]) := by
  refine WP_loop (I := fun f e h' => ∃ (j : Nat) (G : Heap), f = 50 - j ∧ j ≤ 50 ∧ j ≤ ps.length ∧ (∀ p ∈ ps.take j, p.length ≤ 65536) ∧ getE e 0 = .slice .none none (ps.map bsl) ∧ getE e 1 = i64 cut ∧ getE e 5 = .slice (.tok 0) none ((recsS 0 (ps.take j)).map u8) ∧ getE e 6 = .slice (.tok 1) none (endsV ps j) ∧ getE e 7 = i64 j ∧ h' = .row none (recsZ (ps.take j)) :: .row none j :: G) ?_ 50 _ _
    ⟨0, [], rfl, by omega, by omega, fun p hp => by simp at hp, e0, e1, e5, e6, e7, rfl⟩
  clear e0 e1 e5 e6 e7 e
  rintro f e h' ⟨j, G, rfl, hj, hjl, hsm, e0, e1, e5, e6, e7, rfl⟩
  rw [trim_off]
  by_cases hjn : j < ps.length
  · have hlt : (j : Int) < (ps.length : Int) := by omega
    by_cases hj5 : j < 50
    · have hl5 : (j : Int) < 50 := by omega
      obtain ⟨p, hx⟩ : ∃ p, ps[j]? = some p := ⟨_, List.getElem?_eq_getElem hjn⟩
      have hg : (ps.map bsl)[j]? = some (.slice .none none (p.map u8)) := by rw [List.getElem?_map, hx]; rfl
      have hpb := hps p (List.mem_of_getElem? hx)
      by_cases he : recE (j : Int) p = 0
      · have hc := call_rrecord_ok (j : Int) p .none hpb he (by omega)
        have hp5 : p.length ≤ 65536 := by
          unfold recE at he
          split at he
          · cases he
          · omega
        have htk : ps.take (j + 1) = ps.take j ++ [p] := by rw [List.take_add_one, hx]; rfl
        have hFl : (recsS 0 (ps.take j)).length = recsZ (ps.take j) := recs_len 0 _
        have hF2 : recsS 0 (ps.take (j + 1)) = recsS 0 (ps.take j) ++ recS (j : Nat) p := by
          rw [htk, recs_snoc, List.length_take, Nat.min_eq_left (by omega), Nat.zero_add]
        have hZ2 : recsZ (ps.take (j + 1)) = recsZ (ps.take j) + (12 + p.length) := by rw [htk, recsZ_snoc]
        have hRl := recS_len (j : Int) p
        have hzb := hZb j hj hsm
        have hsm2 : ∀ q ∈ ps.take (j + 1), q.length ≤ 65536 := fun q hq => by
          rw [htk] at hq
          rcases List.mem_append.1 hq with hq | hq
          · exact hsm q hq
          · simp at hq; subst hq; exact hp5
        have hE2 := ends_succ ps j
        have hEl := ends_len ps j
        have hw : IntKind.i64.wrap ((j : Int) + 1) = ((j + 1 : Nat) : Int) := by rw [IntKind.wrap_i64]; omega
        have hfit : fitsB (recsZ (ps.take j) + (recS (j : Int) p).length) 1 = true := fits_of (.inl (by omega))
        have hfit2 : fitsB (j + 1) 8 = true := fits_of (.inl (by omega))
        generalize recS (j : Int) p = R at *
        generalize recsS 0 (ps.take j) = F at *
        generalize hz : recsZ (ps.take j) = Z at *
        generalize endsV ps j = V at *
        first | have hb := hb | have hb := trivial
        repeat' (first | (simp -implicitDefEqProofs (disch := omega) only [hb, L4_1, e0, e1, e5, e6, e7, hlt, hl5, hg, hc, hw, hfit, hfit2, hFl, hEl, setEls, List.replicate_succ, List.replicate_zero, elFits, stripEl, aappend, elemsOf, wC, initE, aop, Nat.reduceEqDiff, ↓reduceIte, Nat.reduceAdd, finish, resOf, tupOf, AM.freeze, freeze1, freezeL, closed, nam, namL, if_true, if_false, deref, boxAt, exAt, ldCells, oneL, oneCell, Nat.reduceLeDiff, evL, adopt, rigid, rigidL, trim, Int.reduceEq, Int.reduceMod, Int.reduceDiv, if_pos, if_neg, asI, forall_const, implies_true, chkD, chkO, chkW, effB, reB, vEq, beq_self_eq_true, Nat.reduceSub, Nat.reduceLT, Int.reduceSub, Int.reduceAdd, Int.reduceMul, Int.reduceLT, Int.reduceLE, Int.reduceToNat, optI, aslice, cutSl, cutMs, cutStr, cutOwn, cellsOf, one, elCells, lenOf, beqV, beqVL, strip, stripO, convS]) | ((first | rw [WP_condK] | rw [WP_opsG] | rw [WP_quiG] | rw [WP_dG]); refine And.intro (fun hb => ?_) (fun hb => ?_) <;> (first | have hd := dq1 hb | have hd := dq2 hb | have hd := dq3 hb | have hd := dq4 hb | skip)))
        refine ⟨50 - (j + 1), by omega, j + 1, G ++ [AObj.row none R.length], rfl, by omega, by omega, hsm2, ?_, ?_, rfl, ?_⟩
        · rw [hF2, List.map_append]
        · rw [hE2, hZ2, hRl]
        · rw [hZ2, hRl]
      · have hc := call_rrecord_bad (j : Int) p .none he
        have hlv := call_lives
        have hne : ¬ recE (j : Int) p = 0 := he
        generalize recE (j : Int) p = E at *
        first | have hb := hb | have hb := trivial
        repeat' (first | (simp -implicitDefEqProofs (disch := omega) only [hb, L4_1, e0, e1, e5, e6, e7, hlt, hl5, hg, hc, hne, hlv, wC, initE, aop, Nat.reduceEqDiff, ↓reduceIte, Nat.reduceAdd, finish, resOf, tupOf, AM.freeze, freeze1, freezeL, closed, nam, namL, if_true, if_false, deref, boxAt, exAt, ldCells, oneL, oneCell, Nat.reduceLeDiff, evL, adopt, rigid, rigidL, trim, Int.reduceEq, Int.reduceMod, Int.reduceDiv, if_pos, if_neg, asI, forall_const, implies_true, chkD, chkO, chkW, effB, reB, vEq, beq_self_eq_true, Nat.reduceSub, Nat.reduceLT, Int.reduceSub, Int.reduceAdd, Int.reduceMul, Int.reduceLT, Int.reduceLE, Int.reduceToNat, optI, aslice, cutSl, cutMs, cutStr, cutOwn, cellsOf, one, elCells, lenOf, beqV, beqVL, strip, stripO, convS]) | ((first | rw [WP_condK] | rw [WP_opsG] | rw [WP_quiG] | rw [WP_dG]); refine And.intro (fun hb => ?_) (fun hb => ?_) <;> (first | have hd := dq1 hb | have hd := dq2 hb | have hd := dq3 hb | have hd := dq4 hb | skip)))
        exact hR _ _ rfl
    · have hl5 : ¬ (j : Int) < 50 := by omega
      first | have hb := hb | have hb := trivial
      repeat' (first | (simp -implicitDefEqProofs (disch := omega) only [hb, L4_1, e0, e1, e5, e6, e7, hlt, hl5, wC, initE, aop, Nat.reduceEqDiff, ↓reduceIte, Nat.reduceAdd, finish, resOf, tupOf, AM.freeze, freeze1, freezeL, closed, nam, namL, if_true, if_false, deref, boxAt, exAt, ldCells, oneL, oneCell, Nat.reduceLeDiff, evL, adopt, rigid, rigidL, trim, Int.reduceEq, Int.reduceMod, Int.reduceDiv, if_pos, if_neg, asI, forall_const, implies_true, chkD, chkO, chkW, effB, reB, vEq, beq_self_eq_true, Nat.reduceSub, Nat.reduceLT, Int.reduceSub, Int.reduceAdd, Int.reduceMul, Int.reduceLT, Int.reduceLE, Int.reduceToNat, optI, aslice, cutSl, cutMs, cutStr, cutOwn, cellsOf, one, elCells, lenOf, beqV, beqVL, strip, stripO, convS]) | ((first | rw [WP_condK] | rw [WP_opsG] | rw [WP_quiG] | rw [WP_dG]); refine And.intro (fun hb => ?_) (fun hb => ?_) <;> (first | have hd := dq1 hb | have hd := dq2 hb | have hd := dq3 hb | have hd := dq4 hb | skip)))
      exact hQ _ _ j hj hjl hsm rfl rfl rfl rfl
  · have hlt : ¬ (j : Int) < (ps.length : Int) := by omega
    first | have hb := hb | have hb := trivial
    repeat' (first | (simp -implicitDefEqProofs (disch := omega) only [hb, L4_1, e0, e1, e5, e6, e7, hlt, wC, initE, aop, Nat.reduceEqDiff, ↓reduceIte, Nat.reduceAdd, finish, resOf, tupOf, AM.freeze, freeze1, freezeL, closed, nam, namL, if_true, if_false, deref, boxAt, exAt, ldCells, oneL, oneCell, Nat.reduceLeDiff, evL, adopt, rigid, rigidL, trim, Int.reduceEq, Int.reduceMod, Int.reduceDiv, if_pos, if_neg, asI, forall_const, implies_true, chkD, chkO, chkW, effB, reB, vEq, beq_self_eq_true, Nat.reduceSub, Nat.reduceLT, Int.reduceSub, Int.reduceAdd, Int.reduceMul, Int.reduceLT, Int.reduceLE, Int.reduceToNat, optI, aslice, cutSl, cutMs, cutStr, cutOwn, cellsOf, one, elCells, lenOf, beqV, beqVL, strip, stripO, convS]) | ((first | rw [WP_condK] | rw [WP_opsG] | rw [WP_quiG] | rw [WP_dG]); refine And.intro (fun hb => ?_) (fun hb => ?_) <;> (first | have hd := dq1 hb | have hd := dq2 hb | have hd := dq3 hb | have hd := dq4 hb | skip)))
    exact hQ _ _ j hj hjl hsm rfl rfl rfl rfl
end Go.Proofs.Ytipbmacpenmgoaa.AM

/- layer 11: LogTorn: how many are whole. -/
namespace Go.Proofs.Ytipbmacpenmgoaa.AM
open Go
set_option maxRecDepth 100000
set_option maxHeartbeats 4000000
set_option linter.unusedVariables false
set_option linter.unusedSimpArgs false
theorem ends_get (ps : List (List Int)) (j t : Nat) (h : t < j) : (endsV ps j)[t]? = some (i64 (recsZ (ps.take (t + 1)) : Nat)) := by
  simp [endsV, h]
theorem torn_count (ps : List (List Int)) (j : Nat) (hj : j ≤ ps.length) (hj5 : j ≤ 50) (k : Nat) (V0 V11 V12 : AV) (e : Env) (h : Heap) (m : Nat) (e0 : getE e 0 = V0) (e6 : getE e 6 = .slice (.tok 1) none (endsV ps j)) (e10 : getE e 10 = i64 k) (e11 : getE e 11 = V11) (e12 : getE e 12 = V12) (e13 : getE e 13 = i64 0) (e14 : getE e 14 = i64 0) {Q : Res → Prop}
    (hQ : ∀ e', getE e' 0 = V0 → getE e' 6 = .slice (.tok 1) none (endsV ps j) → getE e' 11 = V11 → getE e' 12 = V12 → getE e' 13 = i64 (whole (ps.take j) k : Nat) → Q (.exit 2, e', h)) :
    WP Q (axl T [0, 6, 10, 11, 12, 13, 14] false L4_0 m e h) := by
  refine WP_loop (I := fun f e h' => ∃ t : Nat, f = j - t ∧ t ≤ j ∧ getE e 0 = V0 ∧ getE e 6 = .slice (.tok 1) none (endsV ps j) ∧ getE e 10 = i64 k ∧ getE e 11 = V11 ∧ getE e 12 = V12 ∧ getE e 13 = i64 (min t (whole (ps.take j) k) : Nat) ∧ getE e 14 = i64 t ∧ h' = h) ?_ j _ _
    ⟨0, rfl, Nat.zero_le _, e0, e6, e10, e11, e12, by rw [e13, Nat.zero_min]; rfl, e14, rfl⟩
  clear e0 e6 e10 e11 e12 e13 e14 e
  rintro f e h' ⟨t, rfl, ht, e0, e6, e10, e11, e12, e13, e14, rfl⟩
  rw [trim_off]
  have hwl := whole_le (ps.take j) k
  have htl : (ps.take j).length = j := by rw [List.length_take]; omega
  have hel := ends_len ps j
  by_cases htj : t < j
  · have hlt : (t : Int) < (j : Int) := by omega
    have hg := ends_get ps j t htj
    have hiff := whole_iff (ps.take j) k t (by omega)
    rw [List.take_take, Nat.min_eq_left (by omega)] at hiff
    have hw : IntKind.i64.wrap ((t : Int) + 1) = ((t + 1 : Nat) : Int) := by rw [IntKind.wrap_i64]; omega
    generalize recsZ (ps.take (t + 1)) = Z at *
    generalize whole (ps.take j) k = w at *
    generalize endsV ps j = V at *
    by_cases hz : Z ≤ k
    · have hz' : (Z : Int) ≤ (k : Int) := by omega
      have hm : min t w = t := by omega
      have hm2 : min (t + 1) w = t + 1 := by omega
      rw [hm] at e13
      first | have hb := hb | have hb := trivial
      repeat' (first | (simp -implicitDefEqProofs (disch := omega) only [hb, L4_0, e0, e6, e10, e11, e12, e13, e14, hel, hlt, hg, hz', hw, wC, initE, aop, Nat.reduceEqDiff, ↓reduceIte, Nat.reduceAdd, finish, resOf, tupOf, AM.freeze, freeze1, freezeL, closed, nam, namL, if_true, if_false, deref, boxAt, exAt, ldCells, oneL, oneCell, Nat.reduceLeDiff, evL, adopt, rigid, rigidL, trim, Int.reduceEq, Int.reduceMod, Int.reduceDiv, if_pos, if_neg, asI, forall_const, implies_true, chkD, chkO, chkW, effB, reB, vEq, beq_self_eq_true, Nat.reduceSub, Nat.reduceLT, Int.reduceSub, Int.reduceAdd, Int.reduceMul, Int.reduceLT, Int.reduceLE, Int.reduceToNat, optI, aslice, cutSl, cutMs, cutStr, cutOwn, cellsOf, one, elCells, lenOf, beqV, beqVL, strip, stripO, convS]) | ((first | rw [WP_condK] | rw [WP_opsG] | rw [WP_quiG] | rw [WP_dG]); refine And.intro (fun hb => ?_) (fun hb => ?_) <;> (first | have hd := dq1 hb | have hd := dq2 hb | have hd := dq3 hb | have hd := dq4 hb | skip)))
      exact ⟨j - (t + 1), by omega, t + 1, rfl, by omega, by rw [hm2], rfl⟩
    · have hz' : ¬ (Z : Int) ≤ (k : Int) := by omega
      have hm : min t w = w := by omega
      have hm2 : min (t + 1) w = w := by omega
      rw [hm] at e13
      first | have hb := hb | have hb := trivial
      repeat' (first | (simp -implicitDefEqProofs (disch := omega) only [hb, L4_0, e0, e6, e10, e11, e12, e13, e14, hel, hlt, hg, hz', hw, wC, initE, aop, Nat.reduceEqDiff, ↓reduceIte, Nat.reduceAdd, finish, resOf, tupOf, AM.freeze, freeze1, freezeL, closed, nam, namL, if_true, if_false, deref, boxAt, exAt, ldCells, oneL, oneCell, Nat.reduceLeDiff, evL, adopt, rigid, rigidL, trim, Int.reduceEq, Int.reduceMod, Int.reduceDiv, if_pos, if_neg, asI, forall_const, implies_true, chkD, chkO, chkW, effB, reB, vEq, beq_self_eq_true, Nat.reduceSub, Nat.reduceLT, Int.reduceSub, Int.reduceAdd, Int.reduceMul, Int.reduceLT, Int.reduceLE, Int.reduceToNat, optI, aslice, cutSl, cutMs, cutStr, cutOwn, cellsOf, one, elCells, lenOf, beqV, beqVL, strip, stripO, convS]) | ((first | rw [WP_condK] | rw [WP_opsG] | rw [WP_quiG] | rw [WP_dG]); refine And.intro (fun hb => ?_) (fun hb => ?_) <;> (first | have hd := dq1 hb | have hd := dq2 hb | have hd := dq3 hb | have hd := dq4 hb | skip)))
      exact ⟨j - (t + 1), by omega, t + 1, rfl, by omega, by rw [hm2], rfl⟩
  · have hlt : ¬ (t : Int) < (j : Int) := by omega
    have hm : min t (whole (ps.take j) k) = whole (ps.take j) k := by omega
    rw [hm] at e13
    generalize endsV ps j = V at *
    first | have hb := hb | have hb := trivial
    repeat' (first | (simp -implicitDefEqProofs (disch := omega) only [hb, L4_0, e0, e6, e10, e11, e12, e13, e14, hel, hlt, wC, initE, aop, Nat.reduceEqDiff, ↓reduceIte, Nat.reduceAdd, finish, resOf, tupOf, AM.freeze, freeze1, freezeL, closed, nam, namL, if_true, if_false, deref, boxAt, exAt, ldCells, oneL, oneCell, Nat.reduceLeDiff, evL, adopt, rigid, rigidL, trim, Int.reduceEq, Int.reduceMod, Int.reduceDiv, if_pos, if_neg, asI, forall_const, implies_true, chkD, chkO, chkW, effB, reB, vEq, beq_self_eq_true, Nat.reduceSub, Nat.reduceLT, Int.reduceSub, Int.reduceAdd, Int.reduceMul, Int.reduceLT, Int.reduceLE, Int.reduceToNat, optI, aslice, cutSl, cutMs, cutStr, cutOwn, cellsOf, one, elCells, lenOf, beqV, beqVL, strip, stripO, convS]) | ((first | rw [WP_condK] | rw [WP_opsG] | rw [WP_quiG] | rw [WP_dG]); refine And.intro (fun hb => ?_) (fun hb => ?_) <;> (first | have hd := dq1 hb | have hd := dq2 hb | have hd := dq3 hb | have hd := dq4 hb | skip)))
    exact hQ _ rfl rfl rfl rfl rfl
end Go.Proofs.Ytipbmacpenmgoaa.AM

/- layer 11: LogTorn's run. -/
namespace Go.Proofs.Ytipbmacpenmgoaa.AM
open Go
set_option maxRecDepth 100000
set_option maxHeartbeats 4000000
set_option linter.unusedVariables false
set_option linter.unusedSimpArgs false
theorem torn_ok (ps : List (List Int)) (hps : ∀ p ∈ ps, Bytes p) (hZb : ∀ j, j ≤ 50 → (∀ p ∈ ps.take j, p.length ≤ 65536) → recsZ (ps.take j) ≤ 4000000) (cut : Int) : prun T F4 [.slice .none none (ps.map bsl), i64 cut] = some (.bool true) := by
  refine WP_eq (prun_wp ?_)
  first | have hb := hb | have hb := trivial
  repeat' (first | (simp -implicitDefEqProofs (disch := omega) only [hb, F4, wC, initE, aop, Nat.reduceEqDiff, ↓reduceIte, Nat.reduceAdd, finish, resOf, tupOf, AM.freeze, freeze1, freezeL, closed, nam, namL, if_true, if_false, deref, boxAt, exAt, ldCells, oneL, oneCell, Nat.reduceLeDiff, evL, adopt, rigid, rigidL, trim, Int.reduceEq, Int.reduceMod, Int.reduceDiv, if_pos, if_neg, asI, forall_const, implies_true, chkD, chkO, chkW, effB, reB, vEq, beq_self_eq_true, Nat.reduceSub, Nat.reduceLT, Int.reduceSub, Int.reduceAdd, Int.reduceMul, Int.reduceLT, Int.reduceLE, Int.reduceToNat, optI, aslice, cutSl, cutMs, cutStr, cutOwn, cellsOf, one, elCells, lenOf, beqV, beqVL, strip, stripO, convS]) | ((first | rw [WP_condK] | rw [WP_opsG] | rw [WP_quiG] | rw [WP_dG]); refine And.intro (fun hb => ?_) (fun hb => ?_) <;> (first | have hd := dq1 hb | have hd := dq2 hb | have hd := dq3 hb | have hd := dq4 hb | skip)))
  refine torn_join ps hps hZb cut _ rfl rfl rfl rfl rfl _ (fun e' h' e4 => ?_) (fun e' h' j hj hjl hsm e0 e1 e5 e6 => ?_)
  · first | have hb := hb | have hb := trivial
    repeat' (first | (simp -implicitDefEqProofs (disch := omega) only [hb, F4, e4, wC, initE, aop, Nat.reduceEqDiff, ↓reduceIte, Nat.reduceAdd, finish, resOf, tupOf, AM.freeze, freeze1, freezeL, closed, nam, namL, if_true, if_false, deref, boxAt, exAt, ldCells, oneL, oneCell, Nat.reduceLeDiff, evL, adopt, rigid, rigidL, trim, Int.reduceEq, Int.reduceMod, Int.reduceDiv, if_pos, if_neg, asI, forall_const, implies_true, chkD, chkO, chkW, effB, reB, vEq, beq_self_eq_true, Nat.reduceSub, Nat.reduceLT, Int.reduceSub, Int.reduceAdd, Int.reduceMul, Int.reduceLT, Int.reduceLE, Int.reduceToNat, optI, aslice, cutSl, cutMs, cutStr, cutOwn, cellsOf, one, elCells, lenOf, beqV, beqVL, strip, stripO, convS]) | ((first | rw [WP_condK] | rw [WP_opsG] | rw [WP_quiG] | rw [WP_dG]); refine And.intro (fun hb => ?_) (fun hb => ?_) <;> (first | have hd := dq1 hb | have hd := dq2 hb | have hd := dq3 hb | have hd := dq4 hb | skip)))
  have hz := hZb j hj hsm
  have hFl : (recsS 0 (ps.take j)).length = recsZ (ps.take j) := recs_len 0 _
  have hadd : IntKind.i64.wrap ((recsZ (ps.take j) : Int) + 1) = ((recsZ (ps.take j) + 1 : Nat) : Int) := by rw [IntKind.wrap_i64]; omega
  have hN : ((recsZ (ps.take j) + 1 : Nat) : Int) ≠ 0 := by omega
  have b1 := Int.tmod_lt_of_pos cut (show (0 : Int) < ((recsZ (ps.take j) + 1 : Nat) : Int) by omega)
  have b2 := Int.lt_tmod_of_pos cut (show (0 : Int) < ((recsZ (ps.take j) + 1 : Nat) : Int) by omega)
  generalize hr : cut.tmod ((recsZ (ps.take j) + 1 : Nat) : Int) = r at *
  have hlv := call_lives
  have hby : Bytes (recsS 0 (ps.take j)) := recs_bytes _ _ fun p hp => hps p (List.mem_of_mem_take hp)
  have key : ∀ k : Nat, k ≤ recsZ (ps.take j) → ∀ (o : AOwn) (h : Heap), ag T 8 [.slice o none (((recsS 0 (ps.take j)).take k).map u8)] h = some (.tup [.slice (.tok h.length) none (((ps.take j).take (whole (ps.take j) k)).map bsl), i64 (recsZ ((ps.take j).take (whole (ps.take j) k)) : Nat)], h ++ [.row none ((ps.take j).take (whole (ps.take j) k)).length]) := fun k hk o h => by
    have := call_scan ((recsS 0 (ps.take j)).take k) (fun c hc => hby c (List.mem_of_mem_take hc)) (by rw [List.length_take]; omega) o h
    rw [scanR_torn _ k hsm (by rw [hFl]; exact hk)] at this
    exact this
  by_cases hr0 : r < 0
  · obtain ⟨k, hk⟩ : ∃ k : Nat, -r = k := ⟨(-r).toNat, by omega⟩
    have hneg : IntKind.i64.wrap (-r) = (k : Int) := by rw [IntKind.wrap_i64]; omega
    have hau : aun .neg (.int .i64 r) = some (.int .i64 (k : Int)) := by simp [aun, hneg]
    have k0 : (0 : Int) ≤ (k : Int) := by omega
    have k1 : (k : Int) ≤ (recsZ (ps.take j) : Int) := by omega
    have htk : ((recsS 0 (ps.take j)).map u8).take k = ((recsS 0 (ps.take j)).take k).map u8 := by rw [List.map_take]
    have hsc := key k (by omega)
    first | have hb := hb | have hb := trivial
    repeat' (first | (simp -implicitDefEqProofs (disch := omega) only [hb, F4, e0, e1, e5, e6, hFl, hadd, hN, hr, hr0, hau, hneg, k0, k1, htk, hsc, wC, initE, aop, Nat.reduceEqDiff, ↓reduceIte, Nat.reduceAdd, finish, resOf, tupOf, AM.freeze, freeze1, freezeL, closed, nam, namL, if_true, if_false, deref, boxAt, exAt, ldCells, oneL, oneCell, Nat.reduceLeDiff, evL, adopt, rigid, rigidL, trim, Int.reduceEq, Int.reduceMod, Int.reduceDiv, if_pos, if_neg, asI, forall_const, implies_true, chkD, chkO, chkW, effB, reB, vEq, beq_self_eq_true, Nat.reduceSub, Nat.reduceLT, Int.reduceSub, Int.reduceAdd, Int.reduceMul, Int.reduceLT, Int.reduceLE, Int.reduceToNat, optI, aslice, cutSl, cutMs, cutStr, cutOwn, cellsOf, one, elCells, lenOf, beqV, beqVL, strip, stripO, convS]) | ((first | rw [WP_condK] | rw [WP_opsG] | rw [WP_quiG] | rw [WP_dG]); refine And.intro (fun hb => ?_) (fun hb => ?_) <;> (first | have hd := dq1 hb | have hd := dq2 hb | have hd := dq3 hb | have hd := dq4 hb | skip)))
    refine torn_count ps j hjl hj k (.slice .none none (ps.map bsl)) _ _ _ _ _ ?_ ?_ rfl rfl rfl rfl rfl (fun e2 f0 f6 f11 f12 f13 => ?_)
    · exact e0
    · exact e6
    have hse := call_same ((ps.take j).take (whole (ps.take j) k)) (fun x hx => by have := hsm x (List.mem_of_mem_take hx); omega) (by rw [List.length_take, List.length_take]; omega)
    have hwl := whole_le (ps.take j) k
    have hjt : (ps.take j).length = j := by rw [List.length_take]; omega
    have hLe : (ps.take j).take (whole (ps.take j) k) = ps.take (whole (ps.take j) k) := by rw [List.take_take, Nat.min_eq_left (by omega)]
    have f11 : getE e2 11 = .slice (.tok h'.length) none (((ps.take j).take (whole (ps.take j) k)).map bsl) := f11
    have f12 : getE e2 12 = i64 (recsZ ((ps.take j).take (whole (ps.take j) k)) : Nat) := f12
    have hge := fun t => ends_get ps j t
    rw [hLe] at f11 f12 hse
    generalize hww : whole (ps.take j) k = w at *
    have hL : (ps.take w).length = w := by rw [List.length_take]; omega
    have hmt : (ps.map bsl).take w = (ps.take w).map bsl := by rw [List.map_take]
    have q1 : (0 : Int) ≤ (w : Int) := by omega
    have q2 : (w : Int) ≤ (ps.length : Int) := by omega
    have hwj : w ≤ j := by omega
    by_cases hw0 : w = 0
    · subst hw0
      have f12 : getE e2 12 = i64 0 := f12
      have f13 : getE e2 13 = i64 0 := f13
      simp only [List.take_zero, List.map_nil] at hse f11
      have q5 : (0 : Int) ≤ (ps.length : Int) := by omega
      first | have hb := hb | have hb := trivial
      repeat' (first | (simp -implicitDefEqProofs (disch := omega) only [hb, F4, f0, f6, f11, f12, f13, hlv, List.take_zero, List.map_nil, q5, hse, wC, initE, aop, Nat.reduceEqDiff, ↓reduceIte, Nat.reduceAdd, finish, resOf, tupOf, AM.freeze, freeze1, freezeL, closed, nam, namL, if_true, if_false, deref, boxAt, exAt, ldCells, oneL, oneCell, Nat.reduceLeDiff, evL, adopt, rigid, rigidL, trim, Int.reduceEq, Int.reduceMod, Int.reduceDiv, if_pos, if_neg, asI, forall_const, implies_true, chkD, chkO, chkW, effB, reB, vEq, beq_self_eq_true, Nat.reduceSub, Nat.reduceLT, Int.reduceSub, Int.reduceAdd, Int.reduceMul, Int.reduceLT, Int.reduceLE, Int.reduceToNat, optI, aslice, cutSl, cutMs, cutStr, cutOwn, cellsOf, one, elCells, lenOf, beqV, beqVL, strip, stripO, convS]) | ((first | rw [WP_condK] | rw [WP_opsG] | rw [WP_quiG] | rw [WP_dG]); refine And.intro (fun hb => ?_) (fun hb => ?_) <;> (first | have hd := dq1 hb | have hd := dq2 hb | have hd := dq3 hb | have hd := dq4 hb | skip)))
    · have hg := hge (w - 1) (by omega)
      rw [Nat.sub_add_cancel (by omega)] at hg
      have hw1 : IntKind.i64.wrap ((w : Int) - 1) = ((w - 1 : Nat) : Int) := by rw [IntKind.wrap_i64]; omega
      have q3 : ¬ (w : Int) = 0 := by omega
      have q4 : (0 : Int) < (w : Int) := by omega
      first | have hb := hb | have hb := trivial
      repeat' (first | (simp -implicitDefEqProofs (disch := omega) only [hb, F4, f0, f6, f11, f12, f13, hlv, hL, hmt, q1, q2, hse, hw1, hg, q3, q4, wC, initE, aop, Nat.reduceEqDiff, ↓reduceIte, Nat.reduceAdd, finish, resOf, tupOf, AM.freeze, freeze1, freezeL, closed, nam, namL, if_true, if_false, deref, boxAt, exAt, ldCells, oneL, oneCell, Nat.reduceLeDiff, evL, adopt, rigid, rigidL, trim, Int.reduceEq, Int.reduceMod, Int.reduceDiv, if_pos, if_neg, asI, forall_const, implies_true, chkD, chkO, chkW, effB, reB, vEq, beq_self_eq_true, Nat.reduceSub, Nat.reduceLT, Int.reduceSub, Int.reduceAdd, Int.reduceMul, Int.reduceLT, Int.reduceLE, Int.reduceToNat, optI, aslice, cutSl, cutMs, cutStr, cutOwn, cellsOf, one, elCells, lenOf, beqV, beqVL, strip, stripO, convS]) | ((first | rw [WP_condK] | rw [WP_opsG] | rw [WP_quiG] | rw [WP_dG]); refine And.intro (fun hb => ?_) (fun hb => ?_) <;> (first | have hd := dq1 hb | have hd := dq2 hb | have hd := dq3 hb | have hd := dq4 hb | skip)))
  · obtain ⟨k, rfl⟩ : ∃ k : Nat, r = k := ⟨r.toNat, by omega⟩
    have k0 : (0 : Int) ≤ (k : Int) := by omega
    have k1 : (k : Int) ≤ (recsZ (ps.take j) : Int) := by omega
    have htk : ((recsS 0 (ps.take j)).map u8).take k = ((recsS 0 (ps.take j)).take k).map u8 := by rw [List.map_take]
    have hsc := key k (by omega)
    first | have hb := hb | have hb := trivial
    repeat' (first | (simp -implicitDefEqProofs (disch := omega) only [hb, F4, e0, e1, e5, e6, hFl, hadd, hN, hr, hr0, k0, k1, htk, hsc, wC, initE, aop, Nat.reduceEqDiff, ↓reduceIte, Nat.reduceAdd, finish, resOf, tupOf, AM.freeze, freeze1, freezeL, closed, nam, namL, if_true, if_false, deref, boxAt, exAt, ldCells, oneL, oneCell, Nat.reduceLeDiff, evL, adopt, rigid, rigidL, trim, Int.reduceEq, Int.reduceMod, Int.reduceDiv, if_pos, if_neg, asI, forall_const, implies_true, chkD, chkO, chkW, effB, reB, vEq, beq_self_eq_true, Nat.reduceSub, Nat.reduceLT, Int.reduceSub, Int.reduceAdd, Int.reduceMul, Int.reduceLT, Int.reduceLE, Int.reduceToNat, optI, aslice, cutSl, cutMs, cutStr, cutOwn, cellsOf, one, elCells, lenOf, beqV, beqVL, strip, stripO, convS]) | ((first | rw [WP_condK] | rw [WP_opsG] | rw [WP_quiG] | rw [WP_dG]); refine And.intro (fun hb => ?_) (fun hb => ?_) <;> (first | have hd := dq1 hb | have hd := dq2 hb | have hd := dq3 hb | have hd := dq4 hb | skip)))
    refine torn_count ps j hjl hj k (.slice .none none (ps.map bsl)) _ _ _ _ _ ?_ ?_ rfl rfl rfl rfl rfl (fun e2 f0 f6 f11 f12 f13 => ?_)
    · exact e0
    · exact e6
    have hse := call_same ((ps.take j).take (whole (ps.take j) k)) (fun x hx => by have := hsm x (List.mem_of_mem_take hx); omega) (by rw [List.length_take, List.length_take]; omega)
    have hwl := whole_le (ps.take j) k
    have hjt : (ps.take j).length = j := by rw [List.length_take]; omega
    have hLe : (ps.take j).take (whole (ps.take j) k) = ps.take (whole (ps.take j) k) := by rw [List.take_take, Nat.min_eq_left (by omega)]
    have f11 : getE e2 11 = .slice (.tok h'.length) none (((ps.take j).take (whole (ps.take j) k)).map bsl) := f11
    have f12 : getE e2 12 = i64 (recsZ ((ps.take j).take (whole (ps.take j) k)) : Nat) := f12
    have hge := fun t => ends_get ps j t
    rw [hLe] at f11 f12 hse
    generalize hww : whole (ps.take j) k = w at *
    have hL : (ps.take w).length = w := by rw [List.length_take]; omega
    have hmt : (ps.map bsl).take w = (ps.take w).map bsl := by rw [List.map_take]
    have q1 : (0 : Int) ≤ (w : Int) := by omega
    have q2 : (w : Int) ≤ (ps.length : Int) := by omega
    have hwj : w ≤ j := by omega
    by_cases hw0 : w = 0
    · subst hw0
      have f12 : getE e2 12 = i64 0 := f12
      have f13 : getE e2 13 = i64 0 := f13
      simp only [List.take_zero, List.map_nil] at hse f11
      have q5 : (0 : Int) ≤ (ps.length : Int) := by omega
      first | have hb := hb | have hb := trivial
      repeat' (first | (simp -implicitDefEqProofs (disch := omega) only [hb, F4, f0, f6, f11, f12, f13, hlv, List.take_zero, List.map_nil, q5, hse, wC, initE, aop, Nat.reduceEqDiff, ↓reduceIte, Nat.reduceAdd, finish, resOf, tupOf, AM.freeze, freeze1, freezeL, closed, nam, namL, if_true, if_false, deref, boxAt, exAt, ldCells, oneL, oneCell, Nat.reduceLeDiff, evL, adopt, rigid, rigidL, trim, Int.reduceEq, Int.reduceMod, Int.reduceDiv, if_pos, if_neg, asI, forall_const, implies_true, chkD, chkO, chkW, effB, reB, vEq, beq_self_eq_true, Nat.reduceSub, Nat.reduceLT, Int.reduceSub, Int.reduceAdd, Int.reduceMul, Int.reduceLT, Int.reduceLE, Int.reduceToNat, optI, aslice, cutSl, cutMs, cutStr, cutOwn, cellsOf, one, elCells, lenOf, beqV, beqVL, strip, stripO, convS]) | ((first | rw [WP_condK] | rw [WP_opsG] | rw [WP_quiG] | rw [WP_dG]); refine And.intro (fun hb => ?_) (fun hb => ?_) <;> (first | have hd := dq1 hb | have hd := dq2 hb | have hd := dq3 hb | have hd := dq4 hb | skip)))
    · have hg := hge (w - 1) (by omega)
      rw [Nat.sub_add_cancel (by omega)] at hg
      have hw1 : IntKind.i64.wrap ((w : Int) - 1) = ((w - 1 : Nat) : Int) := by rw [IntKind.wrap_i64]; omega
      have q3 : ¬ (w : Int) = 0 := by omega
      have q4 : (0 : Int) < (w : Int) := by omega
      first | have hb := hb | have hb := trivial
      repeat' (first | (simp -implicitDefEqProofs (disch := omega) only [hb, F4, f0, f6, f11, f12, f13, hlv, hL, hmt, q1, q2, hse, hw1, hg, q3, q4, wC, initE, aop, Nat.reduceEqDiff, ↓reduceIte, Nat.reduceAdd, finish, resOf, tupOf, AM.freeze, freeze1, freezeL, closed, nam, namL, if_true, if_false, deref, boxAt, exAt, ldCells, oneL, oneCell, Nat.reduceLeDiff, evL, adopt, rigid, rigidL, trim, Int.reduceEq, Int.reduceMod, Int.reduceDiv, if_pos, if_neg, asI, forall_const, implies_true, chkD, chkO, chkW, effB, reB, vEq, beq_self_eq_true, Nat.reduceSub, Nat.reduceLT, Int.reduceSub, Int.reduceAdd, Int.reduceMul, Int.reduceLT, Int.reduceLE, Int.reduceToNat, optI, aslice, cutSl, cutMs, cutStr, cutOwn, cellsOf, one, elCells, lenOf, beqV, beqVL, strip, stripO, convS]) | ((first | rw [WP_condK] | rw [WP_opsG] | rw [WP_quiG] | rw [WP_dG]); refine And.intro (fun hb => ?_) (fun hb => ?_) <;> (first | have hd := dq1 hb | have hd := dq2 hb | have hd := dq3 hb | have hd := dq4 hb | skip)))
theorem recsZ_le : ∀ l : List (List Int), (∀ p ∈ l, p.length ≤ 65536) → recsZ l ≤ l.length * 65548
  | [], _ => Nat.le_refl _
  | p :: l, h => by
    have h1 := recsZ_le l fun q hq => h q (List.mem_cons_of_mem _ hq)
    have h2 := h p List.mem_cons_self
    simp only [recsZ, List.map_cons, List.sum_cons, List.length_cons] at h1 ⊢
    omega
theorem call_torn (ps : List (List Int)) (hps : ∀ p ∈ ps, Bytes p ∧ p.length ≤ 140737488351232) (cut : Int) : ag T 4 [.slice .none none (ps.map bsl), i64 cut] [] = some (.sc (.bool true), []) :=
  call_sc rfl t4 rfl rfl rfl (by
    have h1 := bsl_nam ps
    simp only [closedL, namL, nam, h1, Bool.and_self]) (torn_ok ps (fun p hp => (hps p hp).1) (fun j hj h => by
      have h1 := recsZ_le _ h
      have h2 : (ps.take j).length ≤ 50 := by rw [List.length_take]; omega
      omega) cut)
end Go.Proofs.Ytipbmacpenmgoaa.AM
