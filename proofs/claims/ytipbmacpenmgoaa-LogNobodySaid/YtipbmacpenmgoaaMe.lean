import Derived.Test.YtipbmacpenmgoaaMd
/- The document's digest: its rounds. -/
namespace Go.Proofs.Ytipbmacpenmgoaa.AM
open Go
set_option maxRecDepth 100000
set_option maxHeartbeats 4000000
set_option linter.unusedVariables false
set_option linter.unusedSimpArgs false
/-- what a function that makes all for itself gives, by a run -/
theorem prun_of_gcall {f n : Nat} {F : AFn} {args : List AV} {cs : List AV} (hx : T.ext f = none) (hf : T.fn f = some F) (hp : F.pure = true) (hl : args.length = F.np) (hm : args.map strip = args) (hc : closedL args = true) (hr : gcall T n f args [] = some (.agg cs, [])) : prun T F args = some (.agg cs) := by
  have h1 := ag_of_gcall hr
  rw [ag_pure hx hf hp args hl] at h1
  simp only [pcall, prep, hm, if_pos hc, Option.bind_some, Bool.false_eq_true, if_false, Option.bind_eq_some_iff] at h1
  obtain ⟨v, h2, h3⟩ := h1
  rw [h2]
  unfold adopt at h3
  split at h3
  · cases h3
  · cases h3
  · cases h3; rfl
def RoundK (n : Nat) : Prop := ∀ (s0 s1 s2 s3 s4 s5 s6 s7 s8 s9 s10 s11 s12 s13 s14 s15 s16 s17 s18 s19 s20 s21 s22 s23 s24 : Int), gcall T 60 79 [.ref tabC, .agg (vI [s0, s1, s2, s3, s4, s5, s6, s7, s8, s9, s10, s11, s12, s13, s14, s15, s16, s17, s18, s19, s20, s21, s22, s23, s24]), i64 n] [] = some (.agg (vI (iRoundR [s0, s1, s2, s3, s4, s5, s6, s7, s8, s9, s10, s11, s12, s13, s14, s15, s16, s17, s18, s19, s20, s21, s22, s23, s24] (nn kCon n))), [])
theorem round_k0 : RoundK 0 := fun s0 s1 s2 s3 s4 s5 s6 s7 s8 s9 s10 s11 s12 s13 s14 s15 s16 s17 s18 s19 s20 s21 s22 s23 s24 => by kernel_rfl
theorem round_k1 : RoundK 1 := fun s0 s1 s2 s3 s4 s5 s6 s7 s8 s9 s10 s11 s12 s13 s14 s15 s16 s17 s18 s19 s20 s21 s22 s23 s24 => by kernel_rfl
theorem round_k2 : RoundK 2 := fun s0 s1 s2 s3 s4 s5 s6 s7 s8 s9 s10 s11 s12 s13 s14 s15 s16 s17 s18 s19 s20 s21 s22 s23 s24 => by kernel_rfl
theorem round_k3 : RoundK 3 := fun s0 s1 s2 s3 s4 s5 s6 s7 s8 s9 s10 s11 s12 s13 s14 s15 s16 s17 s18 s19 s20 s21 s22 s23 s24 => by kernel_rfl
theorem round_k4 : RoundK 4 := fun s0 s1 s2 s3 s4 s5 s6 s7 s8 s9 s10 s11 s12 s13 s14 s15 s16 s17 s18 s19 s20 s21 s22 s23 s24 => by kernel_rfl
theorem round_k5 : RoundK 5 := fun s0 s1 s2 s3 s4 s5 s6 s7 s8 s9 s10 s11 s12 s13 s14 s15 s16 s17 s18 s19 s20 s21 s22 s23 s24 => by kernel_rfl
theorem round_k6 : RoundK 6 := fun s0 s1 s2 s3 s4 s5 s6 s7 s8 s9 s10 s11 s12 s13 s14 s15 s16 s17 s18 s19 s20 s21 s22 s23 s24 => by kernel_rfl
theorem round_k7 : RoundK 7 := fun s0 s1 s2 s3 s4 s5 s6 s7 s8 s9 s10 s11 s12 s13 s14 s15 s16 s17 s18 s19 s20 s21 s22 s23 s24 => by kernel_rfl
theorem round_k8 : RoundK 8 := fun s0 s1 s2 s3 s4 s5 s6 s7 s8 s9 s10 s11 s12 s13 s14 s15 s16 s17 s18 s19 s20 s21 s22 s23 s24 => by kernel_rfl
theorem round_k9 : RoundK 9 := fun s0 s1 s2 s3 s4 s5 s6 s7 s8 s9 s10 s11 s12 s13 s14 s15 s16 s17 s18 s19 s20 s21 s22 s23 s24 => by kernel_rfl
theorem round_k10 : RoundK 10 := fun s0 s1 s2 s3 s4 s5 s6 s7 s8 s9 s10 s11 s12 s13 s14 s15 s16 s17 s18 s19 s20 s21 s22 s23 s24 => by kernel_rfl
theorem round_k11 : RoundK 11 := fun s0 s1 s2 s3 s4 s5 s6 s7 s8 s9 s10 s11 s12 s13 s14 s15 s16 s17 s18 s19 s20 s21 s22 s23 s24 => by kernel_rfl
theorem round_k12 : RoundK 12 := fun s0 s1 s2 s3 s4 s5 s6 s7 s8 s9 s10 s11 s12 s13 s14 s15 s16 s17 s18 s19 s20 s21 s22 s23 s24 => by kernel_rfl
theorem round_k13 : RoundK 13 := fun s0 s1 s2 s3 s4 s5 s6 s7 s8 s9 s10 s11 s12 s13 s14 s15 s16 s17 s18 s19 s20 s21 s22 s23 s24 => by kernel_rfl
theorem round_k14 : RoundK 14 := fun s0 s1 s2 s3 s4 s5 s6 s7 s8 s9 s10 s11 s12 s13 s14 s15 s16 s17 s18 s19 s20 s21 s22 s23 s24 => by kernel_rfl
theorem round_k15 : RoundK 15 := fun s0 s1 s2 s3 s4 s5 s6 s7 s8 s9 s10 s11 s12 s13 s14 s15 s16 s17 s18 s19 s20 s21 s22 s23 s24 => by kernel_rfl
theorem round_k16 : RoundK 16 := fun s0 s1 s2 s3 s4 s5 s6 s7 s8 s9 s10 s11 s12 s13 s14 s15 s16 s17 s18 s19 s20 s21 s22 s23 s24 => by kernel_rfl
theorem round_k17 : RoundK 17 := fun s0 s1 s2 s3 s4 s5 s6 s7 s8 s9 s10 s11 s12 s13 s14 s15 s16 s17 s18 s19 s20 s21 s22 s23 s24 => by kernel_rfl
theorem round_k18 : RoundK 18 := fun s0 s1 s2 s3 s4 s5 s6 s7 s8 s9 s10 s11 s12 s13 s14 s15 s16 s17 s18 s19 s20 s21 s22 s23 s24 => by kernel_rfl
theorem round_k19 : RoundK 19 := fun s0 s1 s2 s3 s4 s5 s6 s7 s8 s9 s10 s11 s12 s13 s14 s15 s16 s17 s18 s19 s20 s21 s22 s23 s24 => by kernel_rfl
theorem round_k20 : RoundK 20 := fun s0 s1 s2 s3 s4 s5 s6 s7 s8 s9 s10 s11 s12 s13 s14 s15 s16 s17 s18 s19 s20 s21 s22 s23 s24 => by kernel_rfl
theorem round_k21 : RoundK 21 := fun s0 s1 s2 s3 s4 s5 s6 s7 s8 s9 s10 s11 s12 s13 s14 s15 s16 s17 s18 s19 s20 s21 s22 s23 s24 => by kernel_rfl
theorem round_k22 : RoundK 22 := fun s0 s1 s2 s3 s4 s5 s6 s7 s8 s9 s10 s11 s12 s13 s14 s15 s16 s17 s18 s19 s20 s21 s22 s23 s24 => by kernel_rfl
theorem round_k23 : RoundK 23 := fun s0 s1 s2 s3 s4 s5 s6 s7 s8 s9 s10 s11 s12 s13 s14 s15 s16 s17 s18 s19 s20 s21 s22 s23 s24 => by kernel_rfl
theorem round_k (s0 s1 s2 s3 s4 s5 s6 s7 s8 s9 s10 s11 s12 s13 s14 s15 s16 s17 s18 s19 s20 s21 s22 s23 s24 : Int) : ∀ n : Nat, n < 24 → gcall T 60 79 [.ref tabC, .agg (vI [s0, s1, s2, s3, s4, s5, s6, s7, s8, s9, s10, s11, s12, s13, s14, s15, s16, s17, s18, s19, s20, s21, s22, s23, s24]), i64 n] [] = some (.agg (vI (iRoundR [s0, s1, s2, s3, s4, s5, s6, s7, s8, s9, s10, s11, s12, s13, s14, s15, s16, s17, s18, s19, s20, s21, s22, s23, s24] (nn kCon n))), [])
  | 0, _ => round_k0 s0 s1 s2 s3 s4 s5 s6 s7 s8 s9 s10 s11 s12 s13 s14 s15 s16 s17 s18 s19 s20 s21 s22 s23 s24
  | 1, _ => round_k1 s0 s1 s2 s3 s4 s5 s6 s7 s8 s9 s10 s11 s12 s13 s14 s15 s16 s17 s18 s19 s20 s21 s22 s23 s24
  | 2, _ => round_k2 s0 s1 s2 s3 s4 s5 s6 s7 s8 s9 s10 s11 s12 s13 s14 s15 s16 s17 s18 s19 s20 s21 s22 s23 s24
  | 3, _ => round_k3 s0 s1 s2 s3 s4 s5 s6 s7 s8 s9 s10 s11 s12 s13 s14 s15 s16 s17 s18 s19 s20 s21 s22 s23 s24
  | 4, _ => round_k4 s0 s1 s2 s3 s4 s5 s6 s7 s8 s9 s10 s11 s12 s13 s14 s15 s16 s17 s18 s19 s20 s21 s22 s23 s24
  | 5, _ => round_k5 s0 s1 s2 s3 s4 s5 s6 s7 s8 s9 s10 s11 s12 s13 s14 s15 s16 s17 s18 s19 s20 s21 s22 s23 s24
  | 6, _ => round_k6 s0 s1 s2 s3 s4 s5 s6 s7 s8 s9 s10 s11 s12 s13 s14 s15 s16 s17 s18 s19 s20 s21 s22 s23 s24
  | 7, _ => round_k7 s0 s1 s2 s3 s4 s5 s6 s7 s8 s9 s10 s11 s12 s13 s14 s15 s16 s17 s18 s19 s20 s21 s22 s23 s24
  | 8, _ => round_k8 s0 s1 s2 s3 s4 s5 s6 s7 s8 s9 s10 s11 s12 s13 s14 s15 s16 s17 s18 s19 s20 s21 s22 s23 s24
  | 9, _ => round_k9 s0 s1 s2 s3 s4 s5 s6 s7 s8 s9 s10 s11 s12 s13 s14 s15 s16 s17 s18 s19 s20 s21 s22 s23 s24
  | 10, _ => round_k10 s0 s1 s2 s3 s4 s5 s6 s7 s8 s9 s10 s11 s12 s13 s14 s15 s16 s17 s18 s19 s20 s21 s22 s23 s24
  | 11, _ => round_k11 s0 s1 s2 s3 s4 s5 s6 s7 s8 s9 s10 s11 s12 s13 s14 s15 s16 s17 s18 s19 s20 s21 s22 s23 s24
  | 12, _ => round_k12 s0 s1 s2 s3 s4 s5 s6 s7 s8 s9 s10 s11 s12 s13 s14 s15 s16 s17 s18 s19 s20 s21 s22 s23 s24
  | 13, _ => round_k13 s0 s1 s2 s3 s4 s5 s6 s7 s8 s9 s10 s11 s12 s13 s14 s15 s16 s17 s18 s19 s20 s21 s22 s23 s24
  | 14, _ => round_k14 s0 s1 s2 s3 s4 s5 s6 s7 s8 s9 s10 s11 s12 s13 s14 s15 s16 s17 s18 s19 s20 s21 s22 s23 s24
  | 15, _ => round_k15 s0 s1 s2 s3 s4 s5 s6 s7 s8 s9 s10 s11 s12 s13 s14 s15 s16 s17 s18 s19 s20 s21 s22 s23 s24
  | 16, _ => round_k16 s0 s1 s2 s3 s4 s5 s6 s7 s8 s9 s10 s11 s12 s13 s14 s15 s16 s17 s18 s19 s20 s21 s22 s23 s24
  | 17, _ => round_k17 s0 s1 s2 s3 s4 s5 s6 s7 s8 s9 s10 s11 s12 s13 s14 s15 s16 s17 s18 s19 s20 s21 s22 s23 s24
  | 18, _ => round_k18 s0 s1 s2 s3 s4 s5 s6 s7 s8 s9 s10 s11 s12 s13 s14 s15 s16 s17 s18 s19 s20 s21 s22 s23 s24
  | 19, _ => round_k19 s0 s1 s2 s3 s4 s5 s6 s7 s8 s9 s10 s11 s12 s13 s14 s15 s16 s17 s18 s19 s20 s21 s22 s23 s24
  | 20, _ => round_k20 s0 s1 s2 s3 s4 s5 s6 s7 s8 s9 s10 s11 s12 s13 s14 s15 s16 s17 s18 s19 s20 s21 s22 s23 s24
  | 21, _ => round_k21 s0 s1 s2 s3 s4 s5 s6 s7 s8 s9 s10 s11 s12 s13 s14 s15 s16 s17 s18 s19 s20 s21 s22 s23 s24
  | 22, _ => round_k22 s0 s1 s2 s3 s4 s5 s6 s7 s8 s9 s10 s11 s12 s13 s14 s15 s16 s17 s18 s19 s20 s21 s22 s23 s24
  | 23, _ => round_k23 s0 s1 s2 s3 s4 s5 s6 s7 s8 s9 s10 s11 s12 s13 s14 s15 s16 s17 s18 s19 s20 s21 s22 s23 s24
  | n + 24, h => by omega
theorem vI_cl (p : Nat → Bool) : ∀ l : List Int, namL p (vI l) = true
  | [] => rfl
  | x :: l => vI_cl p l
theorem vI_strip (l : List Int) : (vI l).map strip = vI l := by rw [vI, List.map_map]; rfl
theorem vI_rigid : ∀ l : List Int, rigidL (vI l) = true
  | [] => rfl
  | x :: l => vI_rigid l
theorem vI_one : ∀ l : List Int, oneL (vI l) = true
  | [] => rfl
  | x :: l => vI_one l
theorem tab_cl : closedL tabC = true := by kernel_rfl
theorem con_lt (n : Nat) (hn : n < 24) : ((BitVec.ofNat 64 (nn kCon n)).toNat : Int) = (nn kCon n : Nat) := by
  have : ∀ n, n < 24 → (BitVec.ofNat 64 (nn kCon n)).toNat = nn kCon n := by decide
  rw [this n hn]
theorem round_ok (s : List Wd) (hs : s.length = 25) (n : Nat) (hn : n < 24) : prun T F79 [.ref tabC, .agg (wv s), i64 n] = some (.agg (wv (kRound s (BitVec.ofNat 64 (nn kCon n))))) := by
  have hk := round_k (nw s 0).toNat (nw s 1).toNat (nw s 2).toNat (nw s 3).toNat (nw s 4).toNat (nw s 5).toNat (nw s 6).toNat (nw s 7).toNat (nw s 8).toNat (nw s 9).toNat (nw s 10).toNat (nw s 11).toNat (nw s 12).toNat (nw s 13).toNat (nw s 14).toNat (nw s 15).toNat (nw s 16).toNat (nw s 17).toNat (nw s 18).toNat (nw s 19).toNat (nw s 20).toNat (nw s 21).toNat (nw s 22).toNat (nw s 23).toNat (nw s 24).toNat n hn
  rw [words_wI hs, ← con_lt n hn, iRoundR_w] at hk
  refine prun_of_gcall rfl t79 rfl rfl ?_ ?_ hk
  · simp [strip]
  · have h1 := tab_cl
    have h2 := vI_cl (fun _ => false) (wI s)
    simp only [closedL, namL, nam, Bool.and_true] at h1 h2 ⊢
    rw [h1, h2]; rfl
theorem rounds_ok (s : List Wd) (hs : s.length = 25) : prun T F66 [.ref tabC, .agg (wv s)] = some (.agg (wv (kPerm s))) := by
  refine WP_eq (prun_wp ?_)
  have h1L := vI_one (wI s)
  have hl : (wv s).length = 25 := by rw [wv_len, hs]
  have htk := tab_cl
  first | have hb := hb | have hb := trivial
  repeat' (first | (simp -implicitDefEqProofs (disch := omega) only [hb, F66, hl, h1L, wC, initE, aop, Nat.reduceEqDiff, ↓reduceIte, Nat.reduceAdd, finish, resOf, tupOf, AM.freeze, freeze1, freezeL, closed, nam, namL, if_true, if_false, deref, boxAt, exAt, ldCells, oneL, oneCell, Nat.reduceLeDiff, evL, adopt, rigid, rigidL, trim, Int.reduceEq, Int.reduceMod, Int.reduceDiv, if_pos, if_neg, asI, forall_const, implies_true, chkD, chkO, chkW, effB, reB, vEq, beq_self_eq_true, Nat.reduceSub, Nat.reduceLT, Int.reduceSub, Int.reduceAdd, Int.reduceMul, Int.reduceLT, Int.reduceLE, Int.reduceToNat, optI, aslice, cutSl, cutMs, cutStr, cutOwn, cellsOf, one, elCells, lenOf, beqV, beqVL, strip, stripO, convS]) | ((first | rw [WP_condK] | rw [WP_opsG] | rw [WP_quiG] | rw [WP_dG]); refine And.intro (fun hb => ?_) (fun hb => ?_) <;> (first | have hd := dq1 hb | have hd := dq2 hb | have hd := dq3 hb | have hd := dq4 hb | skip)))
  refine WP_loop (I := fun n e h => ∃ (i : Nat) (x : AObj), i ≤ 24 ∧ n = 24 - i ∧ getE e 0 = .ref tabC ∧ getE e 3 = .ptr 0 0 ∧ getE e 4 = .ptr 1 0 ∧ getE e 5 = i64 i ∧ h = [.cells (wv (kFold i s)), .cells (List.replicate 25 (.int .u64 0))]) ?_ 24 _ _ ⟨0, .cells [], by omega, rfl, rfl, rfl, rfl, rfl, rfl⟩
  rintro n e h ⟨i, x, hi, rfl, h0, h3, h4, h5, rfl⟩
  have hk := kFold_length hs i
  have hkl : (wv (kFold i s)).length = 25 := by rw [wv_len, hk]
  rw [trim_same' (by simp)]
  by_cases h24 : i < 24
  · have hcall := call_agg (T := T) (h := [.cells (wv (kFold i s)), .cells (List.replicate 25 (.int .u64 0))]) rfl t79 rfl rfl (args := [.ref tabC, .agg (wv (kFold i s)), i64 i]) (by simp [strip]) (by
      have h2 := vI_cl (fun _ => false) (wI (kFold i s))
      simp only [closedL, namL, nam, Bool.and_true] at htk h2 ⊢
      rw [htk, h2]; rfl) (round_ok (kFold i s) hk i h24)
    have hT : List.take 25 (wv (kFold i s)) = wv (kFold i s) := List.take_of_length_le (by omega)
    have hl2 : (wv (kRound (kFold i s) (BitVec.ofNat 64 (nn kCon i)))).length = 25 := by rw [wv_len, kRound_len]
    have h1 := vI_one (wI (kRound (kFold i s) (BitVec.ofNat 64 (nn kCon i))))
    have hsp : splice (wv (kFold i s)) 0 (wv (kRound (kFold i s) (BitVec.ofNat 64 (nn kCon i)))) = wv (kRound (kFold i s) (BitVec.ofNat 64 (nn kCon i))) := splice_all (by rw [hl2, hkl])
    first | have hb := hb | have hb := trivial
    repeat' (first | (simp -implicitDefEqProofs (disch := omega) only [hb, L66_0, h0, h3, h4, h5, hkl, hT, hcall, hl2, h1, hsp, wC, initE, aop, Nat.reduceEqDiff, ↓reduceIte, Nat.reduceAdd, finish, resOf, tupOf, AM.freeze, freeze1, freezeL, closed, nam, namL, if_true, if_false, deref, boxAt, exAt, ldCells, oneL, oneCell, Nat.reduceLeDiff, evL, adopt, rigid, rigidL, trim, Int.reduceEq, Int.reduceMod, Int.reduceDiv, if_pos, if_neg, asI, forall_const, implies_true, chkD, chkO, chkW, effB, reB, vEq, beq_self_eq_true, Nat.reduceSub, Nat.reduceLT, Int.reduceSub, Int.reduceAdd, Int.reduceMul, Int.reduceLT, Int.reduceLE, Int.reduceToNat, optI, aslice, cutSl, cutMs, cutStr, cutOwn, cellsOf, one, elCells, lenOf, beqV, beqVL, strip, stripO, convS]) | ((first | rw [WP_condK] | rw [WP_opsG] | rw [WP_quiG] | rw [WP_dG]); refine And.intro (fun hb => ?_) (fun hb => ?_) <;> (first | have hd := dq1 hb | have hd := dq2 hb | have hd := dq3 hb | have hd := dq4 hb | skip)))
    exact ⟨23 - i, by omega, i + 1, .cells [], by omega, by omega, rfl, by rw [kFold_succ _ _ h24]⟩
  · obtain rfl : i = 24 := by omega
    first | have hb := hb | have hb := trivial
    repeat' (first | (simp -implicitDefEqProofs (disch := omega) only [hb, L66_0, h0, h3, h4, h5, hkl, wC, initE, aop, Nat.reduceEqDiff, ↓reduceIte, Nat.reduceAdd, finish, resOf, tupOf, AM.freeze, freeze1, freezeL, closed, nam, namL, if_true, if_false, deref, boxAt, exAt, ldCells, oneL, oneCell, Nat.reduceLeDiff, evL, adopt, rigid, rigidL, trim, Int.reduceEq, Int.reduceMod, Int.reduceDiv, if_pos, if_neg, asI, forall_const, implies_true, chkD, chkO, chkW, effB, reB, vEq, beq_self_eq_true, Nat.reduceSub, Nat.reduceLT, Int.reduceSub, Int.reduceAdd, Int.reduceMul, Int.reduceLT, Int.reduceLE, Int.reduceToNat, optI, aslice, cutSl, cutMs, cutStr, cutOwn, cellsOf, one, elCells, lenOf, beqV, beqVL, strip, stripO, convS]) | ((first | rw [WP_condK] | rw [WP_opsG] | rw [WP_quiG] | rw [WP_dG]); refine And.intro (fun hb => ?_) (fun hb => ?_) <;> (first | have hd := dq1 hb | have hd := dq2 hb | have hd := dq3 hb | have hd := dq4 hb | skip)))
    have hT : List.take 25 (wv (kFold 24 s)) = wv (kFold 24 s) := List.take_of_length_le (by omega)
    have hsp : splice (List.replicate 25 (AV.int .u64 0)) 0 (wv (kFold 24 s)) = wv (kFold 24 s) := splice_all (by rw [hkl]; rfl)
    have hst := vI_strip (wI (kFold 24 s))
    rw [hT, hsp, hT, hst]
    exact ⟨⟨hkl, vI_one _⟩, by omega, vI_cl _ _, rfl⟩
end Go.Proofs.Ytipbmacpenmgoaa.AM

/- The document's digest: what is taken in. -/
namespace Go.Proofs.Ytipbmacpenmgoaa.AM
open Go
set_option maxRecDepth 100000
set_option maxHeartbeats 4000000
set_option linter.unusedVariables false
set_option linter.unusedSimpArgs false
theorem fzL_vI (h : Heap) : ∀ l : List Int, fzL h (vI l) = some (vI l)
  | [] => rfl
  | x :: l => by simp only [vI, List.map_cons, fzL, fz, Option.bind_some] at *; rw [fzL_vI h l]; rfl
theorem call_rounds (s : List Wd) (hs : s.length = 25) (h : Heap) (id : Nat) (hid : h[id]? = some (.cells tabC)) : ag T 66 [.ptr id 0, .agg (wv s)] h = some (.agg (wv (kPerm s)), h) := by
  rw [ag_pure rfl t66 rfl _ rfl]
  have hb : boxAt h id = some tabC := by simp [boxAt, hid]
  have hp : prep h [.ptr id 0, .agg (wv s)] = some ([.ref tabC, .agg (wv s)], true) := by
    have h1 : closedL ([AV.ptr id 0, .agg (wv s)].map strip) = false := rfl
    have h2 : closedL ([AV.ptr id 0, .agg (wv s)].map stripEl) = false := rfl
    have h3 : closedL ([AV.ptr id 0, .agg (wv s)].map deepEl) = false := rfl
    unfold prep
    rw [h1, h2, h3]
    simp only [Bool.false_eq_true, if_false, fzL, fz, hb, Option.bind_some, List.drop_zero, tab_cl, if_true, fzL_vI, Option.map_some]
  simp only [pcall, hp, Option.bind_some, rounds_ok s hs, if_true, rigid, vI_rigid]
theorem all_k : gcall T 200 65 [] [] = some (.agg tabC, []) := by kernel_rfl
theorem call_All (h : Heap) : ag T 65 [] h = some (.agg tabC, h) := by
  have hp := prun_of_gcall rfl t65 rfl rfl rfl rfl all_k
  exact call_agg rfl t65 rfl rfl rfl rfl hp
/-! ### what is padded, and folded -/
def kPad (l : List Int) : List Int := l ++ (6 :: List.replicate (135 - l.length % 136) 0)
def kPadL (l : List Int) : List Int := (kPad l).set ((kPad l).length - 1) (if l.length % 136 = 135 then 134 else 128)
theorem kPad_len (l : List Int) : (kPad l).length = (l.length / 136 + 1) * 136 := by
  simp only [kPad, List.length_append, List.length_cons, List.length_replicate]
  omega
theorem kAdd_zero {s : List Wd} (a : Nat) (ha : a / 8 < s.length) : kAdd s a 0 = s := by
  rw [kAdd]
  have h0 : (BitVec.ofInt 64 0 <<< (8 * (a % 8))) = (0#64) := by
    rw [show BitVec.ofInt 64 0 = 0#64 from rfl]; simp
  rw [h0, BitVec.xor_zero, nw, List.getD_eq_getElem?_getD, List.getElem?_eq_getElem ha]
  simp
theorem kAdd_twice (s : List Wd) (a : Nat) (ha : a / 8 < s.length) (x y z : Int) (hz : BitVec.ofInt 64 x ^^^ BitVec.ofInt 64 y = BitVec.ofInt 64 z) : kAdd (kAdd s a x) a y = kAdd s a z := by
  simp only [kAdd, List.set_set]
  congr 1
  have h1 : nw (s.set (a / 8) (nw s (a / 8) ^^^ BitVec.ofInt 64 x <<< (8 * (a % 8)))) (a / 8) = nw s (a / 8) ^^^ BitVec.ofInt 64 x <<< (8 * (a % 8)) := by
    rw [nw, List.getD_eq_getElem?_getD, List.getElem?_set_self ha]; rfl
  rw [h1, BitVec.xor_assoc, ← hz]
  congr 1
  exact (BitVec.shiftLeft_xor_distrib _ _ _).symm
theorem kStep_hit (s : List Wd) (a : Nat) (b : Int) (h : a + 1 = 136) : kStep 136 (s, a) b = (kPerm (kAdd s a b), 0) := by unfold kStep; rw [if_pos h]
theorem kStep_miss (s : List Wd) (a : Nat) (b : Int) (h : ¬ a + 1 = 136) : kStep 136 (s, a) b = (kAdd s a b, a + 1) := by unfold kStep; rw [if_neg h]
theorem fold_zeros (s : List Wd) (hs : s.length = 25) : ∀ (z a : Nat), a + z ≤ 135 → (List.replicate z (0 : Int)).foldl (kStep 136) (s, a) = (s, a + z)
  | 0, a, _ => rfl
  | z + 1, a, h => by
    rw [List.replicate_succ, List.foldl_cons]
    have h1 : kStep 136 (s, a) 0 = (s, a + 1) := by rw [kStep_miss _ _ _ (by omega), kAdd_zero a (by omega)]
    rw [h1, fold_zeros s hs z (a + 1) (by omega)]
    congr 1; omega
theorem fold_at : ∀ (l : List Int) (s : List Wd) (a : Nat), a < 136 → (l.foldl (kStep 136) (s, a)).2 = (a + l.length) % 136
  | [], s, a, h => by simp; omega
  | b :: l, s, a, h => by
    rw [List.foldl_cons]
    by_cases h1 : a + 1 = 136
    · rw [kStep_hit _ _ _ h1, fold_at l _ 0 (by omega), List.length_cons]; omega
    · rw [kStep_miss _ _ _ h1, fold_at l _ (a + 1) (by omega), List.length_cons]; congr 1; omega
theorem kPadL_fold (l : List Int) : (kPadL l).foldl (kStep 136) (kZero, 0) = (kEnd (kTake l), 0) := by
  have hk := KS.fold l kzero_ks
  have ha := fold_at l kZero 0 (by omega)
  have hle := kPad_len l
  have e : kPadL l = l ++ (if l.length % 136 = 135 then [134] else 6 :: (List.replicate (134 - l.length % 136) 0 ++ [128])) := by
    unfold kPadL
    have hpl : (kPad l).length - 1 = l.length + (135 - l.length % 136) := by
      simp only [kPad, List.length_append, List.length_cons, List.length_replicate]; omega
    rw [hpl, kPad, List.set_append_right _ _ (by omega), show l.length + (135 - l.length % 136) - l.length = 135 - l.length % 136 by omega]
    congr 1
    split
    · rename_i h; rw [h]; rfl
    · rename_i h
      have : 135 - l.length % 136 = (134 - l.length % 136) + 1 := by omega
      rw [this, List.set_cons_succ, List.replicate_succ', List.set_append_right _ _ (by simp)]
      simp
  rw [e, List.foldl_append, kTake]
  rw [show (List.replicate 25 (0#64)) = kZero from rfl] at *
  generalize l.foldl (kStep 136) (kZero, 0) = p at hk ha ⊢
  obtain ⟨s, a⟩ := p
  have hs : s.length = 25 := hk.len
  have ha' : a < 136 := hk.lt
  simp only [Nat.zero_add] at ha
  split
  · rename_i h
    have : a = 135 := by omega
    subst this
    show kStep 136 (s, 135) 134 = _
    rw [kStep_hit _ _ _ rfl, kEnd, kAdd_twice s 135 (by omega) 6 128 134 (by decide)]
  · rename_i h
    have hne : a ≠ 135 := by omega
    rw [List.foldl_cons, List.foldl_append]
    have h1 : kStep 136 (s, a) 6 = (kAdd s a 6, a + 1) := kStep_miss _ _ _ (by omega)
    rw [h1, fold_zeros _ (kAdd_len hs _ _) _ _ (by omega), show a + 1 + (134 - l.length % 136) = 135 by omega]
    show kStep 136 (kAdd s a 6, 135) 128 = _
    rw [kStep_hit _ _ _ rfl, kEnd]
/-- bytes into places, one after the other -/
def kAdds (s : List Wd) (a : Nat) : List Int → List Wd
  | [] => s
  | b :: l => kAdds (kAdd s a b) (a + 1) l
theorem kAdds_len : ∀ (l : List Int) {s : List Wd} (a : Nat), s.length = 25 → (kAdds s a l).length = 25
  | [], s, a, h => h
  | b :: l, s, a, h => kAdds_len l _ (kAdd_len h _ _)
theorem kAdds_snoc : ∀ (l : List Int) (s : List Wd) (a : Nat) (b : Int), kAdds s a (l ++ [b]) = kAdd (kAdds s a l) (a + l.length) b
  | [], s, a, b => rfl
  | c :: l, s, a, b => by
    rw [List.cons_append, kAdds, kAdds_snoc l, kAdds, List.length_cons]; congr 1; omega
theorem fold_block : ∀ (l : List Int) (s : List Wd) (a : Nat), a + l.length = 136 → 0 < l.length → l.foldl (kStep 136) (s, a) = (kPerm (kAdds s a l), 0)
  | [], s, a, h, h0 => by simp at h0
  | [b], s, a, h, h0 => by
    have : a = 135 := by simpa using h
    subst this
    rfl
  | b :: c :: l, s, a, h, h0 => by
    rw [List.foldl_cons]
    rw [kStep_miss _ _ _ (by simp only [List.length_cons] at h; omega), fold_block (c :: l) _ (a + 1) (by simp only [List.length_cons] at h ⊢; omega) (by simp)]
    rfl
end Go.Proofs.Ytipbmacpenmgoaa.AM

/- The document's digest: the message, padded. -/
namespace Go.Proofs.Ytipbmacpenmgoaa.AM
open Go
set_option maxRecDepth 100000
set_option maxHeartbeats 4000000
set_option linter.unusedVariables false
set_option linter.unusedSimpArgs false
theorem flatC (l : List Int) : ((l.map u8).map elCells).flatten = l.map u8 := by
  induction l with
  | nil => rfl
  | cons x l ih => simp only [List.map_cons, List.flatten_cons, ih]; rfl
theorem kfits {n : Nat} (h : n ≤ 140737488355328) : fitsB n 1 = true := by simp [fitsB]; omega
/-- the noughts behind -/
theorem pad_ok (b : List Int) (hn : b.length ≤ 140737488353000) (o8 : AV) (m : Nat) (keep : List Nat) (hkeep : keep = [0, 1, 9]) (z0 : Nat) (hz0 : z0 = 0)
    (Q : Res → Prop) (e : Env) (pre : Heap) (h : Heap) (h0 : getE e 0 = i64 32) (h1 : getE e 1 = i64 136) (h9 : getE e 9 = .ms pre.length 0 none (b.length + 1)) (hh : h = pre ++ [.vec ((b ++ [6]).map u8)])
    (hq : ∀ e' pre', getE e' 0 = i64 32 → getE e' 1 = i64 136 → getE e' 9 = .ms pre'.length 0 none (kPad b).length → Q (.exit 0, e', pre' ++ [.vec ((kPad b).map u8)])) :
    WP Q (axl T keep false L43_4 m e h) := by
  subst hkeep
  refine WP_loop (I := fun n e h => ∃ (z : Nat) (pre : Heap), z ≤ 135 - b.length % 136 ∧ n = 135 - b.length % 136 - z ∧ getE e 0 = i64 32 ∧ getE e 1 = i64 136 ∧ getE e 9 = .ms pre.length 0 none (b.length + 1 + z) ∧ h = pre ++ [.vec ((b ++ 6 :: List.replicate z 0).map u8)]) ?_ _ _ _ ⟨0, pre, by omega, rfl, h0, h1, h9, hh⟩
  rintro n e h ⟨z, pre, hz, rfl, h0, h1, h9, rfl⟩
  rw [trim_off]
  have hrem : (((b.length + 1 + z : Nat) : Int).tmod 136) = (((b.length + 1 + z) % 136 : Nat) : Int) := by rw [Int.tmod_eq_emod_of_nonneg (by omega)]; omega
  have hcl : ((b ++ 6 :: List.replicate z 0).map u8).length = b.length + 1 + z := by simp; omega
  have hf := kfits (n := b.length + 1 + z + 1) (by omega)
  by_cases hz1 : z < 135 - b.length % 136
  · have hne : ¬ (((b.length + 1 + z) % 136 : Nat) : Int) = 0 := by omega
    first | have hb := hb | have hb := trivial
    repeat' (first | (simp -implicitDefEqProofs (disch := omega) only [hb, L43_4, h0, h1, h9, hrem, hne, appV, setEls, elemsOf, hcl, hf, stripEl, elFits, List.replicate_succ, List.replicate_zero, wC, initE, aop, Nat.reduceEqDiff, ↓reduceIte, Nat.reduceAdd, finish, resOf, tupOf, AM.freeze, freeze1, freezeL, closed, nam, namL, if_true, if_false, deref, boxAt, exAt, ldCells, oneL, oneCell, Nat.reduceLeDiff, evL, adopt, rigid, rigidL, trim, Int.reduceEq, Int.reduceMod, Int.reduceDiv, if_pos, if_neg, asI, forall_const, implies_true, chkD, chkO, chkW, effB, reB, vEq, beq_self_eq_true, Nat.reduceSub, Nat.reduceLT, Int.reduceSub, Int.reduceAdd, Int.reduceMul, Int.reduceLT, Int.reduceLE, Int.reduceToNat, optI, aslice, cutSl, cutMs, cutStr, cutOwn, cellsOf, one, elCells, lenOf, beqV, beqVL, strip, stripO, convS]) | ((first | rw [WP_condK] | rw [WP_opsG] | rw [WP_quiG] | rw [WP_dG]); refine And.intro (fun hb => ?_) (fun hb => ?_) <;> (first | have hd := dq1 hb | have hd := dq2 hb | have hd := dq3 hb | have hd := dq4 hb | skip)))
    refine ⟨135 - b.length % 136 - (z + 1), by omega, z + 1, pre ++ [.row none 1], by omega, rfl, by simp only [List.length_append, List.length_cons, List.length_nil]; rfl, ?_⟩
    congr 2
    simp only [List.flatten_cons, List.flatten_nil, List.append_nil, List.replicate_succ', List.map_append, List.map_cons, List.append_assoc, List.map_replicate, List.map_nil, List.cons_append]
  · have hne : (((b.length + 1 + z) % 136 : Nat) : Int) = 0 := by omega
    first | have hb := hb | have hb := trivial
    repeat' (first | (simp -implicitDefEqProofs (disch := omega) only [hb, L43_4, h0, h1, h9, hrem, hne, wC, initE, aop, Nat.reduceEqDiff, ↓reduceIte, Nat.reduceAdd, finish, resOf, tupOf, AM.freeze, freeze1, freezeL, closed, nam, namL, if_true, if_false, deref, boxAt, exAt, ldCells, oneL, oneCell, Nat.reduceLeDiff, evL, adopt, rigid, rigidL, trim, Int.reduceEq, Int.reduceMod, Int.reduceDiv, if_pos, if_neg, asI, forall_const, implies_true, chkD, chkO, chkW, effB, reB, vEq, beq_self_eq_true, Nat.reduceSub, Nat.reduceLT, Int.reduceSub, Int.reduceAdd, Int.reduceMul, Int.reduceLT, Int.reduceLE, Int.reduceToNat, optI, aslice, cutSl, cutMs, cutStr, cutOwn, cellsOf, one, elCells, lenOf, beqV, beqVL, strip, stripO, convS]) | ((first | rw [WP_condK] | rw [WP_opsG] | rw [WP_quiG] | rw [WP_dG]); refine And.intro (fun hb => ?_) (fun hb => ?_) <;> (first | have hd := dq1 hb | have hd := dq2 hb | have hd := dq3 hb | have hd := dq4 hb | skip)))
    have hz2 : z = 135 - b.length % 136 := by omega
    subst hz2
    refine hq _ pre rfl rfl ?_
    show AV.ms pre.length 0 none (b.length + 1 + (135 - b.length % 136)) = _
    rw [show b.length + 1 + (135 - b.length % 136) = (kPad b).length by simp only [kPad, List.length_append, List.length_cons, List.length_replicate]; omega]
/-- a block's bytes -/
theorem blk_ok (s0 : List Wd) (hs : s0.length = 25) (M : List Int) (hM : Bytes M) (k : Nat) (hk : 136 * k + 136 ≤ M.length) (hML : M.length ≤ 140737488355328) (id m : Nat) (keep : List Nat) (hkeep : keep = [0, 1, 9, 10, 11, 12, 13])
    (Q : Res → Prop) (e : Env) (pre h : Heap) (hid : pre.length = id) (h0 : getE e 0 = i64 32) (h1 : getE e 1 = i64 136) (h9 : getE e 9 = .ms id 0 none M.length) (h10 : getE e 10 = .ptr (id + 1) 0) (h11 : getE e 11 = .ptr (id + 2) 0) (h12 : getE e 12 = i64 (136 * k : Nat)) (h13 : getE e 13 = i64 0)
    (hh : h = pre ++ [.vec (M.map u8), .cells tabC, .cells (wv s0)])
    (hq : ∀ e', getE e' 0 = i64 32 → getE e' 1 = i64 136 → getE e' 9 = .ms id 0 none M.length → getE e' 10 = .ptr (id + 1) 0 → getE e' 11 = .ptr (id + 2) 0 → getE e' 12 = i64 (136 * k : Nat) → Q (.exit 4, e', pre ++ [.vec (M.map u8), .cells tabC, .cells (wv (kAdds s0 0 ((M.drop (136 * k)).take 136)))])) :
    WP Q (axl T keep false L43_2 m e h) := by
  subst hkeep
  subst hid
  refine WP_loop (I := fun n e h => ∃ (i : Nat), i ≤ 136 ∧ n = 136 - i ∧ getE e 0 = i64 32 ∧ getE e 1 = i64 136 ∧ getE e 9 = .ms pre.length 0 none M.length ∧ getE e 10 = .ptr (pre.length + 1) 0 ∧ getE e 11 = .ptr (pre.length + 2) 0 ∧ getE e 12 = i64 (136 * k : Nat) ∧ getE e 13 = i64 i ∧ h = pre ++ [.vec (M.map u8), .cells tabC, .cells (wv (kAdds s0 0 ((M.drop (136 * k)).take i)))]) ?_ _ _ _ ⟨0, by omega, rfl, h0, h1, h9, h10, h11, h12, h13, hh⟩
  rintro n e h ⟨i, hi, rfl, h0, h1, h9, h10, h11, h12, h13, rfl⟩
  rw [trim_off]
  by_cases hlt : i < 136
  · have hsl : (kAdds s0 0 ((M.drop (136 * k)).take i)).length = 25 := kAdds_len _ _ hs
    have hget : (List.drop (136 * k + i) (M.map u8))[0]? = some (u8 M[136 * k + i]) := by rw [List.getElem?_drop, Nat.add_zero, get_u8]
    have hget2 : (M.map u8)[136 * k + i]? = some (u8 M[136 * k + i]) := get_u8 _
    have hsn : (M.drop (136 * k)).take (i + 1) = (M.drop (136 * k)).take i ++ [M[136 * k + i]] := by
      rw [List.take_succ_eq_append_getElem (by rw [List.length_drop]; omega), List.getElem_drop]
    have hstp : kAdds s0 0 ((M.drop (136 * k)).take (i + 1)) = kAdd (kAdds s0 0 ((M.drop (136 * k)).take i)) i M[136 * k + i] := by
      rw [hsn, kAdds_snoc, List.length_take, List.length_drop, Nat.zero_add, Nat.min_eq_left (by omega)]
    have hby := hM _ (List.getElem_mem (show 136 * k + i < M.length by omega))
    generalize kAdds s0 0 ((M.drop (136 * k)).take i) = s at hsl hstp ⊢
    generalize M[136 * k + i] = b at hget hget2 hstp hby
    have hq : ((i : Int).tdiv 8) = ((i / 8 : Nat) : Int) := by rw [Int.tdiv_eq_ediv_of_nonneg (by omega)]; omega
    have hm : ((i : Int).tmod 8) = ((i % 8 : Nat) : Int) := by rw [Int.tmod_eq_emod_of_nonneg (by omega)]; omega
    have h8 : (8 : Int) * ((i % 8 : Nat) : Int) = ((8 * (i % 8) : Nat) : Int) := by omega
    have hA : ((136 * k : Nat) : Int) + (i : Int) = ((136 * k + i : Nat) : Int) := by omega
    have hg := wv_get (s := s) (i := i / 8) (by omega)
    have hsh := bin_shlW .i64 b (8 * (i % 8)) (by omega) hby.1 hby.2
    have hx := bin_xorW (nw s (i / 8)) (BitVec.ofInt 64 b <<< (8 * (i % 8)))
    have hw : IntKind.u64.wrap b = b := by rw [IntKind.wrap_u64]; omega
    have hset := wv_set s (i / 8) ((nw s (i / 8)) ^^^ (BitVec.ofInt 64 b <<< (8 * (i % 8))))
    have hwl : (wv s).length = 25 := by rw [wv_len, hsl]
    first | have hb := hb | have hb := trivial
    repeat' (first | (simp -implicitDefEqProofs (disch := omega) only [hb, L43_2, h0, h1, h9, h10, h11, h12, h13, hq, hm, h8, hA, hg, hsh, hx, hw, hset, hwl, hget, hget2, wC, initE, aop, Nat.reduceEqDiff, ↓reduceIte, Nat.reduceAdd, finish, resOf, tupOf, AM.freeze, freeze1, freezeL, closed, nam, namL, if_true, if_false, deref, boxAt, exAt, ldCells, oneL, oneCell, Nat.reduceLeDiff, evL, adopt, rigid, rigidL, trim, Int.reduceEq, Int.reduceMod, Int.reduceDiv, if_pos, if_neg, asI, forall_const, implies_true, chkD, chkO, chkW, effB, reB, vEq, beq_self_eq_true, Nat.reduceSub, Nat.reduceLT, Int.reduceSub, Int.reduceAdd, Int.reduceMul, Int.reduceLT, Int.reduceLE, Int.reduceToNat, optI, aslice, cutSl, cutMs, cutStr, cutOwn, cellsOf, one, elCells, lenOf, beqV, beqVL, strip, stripO, convS]) | ((first | rw [WP_condK] | rw [WP_opsG] | rw [WP_quiG] | rw [WP_dG]); refine And.intro (fun hb => ?_) (fun hb => ?_) <;> (first | have hd := dq1 hb | have hd := dq2 hb | have hd := dq3 hb | have hd := dq4 hb | skip)))
    exact ⟨136 - (i + 1), by omega, i + 1, by omega, rfl, rfl, by rw [hstp]; rfl⟩
  · obtain rfl : i = 136 := by omega
    first | have hb := hb | have hb := trivial
    repeat' (first | (simp -implicitDefEqProofs (disch := omega) only [hb, L43_2, h0, h1, h9, h10, h11, h12, h13, wC, initE, aop, Nat.reduceEqDiff, ↓reduceIte, Nat.reduceAdd, finish, resOf, tupOf, AM.freeze, freeze1, freezeL, closed, nam, namL, if_true, if_false, deref, boxAt, exAt, ldCells, oneL, oneCell, Nat.reduceLeDiff, evL, adopt, rigid, rigidL, trim, Int.reduceEq, Int.reduceMod, Int.reduceDiv, if_pos, if_neg, asI, forall_const, implies_true, chkD, chkO, chkW, effB, reB, vEq, beq_self_eq_true, Nat.reduceSub, Nat.reduceLT, Int.reduceSub, Int.reduceAdd, Int.reduceMul, Int.reduceLT, Int.reduceLE, Int.reduceToNat, optI, aslice, cutSl, cutMs, cutStr, cutOwn, cellsOf, one, elCells, lenOf, beqV, beqVL, strip, stripO, convS]) | ((first | rw [WP_condK] | rw [WP_opsG] | rw [WP_quiG] | rw [WP_dG]); refine And.intro (fun hb => ?_) (fun hb => ?_) <;> (first | have hd := dq1 hb | have hd := dq2 hb | have hd := dq3 hb | have hd := dq4 hb | skip)))
    exact hq _ rfl rfl rfl rfl rfl rfl
end Go.Proofs.Ytipbmacpenmgoaa.AM

/- The document's digest: all blocks, and what comes out. -/
namespace Go.Proofs.Ytipbmacpenmgoaa.AM
open Go
set_option maxRecDepth 100000
set_option maxHeartbeats 4000000
set_option linter.unusedVariables false
set_option linter.unusedSimpArgs false
theorem fold_blk (M : List Int) (p : List Wd × Nat) (k : Nat) (hk : 136 * k + 136 ≤ M.length) (h0 : ((M.take (136 * k)).foldl (kStep 136) p).2 = 0) :
    (M.take (136 * (k + 1))).foldl (kStep 136) p = (kPerm (kAdds ((M.take (136 * k)).foldl (kStep 136) p).1 0 ((M.drop (136 * k)).take 136)), 0) := by
  have e : M.take (136 * (k + 1)) = M.take (136 * k) ++ (M.drop (136 * k)).take 136 := by
    rw [← List.take_add]; congr 1
  rw [e, List.foldl_append]
  generalize (M.take (136 * k)).foldl (kStep 136) p = q at h0 ⊢
  obtain ⟨s, a⟩ := q
  simp only at h0
  subst h0
  rw [fold_block _ s 0 (by simp; omega) (by simp; omega)]
theorem blks_ok (M : List Int) (hM : Bytes M) (B : Nat) (hB : M.length = B * 136) (hML : M.length ≤ 140737488355328) (id m : Nat) (keep : List Nat) (hkeep : keep = [0, 1, 9, 10, 11, 12])
    (Q : Res → Prop) (e : Env) (pre h : Heap) (hid : pre.length = id) (h0 : getE e 0 = i64 32) (h1 : getE e 1 = i64 136) (h9 : getE e 9 = .ms id 0 none M.length) (h10 : getE e 10 = .ptr (id + 1) 0) (h11 : getE e 11 = .ptr (id + 2) 0) (h12 : getE e 12 = i64 0)
    (hh : h = pre ++ [.vec (M.map u8), .cells tabC, .cells (wv kZero)])
    (hq : ∀ e', getE e' 0 = i64 32 → getE e' 1 = i64 136 → getE e' 10 = .ptr (id + 1) 0 → getE e' 11 = .ptr (id + 2) 0 → Q (.exit 2, e', pre ++ [.vec (M.map u8), .cells tabC, .cells (wv (M.foldl (kStep 136) (kZero, 0)).1)])) :
    WP Q (axl T keep false L43_3 m e h) := by
  subst hkeep
  subst hid
  refine WP_loop (I := fun n e h => ∃ (k : Nat), k ≤ B ∧ n = B - k ∧ getE e 0 = i64 32 ∧ getE e 1 = i64 136 ∧ getE e 9 = .ms pre.length 0 none M.length ∧ getE e 10 = .ptr (pre.length + 1) 0 ∧ getE e 11 = .ptr (pre.length + 2) 0 ∧ getE e 12 = i64 (136 * k : Nat) ∧ h = pre ++ [.vec (M.map u8), .cells tabC, .cells (wv ((M.take (136 * k)).foldl (kStep 136) (kZero, 0)).1)]) ?_ B _ _ ⟨0, by omega, rfl, h0, h1, h9, h10, h11, h12, hh⟩
  rintro n e h ⟨k, hk, rfl, h0, h1, h9, h10, h11, h12, rfl⟩
  rw [trim_off]
  have hks := KS.fold (M.take (136 * k)) kzero_ks
  have hat := fold_at (M.take (136 * k)) kZero 0 (by omega)
  rw [List.length_take, Nat.zero_add, Nat.min_eq_left (by omega), Nat.mul_mod_right] at hat
  by_cases hlt : k < B
  · have hfb := fold_blk M (kZero, 0) k (by omega) hat
    have hlen : 136 * k + 136 ≤ M.length := by omega
    have hlt2 : ((136 * k : Nat) : Int) < (M.length : Int) := by omega
    have hA : ((136 * k : Nat) : Int) + 136 = ((136 * (k + 1) : Nat) : Int) := by omega
    generalize (M.take (136 * k)).foldl (kStep 136) (kZero, 0) = p at hks hat hfb ⊢
    have hs := hks.len
    have hs2 : (kAdds p.1 0 ((M.drop (136 * k)).take 136)).length = 25 := kAdds_len _ _ hs
    first | have hb := hb | have hb := trivial
    repeat' (first | (simp -implicitDefEqProofs (disch := omega) only [hb, L43_3, h0, h1, h9, h10, h11, h12, wC, initE, aop, Nat.reduceEqDiff, ↓reduceIte, Nat.reduceAdd, finish, resOf, tupOf, AM.freeze, freeze1, freezeL, closed, nam, namL, if_true, if_false, deref, boxAt, exAt, ldCells, oneL, oneCell, Nat.reduceLeDiff, evL, adopt, rigid, rigidL, trim, Int.reduceEq, Int.reduceMod, Int.reduceDiv, if_pos, if_neg, asI, forall_const, implies_true, chkD, chkO, chkW, effB, reB, vEq, beq_self_eq_true, Nat.reduceSub, Nat.reduceLT, Int.reduceSub, Int.reduceAdd, Int.reduceMul, Int.reduceLT, Int.reduceLE, Int.reduceToNat, optI, aslice, cutSl, cutMs, cutStr, cutOwn, cellsOf, one, elCells, lenOf, beqV, beqVL, strip, stripO, convS]) | ((first | rw [WP_condK] | rw [WP_opsG] | rw [WP_quiG] | rw [WP_dG]); refine And.intro (fun hb => ?_) (fun hb => ?_) <;> (first | have hd := dq1 hb | have hd := dq2 hb | have hd := dq3 hb | have hd := dq4 hb | skip)))
    refine blk_ok p.1 hs M hM k hlen hML pre.length _ _ rfl _ _ pre _ rfl rfl rfl rfl rfl rfl rfl rfl rfl ?_
    intro e' g0 g1 g9 g10 g11 g12
    have hcall := fun h id hid => call_rounds (kAdds p.1 0 ((M.drop (136 * k)).take 136)) hs2 h id hid
    generalize kAdds p.1 0 ((M.drop (136 * k)).take 136) = s at hs2 hcall hfb
    have hwl : (wv s).length = 25 := by rw [wv_len, hs2]
    have hT : List.take 25 (wv s) = wv s := List.take_of_length_le (by omega)
    have hc := hcall (pre ++ [.vec (M.map u8), .cells tabC, .cells (wv s)]) (pre.length + 1) (by rw [get_app]; rfl)
    have hwl2 : (wv (kPerm s)).length = 25 := by rw [wv_len, kPerm_len hs2]
    have ho := vI_one (wI (kPerm s))
    have hsp : splice (wv s) 0 (wv (kPerm s)) = wv (kPerm s) := splice_all (by rw [hwl2, hwl])
    first | have hb := hb | have hb := trivial
    repeat' (first | (simp -implicitDefEqProofs (disch := omega) only [hb, g0, g1, g9, g10, g11, g12, hwl, hT, hc, hwl2, ho, hsp, hA, wC, initE, aop, Nat.reduceEqDiff, ↓reduceIte, Nat.reduceAdd, finish, resOf, tupOf, AM.freeze, freeze1, freezeL, closed, nam, namL, if_true, if_false, deref, boxAt, exAt, ldCells, oneL, oneCell, Nat.reduceLeDiff, evL, adopt, rigid, rigidL, trim, Int.reduceEq, Int.reduceMod, Int.reduceDiv, if_pos, if_neg, asI, forall_const, implies_true, chkD, chkO, chkW, effB, reB, vEq, beq_self_eq_true, Nat.reduceSub, Nat.reduceLT, Int.reduceSub, Int.reduceAdd, Int.reduceMul, Int.reduceLT, Int.reduceLE, Int.reduceToNat, optI, aslice, cutSl, cutMs, cutStr, cutOwn, cellsOf, one, elCells, lenOf, beqV, beqVL, strip, stripO, convS]) | ((first | rw [WP_condK] | rw [WP_opsG] | rw [WP_quiG] | rw [WP_dG]); refine And.intro (fun hb => ?_) (fun hb => ?_) <;> (first | have hd := dq1 hb | have hd := dq2 hb | have hd := dq3 hb | have hd := dq4 hb | skip)))
    exact ⟨B - (k + 1), by omega, k + 1, by omega, rfl, rfl, by rw [hfb]⟩
  · obtain rfl : k = B := by omega
    have hlt2 : ¬ ((136 * k : Nat) : Int) < (M.length : Int) := by omega
    first | have hb := hb | have hb := trivial
    repeat' (first | (simp -implicitDefEqProofs (disch := omega) only [hb, L43_3, h0, h1, h9, h10, h11, h12, wC, initE, aop, Nat.reduceEqDiff, ↓reduceIte, Nat.reduceAdd, finish, resOf, tupOf, AM.freeze, freeze1, freezeL, closed, nam, namL, if_true, if_false, deref, boxAt, exAt, ldCells, oneL, oneCell, Nat.reduceLeDiff, evL, adopt, rigid, rigidL, trim, Int.reduceEq, Int.reduceMod, Int.reduceDiv, if_pos, if_neg, asI, forall_const, implies_true, chkD, chkO, chkW, effB, reB, vEq, beq_self_eq_true, Nat.reduceSub, Nat.reduceLT, Int.reduceSub, Int.reduceAdd, Int.reduceMul, Int.reduceLT, Int.reduceLE, Int.reduceToNat, optI, aslice, cutSl, cutMs, cutStr, cutOwn, cellsOf, one, elCells, lenOf, beqV, beqVL, strip, stripO, convS]) | ((first | rw [WP_condK] | rw [WP_opsG] | rw [WP_quiG] | rw [WP_dG]); refine And.intro (fun hb => ?_) (fun hb => ?_) <;> (first | have hd := dq1 hb | have hd := dq2 hb | have hd := dq3 hb | have hd := dq4 hb | skip)))
    rw [show M.take (136 * k) = M from List.take_of_length_le (by omega)]
    exact hq _ rfl rfl rfl rfl
/-- the bytes that come out -/
theorem out_in (s : List Wd) (hs : s.length = 25) (id r m : Nat) (keep : List Nat) (hkeep : keep = [0, 1, 10, 11, 14, 15]) (tb : Nat)
    (Q : Res → Prop) (e : Env) (pre h : Heap) (hid : pre.length = r) (hsb : pre[id]? = some (.cells (wv s))) (h0 : getE e 0 = i64 32) (h1 : getE e 1 = i64 136) (h10 : getE e 10 = .ptr tb 0) (h11 : getE e 11 = .ptr id 0) (h14 : getE e 14 = .slice (.tok r) none []) (h15 : getE e 15 = i64 0)
    (hh : h = pre ++ [.row none 0])
    (hq : ∀ e', getE e' 0 = i64 32 → getE e' 1 = i64 136 → getE e' 10 = .ptr tb 0 → getE e' 11 = .ptr id 0 → getE e' 14 = .slice (.tok r) none ((k32.map (kByte s)).map u8) → Q (.exit 8, e', pre ++ [.row none 32])) :
    WP Q (axl T keep false L43_0 m e h) := by
  subst hkeep
  subst hid
  refine WP_loop (I := fun n e h => ∃ (i : Nat), i ≤ 32 ∧ n = 32 - i ∧ getE e 0 = i64 32 ∧ getE e 1 = i64 136 ∧ getE e 10 = .ptr tb 0 ∧ getE e 11 = .ptr id 0 ∧ getE e 14 = .slice (.tok pre.length) none (((k32.take i).map (kByte s)).map u8) ∧ getE e 15 = i64 i ∧ h = pre ++ [.row none i]) ?_ 32 _ _ ⟨0, by omega, rfl, h0, h1, h10, h11, h14, h15, hh⟩
  rintro n e h ⟨i, hi, rfl, h0, h1, h10, h11, h14, h15, rfl⟩
  rw [trim_off]
  have hl : (((k32.take i).map (kByte s)).map u8).length = i := by simp [k32]; omega
  have hidl : id < pre.length := (List.getElem?_eq_some_iff.1 hsb).1
  have hgs : (pre ++ [AObj.row none i])[id]? = some (.cells (wv s)) := by rw [get_appl hidl, hsb]
  by_cases hlt : i < 32
  · have hq' : ((i : Int).tdiv 8) = ((i / 8 : Nat) : Int) := by rw [Int.tdiv_eq_ediv_of_nonneg (by omega)]; omega
    have hm : ((i : Int).tmod 8) = ((i % 8 : Nat) : Int) := by rw [Int.tmod_eq_emod_of_nonneg (by omega)]; omega
    have h8 : (8 : Int) * ((i % 8 : Nat) : Int) = ((8 * (i % 8) : Nat) : Int) := by omega
    have hg := wv_get (s := s) (i := i / 8) (by omega)
    have hsh := bin_shrW .i64 (nw s (i / 8)) (8 * (i % 8)) (by omega)
    have hkb : IntKind.u8.wrap ((nw s (i / 8) >>> (8 * (i % 8))).toNat : Int) = kByte s i := by rw [w_u8, kByte]; omega
    have hf := kfits (n := i + 1) (by omega)
    have hk : ((k32.take (i + 1)).map (kByte s)).map u8 = ((k32.take i).map (kByte s)).map u8 ++ [u8 (kByte s i)] := by
      have h1 : k32.take (i + 1) = k32.take i ++ [i] := by
        have : ∀ i, i < 32 → k32.take (i + 1) = k32.take i ++ [i] := by decide
        exact this i hlt
      rw [h1]; simp
    generalize ((k32.take i).map (kByte s)).map u8 = L at hl hk h14
    first | have hb := hb | have hb := trivial
    repeat' (first | (simp -implicitDefEqProofs (disch := omega) only [hb, L43_0, h0, h1, h10, h11, h14, h15, hq', hm, h8, hg, hsh, hkb, hf, hl, hgs, setEls, elemsOf, aappend, stripEl, elFits, List.replicate_succ, List.replicate_zero, wC, initE, aop, Nat.reduceEqDiff, ↓reduceIte, Nat.reduceAdd, finish, resOf, tupOf, AM.freeze, freeze1, freezeL, closed, nam, namL, if_true, if_false, deref, boxAt, exAt, ldCells, oneL, oneCell, Nat.reduceLeDiff, evL, adopt, rigid, rigidL, trim, Int.reduceEq, Int.reduceMod, Int.reduceDiv, if_pos, if_neg, asI, forall_const, implies_true, chkD, chkO, chkW, effB, reB, vEq, beq_self_eq_true, Nat.reduceSub, Nat.reduceLT, Int.reduceSub, Int.reduceAdd, Int.reduceMul, Int.reduceLT, Int.reduceLE, Int.reduceToNat, optI, aslice, cutSl, cutMs, cutStr, cutOwn, cellsOf, one, elCells, lenOf, beqV, beqVL, strip, stripO, convS]) | ((first | rw [WP_condK] | rw [WP_opsG] | rw [WP_quiG] | rw [WP_dG]); refine And.intro (fun hb => ?_) (fun hb => ?_) <;> (first | have hd := dq1 hb | have hd := dq2 hb | have hd := dq3 hb | have hd := dq4 hb | skip)))
    exact ⟨32 - (i + 1), by omega, i + 1, by omega, rfl, by rw [hk], rfl, rfl⟩
  · obtain rfl : i = 32 := by omega
    first | have hb := hb | have hb := trivial
    repeat' (first | (simp -implicitDefEqProofs (disch := omega) only [hb, L43_0, h0, h1, h10, h11, h14, h15, hl, wC, initE, aop, Nat.reduceEqDiff, ↓reduceIte, Nat.reduceAdd, finish, resOf, tupOf, AM.freeze, freeze1, freezeL, closed, nam, namL, if_true, if_false, deref, boxAt, exAt, ldCells, oneL, oneCell, Nat.reduceLeDiff, evL, adopt, rigid, rigidL, trim, Int.reduceEq, Int.reduceMod, Int.reduceDiv, if_pos, if_neg, asI, forall_const, implies_true, chkD, chkO, chkW, effB, reB, vEq, beq_self_eq_true, Nat.reduceSub, Nat.reduceLT, Int.reduceSub, Int.reduceAdd, Int.reduceMul, Int.reduceLT, Int.reduceLE, Int.reduceToNat, optI, aslice, cutSl, cutMs, cutStr, cutOwn, cellsOf, one, elCells, lenOf, beqV, beqVL, strip, stripO, convS]) | ((first | rw [WP_condK] | rw [WP_opsG] | rw [WP_quiG] | rw [WP_dG]); refine And.intro (fun hb => ?_) (fun hb => ?_) <;> (first | have hd := dq1 hb | have hd := dq2 hb | have hd := dq3 hb | have hd := dq4 hb | skip)))
    exact hq _ rfl rfl rfl rfl rfl
end Go.Proofs.Ytipbmacpenmgoaa.AM

/- The document's digest, whole. -/
namespace Go.Proofs.Ytipbmacpenmgoaa.AM
open Go
set_option maxRecDepth 100000
set_option maxHeartbeats 4000000
set_option linter.unusedVariables false
set_option linter.unusedSimpArgs false
theorem kPadL_bytes {l : List Int} (h : Bytes l) : Bytes (kPadL l) := by
  intro c hc
  unfold kPadL at hc
  rcases List.mem_or_eq_of_mem_set hc with hc | rfl
  · unfold kPad at hc
    rcases List.mem_append.1 hc with hc | hc
    · exact h c hc
    · rcases List.mem_cons.1 hc with rfl | hc
      · omega
      · rw [(List.mem_replicate.1 hc).2]; omega
  · split <;> omega
theorem kPadL_len (l : List Int) : (kPadL l).length = (l.length / 136 + 1) * 136 := by rw [kPadL, List.length_set, kPad_len]
/-- the last byte, and the other one in its place -/
theorem pad_last (l : List Int) : (kPad l)[(kPad l).length - 1]? = some (if l.length % 136 = 135 then 6 else 0) := by
  have hpl : (kPad l).length - 1 = l.length + (135 - l.length % 136) := by
    simp only [kPad, List.length_append, List.length_cons, List.length_replicate]; omega
  rw [hpl, kPad, List.getElem?_append_right (by omega), Nat.add_sub_cancel_left]
  split
  · rename_i h; rw [h]; rfl
  · rename_i h
    have : 135 - l.length % 136 = (134 - l.length % 136) + 1 := by omega
    rw [this, List.getElem?_cons_succ, List.getElem?_replicate, if_pos (by omega)]
theorem xor128 (l : List Int) : abin .xor (.int .u8 (if l.length % 136 = 135 then 6 else 0)) (.int .u8 128) = some (.int .u8 (if l.length % 136 = 135 then 134 else 128)) := by
  split <;> rfl
def tab0 : List AV := [.int .i64 0, .int .i64 0, .int .i64 0, .int .i64 0, .int .i64 0, .int .i64 0, .int .i64 0, .int .i64 0, .int .i64 0, .int .i64 0, .int .i64 0, .int .i64 0, .int .i64 0, .int .i64 0, .int .i64 0, .int .i64 0, .int .i64 0, .int .i64 0, .int .i64 0, .int .i64 0, .int .i64 0, .int .i64 0, .int .i64 0, .int .i64 0, .int .i64 0, .int .u64 0, .int .u64 0, .int .u64 0, .int .u64 0, .int .u64 0, .int .u64 0, .int .u64 0, .int .u64 0, .int .u64 0, .int .u64 0, .int .u64 0, .int .u64 0, .int .u64 0, .int .u64 0, .int .u64 0, .int .u64 0, .int .u64 0, .int .u64 0, .int .u64 0, .int .u64 0, .int .u64 0, .int .u64 0, .int .u64 0, .int .u64 0]
theorem z49_eq : AObj.box true [.int .i64 0, .int .i64 0, .int .i64 0, .int .i64 0, .int .i64 0, .int .i64 0, .int .i64 0, .int .i64 0, .int .i64 0, .int .i64 0, .int .i64 0, .int .i64 0, .int .i64 0, .int .i64 0, .int .i64 0, .int .i64 0, .int .i64 0, .int .i64 0, .int .i64 0, .int .i64 0, .int .i64 0, .int .i64 0, .int .i64 0, .int .i64 0, .int .i64 0, .int .u64 0, .int .u64 0, .int .u64 0, .int .u64 0, .int .u64 0, .int .u64 0, .int .u64 0, .int .u64 0, .int .u64 0, .int .u64 0, .int .u64 0, .int .u64 0, .int .u64 0, .int .u64 0, .int .u64 0, .int .u64 0, .int .u64 0, .int .u64 0, .int .u64 0, .int .u64 0, .int .u64 0, .int .u64 0, .int .u64 0, .int .u64 0] = AObj.box true tab0 := rfl
theorem z25_eq : AObj.box true [.int .u64 0, .int .u64 0, .int .u64 0, .int .u64 0, .int .u64 0, .int .u64 0, .int .u64 0, .int .u64 0, .int .u64 0, .int .u64 0, .int .u64 0, .int .u64 0, .int .u64 0, .int .u64 0, .int .u64 0, .int .u64 0, .int .u64 0, .int .u64 0, .int .u64 0, .int .u64 0, .int .u64 0, .int .u64 0, .int .u64 0, .int .u64 0, .int .u64 0] = AObj.box true (wv kZero) := rfl
theorem out_ok (o : AOwn) (b : List Int) (hb : Bytes b) (hn : b.length ≤ 140737488353000) : prun T F43 [i64 32, i64 136, u8 6, .slice o none (b.map u8)] = some (.slice .fresh none ((kSum b).map u8)) := by
  have hpl := kPad_len b
  have hpos : 0 < (kPad b).length := by rw [hpl]; omega
  have hle : (kPad b).length ≤ 140737488353200 := by rw [hpl]; omega
  have hpd : ∀ (e : Env) (pre : Heap) (h : Heap) (m : Nat) (Q : Res → Prop), getE e 0 = i64 32 → getE e 1 = i64 136 → getE e 9 = .ms pre.length 0 none (b.length + 1) → h = pre ++ [.vec ((b ++ [6]).map u8)] →
    (∀ e' pre', getE e' 0 = i64 32 → getE e' 1 = i64 136 → getE e' 9 = .ms pre'.length 0 none (kPad b).length → Q (.exit 0, e', pre' ++ [.vec ((kPad b).map u8)])) → WP Q (axl T [0, 1, 9] false L43_4 m e h) :=
    fun e pre h m Q g0 g1 g9 hh hq => pad_ok b hn .unk m _ rfl 0 rfl Q e pre h g0 g1 g9 hh hq
  refine WP_eq (prun_wp ?_)
  have hf := kfits (n := b.length) (by omega)
  have hf1 := kfits (n := b.length + 1) (by omega)
  have hfl := flatC b
  have hx := xor128 b
  have hgl : ((kPad b).map u8)[(kPad b).length - 1]? = some (u8 (if b.length % 136 = 135 then 6 else 0)) := by rw [List.getElem?_map, pad_last]; rfl
  have hset : ((kPad b).map u8).set ((kPad b).length - 1) (u8 (if b.length % 136 = 135 then 134 else 128)) = (kPadL b).map u8 := by rw [kPadL, List.map_set]
  have htl : tabC.length = 49 := rfl
  have hto : oneL tabC = true := by kernel_rfl
  have htT : List.take 49 tabC = tabC := rfl
  have hts : splice tab0 0 tabC = tabC := splice_all rfl
  have h0l : tab0.length = 49 := rfl
  have hML := kPadL_len b
  have hPL : (kPadL b).length = (kPad b).length := by rw [hML, hpl]
  have hMB := kPadL_bytes hb
  have hfold := kPadL_fold b
  have hks := KS.fold (kPadL b) kzero_ks
  have hks0 : KS (kTake b) := KS.fold b kzero_ks
  have hcl := u8_closed (kSum b)
  have hl32 : ((kSum b).map u8).length = 32 := by rw [List.length_map, kSum_len]
  by_cases hb0 : b.length = 0
  · obtain rfl := List.eq_nil_of_length_eq_zero hb0
    first | have hb := hb | have hb := trivial
    repeat' (first | (simp -implicitDefEqProofs (disch := omega) only [hb, F43, appV, setEls, elemsOf, stripEl, elFits, List.replicate_succ, List.replicate_zero, hf, hf1, hfl, wC, initE, aop, Nat.reduceEqDiff, ↓reduceIte, Nat.reduceAdd, finish, resOf, tupOf, AM.freeze, freeze1, freezeL, closed, nam, namL, if_true, if_false, deref, boxAt, exAt, ldCells, oneL, oneCell, Nat.reduceLeDiff, evL, adopt, rigid, rigidL, trim, Int.reduceEq, Int.reduceMod, Int.reduceDiv, if_pos, if_neg, asI, forall_const, implies_true, chkD, chkO, chkW, effB, reB, vEq, beq_self_eq_true, Nat.reduceSub, Nat.reduceLT, Int.reduceSub, Int.reduceAdd, Int.reduceMul, Int.reduceLT, Int.reduceLE, Int.reduceToNat, optI, aslice, cutSl, cutMs, cutStr, cutOwn, cellsOf, one, elCells, lenOf, beqV, beqVL, strip, stripO, convS]) | ((first | rw [WP_condK] | rw [WP_opsG] | rw [WP_quiG] | rw [WP_dG]); refine And.intro (fun hb => ?_) (fun hb => ?_) <;> (first | have hd := dq1 hb | have hd := dq2 hb | have hd := dq3 hb | have hd := dq4 hb | skip)))
    refine hpd _ [] _ _ _ rfl rfl rfl rfl ?_
    intro e' pre' g0 g1 g9
    generalize (if ([] : List Int).length % 136 = 135 then (6 : Int) else 0) = x6 at hx hgl
    generalize (if ([] : List Int).length % 136 = 135 then (134 : Int) else 128) = x7 at hx hset
    first | have hb := hb | have hb := trivial
    repeat' (first | (simp -implicitDefEqProofs (disch := omega) only [hb, g0, g1, g9, hgl, hx, hset, call_All, z49_eq, z25_eq, htl, hto, htT, hts, h0l, app_app, wC, initE, aop, Nat.reduceEqDiff, ↓reduceIte, Nat.reduceAdd, finish, resOf, tupOf, AM.freeze, freeze1, freezeL, closed, nam, namL, if_true, if_false, deref, boxAt, exAt, ldCells, oneL, oneCell, Nat.reduceLeDiff, evL, adopt, rigid, rigidL, trim, Int.reduceEq, Int.reduceMod, Int.reduceDiv, if_pos, if_neg, asI, forall_const, implies_true, chkD, chkO, chkW, effB, reB, vEq, beq_self_eq_true, Nat.reduceSub, Nat.reduceLT, Int.reduceSub, Int.reduceAdd, Int.reduceMul, Int.reduceLT, Int.reduceLE, Int.reduceToNat, optI, aslice, cutSl, cutMs, cutStr, cutOwn, cellsOf, one, elCells, lenOf, beqV, beqVL, strip, stripO, convS]) | ((first | rw [WP_condK] | rw [WP_opsG] | rw [WP_quiG] | rw [WP_dG]); refine And.intro (fun hb => ?_) (fun hb => ?_) <;> (first | have hd := dq1 hb | have hd := dq2 hb | have hd := dq3 hb | have hd := dq4 hb | skip)))
    refine blks_ok (kPadL ([] : List Int)) hMB (([] : List Int).length / 136 + 1) hML (by rw [hPL]; omega) pre'.length _ _ rfl _ _ pre' _ rfl g0 g1 (by rw [hPL]; exact g9) rfl rfl rfl rfl ?_
    intro e2 q0 q1 q10 q11
    rw [hfold]
    have hel := kEnd_len hks0
    have hend : k32.map (kByte (kEnd (kTake ([] : List Int)))) = kSum ([] : List Int) := rfl
    generalize kEnd (kTake ([] : List Int)) = s at hel hend ⊢
    first | have hb := hb | have hb := trivial
    repeat' (first | (simp -implicitDefEqProofs (disch := omega) only [hb, q0, q1, q10, q11, app_app, wC, initE, aop, Nat.reduceEqDiff, ↓reduceIte, Nat.reduceAdd, finish, resOf, tupOf, AM.freeze, freeze1, freezeL, closed, nam, namL, if_true, if_false, deref, boxAt, exAt, ldCells, oneL, oneCell, Nat.reduceLeDiff, evL, adopt, rigid, rigidL, trim, Int.reduceEq, Int.reduceMod, Int.reduceDiv, if_pos, if_neg, asI, forall_const, implies_true, chkD, chkO, chkW, effB, reB, vEq, beq_self_eq_true, Nat.reduceSub, Nat.reduceLT, Int.reduceSub, Int.reduceAdd, Int.reduceMul, Int.reduceLT, Int.reduceLE, Int.reduceToNat, optI, aslice, cutSl, cutMs, cutStr, cutOwn, cellsOf, one, elCells, lenOf, beqV, beqVL, strip, stripO, convS]) | ((first | rw [WP_condK] | rw [WP_opsG] | rw [WP_quiG] | rw [WP_dG]); refine And.intro (fun hb => ?_) (fun hb => ?_) <;> (first | have hd := dq1 hb | have hd := dq2 hb | have hd := dq3 hb | have hd := dq4 hb | skip)))
    refine k_roll ?_
    rw [trim_off]
    first | have hb := hb | have hb := trivial
    repeat' (first | (simp -implicitDefEqProofs (disch := omega) only [hb, L43_1, q0, q1, q10, q11, wC, initE, aop, Nat.reduceEqDiff, ↓reduceIte, Nat.reduceAdd, finish, resOf, tupOf, AM.freeze, freeze1, freezeL, closed, nam, namL, if_true, if_false, deref, boxAt, exAt, ldCells, oneL, oneCell, Nat.reduceLeDiff, evL, adopt, rigid, rigidL, trim, Int.reduceEq, Int.reduceMod, Int.reduceDiv, if_pos, if_neg, asI, forall_const, implies_true, chkD, chkO, chkW, effB, reB, vEq, beq_self_eq_true, Nat.reduceSub, Nat.reduceLT, Int.reduceSub, Int.reduceAdd, Int.reduceMul, Int.reduceLT, Int.reduceLE, Int.reduceToNat, optI, aslice, cutSl, cutMs, cutStr, cutOwn, cellsOf, one, elCells, lenOf, beqV, beqVL, strip, stripO, convS]) | ((first | rw [WP_condK] | rw [WP_opsG] | rw [WP_quiG] | rw [WP_dG]); refine And.intro (fun hb => ?_) (fun hb => ?_) <;> (first | have hd := dq1 hb | have hd := dq2 hb | have hd := dq3 hb | have hd := dq4 hb | skip)))
    refine out_in s hel (pre'.length + 2) (pre'.length + 3) _ _ rfl (pre'.length + 1) _ _ (pre' ++ [.vec ((kPadL ([] : List Int)).map u8), .cells tabC, .cells (wv s)]) _ (by simp) (by rw [get_app]; rfl) rfl rfl rfl rfl rfl rfl (by simp) ?_
    intro e3 p0 p1 p10 p11 p14
    rw [hend] at p14
    first | have hb := hb | have hb := trivial
    repeat' (first | (simp -implicitDefEqProofs (disch := omega) only [hb, p0, p1, p10, p11, p14, q0, q1, wC, initE, aop, Nat.reduceEqDiff, ↓reduceIte, Nat.reduceAdd, finish, resOf, tupOf, AM.freeze, freeze1, freezeL, closed, nam, namL, if_true, if_false, deref, boxAt, exAt, ldCells, oneL, oneCell, Nat.reduceLeDiff, evL, adopt, rigid, rigidL, trim, Int.reduceEq, Int.reduceMod, Int.reduceDiv, if_pos, if_neg, asI, forall_const, implies_true, chkD, chkO, chkW, effB, reB, vEq, beq_self_eq_true, Nat.reduceSub, Nat.reduceLT, Int.reduceSub, Int.reduceAdd, Int.reduceMul, Int.reduceLT, Int.reduceLE, Int.reduceToNat, optI, aslice, cutSl, cutMs, cutStr, cutOwn, cellsOf, one, elCells, lenOf, beqV, beqVL, strip, stripO, convS]) | ((first | rw [WP_condK] | rw [WP_opsG] | rw [WP_quiG] | rw [WP_dG]); refine And.intro (fun hb => ?_) (fun hb => ?_) <;> (first | have hd := dq1 hb | have hd := dq2 hb | have hd := dq3 hb | have hd := dq4 hb | skip)))
    refine ⟨0, by omega, ?_⟩
    refine k_roll ?_
    rw [trim_off]
    have hrow : (pre' ++ [AObj.vec ((kPadL ([] : List Int)).map u8), AObj.cells tabC, AObj.cells (wv s)] ++ [AObj.row none 32])[pre'.length + 3]? = some (.row none 32) := by rw [List.append_assoc, get_app]; rfl
    first | have hb := hb | have hb := trivial
    repeat' (first | (simp -implicitDefEqProofs (disch := omega) only [hb, L43_1, p0, p1, p10, p11, p14, hl32, hcl, hrow, wC, initE, aop, Nat.reduceEqDiff, ↓reduceIte, Nat.reduceAdd, finish, resOf, tupOf, AM.freeze, freeze1, freezeL, closed, nam, namL, if_true, if_false, deref, boxAt, exAt, ldCells, oneL, oneCell, Nat.reduceLeDiff, evL, adopt, rigid, rigidL, trim, Int.reduceEq, Int.reduceMod, Int.reduceDiv, if_pos, if_neg, asI, forall_const, implies_true, chkD, chkO, chkW, effB, reB, vEq, beq_self_eq_true, Nat.reduceSub, Nat.reduceLT, Int.reduceSub, Int.reduceAdd, Int.reduceMul, Int.reduceLT, Int.reduceLE, Int.reduceToNat, optI, aslice, cutSl, cutMs, cutStr, cutOwn, cellsOf, one, elCells, lenOf, beqV, beqVL, strip, stripO, convS]) | ((first | rw [WP_condK] | rw [WP_opsG] | rw [WP_quiG] | rw [WP_dG]); refine And.intro (fun hb => ?_) (fun hb => ?_) <;> (first | have hd := dq1 hb | have hd := dq2 hb | have hd := dq3 hb | have hd := dq4 hb | skip)))
  · first | have hb := hb | have hb := trivial
    repeat' (first | (simp -implicitDefEqProofs (disch := omega) only [hb, F43, appV, setEls, elemsOf, stripEl, elFits, List.replicate_succ, List.replicate_zero, hf, hf1, hb0, hfl, wC, initE, aop, Nat.reduceEqDiff, ↓reduceIte, Nat.reduceAdd, finish, resOf, tupOf, AM.freeze, freeze1, freezeL, closed, nam, namL, if_true, if_false, deref, boxAt, exAt, ldCells, oneL, oneCell, Nat.reduceLeDiff, evL, adopt, rigid, rigidL, trim, Int.reduceEq, Int.reduceMod, Int.reduceDiv, if_pos, if_neg, asI, forall_const, implies_true, chkD, chkO, chkW, effB, reB, vEq, beq_self_eq_true, Nat.reduceSub, Nat.reduceLT, Int.reduceSub, Int.reduceAdd, Int.reduceMul, Int.reduceLT, Int.reduceLE, Int.reduceToNat, optI, aslice, cutSl, cutMs, cutStr, cutOwn, cellsOf, one, elCells, lenOf, beqV, beqVL, strip, stripO, convS]) | ((first | rw [WP_condK] | rw [WP_opsG] | rw [WP_quiG] | rw [WP_dG]); refine And.intro (fun hb => ?_) (fun hb => ?_) <;> (first | have hd := dq1 hb | have hd := dq2 hb | have hd := dq3 hb | have hd := dq4 hb | skip)))
    refine hpd _ [.row none 1] _ _ _ rfl rfl rfl (by simp) ?_
    intro e' pre' g0 g1 g9
    generalize (if b.length % 136 = 135 then (6 : Int) else 0) = x6 at hx hgl
    generalize (if b.length % 136 = 135 then (134 : Int) else 128) = x7 at hx hset
    first | have hb := hb | have hb := trivial
    repeat' (first | (simp -implicitDefEqProofs (disch := omega) only [hb, g0, g1, g9, hgl, hx, hset, call_All, z49_eq, z25_eq, htl, hto, htT, hts, h0l, app_app, wC, initE, aop, Nat.reduceEqDiff, ↓reduceIte, Nat.reduceAdd, finish, resOf, tupOf, AM.freeze, freeze1, freezeL, closed, nam, namL, if_true, if_false, deref, boxAt, exAt, ldCells, oneL, oneCell, Nat.reduceLeDiff, evL, adopt, rigid, rigidL, trim, Int.reduceEq, Int.reduceMod, Int.reduceDiv, if_pos, if_neg, asI, forall_const, implies_true, chkD, chkO, chkW, effB, reB, vEq, beq_self_eq_true, Nat.reduceSub, Nat.reduceLT, Int.reduceSub, Int.reduceAdd, Int.reduceMul, Int.reduceLT, Int.reduceLE, Int.reduceToNat, optI, aslice, cutSl, cutMs, cutStr, cutOwn, cellsOf, one, elCells, lenOf, beqV, beqVL, strip, stripO, convS]) | ((first | rw [WP_condK] | rw [WP_opsG] | rw [WP_quiG] | rw [WP_dG]); refine And.intro (fun hb => ?_) (fun hb => ?_) <;> (first | have hd := dq1 hb | have hd := dq2 hb | have hd := dq3 hb | have hd := dq4 hb | skip)))
    refine blks_ok (kPadL b) hMB (b.length / 136 + 1) hML (by rw [hPL]; omega) pre'.length _ _ rfl _ _ pre' _ rfl g0 g1 (by rw [hPL]; exact g9) rfl rfl rfl rfl ?_
    intro e2 q0 q1 q10 q11
    rw [hfold]
    have hel := kEnd_len hks0
    have hend : k32.map (kByte (kEnd (kTake b))) = kSum b := rfl
    generalize kEnd (kTake b) = s at hel hend ⊢
    first | have hb := hb | have hb := trivial
    repeat' (first | (simp -implicitDefEqProofs (disch := omega) only [hb, q0, q1, q10, q11, app_app, wC, initE, aop, Nat.reduceEqDiff, ↓reduceIte, Nat.reduceAdd, finish, resOf, tupOf, AM.freeze, freeze1, freezeL, closed, nam, namL, if_true, if_false, deref, boxAt, exAt, ldCells, oneL, oneCell, Nat.reduceLeDiff, evL, adopt, rigid, rigidL, trim, Int.reduceEq, Int.reduceMod, Int.reduceDiv, if_pos, if_neg, asI, forall_const, implies_true, chkD, chkO, chkW, effB, reB, vEq, beq_self_eq_true, Nat.reduceSub, Nat.reduceLT, Int.reduceSub, Int.reduceAdd, Int.reduceMul, Int.reduceLT, Int.reduceLE, Int.reduceToNat, optI, aslice, cutSl, cutMs, cutStr, cutOwn, cellsOf, one, elCells, lenOf, beqV, beqVL, strip, stripO, convS]) | ((first | rw [WP_condK] | rw [WP_opsG] | rw [WP_quiG] | rw [WP_dG]); refine And.intro (fun hb => ?_) (fun hb => ?_) <;> (first | have hd := dq1 hb | have hd := dq2 hb | have hd := dq3 hb | have hd := dq4 hb | skip)))
    refine k_roll ?_
    rw [trim_off]
    first | have hb := hb | have hb := trivial
    repeat' (first | (simp -implicitDefEqProofs (disch := omega) only [hb, L43_1, q0, q1, q10, q11, wC, initE, aop, Nat.reduceEqDiff, ↓reduceIte, Nat.reduceAdd, finish, resOf, tupOf, AM.freeze, freeze1, freezeL, closed, nam, namL, if_true, if_false, deref, boxAt, exAt, ldCells, oneL, oneCell, Nat.reduceLeDiff, evL, adopt, rigid, rigidL, trim, Int.reduceEq, Int.reduceMod, Int.reduceDiv, if_pos, if_neg, asI, forall_const, implies_true, chkD, chkO, chkW, effB, reB, vEq, beq_self_eq_true, Nat.reduceSub, Nat.reduceLT, Int.reduceSub, Int.reduceAdd, Int.reduceMul, Int.reduceLT, Int.reduceLE, Int.reduceToNat, optI, aslice, cutSl, cutMs, cutStr, cutOwn, cellsOf, one, elCells, lenOf, beqV, beqVL, strip, stripO, convS]) | ((first | rw [WP_condK] | rw [WP_opsG] | rw [WP_quiG] | rw [WP_dG]); refine And.intro (fun hb => ?_) (fun hb => ?_) <;> (first | have hd := dq1 hb | have hd := dq2 hb | have hd := dq3 hb | have hd := dq4 hb | skip)))
    refine out_in s hel (pre'.length + 2) (pre'.length + 3) _ _ rfl (pre'.length + 1) _ _ (pre' ++ [.vec ((kPadL b).map u8), .cells tabC, .cells (wv s)]) _ (by simp) (by rw [get_app]; rfl) rfl rfl rfl rfl rfl rfl (by simp) ?_
    intro e3 p0 p1 p10 p11 p14
    rw [hend] at p14
    first | have hb := hb | have hb := trivial
    repeat' (first | (simp -implicitDefEqProofs (disch := omega) only [hb, p0, p1, p10, p11, p14, q0, q1, wC, initE, aop, Nat.reduceEqDiff, ↓reduceIte, Nat.reduceAdd, finish, resOf, tupOf, AM.freeze, freeze1, freezeL, closed, nam, namL, if_true, if_false, deref, boxAt, exAt, ldCells, oneL, oneCell, Nat.reduceLeDiff, evL, adopt, rigid, rigidL, trim, Int.reduceEq, Int.reduceMod, Int.reduceDiv, if_pos, if_neg, asI, forall_const, implies_true, chkD, chkO, chkW, effB, reB, vEq, beq_self_eq_true, Nat.reduceSub, Nat.reduceLT, Int.reduceSub, Int.reduceAdd, Int.reduceMul, Int.reduceLT, Int.reduceLE, Int.reduceToNat, optI, aslice, cutSl, cutMs, cutStr, cutOwn, cellsOf, one, elCells, lenOf, beqV, beqVL, strip, stripO, convS]) | ((first | rw [WP_condK] | rw [WP_opsG] | rw [WP_quiG] | rw [WP_dG]); refine And.intro (fun hb => ?_) (fun hb => ?_) <;> (first | have hd := dq1 hb | have hd := dq2 hb | have hd := dq3 hb | have hd := dq4 hb | skip)))
    refine ⟨0, by omega, ?_⟩
    refine k_roll ?_
    rw [trim_off]
    have hrow : (pre' ++ [AObj.vec ((kPadL b).map u8), AObj.cells tabC, AObj.cells (wv s)] ++ [AObj.row none 32])[pre'.length + 3]? = some (.row none 32) := by rw [List.append_assoc, get_app]; rfl
    first | have hb := hb | have hb := trivial
    repeat' (first | (simp -implicitDefEqProofs (disch := omega) only [hb, L43_1, p0, p1, p10, p11, p14, hl32, hcl, hrow, wC, initE, aop, Nat.reduceEqDiff, ↓reduceIte, Nat.reduceAdd, finish, resOf, tupOf, AM.freeze, freeze1, freezeL, closed, nam, namL, if_true, if_false, deref, boxAt, exAt, ldCells, oneL, oneCell, Nat.reduceLeDiff, evL, adopt, rigid, rigidL, trim, Int.reduceEq, Int.reduceMod, Int.reduceDiv, if_pos, if_neg, asI, forall_const, implies_true, chkD, chkO, chkW, effB, reB, vEq, beq_self_eq_true, Nat.reduceSub, Nat.reduceLT, Int.reduceSub, Int.reduceAdd, Int.reduceMul, Int.reduceLT, Int.reduceLE, Int.reduceToNat, optI, aslice, cutSl, cutMs, cutStr, cutOwn, cellsOf, one, elCells, lenOf, beqV, beqVL, strip, stripO, convS]) | ((first | rw [WP_condK] | rw [WP_opsG] | rw [WP_quiG] | rw [WP_dG]); refine And.intro (fun hb => ?_) (fun hb => ?_) <;> (first | have hd := dq1 hb | have hd := dq2 hb | have hd := dq3 hb | have hd := dq4 hb | skip)))
/-- a call of Out, at bytes that name nothing -/
theorem call_out (o : AOwn) (b : List Int) (hb : Bytes b) (hn : b.length ≤ 140737488353000) (ho : stripO o = .none ∨ stripO o = .full) (h : Heap) : ag T 43 [i64 32, i64 136, u8 6, .slice o none (b.map u8)] h = some (.slice (.tok h.length) none ((kSum b).map u8), h ++ [.row none 32]) := by
  have hcl := u8_closed b
  have := call_pure (T := T) (h := h) (args := [i64 32, i64 136, u8 6, .slice o none (b.map u8)]) rfl t43 rfl rfl (by
    simp only [List.map_cons, List.map_nil, strip]
    rcases ho with ho | ho <;> rw [ho] <;> simp only [closedL, namL, nam, Bool.true_and, Bool.and_true] at hcl ⊢ <;> exact hcl) (by
    simp only [List.map_cons, List.map_nil, strip]
    exact out_ok _ b hb hn)
  rw [this]
  simp only [AM.adopt, List.length_map, kSum_len]
theorem rsum_ok (o : AOwn) (b : List Int) (hb : Bytes b) (hn : b.length ≤ 140737488353000) (ho : stripO o = .none ∨ stripO o = .full) : prun T F20 [.slice o none (b.map u8)] = some (.agg ((kSum b).map u8)) := by
  refine WP_eq (prun_wp ?_)
  have hcall := call_out o b hb hn ho
  have hS : (kSum b).length = 32 := kSum_len b
  generalize kSum b = S at hcall hS ⊢
  have hc := u8_closed S
  have hst : (S.map u8).map strip = S.map u8 := by rw [List.map_map]; rfl
  have h1 := oneL_u8 S
  first | have hb := hb | have hb := trivial
  repeat' (first | (simp -implicitDefEqProofs (disch := omega) only [hb, F20, hcall, z32_eq, wC, initE, aop, Nat.reduceEqDiff, ↓reduceIte, Nat.reduceAdd, finish, resOf, tupOf, AM.freeze, freeze1, freezeL, closed, nam, namL, if_true, if_false, deref, boxAt, exAt, ldCells, oneL, oneCell, Nat.reduceLeDiff, evL, adopt, rigid, rigidL, trim, Int.reduceEq, Int.reduceMod, Int.reduceDiv, if_pos, if_neg, asI, forall_const, implies_true, chkD, chkO, chkW, effB, reB, vEq, beq_self_eq_true, Nat.reduceSub, Nat.reduceLT, Int.reduceSub, Int.reduceAdd, Int.reduceMul, Int.reduceLT, Int.reduceLE, Int.reduceToNat, optI, aslice, cutSl, cutMs, cutStr, cutOwn, cellsOf, one, elCells, lenOf, beqV, beqVL, strip, stripO, convS]) | ((first | rw [WP_condK] | rw [WP_opsG] | rw [WP_quiG] | rw [WP_dG]); refine And.intro (fun hb => ?_) (fun hb => ?_) <;> (first | have hd := dq1 hb | have hd := dq2 hb | have hd := dq3 hb | have hd := dq4 hb | skip)))
  refine WP_loop (I := fun n e h => ∃ i, i ≤ 32 ∧ n = 32 - i ∧ getE e 2 = .ptr 0 0 ∧ getE e 3 = .ptr 1 0 ∧ getE e 4 = .slice (.tok 2) none (S.map u8) ∧ getE e 5 = i64 i ∧ h = [Z32, .cells ((S.take i).map u8 ++ List.replicate (32 - i) (u8 0)), .row none 32]) ?_ 32 _ _ ⟨0, by omega, rfl, rfl, rfl, rfl, rfl, rfl⟩
  rintro n e h ⟨i, hi, rfl, h2, h3, h4, h5, rfl⟩
  have b4 : below 3 (.slice (.tok 2) none (S.map u8)) = true := by
    have := closed_below' 3 (.slice .none none (S.map u8)) (by simp only [closed, nam, Bool.true_and]; exact hc)
    simp only [below, nam, Bool.true_and] at this ⊢
    rw [this]; rfl
  have bc : namL (fun x => decide (x < 3)) ((S.take i).map u8 ++ List.replicate (32 - i) (u8 0)) = true := by
    rw [namL_app]
    have r1 : namL (fun x => decide (x < 3)) ((S.take i).map u8) = true := namL_imp (fun _ h => by cases h) _ (u8_closed (S.take i))
    have r2 : ∀ k, namL (fun x => decide (x < 3)) (List.replicate k (u8 0)) = true := fun k => by
      induction k with
      | zero => rfl
      | succ k ih => rw [List.replicate_succ]; exact ih
    rw [r1, r2]; rfl
  rw [trim_take (by simp only [List.all_cons, List.all_nil, h2, h3, h4, h5, b4]; rfl) (by simp only [List.take_succ_cons, List.take_zero, List.all_cons, List.all_nil, belowO, belowL, bc, Bool.and_true]; rfl)]
  have hlen : ((S.take i).map u8 ++ List.replicate (32 - i) (u8 0)).length = 32 := by simp; omega
  by_cases hlt : i < 32
  · have hg := get_u8 (l := S) (i := i) (by omega)
    have hset : ((S.take i).map u8 ++ List.replicate (32 - i) (u8 0)).set i (u8 (S[i]'(by omega))) = (S.take (i + 1)).map u8 ++ List.replicate (32 - (i + 1)) (u8 0) := by
      rw [List.set_append_right _ _ (by simp; omega)]
      have e1 : (i - ((S.take i).map u8).length) = 0 := by simp; omega
      rw [e1, List.take_succ_eq_append_getElem (by omega), show 32 - i = (32 - (i + 1)) + 1 by omega, List.replicate_succ, List.set_cons_zero, List.map_append, List.append_assoc]
      rfl
    first | have hb := hb | have hb := trivial
    repeat' (first | (simp -implicitDefEqProofs (disch := omega) only [hb, L20_0, h2, h3, h4, h5, hg, hset, hlen, wC, initE, aop, Nat.reduceEqDiff, ↓reduceIte, Nat.reduceAdd, finish, resOf, tupOf, AM.freeze, freeze1, freezeL, closed, nam, namL, if_true, if_false, deref, boxAt, exAt, ldCells, oneL, oneCell, Nat.reduceLeDiff, evL, adopt, rigid, rigidL, trim, Int.reduceEq, Int.reduceMod, Int.reduceDiv, if_pos, if_neg, asI, forall_const, implies_true, chkD, chkO, chkW, effB, reB, vEq, beq_self_eq_true, Nat.reduceSub, Nat.reduceLT, Int.reduceSub, Int.reduceAdd, Int.reduceMul, Int.reduceLT, Int.reduceLE, Int.reduceToNat, optI, aslice, cutSl, cutMs, cutStr, cutOwn, cellsOf, one, elCells, lenOf, beqV, beqVL, strip, stripO, convS]) | ((first | rw [WP_condK] | rw [WP_opsG] | rw [WP_quiG] | rw [WP_dG]); refine And.intro (fun hb => ?_) (fun hb => ?_) <;> (first | have hd := dq1 hb | have hd := dq2 hb | have hd := dq3 hb | have hd := dq4 hb | skip)))
    exact ⟨32 - (i + 1), by omega, i + 1, by omega, rfl, rfl, rfl⟩
  · obtain rfl : i = 32 := by omega
    have hT : S.take 32 = S := List.take_of_length_le (by omega)
    rw [hT] at hlen ⊢
    rw [show List.replicate (32 - 32) (u8 0) = [] from rfl, List.append_nil] at hlen ⊢
    have hTm : List.take 32 (S.map u8) = S.map u8 := List.take_of_length_le (by omega)
    have hsp : splice (List.replicate 32 (AV.int .u8 0)) 0 (S.map u8) = S.map u8 := splice_all (by rw [hlen]; rfl)
    first | have hb := hb | have hb := trivial
    repeat' (first | (simp -implicitDefEqProofs (disch := omega) only [hb, L20_0, h2, h3, h4, h5, Z32, hTm, hlen, h1, hsp, hc, wC, initE, aop, Nat.reduceEqDiff, ↓reduceIte, Nat.reduceAdd, finish, resOf, tupOf, AM.freeze, freeze1, freezeL, closed, nam, namL, if_true, if_false, deref, boxAt, exAt, ldCells, oneL, oneCell, Nat.reduceLeDiff, evL, adopt, rigid, rigidL, trim, Int.reduceEq, Int.reduceMod, Int.reduceDiv, if_pos, if_neg, asI, forall_const, implies_true, chkD, chkO, chkW, effB, reB, vEq, beq_self_eq_true, Nat.reduceSub, Nat.reduceLT, Int.reduceSub, Int.reduceAdd, Int.reduceMul, Int.reduceLT, Int.reduceLE, Int.reduceToNat, optI, aslice, cutSl, cutMs, cutStr, cutOwn, cellsOf, one, elCells, lenOf, beqV, beqVL, strip, stripO, convS]) | ((first | rw [WP_condK] | rw [WP_opsG] | rw [WP_quiG] | rw [WP_dG]); refine And.intro (fun hb => ?_) (fun hb => ?_) <;> (first | have hd := dq1 hb | have hd := dq2 hb | have hd := dq3 hb | have hd := dq4 hb | skip)))
    rw [hst]
    exact ⟨hc, rfl⟩
end Go.Proofs.Ytipbmacpenmgoaa.AM

/- The digests, as they are called; and as contracts that the kernel can reckon. -/
namespace Go.Proofs.Ytipbmacpenmgoaa.AM
open Go
set_option maxRecDepth 100000
set_option linter.unusedVariables false
set_option linter.unusedSimpArgs false
/-- a part's bytes -/
def partB : AV → Option (List Int)
  | .slice _ none els => byteEls els
  | .sc (.slice none 0 0) => some []
  | _ => none
def okB (l : List Int) : Bool := l.all (fun c => decide (0 ≤ c) && decide (c ≤ 255)) && decide (l.length ≤ 140737488351232)
def partsB : List AV → Option (List (List Int))
  | [] => some []
  | x :: r => (partB x).bind fun l => if okB l then (partsB r).map (l :: ·) else none
theorem okB_spec {l : List Int} (h : okB l = true) : Bytes l ∧ l.length ≤ 140737488351232 := by
  simp only [okB, Bool.and_eq_true, List.all_eq_true, decide_eq_true_eq] at h
  exact h
theorem byteEls_inv : ∀ {els : List AV} {l : List Int}, byteEls els = some l → els = l.map u8
  | [], l, h => by simp only [byteEls] at h; cases h; rfl
  | x :: r, l, h => by
    unfold byteEls at h
    split at h
    · rename_i heq; cases heq
    · rename_i n r' heq
      cases heq
      rw [Option.map_eq_some_iff] at h
      obtain ⟨l', h1, rfl⟩ := h
      rw [byteEls_inv h1]; rfl
    · cases h
theorem partsB_spec : ∀ {xs : List AV} {ls : List (List Int)}, partsB xs = some ls → closedL xs = true → PartsR xs ls
  | [], ls, h, _ => by simp only [partsB] at h; cases h; exact ⟨rfl, fun i hi => by simp at hi⟩
  | x :: r, ls, h, hc => by
    simp only [partsB, Option.bind_eq_some_iff] at h
    obtain ⟨l, h1, h⟩ := h
    split at h
    · rename_i hok
      rw [Option.map_eq_some_iff] at h
      obtain ⟨ls', h2, rfl⟩ := h
      simp only [closedL, namL, Bool.and_eq_true] at hc
      have ih := partsB_spec h2 hc.2
      obtain ⟨k1, k2⟩ := okB_spec hok
      refine ⟨by simp [ih.len], fun i hi hj => ?_⟩
      cases i with
      | zero =>
        refine ⟨k1, k2, hc.1, ?_⟩
        unfold partB at h1
        split at h1
        · rename_i o els; left; exact ⟨o, by rw [byteEls_inv h1]; rfl⟩
        · cases h1; exact .inr ⟨rfl, rfl⟩
        · cases h1
      | succ i => exact ih.at_ i (by simpa using hi) (by simpa using hj)
    · cases h
/-- the digest, for the kernel -/
def sumN (l : List Int) : AV := .agg (((nSum (l.map Int.toNat)).map Int.ofNat).map u8)
theorem sumN_eq {l : List Int} (h : Bytes l) : sumN l = .agg ((kSum l).map u8) := by
  rw [sumN, kSum_nSum l fun b hb => ⟨(h b hb).1, by have := (h b hb).2; omega⟩]
theorem flatP_bytes {xs : List AV} {ls : List (List Int)} (h : PartsR xs ls) : Bytes ls.flatten := by
  intro c hc
  rw [List.mem_flatten] at hc
  obtain ⟨l, hl, hc⟩ := hc
  obtain ⟨i, hi, rfl⟩ := List.mem_iff_getElem.1 hl
  exact (h.at_ i (by rw [← h.len]; exact hi) hi).bytes c hc
def sumG (els : List AV) : Option AV := if closedL els && decide (els.length ≤ 140737488351232) then (partsB els).map fun ls => sumN ls.flatten else none
def sumX : List AV → Option AV
  | [.slice .none none els] => sumG els
  | [.slice .full none els] => sumG els
  | _ => none
def rsumG (els : List AV) : Option AV := (byteEls els).bind fun l => if okB l then some (sumN l) else none
def rsumX : List AV → Option AV
  | [.slice .none none els] => rsumG els
  | [.slice .full none els] => rsumG els
  | _ => none
theorem sumG_ok {els : List AV} {v : AV} (h : sumG els = some v) (o : AOwn) (ho : o = .none ∨ o = .full) : prun T F17 [.slice o none els] = some v := by
  unfold sumG at h
  split at h
  · rename_i hc
    simp only [Bool.and_eq_true, decide_eq_true_eq] at hc
    rw [Option.map_eq_some_iff] at h
    obtain ⟨ls, h1, rfl⟩ := h
    have hp := partsB_spec h1 hc.1
    rw [sumN_eq (flatP_bytes hp)]
    refine sum_ok els ls hp o ?_ hc.2
    rcases ho with rfl | rfl <;> simp only [closed, nam, Bool.true_and] <;> exact hc.1
  · cases h
theorem rsumG_ok {els : List AV} {v : AV} (h : rsumG els = some v) (o : AOwn) (ho : o = .none ∨ o = .full) : prun T F20 [.slice o none els] = some v := by
  simp only [rsumG, Option.bind_eq_some_iff] at h
  obtain ⟨l, h1, h⟩ := h
  split at h
  · rename_i hok
    cases h
    obtain ⟨k1, k2⟩ := okB_spec hok
    rw [byteEls_inv h1, sumN_eq k1]
    refine rsum_ok o l k1 (by omega) ?_
    rcases ho with rfl | rfl
    · exact .inl rfl
    · exact .inr rfl
  · cases h
theorem sumX_ok {a : List AV} {v : AV} (h : sumX a = some v) : prun T F17 a = some v := by
  unfold sumX at h
  split at h
  · exact sumG_ok h _ (.inl rfl)
  · exact sumG_ok h _ (.inr rfl)
  · cases h
theorem rsumX_ok {a : List AV} {v : AV} (h : rsumX a = some v) : prun T F20 a = some v := by
  unfold rsumX at h
  split at h
  · exact rsumG_ok h _ (.inl rfl)
  · exact rsumG_ok h _ (.inr rfl)
  · cases h
theorem kfzL_len (h : Heap) : ∀ {l r : List AV}, fzL h l = some r → r.length = l.length
  | [], r, hh => by simp only [fzL] at hh; cases hh; rfl
  | x :: l, r, hh => by
    simp only [fzL, Option.bind_eq_some_iff, Option.map_eq_some_iff] at hh
    obtain ⟨y, _, z, h1, rfl⟩ := hh
    simp [kfzL_len h h1]
theorem prep_len {h : Heap} {l r : List AV} {b : Bool} (hh : prep h l = some (r, b)) : r.length = l.length := by
  unfold prep at hh
  split at hh
  · cases hh; simp
  · split at hh
    · cases hh; simp
    · split at hh
      · cases hh; simp
      · rw [Option.map_eq_some_iff] at hh
        obtain ⟨a, h1, h2⟩ := hh
        cases h2
        exact kfzL_len h h1
theorem pcall_ole {f : Nat} {F : AFn} (hx : T.ext f = none) (hf : T.fn f = some F) (hp : F.pure = true) {g : List AV → Option AV} (hg : ∀ a v, g a = some v → a.length = F.np ∧ prun T F a = some v) (args : List AV) (h : Heap) : ole (pcall g args h) (ag T f args h) := by
  intro r hr
  have hr' := hr
  simp only [pcall, Option.bind_eq_some_iff] at hr
  obtain ⟨⟨a, b⟩, h1, v, h2, _⟩ := hr
  have hl := (hg a v h2).1
  rw [prep_len h1] at hl
  rw [ag_pure hx hf hp args hl]
  exact pcall_le (fun a w hw => (hg a w hw).2) args h r hr'
def sumsX (f : Nat) : Option (List AV → Option AV) := if f = 17 then some sumX else if f = 20 then some rsumX else none
theorem sumX_len {a : List AV} {v : AV} (h : sumX a = some v) : a.length = 1 := by
  unfold sumX at h
  split at h
  · rfl
  · rfl
  · cases h
theorem rsumX_len {a : List AV} {v : AV} (h : rsumX a = some v) : a.length = 1 := by
  unfold rsumX at h
  split at h
  · rfl
  · rfl
  · cases h
theorem sumsX_ok : ∀ f g, sumsX f = some g → T.pure f = true ∧ ∀ args h, ole (pcall g args h) (ag T f args h) := by
  intro f g h
  unfold sumsX at h
  split at h
  · rename_i hf
    cases h
    subst hf
    exact ⟨rfl, pcall_ole rfl t17 rfl fun a v hv => ⟨sumX_len hv, sumX_ok hv⟩⟩
  · split at h
    · rename_i hf
      cases h
      subst hf
      exact ⟨rfl, pcall_ole rfl t20 rfl fun a v hv => ⟨rsumX_len hv, rsumX_ok hv⟩⟩
    · cases h
/-- a run with the digests as contracts -/
theorem ag_of_sums {n f : Nat} {args : List AV} {h : Heap} {r : AV × Heap} (hr : gcall (Over T sumsX) n f args h = some r) : ag T f args h = some r := ag_of_over sumsX_ok hr
end Go.Proofs.Ytipbmacpenmgoaa.AM

/- layer 11: calls of a nil log. -/
namespace Go.Proofs.Ytipbmacpenmgoaa.AM
open Go
set_option maxRecDepth 100000
set_option linter.unusedVariables false
set_option linter.unusedSimpArgs false
theorem l_wp {f : Nat} {F : AFn} {args : List AV} {h : Heap} {Q : AV × Heap → Prop} (hx : T.ext f = none) (hf : T.fn f = some F) (hp : F.pure = false) (hl : args.length = F.np) (hw : WP (BQ (fin F.res) Q) (ax T F.body (initE 0 args) h)) : WP Q (ag T f args h) := by
  rw [ag_gen hx hf hp args hl, WP_bind]
  exact hw
theorem k_any {f : Nat} {F : AFn} {args : List AV} {v : Value} (hx : T.ext f = none) (hf : T.fn f = some F) (hp : F.pure = true) (hl : args.length = F.np) (hm : args.map strip = args) (hc : closedL args = true) (hr : ag T f args [] = some (.sc v, [])) (h : Heap) : ag T f args h = some (.sc v, h) := by
  rw [ag_pure hx hf hp args hl] at hr ⊢
  simp only [pcall, prep, hm, if_pos hc, Option.bind_some, Bool.false_eq_true, if_false, Option.bind_eq_some_iff] at hr ⊢
  obtain ⟨w, h1, h2⟩ := hr
  refine ⟨w, h1, ?_⟩
  unfold adopt at h2 ⊢
  split at h2
  · cases h2
  · cases h2
  · cases h2; rfl
theorem do_nil (f : AV) (h : Heap) : ag T 27 [.sc (.pointer none), f] h = some (i64 6, h) := by
  refine WP_eq (l_wp rfl t27 rfl rfl ?_)
  first | have hb := hb | have hb := trivial
  repeat' (first | (simp -implicitDefEqProofs (disch := omega) only [hb, F27, isNil, wC, initE, aop, Nat.reduceEqDiff, ↓reduceIte, Nat.reduceAdd, finish, resOf, tupOf, AM.freeze, freeze1, freezeL, closed, nam, namL, if_true, if_false, deref, boxAt, exAt, ldCells, oneL, oneCell, Nat.reduceLeDiff, evL, adopt, rigid, rigidL, trim, Int.reduceEq, Int.reduceMod, Int.reduceDiv, if_pos, if_neg, asI, forall_const, implies_true, chkD, chkO, chkW, effB, reB, vEq, beq_self_eq_true, Nat.reduceSub, Nat.reduceLT, Int.reduceSub, Int.reduceAdd, Int.reduceMul, Int.reduceLT, Int.reduceLE, Int.reduceToNat, optI, aslice, cutSl, cutMs, cutStr, cutOwn, cellsOf, one, elCells, lenOf, beqV, beqVL, strip, stripO, convS]) | ((first | rw [WP_condK] | rw [WP_opsG] | rw [WP_quiG] | rw [WP_dG]); refine And.intro (fun hb => ?_) (fun hb => ?_) <;> (first | have hd := dq1 hb | have hd := dq2 hb | have hd := dq3 hb | have hd := dq4 hb | skip)))
theorem append_nil (o : AOwn) (k : Option Nat) (l : List AV) (h : Heap) : ag T 12 [.sc (.pointer none), .slice o k l] h = some (i64 6, h ++ [.cells [.sc (.pointer none)], .cells [.slice o k l]]) := by
  refine WP_eq (l_wp rfl t12 rfl rfl ?_)
  have hd := do_nil
  first | have hb := hb | have hb := trivial
  repeat' (first | (simp -implicitDefEqProofs (disch := omega) only [hb, F12, hd, List.append_assoc, wC, initE, aop, Nat.reduceEqDiff, ↓reduceIte, Nat.reduceAdd, finish, resOf, tupOf, AM.freeze, freeze1, freezeL, closed, nam, namL, if_true, if_false, deref, boxAt, exAt, ldCells, oneL, oneCell, Nat.reduceLeDiff, evL, adopt, rigid, rigidL, trim, Int.reduceEq, Int.reduceMod, Int.reduceDiv, if_pos, if_neg, asI, forall_const, implies_true, chkD, chkO, chkW, effB, reB, vEq, beq_self_eq_true, Nat.reduceSub, Nat.reduceLT, Int.reduceSub, Int.reduceAdd, Int.reduceMul, Int.reduceLT, Int.reduceLE, Int.reduceToNat, optI, aslice, cutSl, cutMs, cutStr, cutOwn, cellsOf, one, elCells, lenOf, beqV, beqVL, strip, stripO, convS]) | ((first | rw [WP_condK] | rw [WP_opsG] | rw [WP_quiG] | rw [WP_dG]); refine And.intro (fun hb => ?_) (fun hb => ?_) <;> (first | have hd := dq1 hb | have hd := dq2 hb | have hd := dq3 hb | have hd := dq4 hb | skip)))
theorem sync_nil (h : Heap) : ag T 13 [.sc (.pointer none)] h = some (i64 6, h ++ [.cells [.sc (.pointer none)]]) := by
  refine WP_eq (l_wp rfl t13 rfl rfl ?_)
  have hd := do_nil
  first | have hb := hb | have hb := trivial
  repeat' (first | (simp -implicitDefEqProofs (disch := omega) only [hb, F13, hd, List.append_assoc, wC, initE, aop, Nat.reduceEqDiff, ↓reduceIte, Nat.reduceAdd, finish, resOf, tupOf, AM.freeze, freeze1, freezeL, closed, nam, namL, if_true, if_false, deref, boxAt, exAt, ldCells, oneL, oneCell, Nat.reduceLeDiff, evL, adopt, rigid, rigidL, trim, Int.reduceEq, Int.reduceMod, Int.reduceDiv, if_pos, if_neg, asI, forall_const, implies_true, chkD, chkO, chkW, effB, reB, vEq, beq_self_eq_true, Nat.reduceSub, Nat.reduceLT, Int.reduceSub, Int.reduceAdd, Int.reduceMul, Int.reduceLT, Int.reduceLE, Int.reduceToNat, optI, aslice, cutSl, cutMs, cutStr, cutOwn, cellsOf, one, elCells, lenOf, beqV, beqVL, strip, stripO, convS]) | ((first | rw [WP_condK] | rw [WP_opsG] | rw [WP_quiG] | rw [WP_dG]); refine And.intro (fun hb => ?_) (fun hb => ?_) <;> (first | have hd := dq1 hb | have hd := dq2 hb | have hd := dq3 hb | have hd := dq4 hb | skip)))
theorem rewrite_nil (o : AOwn) (k : Option Nat) (l : List AV) (h : Heap) : ag T 14 [.sc (.pointer none), .slice o k l] h = some (i64 6, h ++ [.cells [.sc (.pointer none)], .cells [.slice o k l]]) := by
  refine WP_eq (l_wp rfl t14 rfl rfl ?_)
  have hd := do_nil
  first | have hb := hb | have hb := trivial
  repeat' (first | (simp -implicitDefEqProofs (disch := omega) only [hb, F14, hd, List.append_assoc, wC, initE, aop, Nat.reduceEqDiff, ↓reduceIte, Nat.reduceAdd, finish, resOf, tupOf, AM.freeze, freeze1, freezeL, closed, nam, namL, if_true, if_false, deref, boxAt, exAt, ldCells, oneL, oneCell, Nat.reduceLeDiff, evL, adopt, rigid, rigidL, trim, Int.reduceEq, Int.reduceMod, Int.reduceDiv, if_pos, if_neg, asI, forall_const, implies_true, chkD, chkO, chkW, effB, reB, vEq, beq_self_eq_true, Nat.reduceSub, Nat.reduceLT, Int.reduceSub, Int.reduceAdd, Int.reduceMul, Int.reduceLT, Int.reduceLE, Int.reduceToNat, optI, aslice, cutSl, cutMs, cutStr, cutOwn, cellsOf, one, elCells, lenOf, beqV, beqVL, strip, stripO, convS]) | ((first | rw [WP_condK] | rw [WP_opsG] | rw [WP_quiG] | rw [WP_dG]); refine And.intro (fun hb => ?_) (fun hb => ?_) <;> (first | have hd := dq1 hb | have hd := dq2 hb | have hd := dq3 hb | have hd := dq4 hb | skip)))
theorem len_nil (h : Heap) : ag T 15 [.sc (.pointer none)] h = some (i64 0, h) := by
  refine WP_eq (l_wp rfl t15 rfl rfl ?_)
  first | have hb := hb | have hb := trivial
  repeat' (first | (simp -implicitDefEqProofs (disch := omega) only [hb, F15, isNil, wC, initE, aop, Nat.reduceEqDiff, ↓reduceIte, Nat.reduceAdd, finish, resOf, tupOf, AM.freeze, freeze1, freezeL, closed, nam, namL, if_true, if_false, deref, boxAt, exAt, ldCells, oneL, oneCell, Nat.reduceLeDiff, evL, adopt, rigid, rigidL, trim, Int.reduceEq, Int.reduceMod, Int.reduceDiv, if_pos, if_neg, asI, forall_const, implies_true, chkD, chkO, chkW, effB, reB, vEq, beq_self_eq_true, Nat.reduceSub, Nat.reduceLT, Int.reduceSub, Int.reduceAdd, Int.reduceMul, Int.reduceLT, Int.reduceLE, Int.reduceToNat, optI, aslice, cutSl, cutMs, cutStr, cutOwn, cellsOf, one, elCells, lenOf, beqV, beqVL, strip, stripO, convS]) | ((first | rw [WP_condK] | rw [WP_opsG] | rw [WP_quiG] | rw [WP_dG]); refine And.intro (fun hb => ?_) (fun hb => ?_) <;> (first | have hd := dq1 hb | have hd := dq2 hb | have hd := dq3 hb | have hd := dq4 hb | skip)))
theorem size_nil (h : Heap) : ag T 16 [.sc (.pointer none)] h = some (i64 0, h) := by
  refine WP_eq (l_wp rfl t16 rfl rfl ?_)
  first | have hb := hb | have hb := trivial
  repeat' (first | (simp -implicitDefEqProofs (disch := omega) only [hb, F16, isNil, wC, initE, aop, Nat.reduceEqDiff, ↓reduceIte, Nat.reduceAdd, finish, resOf, tupOf, AM.freeze, freeze1, freezeL, closed, nam, namL, if_true, if_false, deref, boxAt, exAt, ldCells, oneL, oneCell, Nat.reduceLeDiff, evL, adopt, rigid, rigidL, trim, Int.reduceEq, Int.reduceMod, Int.reduceDiv, if_pos, if_neg, asI, forall_const, implies_true, chkD, chkO, chkW, effB, reB, vEq, beq_self_eq_true, Nat.reduceSub, Nat.reduceLT, Int.reduceSub, Int.reduceAdd, Int.reduceMul, Int.reduceLT, Int.reduceLE, Int.reduceToNat, optI, aslice, cutSl, cutMs, cutStr, cutOwn, cellsOf, one, elCells, lenOf, beqV, beqVL, strip, stripO, convS]) | ((first | rw [WP_condK] | rw [WP_opsG] | rw [WP_quiG] | rw [WP_dG]); refine And.intro (fun hb => ?_) (fun hb => ?_) <;> (first | have hd := dq1 hb | have hd := dq2 hb | have hd := dq3 hb | have hd := dq4 hb | skip)))
end Go.Proofs.Ytipbmacpenmgoaa.AM

/- layer 11: what must come of every program. -/
namespace Go.Proofs.Ytipbmacpenmgoaa.AM
open Go
set_option maxRecDepth 100000
theorem lives_k : ag T 10 [] [] = some (.sc (.bool true), []) := ag_of_sums (n := 1000) (by kernel_rfl)
theorem call_lives (h : Heap) : ag T 10 [] h = some (.sc (.bool true), h) := k_any rfl t10 rfl rfl rfl rfl lives_k h
end Go.Proofs.Ytipbmacpenmgoaa.AM

/- What comes in: bytes, numbers. -/
namespace Go.Proofs.Ytipbmacpenmgoaa.AM
open Go
set_option linter.unusedSimpArgs false
set_option linter.unusedVariables false
theorem oc_slice {S : St} {xs : List AV} {a : Option Addr} {n c : Nat} (h : VL S xs (Value.slice a n c).cells.toList) : VL S xs [.slice a n c] := h
theorem oc_agg {S : St} {xs : List AV} {c : Array Value} (h : VL S xs (Value.agg c).cells.toList) : VL S [.agg xs] [.agg c] := VL_cons (by simp only [V]; exact ⟨c, rfl, h⟩) VL_nil
theorem okWide_array {P : Program} {w : World} {r : Reach} {base : Nat} {t : TypeId} {v : Value} {n : Nat} {e : TypeId} (ht : P.underlying t = some (.array n e)) (h : Value.okWide P w r base t v) : ∃ cs, v = .agg cs ∧ cs.size = P.cellsOf t := by
  simp only [Value.okWide, ht] at h
  obtain ⟨cs, h1, h2, _⟩ := h
  exact ⟨cs, h1, h2⟩
theorem wf_i64 {x : Int} (h : (Lit.int .i64 x).wf = true) : I64 x := by
  simp [Lit.wf, IntKind.min, IntKind.max, IntKind.bits, IntKind.signed] at h
  unfold I64
  omega
theorem wf_u64 {x : Int} (h : (Lit.int .u64 x).wf = true) : U64 x := by
  simp [Lit.wf, IntKind.min, IntKind.max, IntKind.bits, IntKind.signed] at h
  unfold U64
  omega
theorem wf_b {x : Int} (h : (Lit.int .u8 x).wf = true) : 0 ≤ x ∧ x ≤ 255 := by
  simp [Lit.wf, IntKind.min, IntKind.max, IntKind.bits, IntKind.signed] at h
  omega
theorem reads_i64 {P : Program} {t : TypeId} (ht : P.underlying t = some (.int .i64)) : Reads P t (fun xs => ∃ x, xs = [i64 x] ∧ I64 x) :=
  (Reads.int ht).imp fun xs ⟨x, h, w⟩ => ⟨x, h, wf_i64 w⟩
theorem reads_u64 {P : Program} {t : TypeId} (ht : P.underlying t = some (.int .u64)) : Reads P t (fun xs => ∃ x, xs = [u64 x] ∧ U64 x) :=
  (Reads.int ht).imp fun xs ⟨x, h, w⟩ => ⟨x, h, wf_u64 w⟩
theorem els_of {I : List AV → Prop} {α : Type} {k : Option Nat} {f : α → AV} {p : α → Prop} (hI : ∀ y, I y ∧ y.length = kz k ∧ oneL y = true → ∃ x, mkEl k y = f x ∧ p x) : ∀ {ys : List (List AV)}, (∀ y ∈ ys, I y ∧ y.length = kz k ∧ oneL y = true) → ∃ l : List α, ys.map (mkEl k) = l.map f ∧ l.length = ys.length ∧ ∀ x ∈ l, p x := by
  intro ys
  induction ys with
  | nil => intro _; exact ⟨[], rfl, rfl, by intro c hc; cases hc⟩
  | cons y ys ih =>
    intro h
    obtain ⟨l, h1, h2, h3⟩ := ih fun z hz => h z (List.mem_cons_of_mem _ hz)
    obtain ⟨x, hx, px⟩ := hI y (h y List.mem_cons_self)
    refine ⟨x :: l, by rw [List.map_cons, List.map_cons, h1, hx], by simp [h2], ?_⟩
    intro c hc
    rcases List.mem_cons.1 hc with rfl | hc
    · exact px
    · exact h3 c hc
theorem reads_sl {P : Program} {t e : TypeId} {k : Option Nat} {I : List AV → Prop} {α : Type} {f : α → AV} {p : α → Prop} (ht : P.underlying t = some (.slice e)) (hc : P.cellsOf e = kz k) (hz : 0 < kz k) (B : Nat) (hb : P.bytesOf e = B) (h : Reads P e I)
    (hI : ∀ y, I y ∧ y.length = kz k ∧ oneL y = true → ∃ x, mkEl k y = f x ∧ p x) : Reads P t (fun xs => ∃ l : List α, xs = [.slice .none k (l.map f)] ∧ (∀ x ∈ l, p x) ∧ l.length * B ≤ 140737488351232) :=
  (Reads.slice ht hc hz h).imp fun xs ⟨ys, h1, h2, h3⟩ => by
    obtain ⟨l, g1, g2, g3⟩ := els_of hI h3
    refine ⟨l, by rw [h1, g1], g3, ?_⟩
    rw [g2, ← hb]
    exact h2
theorem reads_bytes {P : Program} {t e : TypeId} (ht : P.underlying t = some (.slice e)) (he : P.underlying e = some (.int .u8)) (hc : P.cellsOf e = 1) (hb : P.bytesOf e = 1) : Reads P t (fun xs => ∃ l : List Int, xs = [.slice .none none (l.map u8)] ∧ Bytes l ∧ l.length ≤ 140737488351232) :=
  (reads_sl (k := none) (f := u8) (p := fun c => 0 ≤ c ∧ c ≤ 255) ht hc (by decide) 1 hb (Reads.int he) (fun y ⟨⟨x, hy, hw⟩, _, _⟩ => ⟨x, by rw [hy]; rfl, wf_b hw⟩)).imp fun xs ⟨l, h1, h2, h3⟩ => ⟨l, h1, h2, by omega⟩
theorem reads_nums {P : Program} {t e : TypeId} (ht : P.underlying t = some (.slice e)) (he : P.underlying e = some (.int .u64)) (hc : P.cellsOf e = 1) (hb : P.bytesOf e = 8) : Reads P t (fun xs => ∃ l : List Int, xs = [.slice .none none (l.map u64)] ∧ (∀ x ∈ l, U64 x) ∧ l.length * 8 ≤ 140737488351232) :=
  reads_sl (k := none) (f := u64) ht hc (by decide) 8 hb (Reads.int he) (fun y ⟨⟨x, hy, hw⟩, _, _⟩ => ⟨x, by rw [hy]; rfl, wf_u64 hw⟩)
end Go.Proofs.Ytipbmacpenmgoaa.AM

/- layer 11: LogNobody. -/
namespace Go.Proofs.Ytipbmacpenmgoaa.AM
open Go
set_option maxRecDepth 100000
set_option linter.unusedVariables false
set_option linter.unusedSimpArgs false
def bsl (l : List Int) : AV := .slice .none none (l.map u8)
/-- a call, as data -/
structure Op11 where
  k : Int
  b : List Int
  l : List (List Int)
  n : Int
  m : Int
theorem reads_bss {P : Program} {tl tb e : TypeId} (hl : P.underlying tl = some (.slice tb)) (cb : P.cellsOf tb = 1) (bb : P.bytesOf tb = 24) (hb : P.underlying tb = some (.slice e)) (he : P.underlying e = some (.int .u8)) (ce : P.cellsOf e = 1) (be : P.bytesOf e = 1) :
    Reads P tl (fun xs => ∃ l : List (List Int), xs = [.slice .none none (l.map bsl)] ∧ (∀ x ∈ l, Bytes x ∧ x.length ≤ 140737488351232) ∧ l.length * 24 ≤ 140737488351232) :=
  reads_sl (k := none) (f := bsl) (p := fun x => Bytes x ∧ x.length ≤ 140737488351232) hl cb (by decide) 24 bb (reads_bytes hb he ce be) (fun y ⟨⟨l, hy, h1, h2⟩, _, _⟩ => ⟨l, by rw [hy]; rfl, h1, h2⟩)
theorem reads_op11 {P : Program} {t ti tl tb e : TypeId} {f1 f2 f3 f4 f5 : Field} (ht : P.underlying t = some (.struct #[f1, f2, f3, f4, f5])) (hc : P.cellsOf t = 5)
    (ho : [f1.offset, f2.offset, f3.offset, f4.offset, f5.offset] = [0, 1, 2, 3, 4])
    (hg : [f1.type, f2.type, f3.type, f4.type, f5.type] = [ti, tb, tl, ti, ti])
    (hi : P.underlying ti = some (.int .i64)) (ci : P.cellsOf ti = 1) (hl : P.underlying tl = some (.slice tb)) (cl : P.cellsOf tl = 1) (hb : P.underlying tb = some (.slice e)) (cb : P.cellsOf tb = 1) (bb : P.bytesOf tb = 24) (he : P.underlying e = some (.int .u8)) (ce : P.cellsOf e = 1) (be : P.bytesOf e = 1) :
    Reads P t (fun xs => ∃ o : Op11, xs = [i64 o.k, bsl o.b, .slice .none none (o.l.map bsl), i64 o.n, i64 o.m]) := by
  simp only [List.cons.injEq, and_true] at ho hg
  obtain ⟨o1, o2, o3, o4, o5⟩ := ho
  obtain ⟨g1, g2, g3, g4, g5⟩ := hg
  have rI : Reads P ti _ := reads_i64 hi
  have rB : Reads P tb _ := reads_bytes hb he ce be
  have rL : Reads P tl _ := reads_bss hl cb bb hb he ce be
  refine (Reads.struct (fs := [f1, f2, f3, f4, f5]) ht (by rw [hc]; simp [g1, g2, g3, g4, g5, ci, cl, cb])
    (ReadsF.cons (a := 1) (by rw [g1]; exact rI) (by rw [o1]) (by rw [g1]; exact ci) (ReadsF.cons (a := 1) (by rw [g2]; exact rB) (by rw [o2]) (by rw [g2]; exact cb) (ReadsF.cons (a := 1) (by rw [g3]; exact rL) (by rw [o3]) (by rw [g3]; exact cl) (ReadsF.cons (a := 1) (by rw [g4]; exact rI) (by rw [o4]) (by rw [g4]; exact ci) (ReadsF.cons (a := 1) (by rw [g5]; exact rI) (by rw [o5]) (by rw [g5]; exact ci) ReadsF.nil)))))).imp ?_
  rintro xs ⟨_, _, rfl, ⟨x1, rfl, w1⟩, _, _, rfl, ⟨x2, rfl, w2, n2⟩, _, _, rfl, ⟨x3, rfl, w3⟩, _, _, rfl, ⟨x4, rfl, w4⟩, _, _, rfl, ⟨x5, rfl, w5⟩, rfl⟩
  exact ⟨⟨x1, x2, x3, x4, x5⟩, rfl⟩
theorem u8_nam (p : Nat → Bool) : ∀ l : List Int, namL p (l.map u8) = true
  | [] => rfl
  | x :: l => u8_nam p l
theorem bsl_nam : ∀ l : List (List Int), namL (fun _ => false) (l.map bsl) = true
  | [] => rfl
  | x :: l => by
    have h1 := u8_nam (fun _ => false) x
    have h2 := bsl_nam l
    simp only [List.map_cons, bsl, namL, nam, h1, h2, Bool.and_self]
theorem nobody_ok (k n m : Int) (o1 o2 : AOwn) (k1 k2 : Option Nat) (l1 l2 : List AV) (h0 : ∀ h, ag T 10 [] h = some (.sc (.bool true), h)) : prun T F5 [.agg [i64 k, .slice o1 k1 l1, .slice o2 k2 l2, i64 n, i64 m]] = some (.bool true) := by
  refine WP_eq (prun_wp ?_)
  have h1 := append_nil
  have h2 := sync_nil
  have h3 := rewrite_nil
  have h4 := len_nil
  have h5 := size_nil
  first | have hb := hb | have hb := trivial
  repeat' (first | (simp -implicitDefEqProofs (disch := omega) only [hb, F5, h0, h1, h2, h3, h4, h5, wC, initE, aop, Nat.reduceEqDiff, ↓reduceIte, Nat.reduceAdd, finish, resOf, tupOf, AM.freeze, freeze1, freezeL, closed, nam, namL, if_true, if_false, deref, boxAt, exAt, ldCells, oneL, oneCell, Nat.reduceLeDiff, evL, adopt, rigid, rigidL, trim, Int.reduceEq, Int.reduceMod, Int.reduceDiv, if_pos, if_neg, asI, forall_const, implies_true, chkD, chkO, chkW, effB, reB, vEq, beq_self_eq_true, Nat.reduceSub, Nat.reduceLT, Int.reduceSub, Int.reduceAdd, Int.reduceMul, Int.reduceLT, Int.reduceLE, Int.reduceToNat, optI, aslice, cutSl, cutMs, cutStr, cutOwn, cellsOf, one, elCells, lenOf, beqV, beqVL, strip, stripO, convS]) | ((first | rw [WP_condK] | rw [WP_opsG] | rw [WP_quiG] | rw [WP_dG]); refine And.intro (fun hb => ?_) (fun hb => ?_) <;> (first | have hd := dq1 hb | have hd := dq2 hb | have hd := dq3 hb | have hd := dq4 hb | skip)))
end Go.Proofs.Ytipbmacpenmgoaa.AM

/- layer 11: LogNobody, called. -/
namespace Go.Proofs.Ytipbmacpenmgoaa.AM
open Go
theorem call_nobody (o : Op11) : ag T 5 [.agg [i64 o.k, bsl o.b, .slice .none none (o.l.map bsl), i64 o.n, i64 o.m]] [] = some (.sc (.bool true), []) :=
  call_sc rfl t5 rfl rfl rfl (by
    have h1 := u8_nam (fun _ => false) o.b
    have h2 := bsl_nam o.l
    simp only [bsl, closedL, namL, nam, h1, h2, Bool.and_self]) (nobody_ok _ _ _ _ _ _ _ _ _ call_lives)
end Go.Proofs.Ytipbmacpenmgoaa.AM
