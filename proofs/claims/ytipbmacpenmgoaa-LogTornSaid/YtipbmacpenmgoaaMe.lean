import Derived.Test.YtipbmacpenmgoaaMd
import Derived.Test.YtipbmacpenmgoaaRows
import Derived.Deep.Slices
/- The document's digest: its rounds. -/
namespace Go.Proofs.Ytipbmacpenmgoaa.AM
open Go
set_option maxRecDepth 100000
set_option maxHeartbeats 4000000
set_option linter.unusedVariables false
set_option linter.unusedSimpArgs false
/-- what a function that makes all for itself gives, by a run -/
theorem prun_of_gcall {f n : Nat} {F : AFn} {args : List AV} {cs : List AV} (hx : T.ext f = none) (hf : T.fn f = some F) (hp : F.pure = true) (hl : args.length = F.np) (hm : args.map strip = args) (hc : closedL args = true) (hr : gcall T n f args [] = some (.agg cs, [])) : prun T F args = some (.agg cs) := by
  have h1 := ag_of_gcall hr
  rw [ag_pure hx hf hp args hl] at h1
  simp only [pcall, prep, hm, if_pos hc, Option.bind_some, Bool.false_eq_true, if_false, Option.bind_eq_some_iff] at h1
  obtain ⟨v, h2, h3⟩ := h1
  rw [h2]
  unfold adopt at h3
  split at h3
  · cases h3
  · cases h3
  · cases h3; rfl
def RoundK (n : Nat) : Prop := ∀ (s0 s1 s2 s3 s4 s5 s6 s7 s8 s9 s10 s11 s12 s13 s14 s15 s16 s17 s18 s19 s20 s21 s22 s23 s24 : Int), gcall T 60 79 [.ref tabC, .agg (vI [s0, s1, s2, s3, s4, s5, s6, s7, s8, s9, s10, s11, s12, s13, s14, s15, s16, s17, s18, s19, s20, s21, s22, s23, s24]), i64 n] [] = some (.agg (vI (iRoundR [s0, s1, s2, s3, s4, s5, s6, s7, s8, s9, s10, s11, s12, s13, s14, s15, s16, s17, s18, s19, s20, s21, s22, s23, s24] (nn kCon n))), [])
theorem round_k0 : RoundK 0 := fun s0 s1 s2 s3 s4 s5 s6 s7 s8 s9 s10 s11 s12 s13 s14 s15 s16 s17 s18 s19 s20 s21 s22 s23 s24 => by kernel_rfl
theorem round_k1 : RoundK 1 := fun s0 s1 s2 s3 s4 s5 s6 s7 s8 s9 s10 s11 s12 s13 s14 s15 s16 s17 s18 s19 s20 s21 s22 s23 s24 => by kernel_rfl
theorem round_k2 : RoundK 2 := fun s0 s1 s2 s3 s4 s5 s6 s7 s8 s9 s10 s11 s12 s13 s14 s15 s16 s17 s18 s19 s20 s21 s22 s23 s24 => by kernel_rfl
theorem round_k3 : RoundK 3 := fun s0 s1 s2 s3 s4 s5 s6 s7 s8 s9 s10 s11 s12 s13 s14 s15 s16 s17 s18 s19 s20 s21 s22 s23 s24 => by kernel_rfl
theorem round_k4 : RoundK 4 := fun s0 s1 s2 s3 s4 s5 s6 s7 s8 s9 s10 s11 s12 s13 s14 s15 s16 s17 s18 s19 s20 s21 s22 s23 s24 => by kernel_rfl
theorem round_k5 : RoundK 5 := fun s0 s1 s2 s3 s4 s5 s6 s7 s8 s9 s10 s11 s12 s13 s14 s15 s16 s17 s18 s19 s20 s21 s22 s23 s24 => by kernel_rfl
theorem round_k6 : RoundK 6 := fun s0 s1 s2 s3 s4 s5 s6 s7 s8 s9 s10 s11 s12 s13 s14 s15 s16 s17 s18 s19 s20 s21 s22 s23 s24 => by kernel_rfl
theorem round_k7 : RoundK 7 := fun s0 s1 s2 s3 s4 s5 s6 s7 s8 s9 s10 s11 s12 s13 s14 s15 s16 s17 s18 s19 s20 s21 s22 s23 s24 => by kernel_rfl
theorem round_k8 : RoundK 8 := fun s0 s1 s2 s3 s4 s5 s6 s7 s8 s9 s10 s11 s12 s13 s14 s15 s16 s17 s18 s19 s20 s21 s22 s23 s24 => by kernel_rfl
theorem round_k9 : RoundK 9 := fun s0 s1 s2 s3 s4 s5 s6 s7 s8 s9 s10 s11 s12 s13 s14 s15 s16 s17 s18 s19 s20 s21 s22 s23 s24 => by kernel_rfl
theorem round_k10 : RoundK 10 := fun s0 s1 s2 s3 s4 s5 s6 s7 s8 s9 s10 s11 s12 s13 s14 s15 s16 s17 s18 s19 s20 s21 s22 s23 s24 => by kernel_rfl
theorem round_k11 : RoundK 11 := fun s0 s1 s2 s3 s4 s5 s6 s7 s8 s9 s10 s11 s12 s13 s14 s15 s16 s17 s18 s19 s20 s21 s22 s23 s24 => by kernel_rfl
theorem round_k12 : RoundK 12 := fun s0 s1 s2 s3 s4 s5 s6 s7 s8 s9 s10 s11 s12 s13 s14 s15 s16 s17 s18 s19 s20 s21 s22 s23 s24 => by kernel_rfl
theorem round_k13 : RoundK 13 := fun s0 s1 s2 s3 s4 s5 s6 s7 s8 s9 s10 s11 s12 s13 s14 s15 s16 s17 s18 s19 s20 s21 s22 s23 s24 => by kernel_rfl
theorem round_k14 : RoundK 14 := fun s0 s1 s2 s3 s4 s5 s6 s7 s8 s9 s10 s11 s12 s13 s14 s15 s16 s17 s18 s19 s20 s21 s22 s23 s24 => by kernel_rfl
theorem round_k15 : RoundK 15 := fun s0 s1 s2 s3 s4 s5 s6 s7 s8 s9 s10 s11 s12 s13 s14 s15 s16 s17 s18 s19 s20 s21 s22 s23 s24 => by kernel_rfl
theorem round_k16 : RoundK 16 := fun s0 s1 s2 s3 s4 s5 s6 s7 s8 s9 s10 s11 s12 s13 s14 s15 s16 s17 s18 s19 s20 s21 s22 s23 s24 => by kernel_rfl
theorem round_k17 : RoundK 17 := fun s0 s1 s2 s3 s4 s5 s6 s7 s8 s9 s10 s11 s12 s13 s14 s15 s16 s17 s18 s19 s20 s21 s22 s23 s24 => by kernel_rfl
theorem round_k18 : RoundK 18 := fun s0 s1 s2 s3 s4 s5 s6 s7 s8 s9 s10 s11 s12 s13 s14 s15 s16 s17 s18 s19 s20 s21 s22 s23 s24 => by kernel_rfl
theorem round_k19 : RoundK 19 := fun s0 s1 s2 s3 s4 s5 s6 s7 s8 s9 s10 s11 s12 s13 s14 s15 s16 s17 s18 s19 s20 s21 s22 s23 s24 => by kernel_rfl
theorem round_k20 : RoundK 20 := fun s0 s1 s2 s3 s4 s5 s6 s7 s8 s9 s10 s11 s12 s13 s14 s15 s16 s17 s18 s19 s20 s21 s22 s23 s24 => by kernel_rfl
theorem round_k21 : RoundK 21 := fun s0 s1 s2 s3 s4 s5 s6 s7 s8 s9 s10 s11 s12 s13 s14 s15 s16 s17 s18 s19 s20 s21 s22 s23 s24 => by kernel_rfl
theorem round_k22 : RoundK 22 := fun s0 s1 s2 s3 s4 s5 s6 s7 s8 s9 s10 s11 s12 s13 s14 s15 s16 s17 s18 s19 s20 s21 s22 s23 s24 => by kernel_rfl
theorem round_k23 : RoundK 23 := fun s0 s1 s2 s3 s4 s5 s6 s7 s8 s9 s10 s11 s12 s13 s14 s15 s16 s17 s18 s19 s20 s21 s22 s23 s24 => by kernel_rfl
theorem round_k (s0 s1 s2 s3 s4 s5 s6 s7 s8 s9 s10 s11 s12 s13 s14 s15 s16 s17 s18 s19 s20 s21 s22 s23 s24 : Int) : ∀ n : Nat, n < 24 → gcall T 60 79 [.ref tabC, .agg (vI [s0, s1, s2, s3, s4, s5, s6, s7, s8, s9, s10, s11, s12, s13, s14, s15, s16, s17, s18, s19, s20, s21, s22, s23, s24]), i64 n] [] = some (.agg (vI (iRoundR [s0, s1, s2, s3, s4, s5, s6, s7, s8, s9, s10, s11, s12, s13, s14, s15, s16, s17, s18, s19, s20, s21, s22, s23, s24] (nn kCon n))), [])
  | 0, _ => round_k0 s0 s1 s2 s3 s4 s5 s6 s7 s8 s9 s10 s11 s12 s13 s14 s15 s16 s17 s18 s19 s20 s21 s22 s23 s24
  | 1, _ => round_k1 s0 s1 s2 s3 s4 s5 s6 s7 s8 s9 s10 s11 s12 s13 s14 s15 s16 s17 s18 s19 s20 s21 s22 s23 s24
  | 2, _ => round_k2 s0 s1 s2 s3 s4 s5 s6 s7 s8 s9 s10 s11 s12 s13 s14 s15 s16 s17 s18 s19 s20 s21 s22 s23 s24
  | 3, _ => round_k3 s0 s1 s2 s3 s4 s5 s6 s7 s8 s9 s10 s11 s12 s13 s14 s15 s16 s17 s18 s19 s20 s21 s22 s23 s24
  | 4, _ => round_k4 s0 s1 s2 s3 s4 s5 s6 s7 s8 s9 s10 s11 s12 s13 s14 s15 s16 s17 s18 s19 s20 s21 s22 s23 s24
  | 5, _ => round_k5 s0 s1 s2 s3 s4 s5 s6 s7 s8 s9 s10 s11 s12 s13 s14 s15 s16 s17 s18 s19 s20 s21 s22 s23 s24
  | 6, _ => round_k6 s0 s1 s2 s3 s4 s5 s6 s7 s8 s9 s10 s11 s12 s13 s14 s15 s16 s17 s18 s19 s20 s21 s22 s23 s24
  | 7, _ => round_k7 s0 s1 s2 s3 s4 s5 s6 s7 s8 s9 s10 s11 s12 s13 s14 s15 s16 s17 s18 s19 s20 s21 s22 s23 s24
  | 8, _ => round_k8 s0 s1 s2 s3 s4 s5 s6 s7 s8 s9 s10 s11 s12 s13 s14 s15 s16 s17 s18 s19 s20 s21 s22 s23 s24
  | 9, _ => round_k9 s0 s1 s2 s3 s4 s5 s6 s7 s8 s9 s10 s11 s12 s13 s14 s15 s16 s17 s18 s19 s20 s21 s22 s23 s24
  | 10, _ => round_k10 s0 s1 s2 s3 s4 s5 s6 s7 s8 s9 s10 s11 s12 s13 s14 s15 s16 s17 s18 s19 s20 s21 s22 s23 s24
  | 11, _ => round_k11 s0 s1 s2 s3 s4 s5 s6 s7 s8 s9 s10 s11 s12 s13 s14 s15 s16 s17 s18 s19 s20 s21 s22 s23 s24
  | 12, _ => round_k12 s0 s1 s2 s3 s4 s5 s6 s7 s8 s9 s10 s11 s12 s13 s14 s15 s16 s17 s18 s19 s20 s21 s22 s23 s24
  | 13, _ => round_k13 s0 s1 s2 s3 s4 s5 s6 s7 s8 s9 s10 s11 s12 s13 s14 s15 s16 s17 s18 s19 s20 s21 s22 s23 s24
  | 14, _ => round_k14 s0 s1 s2 s3 s4 s5 s6 s7 s8 s9 s10 s11 s12 s13 s14 s15 s16 s17 s18 s19 s20 s21 s22 s23 s24
  | 15, _ => round_k15 s0 s1 s2 s3 s4 s5 s6 s7 s8 s9 s10 s11 s12 s13 s14 s15 s16 s17 s18 s19 s20 s21 s22 s23 s24
  | 16, _ => round_k16 s0 s1 s2 s3 s4 s5 s6 s7 s8 s9 s10 s11 s12 s13 s14 s15 s16 s17 s18 s19 s20 s21 s22 s23 s24
  | 17, _ => round_k17 s0 s1 s2 s3 s4 s5 s6 s7 s8 s9 s10 s11 s12 s13 s14 s15 s16 s17 s18 s19 s20 s21 s22 s23 s24
  | 18, _ => round_k18 s0 s1 s2 s3 s4 s5 s6 s7 s8 s9 s10 s11 s12 s13 s14 s15 s16 s17 s18 s19 s20 s21 s22 s23 s24
  | 19, _ => round_k19 s0 s1 s2 s3 s4 s5 s6 s7 s8 s9 s10 s11 s12 s13 s14 s15 s16 s17 s18 s19 s20 s21 s22 s23 s24
  | 20, _ => round_k20 s0 s1 s2 s3 s4 s5 s6 s7 s8 s9 s10 s11 s12 s13 s14 s15 s16 s17 s18 s19 s20 s21 s22 s23 s24
  | 21, _ => round_k21 s0 s1 s2 s3 s4 s5 s6 s7 s8 s9 s10 s11 s12 s13 s14 s15 s16 s17 s18 s19 s20 s21 s22 s23 s24
  | 22, _ => round_k22 s0 s1 s2 s3 s4 s5 s6 s7 s8 s9 s10 s11 s12 s13 s14 s15 s16 s17 s18 s19 s20 s21 s22 s23 s24
  | 23, _ => round_k23 s0 s1 s2 s3 s4 s5 s6 s7 s8 s9 s10 s11 s12 s13 s14 s15 s16 s17 s18 s19 s20 s21 s22 s23 s24
  | n + 24, h => by omega
theorem vI_cl (p : Nat → Bool) : ∀ l : List Int, namL p (vI l) = true
  | [] => rfl
  | x :: l => vI_cl p l
theorem vI_strip (l : List Int) : (vI l).map strip = vI l := by rw [vI, List.map_map]; rfl
theorem vI_rigid : ∀ l : List Int, rigidL (vI l) = true
  | [] => rfl
  | x :: l => vI_rigid l
theorem vI_one : ∀ l : List Int, oneL (vI l) = true
  | [] => rfl
  | x :: l => vI_one l
theorem tab_cl : closedL tabC = true := by kernel_rfl
theorem con_lt (n : Nat) (hn : n < 24) : ((BitVec.ofNat 64 (nn kCon n)).toNat : Int) = (nn kCon n : Nat) := by
  have : ∀ n, n < 24 → (BitVec.ofNat 64 (nn kCon n)).toNat = nn kCon n := by decide
  rw [this n hn]
theorem round_ok (s : List Wd) (hs : s.length = 25) (n : Nat) (hn : n < 24) : prun T F79 [.ref tabC, .agg (wv s), i64 n] = some (.agg (wv (kRound s (BitVec.ofNat 64 (nn kCon n))))) := by
  have hk := round_k (nw s 0).toNat (nw s 1).toNat (nw s 2).toNat (nw s 3).toNat (nw s 4).toNat (nw s 5).toNat (nw s 6).toNat (nw s 7).toNat (nw s 8).toNat (nw s 9).toNat (nw s 10).toNat (nw s 11).toNat (nw s 12).toNat (nw s 13).toNat (nw s 14).toNat (nw s 15).toNat (nw s 16).toNat (nw s 17).toNat (nw s 18).toNat (nw s 19).toNat (nw s 20).toNat (nw s 21).toNat (nw s 22).toNat (nw s 23).toNat (nw s 24).toNat n hn
  rw [words_wI hs, ← con_lt n hn, iRoundR_w] at hk
  refine prun_of_gcall rfl t79 rfl rfl ?_ ?_ hk
  · simp [strip]
  · have h1 := tab_cl
    have h2 := vI_cl (fun _ => false) (wI s)
    simp only [closedL, namL, nam, Bool.and_true] at h1 h2 ⊢
    rw [h1, h2]; rfl
theorem rounds_ok (s : List Wd) (hs : s.length = 25) : prun T F66 [.ref tabC, .agg (wv s)] = some (.agg (wv (kPerm s))) := by
  refine WP_eq (prun_wp ?_)
  have h1L := vI_one (wI s)
  have hl : (wv s).length = 25 := by rw [wv_len, hs]
  have htk := tab_cl
  first | have hb := hb | have hb := trivial
  repeat' (first | (simp -implicitDefEqProofs (disch := omega) only [hb, F66, hl, h1L, wC, initE, aop, Nat.reduceEqDiff, ↓reduceIte, Nat.reduceAdd, finish, resOf, tupOf, AM.freeze, freeze1, freezeL, closed, nam, namL, if_true, if_false, deref, boxAt, exAt, ldCells, oneL, oneCell, Nat.reduceLeDiff, evL, adopt, rigid, rigidL, trim, Int.reduceEq, Int.reduceMod, Int.reduceDiv, if_pos, if_neg, asI, forall_const, implies_true, chkD, chkO, chkW, effB, reB, vEq, beq_self_eq_true, Nat.reduceSub, Nat.reduceLT, Int.reduceSub, Int.reduceAdd, Int.reduceMul, Int.reduceLT, Int.reduceLE, Int.reduceToNat, optI, aslice, cutSl, cutMs, cutStr, cutOwn, cellsOf, one, elCells, lenOf, beqV, beqVL, strip, stripO, convS]) | ((first | rw [WP_condK] | rw [WP_opsG] | rw [WP_quiG] | rw [WP_dG]); refine And.intro (fun hb => ?_) (fun hb => ?_) <;> (first | have hd := dq1 hb | have hd := dq2 hb | have hd := dq3 hb | have hd := dq4 hb | skip)))
  refine WP_loop (I := fun n e h => ∃ (i : Nat) (x : AObj), i ≤ 24 ∧ n = 24 - i ∧ getE e 0 = .ref tabC ∧ getE e 3 = .ptr 0 0 ∧ getE e 4 = .ptr 1 0 ∧ getE e 5 = i64 i ∧ h = [.cells (wv (kFold i s)), .cells (List.replicate 25 (.int .u64 0))]) ?_ 24 _ _ ⟨0, .cells [], by omega, rfl, rfl, rfl, rfl, rfl, rfl⟩
  rintro n e h ⟨i, x, hi, rfl, h0, h3, h4, h5, rfl⟩
  have hk := kFold_length hs i
  have hkl : (wv (kFold i s)).length = 25 := by rw [wv_len, hk]
  rw [trim_same' (by simp)]
  by_cases h24 : i < 24
  · have hcall := call_agg (T := T) (h := [.cells (wv (kFold i s)), .cells (List.replicate 25 (.int .u64 0))]) rfl t79 rfl rfl (args := [.ref tabC, .agg (wv (kFold i s)), i64 i]) (by simp [strip]) (by
      have h2 := vI_cl (fun _ => false) (wI (kFold i s))
      simp only [closedL, namL, nam, Bool.and_true] at htk h2 ⊢
      rw [htk, h2]; rfl) (round_ok (kFold i s) hk i h24)
    have hT : List.take 25 (wv (kFold i s)) = wv (kFold i s) := List.take_of_length_le (by omega)
    have hl2 : (wv (kRound (kFold i s) (BitVec.ofNat 64 (nn kCon i)))).length = 25 := by rw [wv_len, kRound_len]
    have h1 := vI_one (wI (kRound (kFold i s) (BitVec.ofNat 64 (nn kCon i))))
    have hsp : splice (wv (kFold i s)) 0 (wv (kRound (kFold i s) (BitVec.ofNat 64 (nn kCon i)))) = wv (kRound (kFold i s) (BitVec.ofNat 64 (nn kCon i))) := splice_all (by rw [hl2, hkl])
    first | have hb := hb | have hb := trivial
    repeat' (first | (simp -implicitDefEqProofs (disch := omega) only [hb, L66_0, h0, h3, h4, h5, hkl, hT, hcall, hl2, h1, hsp, wC, initE, aop, Nat.reduceEqDiff, ↓reduceIte, Nat.reduceAdd, finish, resOf, tupOf, AM.freeze, freeze1, freezeL, closed, nam, namL, if_true, if_false, deref, boxAt, exAt, ldCells, oneL, oneCell, Nat.reduceLeDiff, evL, adopt, rigid, rigidL, trim, Int.reduceEq, Int.reduceMod, Int.reduceDiv, if_pos, if_neg, asI, forall_const, implies_true, chkD, chkO, chkW, effB, reB, vEq, beq_self_eq_true, Nat.reduceSub, Nat.reduceLT, Int.reduceSub, Int.reduceAdd, Int.reduceMul, Int.reduceLT, Int.reduceLE, Int.reduceToNat, optI, aslice, cutSl, cutMs, cutStr, cutOwn, cellsOf, one, elCells, lenOf, beqV, beqVL, strip, stripO, convS]) | ((first | rw [WP_condK] | rw [WP_opsG] | rw [WP_quiG] | rw [WP_dG]); refine And.intro (fun hb => ?_) (fun hb => ?_) <;> (first | have hd := dq1 hb | have hd := dq2 hb | have hd := dq3 hb | have hd := dq4 hb | skip)))
    exact ⟨23 - i, by omega, i + 1, .cells [], by omega, by omega, rfl, by rw [kFold_succ _ _ h24]⟩
  · obtain rfl : i = 24 := by omega
    first | have hb := hb | have hb := trivial
    repeat' (first | (simp -implicitDefEqProofs (disch := omega) only [hb, L66_0, h0, h3, h4, h5, hkl, wC, initE, aop, Nat.reduceEqDiff, ↓reduceIte, Nat.reduceAdd, finish, resOf, tupOf, AM.freeze, freeze1, freezeL, closed, nam, namL, if_true, if_false, deref, boxAt, exAt, ldCells, oneL, oneCell, Nat.reduceLeDiff, evL, adopt, rigid, rigidL, trim, Int.reduceEq, Int.reduceMod, Int.reduceDiv, if_pos, if_neg, asI, forall_const, implies_true, chkD, chkO, chkW, effB, reB, vEq, beq_self_eq_true, Nat.reduceSub, Nat.reduceLT, Int.reduceSub, Int.reduceAdd, Int.reduceMul, Int.reduceLT, Int.reduceLE, Int.reduceToNat, optI, aslice, cutSl, cutMs, cutStr, cutOwn, cellsOf, one, elCells, lenOf, beqV, beqVL, strip, stripO, convS]) | ((first | rw [WP_condK] | rw [WP_opsG] | rw [WP_quiG] | rw [WP_dG]); refine And.intro (fun hb => ?_) (fun hb => ?_) <;> (first | have hd := dq1 hb | have hd := dq2 hb | have hd := dq3 hb | have hd := dq4 hb | skip)))
    have hT : List.take 25 (wv (kFold 24 s)) = wv (kFold 24 s) := List.take_of_length_le (by omega)
    have hsp : splice (List.replicate 25 (AV.int .u64 0)) 0 (wv (kFold 24 s)) = wv (kFold 24 s) := splice_all (by rw [hkl]; rfl)
    have hst := vI_strip (wI (kFold 24 s))
    rw [hT, hsp, hT, hst]
    exact ⟨⟨hkl, vI_one _⟩, by omega, vI_cl _ _, rfl⟩
end Go.Proofs.Ytipbmacpenmgoaa.AM

/- The document's digest: what is taken in. -/
namespace Go.Proofs.Ytipbmacpenmgoaa.AM
open Go
set_option maxRecDepth 100000
set_option maxHeartbeats 4000000
set_option linter.unusedVariables false
set_option linter.unusedSimpArgs false
theorem fzL_vI (h : Heap) : ∀ l : List Int, fzL h (vI l) = some (vI l)
  | [] => rfl
  | x :: l => by simp only [vI, List.map_cons, fzL, fz, Option.bind_some] at *; rw [fzL_vI h l]; rfl
theorem call_rounds (s : List Wd) (hs : s.length = 25) (h : Heap) (id : Nat) (hid : h[id]? = some (.cells tabC)) : ag T 66 [.ptr id 0, .agg (wv s)] h = some (.agg (wv (kPerm s)), h) := by
  rw [ag_pure rfl t66 rfl _ rfl]
  have hb : boxAt h id = some tabC := by simp [boxAt, hid]
  have hp : prep h [.ptr id 0, .agg (wv s)] = some ([.ref tabC, .agg (wv s)], true) := by
    have h1 : closedL ([AV.ptr id 0, .agg (wv s)].map strip) = false := rfl
    have h2 : closedL ([AV.ptr id 0, .agg (wv s)].map stripEl) = false := rfl
    have h3 : closedL ([AV.ptr id 0, .agg (wv s)].map deepEl) = false := rfl
    unfold prep
    rw [h1, h2, h3]
    simp only [Bool.false_eq_true, if_false, fzL, fz, hb, Option.bind_some, List.drop_zero, tab_cl, if_true, fzL_vI, Option.map_some]
  simp only [pcall, hp, Option.bind_some, rounds_ok s hs, if_true, rigid, vI_rigid]
theorem all_k : gcall T 200 65 [] [] = some (.agg tabC, []) := by kernel_rfl
theorem call_All (h : Heap) : ag T 65 [] h = some (.agg tabC, h) := by
  have hp := prun_of_gcall rfl t65 rfl rfl rfl rfl all_k
  exact call_agg rfl t65 rfl rfl rfl rfl hp
/-! ### what is padded, and folded -/
def kPad (l : List Int) : List Int := l ++ (6 :: List.replicate (135 - l.length % 136) 0)
def kPadL (l : List Int) : List Int := (kPad l).set ((kPad l).length - 1) (if l.length % 136 = 135 then 134 else 128)
theorem kPad_len (l : List Int) : (kPad l).length = (l.length / 136 + 1) * 136 := by
  simp only [kPad, List.length_append, List.length_cons, List.length_replicate]
  omega
theorem kAdd_zero {s : List Wd} (a : Nat) (ha : a / 8 < s.length) : kAdd s a 0 = s := by
  rw [kAdd]
  have h0 : (BitVec.ofInt 64 0 <<< (8 * (a % 8))) = (0#64) := by
    rw [show BitVec.ofInt 64 0 = 0#64 from rfl]; simp
  rw [h0, BitVec.xor_zero, nw, List.getD_eq_getElem?_getD, List.getElem?_eq_getElem ha]
  simp
theorem kAdd_twice (s : List Wd) (a : Nat) (ha : a / 8 < s.length) (x y z : Int) (hz : BitVec.ofInt 64 x ^^^ BitVec.ofInt 64 y = BitVec.ofInt 64 z) : kAdd (kAdd s a x) a y = kAdd s a z := by
  simp only [kAdd, List.set_set]
  congr 1
  have h1 : nw (s.set (a / 8) (nw s (a / 8) ^^^ BitVec.ofInt 64 x <<< (8 * (a % 8)))) (a / 8) = nw s (a / 8) ^^^ BitVec.ofInt 64 x <<< (8 * (a % 8)) := by
    rw [nw, List.getD_eq_getElem?_getD, List.getElem?_set_self ha]; rfl
  rw [h1, BitVec.xor_assoc, ← hz]
  congr 1
  exact (BitVec.shiftLeft_xor_distrib _ _ _).symm
theorem kStep_hit (s : List Wd) (a : Nat) (b : Int) (h : a + 1 = 136) : kStep 136 (s, a) b = (kPerm (kAdd s a b), 0) := by unfold kStep; rw [if_pos h]
theorem kStep_miss (s : List Wd) (a : Nat) (b : Int) (h : ¬ a + 1 = 136) : kStep 136 (s, a) b = (kAdd s a b, a + 1) := by unfold kStep; rw [if_neg h]
theorem fold_zeros (s : List Wd) (hs : s.length = 25) : ∀ (z a : Nat), a + z ≤ 135 → (List.replicate z (0 : Int)).foldl (kStep 136) (s, a) = (s, a + z)
  | 0, a, _ => rfl
  | z + 1, a, h => by
    rw [List.replicate_succ, List.foldl_cons]
    have h1 : kStep 136 (s, a) 0 = (s, a + 1) := by rw [kStep_miss _ _ _ (by omega), kAdd_zero a (by omega)]
    rw [h1, fold_zeros s hs z (a + 1) (by omega)]
    congr 1; omega
theorem fold_at : ∀ (l : List Int) (s : List Wd) (a : Nat), a < 136 → (l.foldl (kStep 136) (s, a)).2 = (a + l.length) % 136
  | [], s, a, h => by simp; omega
  | b :: l, s, a, h => by
    rw [List.foldl_cons]
    by_cases h1 : a + 1 = 136
    · rw [kStep_hit _ _ _ h1, fold_at l _ 0 (by omega), List.length_cons]; omega
    · rw [kStep_miss _ _ _ h1, fold_at l _ (a + 1) (by omega), List.length_cons]; congr 1; omega
theorem kPadL_fold (l : List Int) : (kPadL l).foldl (kStep 136) (kZero, 0) = (kEnd (kTake l), 0) := by
  have hk := KS.fold l kzero_ks
  have ha := fold_at l kZero 0 (by omega)
  have hle := kPad_len l
  have e : kPadL l = l ++ (if l.length % 136 = 135 then [134] else 6 :: (List.replicate (134 - l.length % 136) 0 ++ [128])) := by
    unfold kPadL
    have hpl : (kPad l).length - 1 = l.length + (135 - l.length % 136) := by
      simp only [kPad, List.length_append, List.length_cons, List.length_replicate]; omega
    rw [hpl, kPad, List.set_append_right _ _ (by omega), show l.length + (135 - l.length % 136) - l.length = 135 - l.length % 136 by omega]
    congr 1
    split
    · rename_i h; rw [h]; rfl
    · rename_i h
      have : 135 - l.length % 136 = (134 - l.length % 136) + 1 := by omega
      rw [this, List.set_cons_succ, List.replicate_succ', List.set_append_right _ _ (by simp)]
      simp
  rw [e, List.foldl_append, kTake]
  rw [show (List.replicate 25 (0#64)) = kZero from rfl] at *
  generalize l.foldl (kStep 136) (kZero, 0) = p at hk ha ⊢
  obtain ⟨s, a⟩ := p
  have hs : s.length = 25 := hk.len
  have ha' : a < 136 := hk.lt
  simp only [Nat.zero_add] at ha
  split
  · rename_i h
    have : a = 135 := by omega
    subst this
    show kStep 136 (s, 135) 134 = _
    rw [kStep_hit _ _ _ rfl, kEnd, kAdd_twice s 135 (by omega) 6 128 134 (by decide)]
  · rename_i h
    have hne : a ≠ 135 := by omega
    rw [List.foldl_cons, List.foldl_append]
    have h1 : kStep 136 (s, a) 6 = (kAdd s a 6, a + 1) := kStep_miss _ _ _ (by omega)
    rw [h1, fold_zeros _ (kAdd_len hs _ _) _ _ (by omega), show a + 1 + (134 - l.length % 136) = 135 by omega]
    show kStep 136 (kAdd s a 6, 135) 128 = _
    rw [kStep_hit _ _ _ rfl, kEnd]
/-- bytes into places, one after the other -/
def kAdds (s : List Wd) (a : Nat) : List Int → List Wd
  | [] => s
  | b :: l => kAdds (kAdd s a b) (a + 1) l
theorem kAdds_len : ∀ (l : List Int) {s : List Wd} (a : Nat), s.length = 25 → (kAdds s a l).length = 25
  | [], s, a, h => h
  | b :: l, s, a, h => kAdds_len l _ (kAdd_len h _ _)
theorem kAdds_snoc : ∀ (l : List Int) (s : List Wd) (a : Nat) (b : Int), kAdds s a (l ++ [b]) = kAdd (kAdds s a l) (a + l.length) b
  | [], s, a, b => rfl
  | c :: l, s, a, b => by
    rw [List.cons_append, kAdds, kAdds_snoc l, kAdds, List.length_cons]; congr 1; omega
theorem fold_block : ∀ (l : List Int) (s : List Wd) (a : Nat), a + l.length = 136 → 0 < l.length → l.foldl (kStep 136) (s, a) = (kPerm (kAdds s a l), 0)
  | [], s, a, h, h0 => by simp at h0
  | [b], s, a, h, h0 => by
    have : a = 135 := by simpa using h
    subst this
    rfl
  | b :: c :: l, s, a, h, h0 => by
    rw [List.foldl_cons]
    rw [kStep_miss _ _ _ (by simp only [List.length_cons] at h; omega), fold_block (c :: l) _ (a + 1) (by simp only [List.length_cons] at h ⊢; omega) (by simp)]
    rfl
end Go.Proofs.Ytipbmacpenmgoaa.AM

/- The document's digest: the message, padded. -/
namespace Go.Proofs.Ytipbmacpenmgoaa.AM
open Go
set_option maxRecDepth 100000
set_option maxHeartbeats 4000000
set_option linter.unusedVariables false
set_option linter.unusedSimpArgs false
theorem flatC (l : List Int) : ((l.map u8).map elCells).flatten = l.map u8 := by
  induction l with
  | nil => rfl
  | cons x l ih => simp only [List.map_cons, List.flatten_cons, ih]; rfl
theorem kfits {n : Nat} (h : n ≤ 140737488355328) : fitsB n 1 = true := by simp [fitsB]; omega
/-- the noughts behind -/
theorem pad_ok (b : List Int) (hn : b.length ≤ 140737488353000) (o8 : AV) (m : Nat) (keep : List Nat) (hkeep : keep = [0, 1, 9]) (z0 : Nat) (hz0 : z0 = 0)
    (Q : Res → Prop) (e : Env) (pre : Heap) (h : Heap) (h0 : getE e 0 = i64 32) (h1 : getE e 1 = i64 136) (h9 : getE e 9 = .ms pre.length 0 none (b.length + 1)) (hh : h = pre ++ [.vec ((b ++ [6]).map u8)])
    (hq : ∀ e' pre', getE e' 0 = i64 32 → getE e' 1 = i64 136 → getE e' 9 = .ms pre'.length 0 none (kPad b).length → Q (.exit 0, e', pre' ++ [.vec ((kPad b).map u8)])) :
    WP Q (axl T keep false L43_4 m e h) := by
  subst hkeep
  refine WP_loop (I := fun n e h => ∃ (z : Nat) (pre : Heap), z ≤ 135 - b.length % 136 ∧ n = 135 - b.length % 136 - z ∧ getE e 0 = i64 32 ∧ getE e 1 = i64 136 ∧ getE e 9 = .ms pre.length 0 none (b.length + 1 + z) ∧ h = pre ++ [.vec ((b ++ 6 :: List.replicate z 0).map u8)]) ?_ _ _ _ ⟨0, pre, by omega, rfl, h0, h1, h9, hh⟩
  rintro n e h ⟨z, pre, hz, rfl, h0, h1, h9, rfl⟩
  rw [trim_off]
  have hrem : (((b.length + 1 + z : Nat) : Int).tmod 136) = (((b.length + 1 + z) % 136 : Nat) : Int) := by rw [Int.tmod_eq_emod_of_nonneg (by omega)]; omega
  have hcl : ((b ++ 6 :: List.replicate z 0).map u8).length = b.length + 1 + z := by simp; omega
  have hf := kfits (n := b.length + 1 + z + 1) (by omega)
  by_cases hz1 : z < 135 - b.length % 136
  · have hne : ¬ (((b.length + 1 + z) % 136 : Nat) : Int) = 0 := by omega
    first | have hb := hb | have hb := trivial
    repeat' (first | (simp -implicitDefEqProofs (disch := omega) only [hb, L43_4, h0, h1, h9, hrem, hne, appV, setEls, elemsOf, hcl, hf, stripEl, elFits, List.replicate_succ, List.replicate_zero, wC, initE, aop, Nat.reduceEqDiff, ↓reduceIte, Nat.reduceAdd, finish, resOf, tupOf, AM.freeze, freeze1, freezeL, closed, nam, namL, if_true, if_false, deref, boxAt, exAt, ldCells, oneL, oneCell, Nat.reduceLeDiff, evL, adopt, rigid, rigidL, trim, Int.reduceEq, Int.reduceMod, Int.reduceDiv, if_pos, if_neg, asI, forall_const, implies_true, chkD, chkO, chkW, effB, reB, vEq, beq_self_eq_true, Nat.reduceSub, Nat.reduceLT, Int.reduceSub, Int.reduceAdd, Int.reduceMul, Int.reduceLT, Int.reduceLE, Int.reduceToNat, optI, aslice, cutSl, cutMs, cutStr, cutOwn, cellsOf, one, elCells, lenOf, beqV, beqVL, strip, stripO, convS]) | ((first | rw [WP_condK] | rw [WP_opsG] | rw [WP_quiG] | rw [WP_dG]); refine And.intro (fun hb => ?_) (fun hb => ?_) <;> (first | have hd := dq1 hb | have hd := dq2 hb | have hd := dq3 hb | have hd := dq4 hb | skip)))
    refine ⟨135 - b.length % 136 - (z + 1), by omega, z + 1, pre ++ [.row none 1], by omega, rfl, by simp only [List.length_append, List.length_cons, List.length_nil]; rfl, ?_⟩
    congr 2
    simp only [List.flatten_cons, List.flatten_nil, List.append_nil, List.replicate_succ', List.map_append, List.map_cons, List.append_assoc, List.map_replicate, List.map_nil, List.cons_append]
  · have hne : (((b.length + 1 + z) % 136 : Nat) : Int) = 0 := by omega
    first | have hb := hb | have hb := trivial
    repeat' (first | (simp -implicitDefEqProofs (disch := omega) only [hb, L43_4, h0, h1, h9, hrem, hne, wC, initE, aop, Nat.reduceEqDiff, ↓reduceIte, Nat.reduceAdd, finish, resOf, tupOf, AM.freeze, freeze1, freezeL, closed, nam, namL, if_true, if_false, deref, boxAt, exAt, ldCells, oneL, oneCell, Nat.reduceLeDiff, evL, adopt, rigid, rigidL, trim, Int.reduceEq, Int.reduceMod, Int.reduceDiv, if_pos, if_neg, asI, forall_const, implies_true, chkD, chkO, chkW, effB, reB, vEq, beq_self_eq_true, Nat.reduceSub, Nat.reduceLT, Int.reduceSub, Int.reduceAdd, Int.reduceMul, Int.reduceLT, Int.reduceLE, Int.reduceToNat, optI, aslice, cutSl, cutMs, cutStr, cutOwn, cellsOf, one, elCells, lenOf, beqV, beqVL, strip, stripO, convS]) | ((first | rw [WP_condK] | rw [WP_opsG] | rw [WP_quiG] | rw [WP_dG]); refine And.intro (fun hb => ?_) (fun hb => ?_) <;> (first | have hd := dq1 hb | have hd := dq2 hb | have hd := dq3 hb | have hd := dq4 hb | skip)))
    have hz2 : z = 135 - b.length % 136 := by omega
    subst hz2
    refine hq _ pre rfl rfl ?_
    show AV.ms pre.length 0 none (b.length + 1 + (135 - b.length % 136)) = _
    rw [show b.length + 1 + (135 - b.length % 136) = (kPad b).length by simp only [kPad, List.length_append, List.length_cons, List.length_replicate]; omega]
/-- a block's bytes -/
theorem blk_ok (s0 : List Wd) (hs : s0.length = 25) (M : List Int) (hM : Bytes M) (k : Nat) (hk : 136 * k + 136 ≤ M.length) (hML : M.length ≤ 140737488355328) (id m : Nat) (keep : List Nat) (hkeep : keep = [0, 1, 9, 10, 11, 12, 13])
    (Q : Res → Prop) (e : Env) (pre h : Heap) (hid : pre.length = id) (h0 : getE e 0 = i64 32) (h1 : getE e 1 = i64 136) (h9 : getE e 9 = .ms id 0 none M.length) (h10 : getE e 10 = .ptr (id + 1) 0) (h11 : getE e 11 = .ptr (id + 2) 0) (h12 : getE e 12 = i64 (136 * k : Nat)) (h13 : getE e 13 = i64 0)
    (hh : h = pre ++ [.vec (M.map u8), .cells tabC, .cells (wv s0)])
    (hq : ∀ e', getE e' 0 = i64 32 → getE e' 1 = i64 136 → getE e' 9 = .ms id 0 none M.length → getE e' 10 = .ptr (id + 1) 0 → getE e' 11 = .ptr (id + 2) 0 → getE e' 12 = i64 (136 * k : Nat) → Q (.exit 4, e', pre ++ [.vec (M.map u8), .cells tabC, .cells (wv (kAdds s0 0 ((M.drop (136 * k)).take 136)))])) :
    WP Q (axl T keep false L43_2 m e h) := by
  subst hkeep
  subst hid
  refine WP_loop (I := fun n e h => ∃ (i : Nat), i ≤ 136 ∧ n = 136 - i ∧ getE e 0 = i64 32 ∧ getE e 1 = i64 136 ∧ getE e 9 = .ms pre.length 0 none M.length ∧ getE e 10 = .ptr (pre.length + 1) 0 ∧ getE e 11 = .ptr (pre.length + 2) 0 ∧ getE e 12 = i64 (136 * k : Nat) ∧ getE e 13 = i64 i ∧ h = pre ++ [.vec (M.map u8), .cells tabC, .cells (wv (kAdds s0 0 ((M.drop (136 * k)).take i)))]) ?_ _ _ _ ⟨0, by omega, rfl, h0, h1, h9, h10, h11, h12, h13, hh⟩
  rintro n e h ⟨i, hi, rfl, h0, h1, h9, h10, h11, h12, h13, rfl⟩
  rw [trim_off]
  by_cases hlt : i < 136
  · have hsl : (kAdds s0 0 ((M.drop (136 * k)).take i)).length = 25 := kAdds_len _ _ hs
    have hget : (List.drop (136 * k + i) (M.map u8))[0]? = some (u8 M[136 * k + i]) := by rw [List.getElem?_drop, Nat.add_zero, get_u8]
    have hget2 : (M.map u8)[136 * k + i]? = some (u8 M[136 * k + i]) := get_u8 _
    have hsn : (M.drop (136 * k)).take (i + 1) = (M.drop (136 * k)).take i ++ [M[136 * k + i]] := by
      rw [List.take_succ_eq_append_getElem (by rw [List.length_drop]; omega), List.getElem_drop]
    have hstp : kAdds s0 0 ((M.drop (136 * k)).take (i + 1)) = kAdd (kAdds s0 0 ((M.drop (136 * k)).take i)) i M[136 * k + i] := by
      rw [hsn, kAdds_snoc, List.length_take, List.length_drop, Nat.zero_add, Nat.min_eq_left (by omega)]
    have hby := hM _ (List.getElem_mem (show 136 * k + i < M.length by omega))
    generalize kAdds s0 0 ((M.drop (136 * k)).take i) = s at hsl hstp ⊢
    generalize M[136 * k + i] = b at hget hget2 hstp hby
    have hq : ((i : Int).tdiv 8) = ((i / 8 : Nat) : Int) := by rw [Int.tdiv_eq_ediv_of_nonneg (by omega)]; omega
    have hm : ((i : Int).tmod 8) = ((i % 8 : Nat) : Int) := by rw [Int.tmod_eq_emod_of_nonneg (by omega)]; omega
    have h8 : (8 : Int) * ((i % 8 : Nat) : Int) = ((8 * (i % 8) : Nat) : Int) := by omega
    have hA : ((136 * k : Nat) : Int) + (i : Int) = ((136 * k + i : Nat) : Int) := by omega
    have hg := wv_get (s := s) (i := i / 8) (by omega)
    have hsh := bin_shlW .i64 b (8 * (i % 8)) (by omega) hby.1 hby.2
    have hx := bin_xorW (nw s (i / 8)) (BitVec.ofInt 64 b <<< (8 * (i % 8)))
    have hw : IntKind.u64.wrap b = b := by rw [IntKind.wrap_u64]; omega
    have hset := wv_set s (i / 8) ((nw s (i / 8)) ^^^ (BitVec.ofInt 64 b <<< (8 * (i % 8))))
    have hwl : (wv s).length = 25 := by rw [wv_len, hsl]
    first | have hb := hb | have hb := trivial
    repeat' (first | (simp -implicitDefEqProofs (disch := omega) only [hb, L43_2, h0, h1, h9, h10, h11, h12, h13, hq, hm, h8, hA, hg, hsh, hx, hw, hset, hwl, hget, hget2, wC, initE, aop, Nat.reduceEqDiff, ↓reduceIte, Nat.reduceAdd, finish, resOf, tupOf, AM.freeze, freeze1, freezeL, closed, nam, namL, if_true, if_false, deref, boxAt, exAt, ldCells, oneL, oneCell, Nat.reduceLeDiff, evL, adopt, rigid, rigidL, trim, Int.reduceEq, Int.reduceMod, Int.reduceDiv, if_pos, if_neg, asI, forall_const, implies_true, chkD, chkO, chkW, effB, reB, vEq, beq_self_eq_true, Nat.reduceSub, Nat.reduceLT, Int.reduceSub, Int.reduceAdd, Int.reduceMul, Int.reduceLT, Int.reduceLE, Int.reduceToNat, optI, aslice, cutSl, cutMs, cutStr, cutOwn, cellsOf, one, elCells, lenOf, beqV, beqVL, strip, stripO, convS]) | ((first | rw [WP_condK] | rw [WP_opsG] | rw [WP_quiG] | rw [WP_dG]); refine And.intro (fun hb => ?_) (fun hb => ?_) <;> (first | have hd := dq1 hb | have hd := dq2 hb | have hd := dq3 hb | have hd := dq4 hb | skip)))
    exact ⟨136 - (i + 1), by omega, i + 1, by omega, rfl, rfl, by rw [hstp]; rfl⟩
  · obtain rfl : i = 136 := by omega
    first | have hb := hb | have hb := trivial
    repeat' (first | (simp -implicitDefEqProofs (disch := omega) only [hb, L43_2, h0, h1, h9, h10, h11, h12, h13, wC, initE, aop, Nat.reduceEqDiff, ↓reduceIte, Nat.reduceAdd, finish, resOf, tupOf, AM.freeze, freeze1, freezeL, closed, nam, namL, if_true, if_false, deref, boxAt, exAt, ldCells, oneL, oneCell, Nat.reduceLeDiff, evL, adopt, rigid, rigidL, trim, Int.reduceEq, Int.reduceMod, Int.reduceDiv, if_pos, if_neg, asI, forall_const, implies_true, chkD, chkO, chkW, effB, reB, vEq, beq_self_eq_true, Nat.reduceSub, Nat.reduceLT, Int.reduceSub, Int.reduceAdd, Int.reduceMul, Int.reduceLT, Int.reduceLE, Int.reduceToNat, optI, aslice, cutSl, cutMs, cutStr, cutOwn, cellsOf, one, elCells, lenOf, beqV, beqVL, strip, stripO, convS]) | ((first | rw [WP_condK] | rw [WP_opsG] | rw [WP_quiG] | rw [WP_dG]); refine And.intro (fun hb => ?_) (fun hb => ?_) <;> (first | have hd := dq1 hb | have hd := dq2 hb | have hd := dq3 hb | have hd := dq4 hb | skip)))
    exact hq _ rfl rfl rfl rfl rfl rfl
end Go.Proofs.Ytipbmacpenmgoaa.AM

/- The document's digest: all blocks, and what comes out. -/
namespace Go.Proofs.Ytipbmacpenmgoaa.AM
open Go
set_option maxRecDepth 100000
set_option maxHeartbeats 4000000
set_option linter.unusedVariables false
set_option linter.unusedSimpArgs false
theorem fold_blk (M : List Int) (p : List Wd × Nat) (k : Nat) (hk : 136 * k + 136 ≤ M.length) (h0 : ((M.take (136 * k)).foldl (kStep 136) p).2 = 0) :
    (M.take (136 * (k + 1))).foldl (kStep 136) p = (kPerm (kAdds ((M.take (136 * k)).foldl (kStep 136) p).1 0 ((M.drop (136 * k)).take 136)), 0) := by
  have e : M.take (136 * (k + 1)) = M.take (136 * k) ++ (M.drop (136 * k)).take 136 := by
    rw [← List.take_add]; congr 1
  rw [e, List.foldl_append]
  generalize (M.take (136 * k)).foldl (kStep 136) p = q at h0 ⊢
  obtain ⟨s, a⟩ := q
  simp only at h0
  subst h0
  rw [fold_block _ s 0 (by simp; omega) (by simp; omega)]
theorem blks_ok (M : List Int) (hM : Bytes M) (B : Nat) (hB : M.length = B * 136) (hML : M.length ≤ 140737488355328) (id m : Nat) (keep : List Nat) (hkeep : keep = [0, 1, 9, 10, 11, 12])
    (Q : Res → Prop) (e : Env) (pre h : Heap) (hid : pre.length = id) (h0 : getE e 0 = i64 32) (h1 : getE e 1 = i64 136) (h9 : getE e 9 = .ms id 0 none M.length) (h10 : getE e 10 = .ptr (id + 1) 0) (h11 : getE e 11 = .ptr (id + 2) 0) (h12 : getE e 12 = i64 0)
    (hh : h = pre ++ [.vec (M.map u8), .cells tabC, .cells (wv kZero)])
    (hq : ∀ e', getE e' 0 = i64 32 → getE e' 1 = i64 136 → getE e' 10 = .ptr (id + 1) 0 → getE e' 11 = .ptr (id + 2) 0 → Q (.exit 2, e', pre ++ [.vec (M.map u8), .cells tabC, .cells (wv (M.foldl (kStep 136) (kZero, 0)).1)])) :
    WP Q (axl T keep false L43_3 m e h) := by
  subst hkeep
  subst hid
  refine WP_loop (I := fun n e h => ∃ (k : Nat), k ≤ B ∧ n = B - k ∧ getE e 0 = i64 32 ∧ getE e 1 = i64 136 ∧ getE e 9 = .ms pre.length 0 none M.length ∧ getE e 10 = .ptr (pre.length + 1) 0 ∧ getE e 11 = .ptr (pre.length + 2) 0 ∧ getE e 12 = i64 (136 * k : Nat) ∧ h = pre ++ [.vec (M.map u8), .cells tabC, .cells (wv ((M.take (136 * k)).foldl (kStep 136) (kZero, 0)).1)]) ?_ B _ _ ⟨0, by omega, rfl, h0, h1, h9, h10, h11, h12, hh⟩
  rintro n e h ⟨k, hk, rfl, h0, h1, h9, h10, h11, h12, rfl⟩
  rw [trim_off]
  have hks := KS.fold (M.take (136 * k)) kzero_ks
  have hat := fold_at (M.take (136 * k)) kZero 0 (by omega)
  rw [List.length_take, Nat.zero_add, Nat.min_eq_left (by omega), Nat.mul_mod_right] at hat
  by_cases hlt : k < B
  · have hfb := fold_blk M (kZero, 0) k (by omega) hat
    have hlen : 136 * k + 136 ≤ M.length := by omega
    have hlt2 : ((136 * k : Nat) : Int) < (M.length : Int) := by omega
    have hA : ((136 * k : Nat) : Int) + 136 = ((136 * (k + 1) : Nat) : Int) := by omega
    generalize (M.take (136 * k)).foldl (kStep 136) (kZero, 0) = p at hks hat hfb ⊢
    have hs := hks.len
    have hs2 : (kAdds p.1 0 ((M.drop (136 * k)).take 136)).length = 25 := kAdds_len _ _ hs
    first | have hb := hb | have hb := trivial
    repeat' (first | (simp -implicitDefEqProofs (disch := omega) only [hb, L43_3, h0, h1, h9, h10, h11, h12, wC, initE, aop, Nat.reduceEqDiff, ↓reduceIte, Nat.reduceAdd, finish, resOf, tupOf, AM.freeze, freeze1, freezeL, closed, nam, namL, if_true, if_false, deref, boxAt, exAt, ldCells, oneL, oneCell, Nat.reduceLeDiff, evL, adopt, rigid, rigidL, trim, Int.reduceEq, Int.reduceMod, Int.reduceDiv, if_pos, if_neg, asI, forall_const, implies_true, chkD, chkO, chkW, effB, reB, vEq, beq_self_eq_true, Nat.reduceSub, Nat.reduceLT, Int.reduceSub, Int.reduceAdd, Int.reduceMul, Int.reduceLT, Int.reduceLE, Int.reduceToNat, optI, aslice, cutSl, cutMs, cutStr, cutOwn, cellsOf, one, elCells, lenOf, beqV, beqVL, strip, stripO, convS]) | ((first | rw [WP_condK] | rw [WP_opsG] | rw [WP_quiG] | rw [WP_dG]); refine And.intro (fun hb => ?_) (fun hb => ?_) <;> (first | have hd := dq1 hb | have hd := dq2 hb | have hd := dq3 hb | have hd := dq4 hb | skip)))
    refine blk_ok p.1 hs M hM k hlen hML pre.length _ _ rfl _ _ pre _ rfl rfl rfl rfl rfl rfl rfl rfl rfl ?_
    intro e' g0 g1 g9 g10 g11 g12
    have hcall := fun h id hid => call_rounds (kAdds p.1 0 ((M.drop (136 * k)).take 136)) hs2 h id hid
    generalize kAdds p.1 0 ((M.drop (136 * k)).take 136) = s at hs2 hcall hfb
    have hwl : (wv s).length = 25 := by rw [wv_len, hs2]
    have hT : List.take 25 (wv s) = wv s := List.take_of_length_le (by omega)
    have hc := hcall (pre ++ [.vec (M.map u8), .cells tabC, .cells (wv s)]) (pre.length + 1) (by rw [get_app]; rfl)
    have hwl2 : (wv (kPerm s)).length = 25 := by rw [wv_len, kPerm_len hs2]
    have ho := vI_one (wI (kPerm s))
    have hsp : splice (wv s) 0 (wv (kPerm s)) = wv (kPerm s) := splice_all (by rw [hwl2, hwl])
    first | have hb := hb | have hb := trivial
    repeat' (first | (simp -implicitDefEqProofs (disch := omega) only [hb, g0, g1, g9, g10, g11, g12, hwl, hT, hc, hwl2, ho, hsp, hA, wC, initE, aop, Nat.reduceEqDiff, ↓reduceIte, Nat.reduceAdd, finish, resOf, tupOf, AM.freeze, freeze1, freezeL, closed, nam, namL, if_true, if_false, deref, boxAt, exAt, ldCells, oneL, oneCell, Nat.reduceLeDiff, evL, adopt, rigid, rigidL, trim, Int.reduceEq, Int.reduceMod, Int.reduceDiv, if_pos, if_neg, asI, forall_const, implies_true, chkD, chkO, chkW, effB, reB, vEq, beq_self_eq_true, Nat.reduceSub, Nat.reduceLT, Int.reduceSub, Int.reduceAdd, Int.reduceMul, Int.reduceLT, Int.reduceLE, Int.reduceToNat, optI, aslice, cutSl, cutMs, cutStr, cutOwn, cellsOf, one, elCells, lenOf, beqV, beqVL, strip, stripO, convS]) | ((first | rw [WP_condK] | rw [WP_opsG] | rw [WP_quiG] | rw [WP_dG]); refine And.intro (fun hb => ?_) (fun hb => ?_) <;> (first | have hd := dq1 hb | have hd := dq2 hb | have hd := dq3 hb | have hd := dq4 hb | skip)))
    exact ⟨B - (k + 1), by omega, k + 1, by omega, rfl, rfl, by rw [hfb]⟩
  · obtain rfl : k = B := by omega
    have hlt2 : ¬ ((136 * k : Nat) : Int) < (M.length : Int) := by omega
    first | have hb := hb | have hb := trivial
    repeat' (first | (simp -implicitDefEqProofs (disch := omega) only [hb, L43_3, h0, h1, h9, h10, h11, h12, wC, initE, aop, Nat.reduceEqDiff, ↓reduceIte, Nat.reduceAdd, finish, resOf, tupOf, AM.freeze, freeze1, freezeL, closed, nam, namL, if_true, if_false, deref, boxAt, exAt, ldCells, oneL, oneCell, Nat.reduceLeDiff, evL, adopt, rigid, rigidL, trim, Int.reduceEq, Int.reduceMod, Int.reduceDiv, if_pos, if_neg, asI, forall_const, implies_true, chkD, chkO, chkW, effB, reB, vEq, beq_self_eq_true, Nat.reduceSub, Nat.reduceLT, Int.reduceSub, Int.reduceAdd, Int.reduceMul, Int.reduceLT, Int.reduceLE, Int.reduceToNat, optI, aslice, cutSl, cutMs, cutStr, cutOwn, cellsOf, one, elCells, lenOf, beqV, beqVL, strip, stripO, convS]) | ((first | rw [WP_condK] | rw [WP_opsG] | rw [WP_quiG] | rw [WP_dG]); refine And.intro (fun hb => ?_) (fun hb => ?_) <;> (first | have hd := dq1 hb | have hd := dq2 hb | have hd := dq3 hb | have hd := dq4 hb | skip)))
    rw [show M.take (136 * k) = M from List.take_of_length_le (by omega)]
    exact hq _ rfl rfl rfl rfl
/-- the bytes that come out -/
theorem out_in (s : List Wd) (hs : s.length = 25) (id r m : Nat) (keep : List Nat) (hkeep : keep = [0, 1, 10, 11, 14, 15]) (tb : Nat)
    (Q : Res → Prop) (e : Env) (pre h : Heap) (hid : pre.length = r) (hsb : pre[id]? = some (.cells (wv s))) (h0 : getE e 0 = i64 32) (h1 : getE e 1 = i64 136) (h10 : getE e 10 = .ptr tb 0) (h11 : getE e 11 = .ptr id 0) (h14 : getE e 14 = .slice (.tok r) none []) (h15 : getE e 15 = i64 0)
    (hh : h = pre ++ [.row none 0])
    (hq : ∀ e', getE e' 0 = i64 32 → getE e' 1 = i64 136 → getE e' 10 = .ptr tb 0 → getE e' 11 = .ptr id 0 → getE e' 14 = .slice (.tok r) none ((k32.map (kByte s)).map u8) → Q (.exit 8, e', pre ++ [.row none 32])) :
    WP Q (axl T keep false L43_0 m e h) := by
  subst hkeep
  subst hid
  refine WP_loop (I := fun n e h => ∃ (i : Nat), i ≤ 32 ∧ n = 32 - i ∧ getE e 0 = i64 32 ∧ getE e 1 = i64 136 ∧ getE e 10 = .ptr tb 0 ∧ getE e 11 = .ptr id 0 ∧ getE e 14 = .slice (.tok pre.length) none (((k32.take i).map (kByte s)).map u8) ∧ getE e 15 = i64 i ∧ h = pre ++ [.row none i]) ?_ 32 _ _ ⟨0, by omega, rfl, h0, h1, h10, h11, h14, h15, hh⟩
  rintro n e h ⟨i, hi, rfl, h0, h1, h10, h11, h14, h15, rfl⟩
  rw [trim_off]
  have hl : (((k32.take i).map (kByte s)).map u8).length = i := by simp [k32]; omega
  have hidl : id < pre.length := (List.getElem?_eq_some_iff.1 hsb).1
  have hgs : (pre ++ [AObj.row none i])[id]? = some (.cells (wv s)) := by rw [get_appl hidl, hsb]
  by_cases hlt : i < 32
  · have hq' : ((i : Int).tdiv 8) = ((i / 8 : Nat) : Int) := by rw [Int.tdiv_eq_ediv_of_nonneg (by omega)]; omega
    have hm : ((i : Int).tmod 8) = ((i % 8 : Nat) : Int) := by rw [Int.tmod_eq_emod_of_nonneg (by omega)]; omega
    have h8 : (8 : Int) * ((i % 8 : Nat) : Int) = ((8 * (i % 8) : Nat) : Int) := by omega
    have hg := wv_get (s := s) (i := i / 8) (by omega)
    have hsh := bin_shrW .i64 (nw s (i / 8)) (8 * (i % 8)) (by omega)
    have hkb : IntKind.u8.wrap ((nw s (i / 8) >>> (8 * (i % 8))).toNat : Int) = kByte s i := by rw [w_u8, kByte]; omega
    have hf := kfits (n := i + 1) (by omega)
    have hk : ((k32.take (i + 1)).map (kByte s)).map u8 = ((k32.take i).map (kByte s)).map u8 ++ [u8 (kByte s i)] := by
      have h1 : k32.take (i + 1) = k32.take i ++ [i] := by
        have : ∀ i, i < 32 → k32.take (i + 1) = k32.take i ++ [i] := by decide
        exact this i hlt
      rw [h1]; simp
    generalize ((k32.take i).map (kByte s)).map u8 = L at hl hk h14
    first | have hb := hb | have hb := trivial
    repeat' (first | (simp -implicitDefEqProofs (disch := omega) only [hb, L43_0, h0, h1, h10, h11, h14, h15, hq', hm, h8, hg, hsh, hkb, hf, hl, hgs, setEls, elemsOf, aappend, stripEl, elFits, List.replicate_succ, List.replicate_zero, wC, initE, aop, Nat.reduceEqDiff, ↓reduceIte, Nat.reduceAdd, finish, resOf, tupOf, AM.freeze, freeze1, freezeL, closed, nam, namL, if_true, if_false, deref, boxAt, exAt, ldCells, oneL, oneCell, Nat.reduceLeDiff, evL, adopt, rigid, rigidL, trim, Int.reduceEq, Int.reduceMod, Int.reduceDiv, if_pos, if_neg, asI, forall_const, implies_true, chkD, chkO, chkW, effB, reB, vEq, beq_self_eq_true, Nat.reduceSub, Nat.reduceLT, Int.reduceSub, Int.reduceAdd, Int.reduceMul, Int.reduceLT, Int.reduceLE, Int.reduceToNat, optI, aslice, cutSl, cutMs, cutStr, cutOwn, cellsOf, one, elCells, lenOf, beqV, beqVL, strip, stripO, convS]) | ((first | rw [WP_condK] | rw [WP_opsG] | rw [WP_quiG] | rw [WP_dG]); refine And.intro (fun hb => ?_) (fun hb => ?_) <;> (first | have hd := dq1 hb | have hd := dq2 hb | have hd := dq3 hb | have hd := dq4 hb | skip)))
    exact ⟨32 - (i + 1), by omega, i + 1, by omega, rfl, by rw [hk], rfl, rfl⟩
  · obtain rfl : i = 32 := by omega
    first | have hb := hb | have hb := trivial
    repeat' (first | (simp -implicitDefEqProofs (disch := omega) only [hb, L43_0, h0, h1, h10, h11, h14, h15, hl, wC, initE, aop, Nat.reduceEqDiff, ↓reduceIte, Nat.reduceAdd, finish, resOf, tupOf, AM.freeze, freeze1, freezeL, closed, nam, namL, if_true, if_false, deref, boxAt, exAt, ldCells, oneL, oneCell, Nat.reduceLeDiff, evL, adopt, rigid, rigidL, trim, Int.reduceEq, Int.reduceMod, Int.reduceDiv, if_pos, if_neg, asI, forall_const, implies_true, chkD, chkO, chkW, effB, reB, vEq, beq_self_eq_true, Nat.reduceSub, Nat.reduceLT, Int.reduceSub, Int.reduceAdd, Int.reduceMul, Int.reduceLT, Int.reduceLE, Int.reduceToNat, optI, aslice, cutSl, cutMs, cutStr, cutOwn, cellsOf, one, elCells, lenOf, beqV, beqVL, strip, stripO, convS]) | ((first | rw [WP_condK] | rw [WP_opsG] | rw [WP_quiG] | rw [WP_dG]); refine And.intro (fun hb => ?_) (fun hb => ?_) <;> (first | have hd := dq1 hb | have hd := dq2 hb | have hd := dq3 hb | have hd := dq4 hb | skip)))
    exact hq _ rfl rfl rfl rfl rfl
end Go.Proofs.Ytipbmacpenmgoaa.AM

/- The document's digest, whole. -/
namespace Go.Proofs.Ytipbmacpenmgoaa.AM
open Go
set_option maxRecDepth 100000
set_option maxHeartbeats 4000000
set_option linter.unusedVariables false
set_option linter.unusedSimpArgs false
theorem kPadL_bytes {l : List Int} (h : Bytes l) : Bytes (kPadL l) := by
  intro c hc
  unfold kPadL at hc
  rcases List.mem_or_eq_of_mem_set hc with hc | rfl
  · unfold kPad at hc
    rcases List.mem_append.1 hc with hc | hc
    · exact h c hc
    · rcases List.mem_cons.1 hc with rfl | hc
      · omega
      · rw [(List.mem_replicate.1 hc).2]; omega
  · split <;> omega
theorem kPadL_len (l : List Int) : (kPadL l).length = (l.length / 136 + 1) * 136 := by rw [kPadL, List.length_set, kPad_len]
/-- the last byte, and the other one in its place -/
theorem pad_last (l : List Int) : (kPad l)[(kPad l).length - 1]? = some (if l.length % 136 = 135 then 6 else 0) := by
  have hpl : (kPad l).length - 1 = l.length + (135 - l.length % 136) := by
    simp only [kPad, List.length_append, List.length_cons, List.length_replicate]; omega
  rw [hpl, kPad, List.getElem?_append_right (by omega), Nat.add_sub_cancel_left]
  split
  · rename_i h; rw [h]; rfl
  · rename_i h
    have : 135 - l.length % 136 = (134 - l.length % 136) + 1 := by omega
    rw [this, List.getElem?_cons_succ, List.getElem?_replicate, if_pos (by omega)]
theorem xor128 (l : List Int) : abin .xor (.int .u8 (if l.length % 136 = 135 then 6 else 0)) (.int .u8 128) = some (.int .u8 (if l.length % 136 = 135 then 134 else 128)) := by
  split <;> rfl
def tab0 : List AV := [.int .i64 0, .int .i64 0, .int .i64 0, .int .i64 0, .int .i64 0, .int .i64 0, .int .i64 0, .int .i64 0, .int .i64 0, .int .i64 0, .int .i64 0, .int .i64 0, .int .i64 0, .int .i64 0, .int .i64 0, .int .i64 0, .int .i64 0, .int .i64 0, .int .i64 0, .int .i64 0, .int .i64 0, .int .i64 0, .int .i64 0, .int .i64 0, .int .i64 0, .int .u64 0, .int .u64 0, .int .u64 0, .int .u64 0, .int .u64 0, .int .u64 0, .int .u64 0, .int .u64 0, .int .u64 0, .int .u64 0, .int .u64 0, .int .u64 0, .int .u64 0, .int .u64 0, .int .u64 0, .int .u64 0, .int .u64 0, .int .u64 0, .int .u64 0, .int .u64 0, .int .u64 0, .int .u64 0, .int .u64 0, .int .u64 0]
theorem z49_eq : AObj.box true [.int .i64 0, .int .i64 0, .int .i64 0, .int .i64 0, .int .i64 0, .int .i64 0, .int .i64 0, .int .i64 0, .int .i64 0, .int .i64 0, .int .i64 0, .int .i64 0, .int .i64 0, .int .i64 0, .int .i64 0, .int .i64 0, .int .i64 0, .int .i64 0, .int .i64 0, .int .i64 0, .int .i64 0, .int .i64 0, .int .i64 0, .int .i64 0, .int .i64 0, .int .u64 0, .int .u64 0, .int .u64 0, .int .u64 0, .int .u64 0, .int .u64 0, .int .u64 0, .int .u64 0, .int .u64 0, .int .u64 0, .int .u64 0, .int .u64 0, .int .u64 0, .int .u64 0, .int .u64 0, .int .u64 0, .int .u64 0, .int .u64 0, .int .u64 0, .int .u64 0, .int .u64 0, .int .u64 0, .int .u64 0, .int .u64 0] = AObj.box true tab0 := rfl
theorem z25_eq : AObj.box true [.int .u64 0, .int .u64 0, .int .u64 0, .int .u64 0, .int .u64 0, .int .u64 0, .int .u64 0, .int .u64 0, .int .u64 0, .int .u64 0, .int .u64 0, .int .u64 0, .int .u64 0, .int .u64 0, .int .u64 0, .int .u64 0, .int .u64 0, .int .u64 0, .int .u64 0, .int .u64 0, .int .u64 0, .int .u64 0, .int .u64 0, .int .u64 0, .int .u64 0] = AObj.box true (wv kZero) := rfl
theorem out_ok (o : AOwn) (b : List Int) (hb : Bytes b) (hn : b.length ≤ 140737488353000) : prun T F43 [i64 32, i64 136, u8 6, .slice o none (b.map u8)] = some (.slice .fresh none ((kSum b).map u8)) := by
  have hpl := kPad_len b
  have hpos : 0 < (kPad b).length := by rw [hpl]; omega
  have hle : (kPad b).length ≤ 140737488353200 := by rw [hpl]; omega
  have hpd : ∀ (e : Env) (pre : Heap) (h : Heap) (m : Nat) (Q : Res → Prop), getE e 0 = i64 32 → getE e 1 = i64 136 → getE e 9 = .ms pre.length 0 none (b.length + 1) → h = pre ++ [.vec ((b ++ [6]).map u8)] →
    (∀ e' pre', getE e' 0 = i64 32 → getE e' 1 = i64 136 → getE e' 9 = .ms pre'.length 0 none (kPad b).length → Q (.exit 0, e', pre' ++ [.vec ((kPad b).map u8)])) → WP Q (axl T [0, 1, 9] false L43_4 m e h) :=
    fun e pre h m Q g0 g1 g9 hh hq => pad_ok b hn .unk m _ rfl 0 rfl Q e pre h g0 g1 g9 hh hq
  refine WP_eq (prun_wp ?_)
  have hf := kfits (n := b.length) (by omega)
  have hf1 := kfits (n := b.length + 1) (by omega)
  have hfl := flatC b
  have hx := xor128 b
  have hgl : ((kPad b).map u8)[(kPad b).length - 1]? = some (u8 (if b.length % 136 = 135 then 6 else 0)) := by rw [List.getElem?_map, pad_last]; rfl
  have hset : ((kPad b).map u8).set ((kPad b).length - 1) (u8 (if b.length % 136 = 135 then 134 else 128)) = (kPadL b).map u8 := by rw [kPadL, List.map_set]
  have htl : tabC.length = 49 := rfl
  have hto : oneL tabC = true := by kernel_rfl
  have htT : List.take 49 tabC = tabC := rfl
  have hts : splice tab0 0 tabC = tabC := splice_all rfl
  have h0l : tab0.length = 49 := rfl
  have hML := kPadL_len b
  have hPL : (kPadL b).length = (kPad b).length := by rw [hML, hpl]
  have hMB := kPadL_bytes hb
  have hfold := kPadL_fold b
  have hks := KS.fold (kPadL b) kzero_ks
  have hks0 : KS (kTake b) := KS.fold b kzero_ks
  have hcl := u8_closed (kSum b)
  have hl32 : ((kSum b).map u8).length = 32 := by rw [List.length_map, kSum_len]
  by_cases hb0 : b.length = 0
  · obtain rfl := List.eq_nil_of_length_eq_zero hb0
    first | have hb := hb | have hb := trivial
    repeat' (first | (simp -implicitDefEqProofs (disch := omega) only [hb, F43, appV, setEls, elemsOf, stripEl, elFits, List.replicate_succ, List.replicate_zero, hf, hf1, hfl, wC, initE, aop, Nat.reduceEqDiff, ↓reduceIte, Nat.reduceAdd, finish, resOf, tupOf, AM.freeze, freeze1, freezeL, closed, nam, namL, if_true, if_false, deref, boxAt, exAt, ldCells, oneL, oneCell, Nat.reduceLeDiff, evL, adopt, rigid, rigidL, trim, Int.reduceEq, Int.reduceMod, Int.reduceDiv, if_pos, if_neg, asI, forall_const, implies_true, chkD, chkO, chkW, effB, reB, vEq, beq_self_eq_true, Nat.reduceSub, Nat.reduceLT, Int.reduceSub, Int.reduceAdd, Int.reduceMul, Int.reduceLT, Int.reduceLE, Int.reduceToNat, optI, aslice, cutSl, cutMs, cutStr, cutOwn, cellsOf, one, elCells, lenOf, beqV, beqVL, strip, stripO, convS]) | ((first | rw [WP_condK] | rw [WP_opsG] | rw [WP_quiG] | rw [WP_dG]); refine And.intro (fun hb => ?_) (fun hb => ?_) <;> (first | have hd := dq1 hb | have hd := dq2 hb | have hd := dq3 hb | have hd := dq4 hb | skip)))
    refine hpd _ [] _ _ _ rfl rfl rfl rfl ?_
    intro e' pre' g0 g1 g9
    generalize (if ([] : List Int).length % 136 = 135 then (6 : Int) else 0) = x6 at hx hgl
    generalize (if ([] : List Int).length % 136 = 135 then (134 : Int) else 128) = x7 at hx hset
    first | have hb := hb | have hb := trivial
    repeat' (first | (simp -implicitDefEqProofs (disch := omega) only [hb, g0, g1, g9, hgl, hx, hset, call_All, z49_eq, z25_eq, htl, hto, htT, hts, h0l, app_app, wC, initE, aop, Nat.reduceEqDiff, ↓reduceIte, Nat.reduceAdd, finish, resOf, tupOf, AM.freeze, freeze1, freezeL, closed, nam, namL, if_true, if_false, deref, boxAt, exAt, ldCells, oneL, oneCell, Nat.reduceLeDiff, evL, adopt, rigid, rigidL, trim, Int.reduceEq, Int.reduceMod, Int.reduceDiv, if_pos, if_neg, asI, forall_const, implies_true, chkD, chkO, chkW, effB, reB, vEq, beq_self_eq_true, Nat.reduceSub, Nat.reduceLT, Int.reduceSub, Int.reduceAdd, Int.reduceMul, Int.reduceLT, Int.reduceLE, Int.reduceToNat, optI, aslice, cutSl, cutMs, cutStr, cutOwn, cellsOf, one, elCells, lenOf, beqV, beqVL, strip, stripO, convS]) | ((first | rw [WP_condK] | rw [WP_opsG] | rw [WP_quiG] | rw [WP_dG]); refine And.intro (fun hb => ?_) (fun hb => ?_) <;> (first | have hd := dq1 hb | have hd := dq2 hb | have hd := dq3 hb | have hd := dq4 hb | skip)))
    refine blks_ok (kPadL ([] : List Int)) hMB (([] : List Int).length / 136 + 1) hML (by rw [hPL]; omega) pre'.length _ _ rfl _ _ pre' _ rfl g0 g1 (by rw [hPL]; exact g9) rfl rfl rfl rfl ?_
    intro e2 q0 q1 q10 q11
    rw [hfold]
    have hel := kEnd_len hks0
    have hend : k32.map (kByte (kEnd (kTake ([] : List Int)))) = kSum ([] : List Int) := rfl
    generalize kEnd (kTake ([] : List Int)) = s at hel hend ⊢
    first | have hb := hb | have hb := trivial
    repeat' (first | (simp -implicitDefEqProofs (disch := omega) only [hb, q0, q1, q10, q11, app_app, wC, initE, aop, Nat.reduceEqDiff, ↓reduceIte, Nat.reduceAdd, finish, resOf, tupOf, AM.freeze, freeze1, freezeL, closed, nam, namL, if_true, if_false, deref, boxAt, exAt, ldCells, oneL, oneCell, Nat.reduceLeDiff, evL, adopt, rigid, rigidL, trim, Int.reduceEq, Int.reduceMod, Int.reduceDiv, if_pos, if_neg, asI, forall_const, implies_true, chkD, chkO, chkW, effB, reB, vEq, beq_self_eq_true, Nat.reduceSub, Nat.reduceLT, Int.reduceSub, Int.reduceAdd, Int.reduceMul, Int.reduceLT, Int.reduceLE, Int.reduceToNat, optI, aslice, cutSl, cutMs, cutStr, cutOwn, cellsOf, one, elCells, lenOf, beqV, beqVL, strip, stripO, convS]) | ((first | rw [WP_condK] | rw [WP_opsG] | rw [WP_quiG] | rw [WP_dG]); refine And.intro (fun hb => ?_) (fun hb => ?_) <;> (first | have hd := dq1 hb | have hd := dq2 hb | have hd := dq3 hb | have hd := dq4 hb | skip)))
    refine k_roll ?_
    rw [trim_off]
    first | have hb := hb | have hb := trivial
    repeat' (first | (simp -implicitDefEqProofs (disch := omega) only [hb, L43_1, q0, q1, q10, q11, wC, initE, aop, Nat.reduceEqDiff, ↓reduceIte, Nat.reduceAdd, finish, resOf, tupOf, AM.freeze, freeze1, freezeL, closed, nam, namL, if_true, if_false, deref, boxAt, exAt, ldCells, oneL, oneCell, Nat.reduceLeDiff, evL, adopt, rigid, rigidL, trim, Int.reduceEq, Int.reduceMod, Int.reduceDiv, if_pos, if_neg, asI, forall_const, implies_true, chkD, chkO, chkW, effB, reB, vEq, beq_self_eq_true, Nat.reduceSub, Nat.reduceLT, Int.reduceSub, Int.reduceAdd, Int.reduceMul, Int.reduceLT, Int.reduceLE, Int.reduceToNat, optI, aslice, cutSl, cutMs, cutStr, cutOwn, cellsOf, one, elCells, lenOf, beqV, beqVL, strip, stripO, convS]) | ((first | rw [WP_condK] | rw [WP_opsG] | rw [WP_quiG] | rw [WP_dG]); refine And.intro (fun hb => ?_) (fun hb => ?_) <;> (first | have hd := dq1 hb | have hd := dq2 hb | have hd := dq3 hb | have hd := dq4 hb | skip)))
    refine out_in s hel (pre'.length + 2) (pre'.length + 3) _ _ rfl (pre'.length + 1) _ _ (pre' ++ [.vec ((kPadL ([] : List Int)).map u8), .cells tabC, .cells (wv s)]) _ (by simp) (by rw [get_app]; rfl) rfl rfl rfl rfl rfl rfl (by simp) ?_
    intro e3 p0 p1 p10 p11 p14
    rw [hend] at p14
    first | have hb := hb | have hb := trivial
    repeat' (first | (simp -implicitDefEqProofs (disch := omega) only [hb, p0, p1, p10, p11, p14, q0, q1, wC, initE, aop, Nat.reduceEqDiff, ↓reduceIte, Nat.reduceAdd, finish, resOf, tupOf, AM.freeze, freeze1, freezeL, closed, nam, namL, if_true, if_false, deref, boxAt, exAt, ldCells, oneL, oneCell, Nat.reduceLeDiff, evL, adopt, rigid, rigidL, trim, Int.reduceEq, Int.reduceMod, Int.reduceDiv, if_pos, if_neg, asI, forall_const, implies_true, chkD, chkO, chkW, effB, reB, vEq, beq_self_eq_true, Nat.reduceSub, Nat.reduceLT, Int.reduceSub, Int.reduceAdd, Int.reduceMul, Int.reduceLT, Int.reduceLE, Int.reduceToNat, optI, aslice, cutSl, cutMs, cutStr, cutOwn, cellsOf, one, elCells, lenOf, beqV, beqVL, strip, stripO, convS]) | ((first | rw [WP_condK] | rw [WP_opsG] | rw [WP_quiG] | rw [WP_dG]); refine And.intro (fun hb => ?_) (fun hb => ?_) <;> (first | have hd := dq1 hb | have hd := dq2 hb | have hd := dq3 hb | have hd := dq4 hb | skip)))
    refine ⟨0, by omega, ?_⟩
    refine k_roll ?_
    rw [trim_off]
    have hrow : (pre' ++ [AObj.vec ((kPadL ([] : List Int)).map u8), AObj.cells tabC, AObj.cells (wv s)] ++ [AObj.row none 32])[pre'.length + 3]? = some (.row none 32) := by rw [List.append_assoc, get_app]; rfl
    first | have hb := hb | have hb := trivial
    repeat' (first | (simp -implicitDefEqProofs (disch := omega) only [hb, L43_1, p0, p1, p10, p11, p14, hl32, hcl, hrow, wC, initE, aop, Nat.reduceEqDiff, ↓reduceIte, Nat.reduceAdd, finish, resOf, tupOf, AM.freeze, freeze1, freezeL, closed, nam, namL, if_true, if_false, deref, boxAt, exAt, ldCells, oneL, oneCell, Nat.reduceLeDiff, evL, adopt, rigid, rigidL, trim, Int.reduceEq, Int.reduceMod, Int.reduceDiv, if_pos, if_neg, asI, forall_const, implies_true, chkD, chkO, chkW, effB, reB, vEq, beq_self_eq_true, Nat.reduceSub, Nat.reduceLT, Int.reduceSub, Int.reduceAdd, Int.reduceMul, Int.reduceLT, Int.reduceLE, Int.reduceToNat, optI, aslice, cutSl, cutMs, cutStr, cutOwn, cellsOf, one, elCells, lenOf, beqV, beqVL, strip, stripO, convS]) | ((first | rw [WP_condK] | rw [WP_opsG] | rw [WP_quiG] | rw [WP_dG]); refine And.intro (fun hb => ?_) (fun hb => ?_) <;> (first | have hd := dq1 hb | have hd := dq2 hb | have hd := dq3 hb | have hd := dq4 hb | skip)))
  · first | have hb := hb | have hb := trivial
    repeat' (first | (simp -implicitDefEqProofs (disch := omega) only [hb, F43, appV, setEls, elemsOf, stripEl, elFits, List.replicate_succ, List.replicate_zero, hf, hf1, hb0, hfl, wC, initE, aop, Nat.reduceEqDiff, ↓reduceIte, Nat.reduceAdd, finish, resOf, tupOf, AM.freeze, freeze1, freezeL, closed, nam, namL, if_true, if_false, deref, boxAt, exAt, ldCells, oneL, oneCell, Nat.reduceLeDiff, evL, adopt, rigid, rigidL, trim, Int.reduceEq, Int.reduceMod, Int.reduceDiv, if_pos, if_neg, asI, forall_const, implies_true, chkD, chkO, chkW, effB, reB, vEq, beq_self_eq_true, Nat.reduceSub, Nat.reduceLT, Int.reduceSub, Int.reduceAdd, Int.reduceMul, Int.reduceLT, Int.reduceLE, Int.reduceToNat, optI, aslice, cutSl, cutMs, cutStr, cutOwn, cellsOf, one, elCells, lenOf, beqV, beqVL, strip, stripO, convS]) | ((first | rw [WP_condK] | rw [WP_opsG] | rw [WP_quiG] | rw [WP_dG]); refine And.intro (fun hb => ?_) (fun hb => ?_) <;> (first | have hd := dq1 hb | have hd := dq2 hb | have hd := dq3 hb | have hd := dq4 hb | skip)))
    refine hpd _ [.row none 1] _ _ _ rfl rfl rfl (by simp) ?_
    intro e' pre' g0 g1 g9
    generalize (if b.length % 136 = 135 then (6 : Int) else 0) = x6 at hx hgl
    generalize (if b.length % 136 = 135 then (134 : Int) else 128) = x7 at hx hset
    first | have hb := hb | have hb := trivial
    repeat' (first | (simp -implicitDefEqProofs (disch := omega) only [hb, g0, g1, g9, hgl, hx, hset, call_All, z49_eq, z25_eq, htl, hto, htT, hts, h0l, app_app, wC, initE, aop, Nat.reduceEqDiff, ↓reduceIte, Nat.reduceAdd, finish, resOf, tupOf, AM.freeze, freeze1, freezeL, closed, nam, namL, if_true, if_false, deref, boxAt, exAt, ldCells, oneL, oneCell, Nat.reduceLeDiff, evL, adopt, rigid, rigidL, trim, Int.reduceEq, Int.reduceMod, Int.reduceDiv, if_pos, if_neg, asI, forall_const, implies_true, chkD, chkO, chkW, effB, reB, vEq, beq_self_eq_true, Nat.reduceSub, Nat.reduceLT, Int.reduceSub, Int.reduceAdd, Int.reduceMul, Int.reduceLT, Int.reduceLE, Int.reduceToNat, optI, aslice, cutSl, cutMs, cutStr, cutOwn, cellsOf, one, elCells, lenOf, beqV, beqVL, strip, stripO, convS]) | ((first | rw [WP_condK] | rw [WP_opsG] | rw [WP_quiG] | rw [WP_dG]); refine And.intro (fun hb => ?_) (fun hb => ?_) <;> (first | have hd := dq1 hb | have hd := dq2 hb | have hd := dq3 hb | have hd := dq4 hb | skip)))
    refine blks_ok (kPadL b) hMB (b.length / 136 + 1) hML (by rw [hPL]; omega) pre'.length _ _ rfl _ _ pre' _ rfl g0 g1 (by rw [hPL]; exact g9) rfl rfl rfl rfl ?_
    intro e2 q0 q1 q10 q11
    rw [hfold]
    have hel := kEnd_len hks0
    have hend : k32.map (kByte (kEnd (kTake b))) = kSum b := rfl
    generalize kEnd (kTake b) = s at hel hend ⊢
    first | have hb := hb | have hb := trivial
    repeat' (first | (simp -implicitDefEqProofs (disch := omega) only [hb, q0, q1, q10, q11, app_app, wC, initE, aop, Nat.reduceEqDiff, ↓reduceIte, Nat.reduceAdd, finish, resOf, tupOf, AM.freeze, freeze1, freezeL, closed, nam, namL, if_true, if_false, deref, boxAt, exAt, ldCells, oneL, oneCell, Nat.reduceLeDiff, evL, adopt, rigid, rigidL, trim, Int.reduceEq, Int.reduceMod, Int.reduceDiv, if_pos, if_neg, asI, forall_const, implies_true, chkD, chkO, chkW, effB, reB, vEq, beq_self_eq_true, Nat.reduceSub, Nat.reduceLT, Int.reduceSub, Int.reduceAdd, Int.reduceMul, Int.reduceLT, Int.reduceLE, Int.reduceToNat, optI, aslice, cutSl, cutMs, cutStr, cutOwn, cellsOf, one, elCells, lenOf, beqV, beqVL, strip, stripO, convS]) | ((first | rw [WP_condK] | rw [WP_opsG] | rw [WP_quiG] | rw [WP_dG]); refine And.intro (fun hb => ?_) (fun hb => ?_) <;> (first | have hd := dq1 hb | have hd := dq2 hb | have hd := dq3 hb | have hd := dq4 hb | skip)))
    refine k_roll ?_
    rw [trim_off]
    first | have hb := hb | have hb := trivial
    repeat' (first | (simp -implicitDefEqProofs (disch := omega) only [hb, L43_1, q0, q1, q10, q11, wC, initE, aop, Nat.reduceEqDiff, ↓reduceIte, Nat.reduceAdd, finish, resOf, tupOf, AM.freeze, freeze1, freezeL, closed, nam, namL, if_true, if_false, deref, boxAt, exAt, ldCells, oneL, oneCell, Nat.reduceLeDiff, evL, adopt, rigid, rigidL, trim, Int.reduceEq, Int.reduceMod, Int.reduceDiv, if_pos, if_neg, asI, forall_const, implies_true, chkD, chkO, chkW, effB, reB, vEq, beq_self_eq_true, Nat.reduceSub, Nat.reduceLT, Int.reduceSub, Int.reduceAdd, Int.reduceMul, Int.reduceLT, Int.reduceLE, Int.reduceToNat, optI, aslice, cutSl, cutMs, cutStr, cutOwn, cellsOf, one, elCells, lenOf, beqV, beqVL, strip, stripO, convS]) | ((first | rw [WP_condK] | rw [WP_opsG] | rw [WP_quiG] | rw [WP_dG]); refine And.intro (fun hb => ?_) (fun hb => ?_) <;> (first | have hd := dq1 hb | have hd := dq2 hb | have hd := dq3 hb | have hd := dq4 hb | skip)))
    refine out_in s hel (pre'.length + 2) (pre'.length + 3) _ _ rfl (pre'.length + 1) _ _ (pre' ++ [.vec ((kPadL b).map u8), .cells tabC, .cells (wv s)]) _ (by simp) (by rw [get_app]; rfl) rfl rfl rfl rfl rfl rfl (by simp) ?_
    intro e3 p0 p1 p10 p11 p14
    rw [hend] at p14
    first | have hb := hb | have hb := trivial
    repeat' (first | (simp -implicitDefEqProofs (disch := omega) only [hb, p0, p1, p10, p11, p14, q0, q1, wC, initE, aop, Nat.reduceEqDiff, ↓reduceIte, Nat.reduceAdd, finish, resOf, tupOf, AM.freeze, freeze1, freezeL, closed, nam, namL, if_true, if_false, deref, boxAt, exAt, ldCells, oneL, oneCell, Nat.reduceLeDiff, evL, adopt, rigid, rigidL, trim, Int.reduceEq, Int.reduceMod, Int.reduceDiv, if_pos, if_neg, asI, forall_const, implies_true, chkD, chkO, chkW, effB, reB, vEq, beq_self_eq_true, Nat.reduceSub, Nat.reduceLT, Int.reduceSub, Int.reduceAdd, Int.reduceMul, Int.reduceLT, Int.reduceLE, Int.reduceToNat, optI, aslice, cutSl, cutMs, cutStr, cutOwn, cellsOf, one, elCells, lenOf, beqV, beqVL, strip, stripO, convS]) | ((first | rw [WP_condK] | rw [WP_opsG] | rw [WP_quiG] | rw [WP_dG]); refine And.intro (fun hb => ?_) (fun hb => ?_) <;> (first | have hd := dq1 hb | have hd := dq2 hb | have hd := dq3 hb | have hd := dq4 hb | skip)))
    refine ⟨0, by omega, ?_⟩
    refine k_roll ?_
    rw [trim_off]
    have hrow : (pre' ++ [AObj.vec ((kPadL b).map u8), AObj.cells tabC, AObj.cells (wv s)] ++ [AObj.row none 32])[pre'.length + 3]? = some (.row none 32) := by rw [List.append_assoc, get_app]; rfl
    first | have hb := hb | have hb := trivial
    repeat' (first | (simp -implicitDefEqProofs (disch := omega) only [hb, L43_1, p0, p1, p10, p11, p14, hl32, hcl, hrow, wC, initE, aop, Nat.reduceEqDiff, ↓reduceIte, Nat.reduceAdd, finish, resOf, tupOf, AM.freeze, freeze1, freezeL, closed, nam, namL, if_true, if_false, deref, boxAt, exAt, ldCells, oneL, oneCell, Nat.reduceLeDiff, evL, adopt, rigid, rigidL, trim, Int.reduceEq, Int.reduceMod, Int.reduceDiv, if_pos, if_neg, asI, forall_const, implies_true, chkD, chkO, chkW, effB, reB, vEq, beq_self_eq_true, Nat.reduceSub, Nat.reduceLT, Int.reduceSub, Int.reduceAdd, Int.reduceMul, Int.reduceLT, Int.reduceLE, Int.reduceToNat, optI, aslice, cutSl, cutMs, cutStr, cutOwn, cellsOf, one, elCells, lenOf, beqV, beqVL, strip, stripO, convS]) | ((first | rw [WP_condK] | rw [WP_opsG] | rw [WP_quiG] | rw [WP_dG]); refine And.intro (fun hb => ?_) (fun hb => ?_) <;> (first | have hd := dq1 hb | have hd := dq2 hb | have hd := dq3 hb | have hd := dq4 hb | skip)))
/-- a call of Out, at bytes that name nothing -/
theorem call_out (o : AOwn) (b : List Int) (hb : Bytes b) (hn : b.length ≤ 140737488353000) (ho : stripO o = .none ∨ stripO o = .full) (h : Heap) : ag T 43 [i64 32, i64 136, u8 6, .slice o none (b.map u8)] h = some (.slice (.tok h.length) none ((kSum b).map u8), h ++ [.row none 32]) := by
  have hcl := u8_closed b
  have := call_pure (T := T) (h := h) (args := [i64 32, i64 136, u8 6, .slice o none (b.map u8)]) rfl t43 rfl rfl (by
    simp only [List.map_cons, List.map_nil, strip]
    rcases ho with ho | ho <;> rw [ho] <;> simp only [closedL, namL, nam, Bool.true_and, Bool.and_true] at hcl ⊢ <;> exact hcl) (by
    simp only [List.map_cons, List.map_nil, strip]
    exact out_ok _ b hb hn)
  rw [this]
  simp only [AM.adopt, List.length_map, kSum_len]
theorem rsum_ok (o : AOwn) (b : List Int) (hb : Bytes b) (hn : b.length ≤ 140737488353000) (ho : stripO o = .none ∨ stripO o = .full) : prun T F20 [.slice o none (b.map u8)] = some (.agg ((kSum b).map u8)) := by
  refine WP_eq (prun_wp ?_)
  have hcall := call_out o b hb hn ho
  have hS : (kSum b).length = 32 := kSum_len b
  generalize kSum b = S at hcall hS ⊢
  have hc := u8_closed S
  have hst : (S.map u8).map strip = S.map u8 := by rw [List.map_map]; rfl
  have h1 := oneL_u8 S
  first | have hb := hb | have hb := trivial
  repeat' (first | (simp -implicitDefEqProofs (disch := omega) only [hb, F20, hcall, z32_eq, wC, initE, aop, Nat.reduceEqDiff, ↓reduceIte, Nat.reduceAdd, finish, resOf, tupOf, AM.freeze, freeze1, freezeL, closed, nam, namL, if_true, if_false, deref, boxAt, exAt, ldCells, oneL, oneCell, Nat.reduceLeDiff, evL, adopt, rigid, rigidL, trim, Int.reduceEq, Int.reduceMod, Int.reduceDiv, if_pos, if_neg, asI, forall_const, implies_true, chkD, chkO, chkW, effB, reB, vEq, beq_self_eq_true, Nat.reduceSub, Nat.reduceLT, Int.reduceSub, Int.reduceAdd, Int.reduceMul, Int.reduceLT, Int.reduceLE, Int.reduceToNat, optI, aslice, cutSl, cutMs, cutStr, cutOwn, cellsOf, one, elCells, lenOf, beqV, beqVL, strip, stripO, convS]) | ((first | rw [WP_condK] | rw [WP_opsG] | rw [WP_quiG] | rw [WP_dG]); refine And.intro (fun hb => ?_) (fun hb => ?_) <;> (first | have hd := dq1 hb | have hd := dq2 hb | have hd := dq3 hb | have hd := dq4 hb | skip)))
  refine WP_loop (I := fun n e h => ∃ i, i ≤ 32 ∧ n = 32 - i ∧ getE e 2 = .ptr 0 0 ∧ getE e 3 = .ptr 1 0 ∧ getE e 4 = .slice (.tok 2) none (S.map u8) ∧ getE e 5 = i64 i ∧ h = [Z32, .cells ((S.take i).map u8 ++ List.replicate (32 - i) (u8 0)), .row none 32]) ?_ 32 _ _ ⟨0, by omega, rfl, rfl, rfl, rfl, rfl, rfl⟩
  rintro n e h ⟨i, hi, rfl, h2, h3, h4, h5, rfl⟩
  have b4 : below 3 (.slice (.tok 2) none (S.map u8)) = true := by
    have := closed_below' 3 (.slice .none none (S.map u8)) (by simp only [closed, nam, Bool.true_and]; exact hc)
    simp only [below, nam, Bool.true_and] at this ⊢
    rw [this]; rfl
  have bc : namL (fun x => decide (x < 3)) ((S.take i).map u8 ++ List.replicate (32 - i) (u8 0)) = true := by
    rw [namL_app]
    have r1 : namL (fun x => decide (x < 3)) ((S.take i).map u8) = true := namL_imp (fun _ h => by cases h) _ (u8_closed (S.take i))
    have r2 : ∀ k, namL (fun x => decide (x < 3)) (List.replicate k (u8 0)) = true := fun k => by
      induction k with
      | zero => rfl
      | succ k ih => rw [List.replicate_succ]; exact ih
    rw [r1, r2]; rfl
  rw [trim_take (by simp only [List.all_cons, List.all_nil, h2, h3, h4, h5, b4]; rfl) (by simp only [List.take_succ_cons, List.take_zero, List.all_cons, List.all_nil, belowO, belowL, bc, Bool.and_true]; rfl)]
  have hlen : ((S.take i).map u8 ++ List.replicate (32 - i) (u8 0)).length = 32 := by simp; omega
  by_cases hlt : i < 32
  · have hg := get_u8 (l := S) (i := i) (by omega)
    have hset : ((S.take i).map u8 ++ List.replicate (32 - i) (u8 0)).set i (u8 (S[i]'(by omega))) = (S.take (i + 1)).map u8 ++ List.replicate (32 - (i + 1)) (u8 0) := by
      rw [List.set_append_right _ _ (by simp; omega)]
      have e1 : (i - ((S.take i).map u8).length) = 0 := by simp; omega
      rw [e1, List.take_succ_eq_append_getElem (by omega), show 32 - i = (32 - (i + 1)) + 1 by omega, List.replicate_succ, List.set_cons_zero, List.map_append, List.append_assoc]
      rfl
    first | have hb := hb | have hb := trivial
    repeat' (first | (simp -implicitDefEqProofs (disch := omega) only [hb, L20_0, h2, h3, h4, h5, hg, hset, hlen, wC, initE, aop, Nat.reduceEqDiff, ↓reduceIte, Nat.reduceAdd, finish, resOf, tupOf, AM.freeze, freeze1, freezeL, closed, nam, namL, if_true, if_false, deref, boxAt, exAt, ldCells, oneL, oneCell, Nat.reduceLeDiff, evL, adopt, rigid, rigidL, trim, Int.reduceEq, Int.reduceMod, Int.reduceDiv, if_pos, if_neg, asI, forall_const, implies_true, chkD, chkO, chkW, effB, reB, vEq, beq_self_eq_true, Nat.reduceSub, Nat.reduceLT, Int.reduceSub, Int.reduceAdd, Int.reduceMul, Int.reduceLT, Int.reduceLE, Int.reduceToNat, optI, aslice, cutSl, cutMs, cutStr, cutOwn, cellsOf, one, elCells, lenOf, beqV, beqVL, strip, stripO, convS]) | ((first | rw [WP_condK] | rw [WP_opsG] | rw [WP_quiG] | rw [WP_dG]); refine And.intro (fun hb => ?_) (fun hb => ?_) <;> (first | have hd := dq1 hb | have hd := dq2 hb | have hd := dq3 hb | have hd := dq4 hb | skip)))
    exact ⟨32 - (i + 1), by omega, i + 1, by omega, rfl, rfl, rfl⟩
  · obtain rfl : i = 32 := by omega
    have hT : S.take 32 = S := List.take_of_length_le (by omega)
    rw [hT] at hlen ⊢
    rw [show List.replicate (32 - 32) (u8 0) = [] from rfl, List.append_nil] at hlen ⊢
    have hTm : List.take 32 (S.map u8) = S.map u8 := List.take_of_length_le (by omega)
    have hsp : splice (List.replicate 32 (AV.int .u8 0)) 0 (S.map u8) = S.map u8 := splice_all (by rw [hlen]; rfl)
    first | have hb := hb | have hb := trivial
    repeat' (first | (simp -implicitDefEqProofs (disch := omega) only [hb, L20_0, h2, h3, h4, h5, Z32, hTm, hlen, h1, hsp, hc, wC, initE, aop, Nat.reduceEqDiff, ↓reduceIte, Nat.reduceAdd, finish, resOf, tupOf, AM.freeze, freeze1, freezeL, closed, nam, namL, if_true, if_false, deref, boxAt, exAt, ldCells, oneL, oneCell, Nat.reduceLeDiff, evL, adopt, rigid, rigidL, trim, Int.reduceEq, Int.reduceMod, Int.reduceDiv, if_pos, if_neg, asI, forall_const, implies_true, chkD, chkO, chkW, effB, reB, vEq, beq_self_eq_true, Nat.reduceSub, Nat.reduceLT, Int.reduceSub, Int.reduceAdd, Int.reduceMul, Int.reduceLT, Int.reduceLE, Int.reduceToNat, optI, aslice, cutSl, cutMs, cutStr, cutOwn, cellsOf, one, elCells, lenOf, beqV, beqVL, strip, stripO, convS]) | ((first | rw [WP_condK] | rw [WP_opsG] | rw [WP_quiG] | rw [WP_dG]); refine And.intro (fun hb => ?_) (fun hb => ?_) <;> (first | have hd := dq1 hb | have hd := dq2 hb | have hd := dq3 hb | have hd := dq4 hb | skip)))
    rw [hst]
    exact ⟨hc, rfl⟩
end Go.Proofs.Ytipbmacpenmgoaa.AM

/- The digests, as they are called; and as contracts that the kernel can reckon. -/
namespace Go.Proofs.Ytipbmacpenmgoaa.AM
open Go
set_option maxRecDepth 100000
set_option linter.unusedVariables false
set_option linter.unusedSimpArgs false
/-- a part's bytes -/
def partB : AV → Option (List Int)
  | .slice _ none els => byteEls els
  | .sc (.slice none 0 0) => some []
  | _ => none
def okB (l : List Int) : Bool := l.all (fun c => decide (0 ≤ c) && decide (c ≤ 255)) && decide (l.length ≤ 140737488351232)
def partsB : List AV → Option (List (List Int))
  | [] => some []
  | x :: r => (partB x).bind fun l => if okB l then (partsB r).map (l :: ·) else none
theorem okB_spec {l : List Int} (h : okB l = true) : Bytes l ∧ l.length ≤ 140737488351232 := by
  simp only [okB, Bool.and_eq_true, List.all_eq_true, decide_eq_true_eq] at h
  exact h
theorem byteEls_inv : ∀ {els : List AV} {l : List Int}, byteEls els = some l → els = l.map u8
  | [], l, h => by simp only [byteEls] at h; cases h; rfl
  | x :: r, l, h => by
    unfold byteEls at h
    split at h
    · rename_i heq; cases heq
    · rename_i n r' heq
      cases heq
      rw [Option.map_eq_some_iff] at h
      obtain ⟨l', h1, rfl⟩ := h
      rw [byteEls_inv h1]; rfl
    · cases h
theorem partsB_spec : ∀ {xs : List AV} {ls : List (List Int)}, partsB xs = some ls → closedL xs = true → PartsR xs ls
  | [], ls, h, _ => by simp only [partsB] at h; cases h; exact ⟨rfl, fun i hi => by simp at hi⟩
  | x :: r, ls, h, hc => by
    simp only [partsB, Option.bind_eq_some_iff] at h
    obtain ⟨l, h1, h⟩ := h
    split at h
    · rename_i hok
      rw [Option.map_eq_some_iff] at h
      obtain ⟨ls', h2, rfl⟩ := h
      simp only [closedL, namL, Bool.and_eq_true] at hc
      have ih := partsB_spec h2 hc.2
      obtain ⟨k1, k2⟩ := okB_spec hok
      refine ⟨by simp [ih.len], fun i hi hj => ?_⟩
      cases i with
      | zero =>
        refine ⟨k1, k2, hc.1, ?_⟩
        unfold partB at h1
        split at h1
        · rename_i o els; left; exact ⟨o, by rw [byteEls_inv h1]; rfl⟩
        · cases h1; exact .inr ⟨rfl, rfl⟩
        · cases h1
      | succ i => exact ih.at_ i (by simpa using hi) (by simpa using hj)
    · cases h
/-- the digest, for the kernel -/
def sumN (l : List Int) : AV := .agg (((nSum (l.map Int.toNat)).map Int.ofNat).map u8)
theorem sumN_eq {l : List Int} (h : Bytes l) : sumN l = .agg ((kSum l).map u8) := by
  rw [sumN, kSum_nSum l fun b hb => ⟨(h b hb).1, by have := (h b hb).2; omega⟩]
theorem flatP_bytes {xs : List AV} {ls : List (List Int)} (h : PartsR xs ls) : Bytes ls.flatten := by
  intro c hc
  rw [List.mem_flatten] at hc
  obtain ⟨l, hl, hc⟩ := hc
  obtain ⟨i, hi, rfl⟩ := List.mem_iff_getElem.1 hl
  exact (h.at_ i (by rw [← h.len]; exact hi) hi).bytes c hc
def sumG (els : List AV) : Option AV := if closedL els && decide (els.length ≤ 140737488351232) then (partsB els).map fun ls => sumN ls.flatten else none
def sumX : List AV → Option AV
  | [.slice .none none els] => sumG els
  | [.slice .full none els] => sumG els
  | _ => none
def rsumG (els : List AV) : Option AV := (byteEls els).bind fun l => if okB l then some (sumN l) else none
def rsumX : List AV → Option AV
  | [.slice .none none els] => rsumG els
  | [.slice .full none els] => rsumG els
  | _ => none
theorem sumG_ok {els : List AV} {v : AV} (h : sumG els = some v) (o : AOwn) (ho : o = .none ∨ o = .full) : prun T F17 [.slice o none els] = some v := by
  unfold sumG at h
  split at h
  · rename_i hc
    simp only [Bool.and_eq_true, decide_eq_true_eq] at hc
    rw [Option.map_eq_some_iff] at h
    obtain ⟨ls, h1, rfl⟩ := h
    have hp := partsB_spec h1 hc.1
    rw [sumN_eq (flatP_bytes hp)]
    refine sum_ok els ls hp o ?_ hc.2
    rcases ho with rfl | rfl <;> simp only [closed, nam, Bool.true_and] <;> exact hc.1
  · cases h
theorem rsumG_ok {els : List AV} {v : AV} (h : rsumG els = some v) (o : AOwn) (ho : o = .none ∨ o = .full) : prun T F20 [.slice o none els] = some v := by
  simp only [rsumG, Option.bind_eq_some_iff] at h
  obtain ⟨l, h1, h⟩ := h
  split at h
  · rename_i hok
    cases h
    obtain ⟨k1, k2⟩ := okB_spec hok
    rw [byteEls_inv h1, sumN_eq k1]
    refine rsum_ok o l k1 (by omega) ?_
    rcases ho with rfl | rfl
    · exact .inl rfl
    · exact .inr rfl
  · cases h
theorem sumX_ok {a : List AV} {v : AV} (h : sumX a = some v) : prun T F17 a = some v := by
  unfold sumX at h
  split at h
  · exact sumG_ok h _ (.inl rfl)
  · exact sumG_ok h _ (.inr rfl)
  · cases h
theorem rsumX_ok {a : List AV} {v : AV} (h : rsumX a = some v) : prun T F20 a = some v := by
  unfold rsumX at h
  split at h
  · exact rsumG_ok h _ (.inl rfl)
  · exact rsumG_ok h _ (.inr rfl)
  · cases h
theorem kfzL_len (h : Heap) : ∀ {l r : List AV}, fzL h l = some r → r.length = l.length
  | [], r, hh => by simp only [fzL] at hh; cases hh; rfl
  | x :: l, r, hh => by
    simp only [fzL, Option.bind_eq_some_iff, Option.map_eq_some_iff] at hh
    obtain ⟨y, _, z, h1, rfl⟩ := hh
    simp [kfzL_len h h1]
theorem prep_len {h : Heap} {l r : List AV} {b : Bool} (hh : prep h l = some (r, b)) : r.length = l.length := by
  unfold prep at hh
  split at hh
  · cases hh; simp
  · split at hh
    · cases hh; simp
    · split at hh
      · cases hh; simp
      · rw [Option.map_eq_some_iff] at hh
        obtain ⟨a, h1, h2⟩ := hh
        cases h2
        exact kfzL_len h h1
theorem pcall_ole {f : Nat} {F : AFn} (hx : T.ext f = none) (hf : T.fn f = some F) (hp : F.pure = true) {g : List AV → Option AV} (hg : ∀ a v, g a = some v → a.length = F.np ∧ prun T F a = some v) (args : List AV) (h : Heap) : ole (pcall g args h) (ag T f args h) := by
  intro r hr
  have hr' := hr
  simp only [pcall, Option.bind_eq_some_iff] at hr
  obtain ⟨⟨a, b⟩, h1, v, h2, _⟩ := hr
  have hl := (hg a v h2).1
  rw [prep_len h1] at hl
  rw [ag_pure hx hf hp args hl]
  exact pcall_le (fun a w hw => (hg a w hw).2) args h r hr'
def sumsX (f : Nat) : Option (List AV → Option AV) := if f = 17 then some sumX else if f = 20 then some rsumX else none
theorem sumX_len {a : List AV} {v : AV} (h : sumX a = some v) : a.length = 1 := by
  unfold sumX at h
  split at h
  · rfl
  · rfl
  · cases h
theorem rsumX_len {a : List AV} {v : AV} (h : rsumX a = some v) : a.length = 1 := by
  unfold rsumX at h
  split at h
  · rfl
  · rfl
  · cases h
theorem sumsX_ok : ∀ f g, sumsX f = some g → T.pure f = true ∧ ∀ args h, ole (pcall g args h) (ag T f args h) := by
  intro f g h
  unfold sumsX at h
  split at h
  · rename_i hf
    cases h
    subst hf
    exact ⟨rfl, pcall_ole rfl t17 rfl fun a v hv => ⟨sumX_len hv, sumX_ok hv⟩⟩
  · split at h
    · rename_i hf
      cases h
      subst hf
      exact ⟨rfl, pcall_ole rfl t20 rfl fun a v hv => ⟨rsumX_len hv, rsumX_ok hv⟩⟩
    · cases h
/-- a run with the digests as contracts -/
theorem ag_of_sums {n f : Nat} {args : List AV} {h : Heap} {r : AV × Heap} (hr : gcall (Over T sumsX) n f args h = some r) : ag T f args h = some r := ag_of_over sumsX_ok hr
end Go.Proofs.Ytipbmacpenmgoaa.AM

/- layer 11: calls of a nil log. -/
namespace Go.Proofs.Ytipbmacpenmgoaa.AM
open Go
set_option maxRecDepth 100000
set_option linter.unusedVariables false
set_option linter.unusedSimpArgs false
theorem l_wp {f : Nat} {F : AFn} {args : List AV} {h : Heap} {Q : AV × Heap → Prop} (hx : T.ext f = none) (hf : T.fn f = some F) (hp : F.pure = false) (hl : args.length = F.np) (hw : WP (BQ (fin F.res) Q) (ax T F.body (initE 0 args) h)) : WP Q (ag T f args h) := by
  rw [ag_gen hx hf hp args hl, WP_bind]
  exact hw
theorem k_any {f : Nat} {F : AFn} {args : List AV} {v : Value} (hx : T.ext f = none) (hf : T.fn f = some F) (hp : F.pure = true) (hl : args.length = F.np) (hm : args.map strip = args) (hc : closedL args = true) (hr : ag T f args [] = some (.sc v, [])) (h : Heap) : ag T f args h = some (.sc v, h) := by
  rw [ag_pure hx hf hp args hl] at hr ⊢
  simp only [pcall, prep, hm, if_pos hc, Option.bind_some, Bool.false_eq_true, if_false, Option.bind_eq_some_iff] at hr ⊢
  obtain ⟨w, h1, h2⟩ := hr
  refine ⟨w, h1, ?_⟩
  unfold adopt at h2 ⊢
  split at h2
  · cases h2
  · cases h2
  · cases h2; rfl
theorem do_nil (f : AV) (h : Heap) : ag T 27 [.sc (.pointer none), f] h = some (i64 6, h) := by
  refine WP_eq (l_wp rfl t27 rfl rfl ?_)
  first | have hb := hb | have hb := trivial
  repeat' (first | (simp -implicitDefEqProofs (disch := omega) only [hb, F27, isNil, wC, initE, aop, Nat.reduceEqDiff, ↓reduceIte, Nat.reduceAdd, finish, resOf, tupOf, AM.freeze, freeze1, freezeL, closed, nam, namL, if_true, if_false, deref, boxAt, exAt, ldCells, oneL, oneCell, Nat.reduceLeDiff, evL, adopt, rigid, rigidL, trim, Int.reduceEq, Int.reduceMod, Int.reduceDiv, if_pos, if_neg, asI, forall_const, implies_true, chkD, chkO, chkW, effB, reB, vEq, beq_self_eq_true, Nat.reduceSub, Nat.reduceLT, Int.reduceSub, Int.reduceAdd, Int.reduceMul, Int.reduceLT, Int.reduceLE, Int.reduceToNat, optI, aslice, cutSl, cutMs, cutStr, cutOwn, cellsOf, one, elCells, lenOf, beqV, beqVL, strip, stripO, convS]) | ((first | rw [WP_condK] | rw [WP_opsG] | rw [WP_quiG] | rw [WP_dG]); refine And.intro (fun hb => ?_) (fun hb => ?_) <;> (first | have hd := dq1 hb | have hd := dq2 hb | have hd := dq3 hb | have hd := dq4 hb | skip)))
theorem append_nil (o : AOwn) (k : Option Nat) (l : List AV) (h : Heap) : ag T 12 [.sc (.pointer none), .slice o k l] h = some (i64 6, h ++ [.cells [.sc (.pointer none)], .cells [.slice o k l]]) := by
  refine WP_eq (l_wp rfl t12 rfl rfl ?_)
  have hd := do_nil
  first | have hb := hb | have hb := trivial
  repeat' (first | (simp -implicitDefEqProofs (disch := omega) only [hb, F12, hd, List.append_assoc, wC, initE, aop, Nat.reduceEqDiff, ↓reduceIte, Nat.reduceAdd, finish, resOf, tupOf, AM.freeze, freeze1, freezeL, closed, nam, namL, if_true, if_false, deref, boxAt, exAt, ldCells, oneL, oneCell, Nat.reduceLeDiff, evL, adopt, rigid, rigidL, trim, Int.reduceEq, Int.reduceMod, Int.reduceDiv, if_pos, if_neg, asI, forall_const, implies_true, chkD, chkO, chkW, effB, reB, vEq, beq_self_eq_true, Nat.reduceSub, Nat.reduceLT, Int.reduceSub, Int.reduceAdd, Int.reduceMul, Int.reduceLT, Int.reduceLE, Int.reduceToNat, optI, aslice, cutSl, cutMs, cutStr, cutOwn, cellsOf, one, elCells, lenOf, beqV, beqVL, strip, stripO, convS]) | ((first | rw [WP_condK] | rw [WP_opsG] | rw [WP_quiG] | rw [WP_dG]); refine And.intro (fun hb => ?_) (fun hb => ?_) <;> (first | have hd := dq1 hb | have hd := dq2 hb | have hd := dq3 hb | have hd := dq4 hb | skip)))
theorem sync_nil (h : Heap) : ag T 13 [.sc (.pointer none)] h = some (i64 6, h ++ [.cells [.sc (.pointer none)]]) := by
  refine WP_eq (l_wp rfl t13 rfl rfl ?_)
  have hd := do_nil
  first | have hb := hb | have hb := trivial
  repeat' (first | (simp -implicitDefEqProofs (disch := omega) only [hb, F13, hd, List.append_assoc, wC, initE, aop, Nat.reduceEqDiff, ↓reduceIte, Nat.reduceAdd, finish, resOf, tupOf, AM.freeze, freeze1, freezeL, closed, nam, namL, if_true, if_false, deref, boxAt, exAt, ldCells, oneL, oneCell, Nat.reduceLeDiff, evL, adopt, rigid, rigidL, trim, Int.reduceEq, Int.reduceMod, Int.reduceDiv, if_pos, if_neg, asI, forall_const, implies_true, chkD, chkO, chkW, effB, reB, vEq, beq_self_eq_true, Nat.reduceSub, Nat.reduceLT, Int.reduceSub, Int.reduceAdd, Int.reduceMul, Int.reduceLT, Int.reduceLE, Int.reduceToNat, optI, aslice, cutSl, cutMs, cutStr, cutOwn, cellsOf, one, elCells, lenOf, beqV, beqVL, strip, stripO, convS]) | ((first | rw [WP_condK] | rw [WP_opsG] | rw [WP_quiG] | rw [WP_dG]); refine And.intro (fun hb => ?_) (fun hb => ?_) <;> (first | have hd := dq1 hb | have hd := dq2 hb | have hd := dq3 hb | have hd := dq4 hb | skip)))
theorem rewrite_nil (o : AOwn) (k : Option Nat) (l : List AV) (h : Heap) : ag T 14 [.sc (.pointer none), .slice o k l] h = some (i64 6, h ++ [.cells [.sc (.pointer none)], .cells [.slice o k l]]) := by
  refine WP_eq (l_wp rfl t14 rfl rfl ?_)
  have hd := do_nil
  first | have hb := hb | have hb := trivial
  repeat' (first | (simp -implicitDefEqProofs (disch := omega) only [hb, F14, hd, List.append_assoc, wC, initE, aop, Nat.reduceEqDiff, ↓reduceIte, Nat.reduceAdd, finish, resOf, tupOf, AM.freeze, freeze1, freezeL, closed, nam, namL, if_true, if_false, deref, boxAt, exAt, ldCells, oneL, oneCell, Nat.reduceLeDiff, evL, adopt, rigid, rigidL, trim, Int.reduceEq, Int.reduceMod, Int.reduceDiv, if_pos, if_neg, asI, forall_const, implies_true, chkD, chkO, chkW, effB, reB, vEq, beq_self_eq_true, Nat.reduceSub, Nat.reduceLT, Int.reduceSub, Int.reduceAdd, Int.reduceMul, Int.reduceLT, Int.reduceLE, Int.reduceToNat, optI, aslice, cutSl, cutMs, cutStr, cutOwn, cellsOf, one, elCells, lenOf, beqV, beqVL, strip, stripO, convS]) | ((first | rw [WP_condK] | rw [WP_opsG] | rw [WP_quiG] | rw [WP_dG]); refine And.intro (fun hb => ?_) (fun hb => ?_) <;> (first | have hd := dq1 hb | have hd := dq2 hb | have hd := dq3 hb | have hd := dq4 hb | skip)))
theorem len_nil (h : Heap) : ag T 15 [.sc (.pointer none)] h = some (i64 0, h) := by
  refine WP_eq (l_wp rfl t15 rfl rfl ?_)
  first | have hb := hb | have hb := trivial
  repeat' (first | (simp -implicitDefEqProofs (disch := omega) only [hb, F15, isNil, wC, initE, aop, Nat.reduceEqDiff, ↓reduceIte, Nat.reduceAdd, finish, resOf, tupOf, AM.freeze, freeze1, freezeL, closed, nam, namL, if_true, if_false, deref, boxAt, exAt, ldCells, oneL, oneCell, Nat.reduceLeDiff, evL, adopt, rigid, rigidL, trim, Int.reduceEq, Int.reduceMod, Int.reduceDiv, if_pos, if_neg, asI, forall_const, implies_true, chkD, chkO, chkW, effB, reB, vEq, beq_self_eq_true, Nat.reduceSub, Nat.reduceLT, Int.reduceSub, Int.reduceAdd, Int.reduceMul, Int.reduceLT, Int.reduceLE, Int.reduceToNat, optI, aslice, cutSl, cutMs, cutStr, cutOwn, cellsOf, one, elCells, lenOf, beqV, beqVL, strip, stripO, convS]) | ((first | rw [WP_condK] | rw [WP_opsG] | rw [WP_quiG] | rw [WP_dG]); refine And.intro (fun hb => ?_) (fun hb => ?_) <;> (first | have hd := dq1 hb | have hd := dq2 hb | have hd := dq3 hb | have hd := dq4 hb | skip)))
theorem size_nil (h : Heap) : ag T 16 [.sc (.pointer none)] h = some (i64 0, h) := by
  refine WP_eq (l_wp rfl t16 rfl rfl ?_)
  first | have hb := hb | have hb := trivial
  repeat' (first | (simp -implicitDefEqProofs (disch := omega) only [hb, F16, isNil, wC, initE, aop, Nat.reduceEqDiff, ↓reduceIte, Nat.reduceAdd, finish, resOf, tupOf, AM.freeze, freeze1, freezeL, closed, nam, namL, if_true, if_false, deref, boxAt, exAt, ldCells, oneL, oneCell, Nat.reduceLeDiff, evL, adopt, rigid, rigidL, trim, Int.reduceEq, Int.reduceMod, Int.reduceDiv, if_pos, if_neg, asI, forall_const, implies_true, chkD, chkO, chkW, effB, reB, vEq, beq_self_eq_true, Nat.reduceSub, Nat.reduceLT, Int.reduceSub, Int.reduceAdd, Int.reduceMul, Int.reduceLT, Int.reduceLE, Int.reduceToNat, optI, aslice, cutSl, cutMs, cutStr, cutOwn, cellsOf, one, elCells, lenOf, beqV, beqVL, strip, stripO, convS]) | ((first | rw [WP_condK] | rw [WP_opsG] | rw [WP_quiG] | rw [WP_dG]); refine And.intro (fun hb => ?_) (fun hb => ?_) <;> (first | have hd := dq1 hb | have hd := dq2 hb | have hd := dq3 hb | have hd := dq4 hb | skip)))
end Go.Proofs.Ytipbmacpenmgoaa.AM

/- layer 11: numbers as bytes. -/
namespace Go.Proofs.Ytipbmacpenmgoaa.AM
open Go
set_option maxRecDepth 100000
set_option linter.unusedVariables false
set_option linter.unusedSimpArgs false
/-- a run that the kernel makes -/
theorem prun_run {F : AFn} {a : List AV} {v : AV} {n : Nat} (h : ((aexec (Cn T n) n F.body (initE 0 a) []).bind (finish F)).bind frz = some v) : prun T F a = some v := by
  rw [Option.bind_eq_some_iff] at h
  obtain ⟨p, h1, h2⟩ := h
  rw [Option.bind_eq_some_iff] at h1
  obtain ⟨r, h0, h1⟩ := h1
  have hr : ax T F.body (initE 0 a) [] = some r := (lim_iff (mono_ax F.body (initE 0 a) [])).2 ⟨n, h0⟩
  rw [prun_eq, hr, Option.bind_some, h1, Option.bind_some, h2]
def byteAt (x : Int) (j : Nat) : Int := IntKind.u8.wrap (x.fdiv (2 ^ (8 * j)))
def lowS (n : Nat) (x : Int) : List Int := (List.range n).map (byteAt x)
theorem byteAt_b (x : Int) (j : Nat) : 0 ≤ byteAt x j ∧ byteAt x j ≤ 255 := by
  unfold byteAt
  generalize x.fdiv (2 ^ (8 * j)) = y
  rw [IntKind.wrap_u8]
  omega
theorem lowS_bytes (n : Nat) (x : Int) : Bytes (lowS n x) := by
  intro c hc
  obtain ⟨j, _, rfl⟩ := List.mem_map.1 hc
  exact byteAt_b x j
theorem lowS_len (n : Nat) (x : Int) : (lowS n x).length = n := by simp [lowS]
theorem low8_ok (x : Int) : prun T F18 [i64 8, i64 x] = some (.slice .full none ((lowS 8 x).map u8)) := prun_run (n := 200) (by kernel_rfl)
theorem low4_ok (x : Int) : prun T F18 [i64 4, i64 x] = some (.slice .full none ((lowS 4 x).map u8)) := prun_run (n := 200) (by kernel_rfl)
theorem bytes8_ok (x : Int) : prun T F21 [u64 x] = some (.slice .fresh none ((lowS 8 x).map u8)) := prun_run (n := 200) (by kernel_rfl)
theorem call_low8 (x : Int) (h : Heap) : ag T 18 [i64 8, i64 x] h = some (.slice .full none ((lowS 8 x).map u8), h) :=
  call_pure (h := h) (args := [i64 8, i64 x]) rfl t18 rfl rfl rfl (low8_ok x)
theorem call_low4 (x : Int) (h : Heap) : ag T 18 [i64 4, i64 x] h = some (.slice .full none ((lowS 4 x).map u8), h) :=
  call_pure (h := h) (args := [i64 4, i64 x]) rfl t18 rfl rfl rfl (low4_ok x)
theorem call_bytes8 (x : Int) (h : Heap) : ag T 21 [u64 x] h = some (.slice (.tok h.length) none ((lowS 8 x).map u8), h ++ [.row none 8]) :=
  call_pure (h := h) (args := [u64 x]) rfl t21 rfl rfl rfl (bytes8_ok x)
end Go.Proofs.Ytipbmacpenmgoaa.AM

/- layer 11: three parts joined. -/
namespace Go.Proofs.Ytipbmacpenmgoaa.AM
open Go
set_option maxRecDepth 100000
set_option maxHeartbeats 4000000
set_option linter.unusedVariables false
set_option linter.unusedSimpArgs false
section
variable {H : Heap} {id : Nat} {D A B : List Int} {o o0 o2 : AOwn}
abbrev trio (o o0 o2 : AOwn) (id : Nat) (A B : List Int) : AV := .slice o none [.slice o0 none (A.map u8), .ms id 0 none 8, .slice o2 none (B.map u8)]
def sz3 (a b : Nat) (j : Nat) : Int := if j = 0 then 0 else if j = 1 then a else if j = 2 then (a + 8 : Nat) else (a + 8 + b : Nat)
def pre3 (A D B : List Int) (j : Nat) : List Int := if j = 0 then [] else if j = 1 then A else if j = 2 then A ++ D.take 8 else A ++ D.take 8 ++ B
theorem c3_size (hA : A.length ≤ 1000) (hB : B.length ≤ 70368744177664) (e : Env) (e0 : getE e 0 = trio o o0 o2 id A B) (e3 : getE e 3 = i64 0) (e9 : getE e 9 = trio o o0 o2 id A B) (e10 : getE e 10 = i64 3) (e11 : getE e 11 = i64 0) {Q : Res → Prop}
    (hQ : ∀ e', getE e' 0 = trio o o0 o2 id A B → getE e' 3 = i64 (A.length + 8 + B.length : Nat) → Q (.exit 0, e', H)) :
    WP Q (axl T [0, 3, 9, 10, 11] true L19_1 H.length e H) := by
  refine WP_loop (I := fun f e h' => ∃ j : Nat, f = 3 - j ∧ j ≤ 3 ∧ getE e 0 = trio o o0 o2 id A B ∧ getE e 3 = i64 (sz3 A.length B.length j) ∧ getE e 9 = trio o o0 o2 id A B ∧ getE e 10 = i64 3 ∧ getE e 11 = i64 j ∧ h' = H) ?_ 3 _ _
    ⟨0, rfl, by omega, e0, e3, e9, e10, e11, rfl⟩
  clear e0 e3 e9 e10 e11 e
  rintro f e h' ⟨j, rfl, hj, e0, e3, e9, e10, e11, rfl⟩
  rw [trim_same' (Nat.le_refl _)]
  rcases (by omega : j = 0 ∨ j = 1 ∨ j = 2 ∨ j = 3) with rfl | rfl | rfl | rfl
  · have e3 : getE e 3 = i64 0 := e3
    have e11 : getE e 11 = i64 0 := e11
    have hw : IntKind.i64.wrap (0 + (A.length : Int)) = A.length := by rw [IntKind.wrap_i64]; omega
    have hn : ¬ ((A.length : Int) < 0) := by omega
    first | have hb := hb | have hb := trivial
    repeat' (first | (simp -implicitDefEqProofs (disch := omega) only [hb, L19_1, e0, e3, e9, e10, e11, hw, hn, wC, initE, aop, Nat.reduceEqDiff, ↓reduceIte, Nat.reduceAdd, finish, resOf, tupOf, AM.freeze, freeze1, freezeL, closed, nam, namL, if_true, if_false, deref, boxAt, exAt, ldCells, oneL, oneCell, Nat.reduceLeDiff, evL, adopt, rigid, rigidL, trim, Int.reduceEq, Int.reduceMod, Int.reduceDiv, if_pos, if_neg, asI, forall_const, implies_true, chkD, chkO, chkW, effB, reB, vEq, beq_self_eq_true, Nat.reduceSub, Nat.reduceLT, Int.reduceSub, Int.reduceAdd, Int.reduceMul, Int.reduceLT, Int.reduceLE, Int.reduceToNat, optI, aslice, cutSl, cutMs, cutStr, cutOwn, cellsOf, one, elCells, lenOf, beqV, beqVL, strip, stripO, convS]) | ((first | rw [WP_condK] | rw [WP_opsG] | rw [WP_quiG] | rw [WP_dG]); refine And.intro (fun hb => ?_) (fun hb => ?_) <;> (first | have hd := dq1 hb | have hd := dq2 hb | have hd := dq3 hb | have hd := dq4 hb | skip)))
    exact ⟨2, by omega, 1, rfl, by omega, rfl, rfl⟩
  · have e3 : getE e 3 = i64 A.length := e3
    have e11 : getE e 11 = i64 1 := e11
    have hw : IntKind.i64.wrap ((A.length : Int) + 8) = (A.length + 8 : Nat) := by rw [IntKind.wrap_i64]; omega
    have hn : ¬ (((A.length + 8 : Nat) : Int) < 0) := by omega
    first | have hb := hb | have hb := trivial
    repeat' (first | (simp -implicitDefEqProofs (disch := omega) only [hb, L19_1, e0, e3, e9, e10, e11, hw, hn, wC, initE, aop, Nat.reduceEqDiff, ↓reduceIte, Nat.reduceAdd, finish, resOf, tupOf, AM.freeze, freeze1, freezeL, closed, nam, namL, if_true, if_false, deref, boxAt, exAt, ldCells, oneL, oneCell, Nat.reduceLeDiff, evL, adopt, rigid, rigidL, trim, Int.reduceEq, Int.reduceMod, Int.reduceDiv, if_pos, if_neg, asI, forall_const, implies_true, chkD, chkO, chkW, effB, reB, vEq, beq_self_eq_true, Nat.reduceSub, Nat.reduceLT, Int.reduceSub, Int.reduceAdd, Int.reduceMul, Int.reduceLT, Int.reduceLE, Int.reduceToNat, optI, aslice, cutSl, cutMs, cutStr, cutOwn, cellsOf, one, elCells, lenOf, beqV, beqVL, strip, stripO, convS]) | ((first | rw [WP_condK] | rw [WP_opsG] | rw [WP_quiG] | rw [WP_dG]); refine And.intro (fun hb => ?_) (fun hb => ?_) <;> (first | have hd := dq1 hb | have hd := dq2 hb | have hd := dq3 hb | have hd := dq4 hb | skip)))
    exact ⟨1, by omega, 2, rfl, by omega, rfl, rfl⟩
  · have e3 : getE e 3 = i64 (A.length + 8 : Nat) := e3
    have e11 : getE e 11 = i64 2 := e11
    have hw : IntKind.i64.wrap (((A.length + 8 : Nat) : Int) + (B.length : Int)) = (A.length + 8 + B.length : Nat) := by rw [IntKind.wrap_i64]; omega
    have hn : ¬ (((A.length + 8 + B.length : Nat) : Int) < 0) := by omega
    first | have hb := hb | have hb := trivial
    repeat' (first | (simp -implicitDefEqProofs (disch := omega) only [hb, L19_1, e0, e3, e9, e10, e11, hw, hn, wC, initE, aop, Nat.reduceEqDiff, ↓reduceIte, Nat.reduceAdd, finish, resOf, tupOf, AM.freeze, freeze1, freezeL, closed, nam, namL, if_true, if_false, deref, boxAt, exAt, ldCells, oneL, oneCell, Nat.reduceLeDiff, evL, adopt, rigid, rigidL, trim, Int.reduceEq, Int.reduceMod, Int.reduceDiv, if_pos, if_neg, asI, forall_const, implies_true, chkD, chkO, chkW, effB, reB, vEq, beq_self_eq_true, Nat.reduceSub, Nat.reduceLT, Int.reduceSub, Int.reduceAdd, Int.reduceMul, Int.reduceLT, Int.reduceLE, Int.reduceToNat, optI, aslice, cutSl, cutMs, cutStr, cutOwn, cellsOf, one, elCells, lenOf, beqV, beqVL, strip, stripO, convS]) | ((first | rw [WP_condK] | rw [WP_opsG] | rw [WP_quiG] | rw [WP_dG]); refine And.intro (fun hb => ?_) (fun hb => ?_) <;> (first | have hd := dq1 hb | have hd := dq2 hb | have hd := dq3 hb | have hd := dq4 hb | skip)))
    exact ⟨0, by omega, 3, rfl, by omega, rfl, rfl⟩
  · have e3 : getE e 3 = i64 (A.length + 8 + B.length : Nat) := e3
    have e11 : getE e 11 = i64 3 := e11
    first | have hb := hb | have hb := trivial
    repeat' (first | (simp -implicitDefEqProofs (disch := omega) only [hb, L19_1, e0, e3, e9, e10, e11, wC, initE, aop, Nat.reduceEqDiff, ↓reduceIte, Nat.reduceAdd, finish, resOf, tupOf, AM.freeze, freeze1, freezeL, closed, nam, namL, if_true, if_false, deref, boxAt, exAt, ldCells, oneL, oneCell, Nat.reduceLeDiff, evL, adopt, rigid, rigidL, trim, Int.reduceEq, Int.reduceMod, Int.reduceDiv, if_pos, if_neg, asI, forall_const, implies_true, chkD, chkO, chkW, effB, reB, vEq, beq_self_eq_true, Nat.reduceSub, Nat.reduceLT, Int.reduceSub, Int.reduceAdd, Int.reduceMul, Int.reduceLT, Int.reduceLE, Int.reduceToNat, optI, aslice, cutSl, cutMs, cutStr, cutOwn, cellsOf, one, elCells, lenOf, beqV, beqVL, strip, stripO, convS]) | ((first | rw [WP_condK] | rw [WP_opsG] | rw [WP_quiG] | rw [WP_dG]); refine And.intro (fun hb => ?_) (fun hb => ?_) <;> (first | have hd := dq1 hb | have hd := dq2 hb | have hd := dq3 hb | have hd := dq4 hb | skip)))
    exact hQ _ rfl rfl
theorem app_get (h : Heap) (l : List AObj) (x : AObj) (i : Nat) (hx : l[i]? = some x) : (h ++ l)[h.length + i]? = some x := by
  rw [List.getElem?_append_right (by omega), Nat.add_sub_cancel_left, hx]
theorem app_set (h : Heap) (l l' : List AObj) (i : Nat) (u : AObj) (hs : l.set i u = l') : (h ++ l).set (h.length + i) u = h ++ l' := by
  rw [List.set_append_right _ _ (by omega), Nat.add_sub_cancel_left, hs]
theorem c3_join (hid : H[id]? = some (.cells (D.map u8))) (hD : D.length = 32) (hA : A.length ≤ 1000) (hB : B.length ≤ 70368744177664) (e : Env) (e6 : getE e 6 = .slice (.tok (H.length + 1)) none []) (e25 : getE e 25 = trio o o0 o2 id A B) (e26 : getE e 26 = i64 3) (e27 : getE e 27 = i64 0) {Q : Res → Prop}
    (hQ : ∀ e', getE e' 6 = .slice (.tok (H.length + 1)) none ((A ++ D.take 8 ++ B).map u8) → Q (.exit 2, e', H ++ [.row none 1, .row none (A ++ D.take 8 ++ B).length])) :
    WP Q (axl T [6, 25, 26, 27] true L19_0 (H.length + 2) e (H ++ [.row none 1, .row none 0])) := by
  refine WP_loop (I := fun f e h' => ∃ j : Nat, f = 3 - j ∧ j ≤ 3 ∧ getE e 6 = .slice (.tok (H.length + 1)) none ((pre3 A D B j).map u8) ∧ getE e 25 = trio o o0 o2 id A B ∧ getE e 26 = i64 3 ∧ getE e 27 = i64 j ∧ h' = H ++ [.row none 1, .row none (pre3 A D B j).length]) ?_ 3 _ _
    ⟨0, rfl, by omega, e6, e25, e26, e27, rfl⟩
  clear e6 e25 e26 e27 e
  rintro f e h' ⟨j, rfl, hj, e6, e25, e26, e27, rfl⟩
  rw [trim_same' (by simp)]
  have hidl := (List.getElem?_eq_some_iff.1 hid).1
  have hg1 : ∀ a b, (H ++ [a, b])[H.length + 1]? = some b := fun a b => app_get _ _ _ 1 rfl
  have hs1 : ∀ a b u, (H ++ [a, b]).set (H.length + 1) u = H ++ [a, u] := fun a b u => app_set _ _ _ 1 u rfl
  have hi : ∀ l, (H ++ l)[id]? = some (.cells (D.map u8)) := fun l => by rw [List.getElem?_append_left hidl, hid]
  have hms : ∀ l, msEls (H ++ l) id 0 none 8 = some ((D.take 8).map u8) := fun l => by
    unfold msEls boxAt
    rw [hi]
    show (if 0 + 8 * 1 ≤ (D.map u8).length then some (((D.map u8).drop 0).take 8) else none) = _
    rw [if_pos (by rw [List.length_map]; omega), List.drop_zero, List.map_take]
  have h8 : (D.take 8).length = 8 := by rw [List.length_take]; omega
  rcases (by omega : j = 0 ∨ j = 1 ∨ j = 2 ∨ j = 3) with rfl | rfl | rfl | rfl
  · have e6 : getE e 6 = .slice (.tok (H.length + 1)) none [] := e6
    have e27 : getE e 27 = i64 0 := e27
    have hfit : fitsB (0 + A.length) 1 = true := fits_of (.inl (by omega))
    simp only [pre3, if_true, List.length_nil]
    first | have hb := hb | have hb := trivial
    repeat' (first | (simp -implicitDefEqProofs (disch := omega) only [hb, L19_0, e6, e25, e26, e27, aappend, elemsOf, hg1, hs1, hfit, wC, initE, aop, Nat.reduceEqDiff, ↓reduceIte, Nat.reduceAdd, finish, resOf, tupOf, AM.freeze, freeze1, freezeL, closed, nam, namL, if_true, if_false, deref, boxAt, exAt, ldCells, oneL, oneCell, Nat.reduceLeDiff, evL, adopt, rigid, rigidL, trim, Int.reduceEq, Int.reduceMod, Int.reduceDiv, if_pos, if_neg, asI, forall_const, implies_true, chkD, chkO, chkW, effB, reB, vEq, beq_self_eq_true, Nat.reduceSub, Nat.reduceLT, Int.reduceSub, Int.reduceAdd, Int.reduceMul, Int.reduceLT, Int.reduceLE, Int.reduceToNat, optI, aslice, cutSl, cutMs, cutStr, cutOwn, cellsOf, one, elCells, lenOf, beqV, beqVL, strip, stripO, convS]) | ((first | rw [WP_condK] | rw [WP_opsG] | rw [WP_quiG] | rw [WP_dG]); refine And.intro (fun hb => ?_) (fun hb => ?_) <;> (first | have hd := dq1 hb | have hd := dq2 hb | have hd := dq3 hb | have hd := dq4 hb | skip)))
    exact ⟨2, by omega, 1, rfl, by omega, rfl, rfl, rfl⟩
  · have e6 : getE e 6 = .slice (.tok (H.length + 1)) none (A.map u8) := e6
    have e27 : getE e 27 = i64 1 := e27
    have hfit : fitsB (A.length + 8) 1 = true := fits_of (.inl (by omega))
    have hp : pre3 A D B 1 = A := rfl
    rw [hp]
    first | have hb := hb | have hb := trivial
    repeat' (first | (simp -implicitDefEqProofs (disch := omega) only [hb, L19_0, e6, e25, e26, e27, aappend, elemsOf, hms, h8, hg1, hs1, hfit, wC, initE, aop, Nat.reduceEqDiff, ↓reduceIte, Nat.reduceAdd, finish, resOf, tupOf, AM.freeze, freeze1, freezeL, closed, nam, namL, if_true, if_false, deref, boxAt, exAt, ldCells, oneL, oneCell, Nat.reduceLeDiff, evL, adopt, rigid, rigidL, trim, Int.reduceEq, Int.reduceMod, Int.reduceDiv, if_pos, if_neg, asI, forall_const, implies_true, chkD, chkO, chkW, effB, reB, vEq, beq_self_eq_true, Nat.reduceSub, Nat.reduceLT, Int.reduceSub, Int.reduceAdd, Int.reduceMul, Int.reduceLT, Int.reduceLE, Int.reduceToNat, optI, aslice, cutSl, cutMs, cutStr, cutOwn, cellsOf, one, elCells, lenOf, beqV, beqVL, strip, stripO, convS]) | ((first | rw [WP_condK] | rw [WP_opsG] | rw [WP_quiG] | rw [WP_dG]); refine And.intro (fun hb => ?_) (fun hb => ?_) <;> (first | have hd := dq1 hb | have hd := dq2 hb | have hd := dq3 hb | have hd := dq4 hb | skip)))
    refine ⟨1, by omega, 2, rfl, by omega, ?_, rfl, ?_⟩
    · show _ = AV.slice _ _ ((A ++ D.take 8).map u8)
      rw [List.map_append]
    · show _ = H ++ [.row none 1, .row none (A ++ D.take 8).length]
      rw [List.length_append, h8]
  · have e6 : getE e 6 = .slice (.tok (H.length + 1)) none ((A ++ D.take 8).map u8) := e6
    have e27 : getE e 27 = i64 2 := e27
    have hp : pre3 A D B 2 = A ++ D.take 8 := rfl
    rw [hp]
    have hl2 : (A ++ D.take 8).length = A.length + 8 := by rw [List.length_append, h8]
    have hfit : fitsB ((A ++ D.take 8).length + B.length) 1 = true := fits_of (.inl (by omega))
    have hpr : pre3 A D B 3 = A ++ D.take 8 ++ B := rfl
    generalize A ++ D.take 8 = C at *
    first | have hb := hb | have hb := trivial
    repeat' (first | (simp -implicitDefEqProofs (disch := omega) only [hb, L19_0, e6, e25, e26, e27, aappend, elemsOf, hg1, hs1, hfit, wC, initE, aop, Nat.reduceEqDiff, ↓reduceIte, Nat.reduceAdd, finish, resOf, tupOf, AM.freeze, freeze1, freezeL, closed, nam, namL, if_true, if_false, deref, boxAt, exAt, ldCells, oneL, oneCell, Nat.reduceLeDiff, evL, adopt, rigid, rigidL, trim, Int.reduceEq, Int.reduceMod, Int.reduceDiv, if_pos, if_neg, asI, forall_const, implies_true, chkD, chkO, chkW, effB, reB, vEq, beq_self_eq_true, Nat.reduceSub, Nat.reduceLT, Int.reduceSub, Int.reduceAdd, Int.reduceMul, Int.reduceLT, Int.reduceLE, Int.reduceToNat, optI, aslice, cutSl, cutMs, cutStr, cutOwn, cellsOf, one, elCells, lenOf, beqV, beqVL, strip, stripO, convS]) | ((first | rw [WP_condK] | rw [WP_opsG] | rw [WP_quiG] | rw [WP_dG]); refine And.intro (fun hb => ?_) (fun hb => ?_) <;> (first | have hd := dq1 hb | have hd := dq2 hb | have hd := dq3 hb | have hd := dq4 hb | skip)))
    refine ⟨0, by omega, 3, rfl, by omega, ?_, rfl, ?_⟩
    · rw [hpr, List.map_append]
    · rw [hpr, List.length_append]
  · have e27 : getE e 27 = i64 3 := e27
    have e6 : getE e 6 = .slice (.tok (H.length + 1)) none ((A ++ D.take 8 ++ B).map u8) := e6
    have hp : pre3 A D B 3 = A ++ D.take 8 ++ B := rfl
    rw [hp]
    generalize A ++ D.take 8 ++ B = F at *
    first | have hb := hb | have hb := trivial
    repeat' (first | (simp -implicitDefEqProofs (disch := omega) only [hb, L19_0, e6, e25, e26, e27, wC, initE, aop, Nat.reduceEqDiff, ↓reduceIte, Nat.reduceAdd, finish, resOf, tupOf, AM.freeze, freeze1, freezeL, closed, nam, namL, if_true, if_false, deref, boxAt, exAt, ldCells, oneL, oneCell, Nat.reduceLeDiff, evL, adopt, rigid, rigidL, trim, Int.reduceEq, Int.reduceMod, Int.reduceDiv, if_pos, if_neg, asI, forall_const, implies_true, chkD, chkO, chkW, effB, reB, vEq, beq_self_eq_true, Nat.reduceSub, Nat.reduceLT, Int.reduceSub, Int.reduceAdd, Int.reduceMul, Int.reduceLT, Int.reduceLE, Int.reduceToNat, optI, aslice, cutSl, cutMs, cutStr, cutOwn, cellsOf, one, elCells, lenOf, beqV, beqVL, strip, stripO, convS]) | ((first | rw [WP_condK] | rw [WP_opsG] | rw [WP_quiG] | rw [WP_dG]); refine And.intro (fun hb => ?_) (fun hb => ?_) <;> (first | have hd := dq1 hb | have hd := dq2 hb | have hd := dq3 hb | have hd := dq4 hb | skip)))
    exact hQ _ rfl
theorem call_concat3 (hid : H[id]? = some (.cells (D.map u8))) (hD : D.length = 32) (hA : A.length ≤ 1000) (hB : B.length ≤ 70368744177664) :
    ag T 19 [trio o o0 o2 id A B] H = some (.slice (.tok (H.length + 1)) none ((A ++ D.take 8 ++ B).map u8), H ++ [.row none 1, .row none (A ++ D.take 8 ++ B).length]) := by
  refine WP_eq (l_wp rfl t19 rfl rfl ?_)
  first | have hb := hb | have hb := trivial
  repeat' (first | (simp -implicitDefEqProofs (disch := omega) only [hb, F19, wC, initE, aop, Nat.reduceEqDiff, ↓reduceIte, Nat.reduceAdd, finish, resOf, tupOf, AM.freeze, freeze1, freezeL, closed, nam, namL, if_true, if_false, deref, boxAt, exAt, ldCells, oneL, oneCell, Nat.reduceLeDiff, evL, adopt, rigid, rigidL, trim, Int.reduceEq, Int.reduceMod, Int.reduceDiv, if_pos, if_neg, asI, forall_const, implies_true, chkD, chkO, chkW, effB, reB, vEq, beq_self_eq_true, Nat.reduceSub, Nat.reduceLT, Int.reduceSub, Int.reduceAdd, Int.reduceMul, Int.reduceLT, Int.reduceLE, Int.reduceToNat, optI, aslice, cutSl, cutMs, cutStr, cutOwn, cellsOf, one, elCells, lenOf, beqV, beqVL, strip, stripO, convS]) | ((first | rw [WP_condK] | rw [WP_opsG] | rw [WP_quiG] | rw [WP_dG]); refine And.intro (fun hb => ?_) (fun hb => ?_) <;> (first | have hd := dq1 hb | have hd := dq2 hb | have hd := dq3 hb | have hd := dq4 hb | skip)))
  refine c3_size hA hB _ rfl rfl rfl rfl rfl (fun e' e0 e3 => ?_)
  have hgr : ag T 42 [.nil, i64 (A.length + 8 + B.length : Nat)] H = some (.slice (.tok (H.length + 1)) none [], H ++ [.row none 1, .row none 0]) := by
    rw [ag_nat rfl nf42 n42]
    have h0 : (0 : Int) ≤ (A.length + 8 + B.length : Nat) := Int.natCast_nonneg _
    have h1 : ((A.length + 8 + B.length : Nat) : Int) + ((0 : Nat) : Int) ≤ 140737488355328 := by omega
    have g1 : (H ++ [AObj.row none 0])[H.length]? = some (.row none 0) := app_get H [.row none 0] _ 0 rfl
    have s1 : (H ++ [AObj.row none 0]).set H.length (.row none 1) = H ++ [.row none 1] := app_set H [.row none 0] _ 0 _ rfl
    simp only [growG, growT, h0, g1, List.length_nil, true_and, h1, if_true, s1, List.append_assoc, List.length_append, List.length_cons]
    rfl
  first | have hb := hb | have hb := trivial
  repeat' (first | (simp -implicitDefEqProofs (disch := omega) only [hb, F19, e0, e3, hgr, wC, initE, aop, Nat.reduceEqDiff, ↓reduceIte, Nat.reduceAdd, finish, resOf, tupOf, AM.freeze, freeze1, freezeL, closed, nam, namL, if_true, if_false, deref, boxAt, exAt, ldCells, oneL, oneCell, Nat.reduceLeDiff, evL, adopt, rigid, rigidL, trim, Int.reduceEq, Int.reduceMod, Int.reduceDiv, if_pos, if_neg, asI, forall_const, implies_true, chkD, chkO, chkW, effB, reB, vEq, beq_self_eq_true, Nat.reduceSub, Nat.reduceLT, Int.reduceSub, Int.reduceAdd, Int.reduceMul, Int.reduceLT, Int.reduceLE, Int.reduceToNat, optI, aslice, cutSl, cutMs, cutStr, cutOwn, cellsOf, one, elCells, lenOf, beqV, beqVL, strip, stripO, convS]) | ((first | rw [WP_condK] | rw [WP_opsG] | rw [WP_quiG] | rw [WP_dG]); refine And.intro (fun hb => ?_) (fun hb => ?_) <;> (first | have hd := dq1 hb | have hd := dq2 hb | have hd := dq3 hb | have hd := dq4 hb | skip)))
  refine c3_join hid hD hA hB _ rfl rfl rfl rfl (fun e' e6 => ?_)
  have hFl : A.length + (D.take 8).length + B.length = (A ++ D.take 8 ++ B).length := by simp only [List.length_append]
  generalize A ++ D.take 8 ++ B = F at *
  first | have hb := hb | have hb := trivial
  repeat' (first | (simp -implicitDefEqProofs (disch := omega) only [hb, F19, e6, wC, initE, aop, Nat.reduceEqDiff, ↓reduceIte, Nat.reduceAdd, finish, resOf, tupOf, AM.freeze, freeze1, freezeL, closed, nam, namL, if_true, if_false, deref, boxAt, exAt, ldCells, oneL, oneCell, Nat.reduceLeDiff, evL, adopt, rigid, rigidL, trim, Int.reduceEq, Int.reduceMod, Int.reduceDiv, if_pos, if_neg, asI, forall_const, implies_true, chkD, chkO, chkW, effB, reB, vEq, beq_self_eq_true, Nat.reduceSub, Nat.reduceLT, Int.reduceSub, Int.reduceAdd, Int.reduceMul, Int.reduceLT, Int.reduceLE, Int.reduceToNat, optI, aslice, cutSl, cutMs, cutStr, cutOwn, cellsOf, one, elCells, lenOf, beqV, beqVL, strip, stripO, convS]) | ((first | rw [WP_condK] | rw [WP_opsG] | rw [WP_quiG] | rw [WP_dG]); refine And.intro (fun hb => ?_) (fun hb => ?_) <;> (first | have hd := dq1 hb | have hd := dq2 hb | have hd := dq3 hb | have hd := dq4 hb | skip)))
  rw [hFl]
end
end Go.Proofs.Ytipbmacpenmgoaa.AM

/- layer 11: records. -/
namespace Go.Proofs.Ytipbmacpenmgoaa.AM
open Go
set_option maxRecDepth 100000
set_option maxHeartbeats 4000000
set_option linter.unusedVariables false
set_option linter.unusedSimpArgs false
def logB : List Int := [108, 111, 103]
def recH (i : Int) (p : List Int) : List Int := kSum (logB ++ lowS 8 i ++ p)
def recS (i : Int) (p : List Int) : List Int := lowS 4 p.length ++ (recH i p).take 8 ++ p
theorem recH_len (i : Int) (p : List Int) : (recH i p).length = 32 := kSum_len _
theorem recS_len (i : Int) (p : List Int) : (recS i p).length = 12 + p.length := by
  simp only [recS, List.length_append, lowS_len, List.length_take, recH_len]
  omega
theorem logB_bytes : Bytes logB := fun c hc => by simp [logB] at hc; omega
theorem u8_namR (p : Nat → Bool) : ∀ l : List Int, namL p (l.map u8) = true
  | [] => rfl
  | x :: l => u8_namR p l
theorem oneL_u8I : ∀ (l : List Int), oneL (l.map u8) = true
  | [] => rfl
  | x :: l => by simp only [List.map_cons, oneL, oneL_u8I l, Bool.and_true]; rfl
def z32 : List AV := [AV.int .u8 0, AV.int .u8 0, AV.int .u8 0, AV.int .u8 0, AV.int .u8 0, AV.int .u8 0, AV.int .u8 0, AV.int .u8 0, AV.int .u8 0, AV.int .u8 0, AV.int .u8 0, AV.int .u8 0, AV.int .u8 0, AV.int .u8 0, AV.int .u8 0, AV.int .u8 0, AV.int .u8 0, AV.int .u8 0, AV.int .u8 0, AV.int .u8 0, AV.int .u8 0, AV.int .u8 0, AV.int .u8 0, AV.int .u8 0, AV.int .u8 0, AV.int .u8 0, AV.int .u8 0, AV.int .u8 0, AV.int .u8 0, AV.int .u8 0, AV.int .u8 0, AV.int .u8 0]
theorem rec_sum (i : Int) (p : List Int) (hp : Bytes p) (hl : p.length ≤ 65536) (o : AOwn) (ho : o = .none ∨ o = .full) (h : Heap) :
    ag T 17 [.slice .full none [.slice .full none [.int .u8 108, .int .u8 111, .int .u8 103], .slice .full none ((lowS 8 i).map u8), .slice o none (p.map u8)]] h = some (.agg ((recH i p).map u8), h) := by
  have h1 := u8_namR (fun _ => false) (lowS 8 i)
  have h2 := u8_namR (fun _ => false) p
  have hpr : PartsR [.slice .full none [.int .u8 108, .int .u8 111, .int .u8 103], .slice .full none ((lowS 8 i).map u8), .slice o none (p.map u8)] [logB, lowS 8 i, p] := by
    refine ⟨rfl, fun j hj hj2 => ?_⟩
    rcases (by simp at hj; omega : j = 0 ∨ j = 1 ∨ j = 2) with rfl | rfl | rfl
    · exact ⟨logB_bytes, by show (3 : Nat) ≤ _; omega, rfl, .inl ⟨.full, rfl⟩⟩
    · exact ⟨lowS_bytes _ _, by show (lowS 8 i).length ≤ _; rw [lowS_len]; omega, by show nam _ (AV.slice .full none ((lowS 8 i).map u8)) = true; simp only [nam, h1, Bool.and_self], .inl ⟨.full, rfl⟩⟩
    · refine ⟨hp, by show p.length ≤ _; omega, ?_, .inl ⟨o, rfl⟩⟩
      show nam _ (AV.slice o none (p.map u8)) = true
      rcases ho with rfl | rfl <;> simp only [nam, h2, Bool.and_self]
  have hcl : closedL [.slice .full none [.slice .full none [.int .u8 108, .int .u8 111, .int .u8 103], .slice .full none ((lowS 8 i).map u8), .slice o none (p.map u8)]] = true := by
    rcases ho with rfl | rfl <;> simp only [closedL, nam, namL, h1, h2, Bool.and_self]
  have hcl1 : closed (.slice .full none [.slice .full none [.int .u8 108, .int .u8 111, .int .u8 103], .slice .full none ((lowS 8 i).map u8), .slice o none (p.map u8)]) = true := by
    rcases ho with rfl | rfl <;> simp only [closed, nam, namL, h1, h2, Bool.and_self]
  have hs := sum_ok _ _ hpr .full hcl1 (by simp)
  have hfl : [logB, lowS 8 i, p].flatten = logB ++ lowS 8 i ++ p := by simp
  rw [hfl] at hs
  have hm : ([.slice .full none [.slice .full none [.int .u8 108, .int .u8 111, .int .u8 103], .slice .full none ((lowS 8 i).map u8), .slice o none (p.map u8)]] : List AV).map strip = [.slice .full none [.slice .full none [.int .u8 108, .int .u8 111, .int .u8 103], .slice .full none ((lowS 8 i).map u8), .slice o none (p.map u8)]] := by
    simp only [List.map_cons, List.map_nil, strip, stripO]
  unfold recH
  generalize kSum (logB ++ lowS 8 i ++ p) = K at *
  exact call_agg rfl t17 rfl rfl hm hcl hs
theorem record_long (i : Int) (p : List Int) (o : AOwn) (hl : 65536 < p.length) : prun T F6 [i64 i, .slice o none (p.map u8)] = some (.tup [.nil, i64 3]) := by
  refine WP_eq (prun_wp ?_)
  have h1 : (65536 : Int) < p.length := by omega
  first | have hb := hb | have hb := trivial
  repeat' (first | (simp -implicitDefEqProofs (disch := omega) only [hb, F6, h1, wC, initE, aop, Nat.reduceEqDiff, ↓reduceIte, Nat.reduceAdd, finish, resOf, tupOf, AM.freeze, freeze1, freezeL, closed, nam, namL, if_true, if_false, deref, boxAt, exAt, ldCells, oneL, oneCell, Nat.reduceLeDiff, evL, adopt, rigid, rigidL, trim, Int.reduceEq, Int.reduceMod, Int.reduceDiv, if_pos, if_neg, asI, forall_const, implies_true, chkD, chkO, chkW, effB, reB, vEq, beq_self_eq_true, Nat.reduceSub, Nat.reduceLT, Int.reduceSub, Int.reduceAdd, Int.reduceMul, Int.reduceLT, Int.reduceLE, Int.reduceToNat, optI, aslice, cutSl, cutMs, cutStr, cutOwn, cellsOf, one, elCells, lenOf, beqV, beqVL, strip, stripO, convS]) | ((first | rw [WP_condK] | rw [WP_opsG] | rw [WP_quiG] | rw [WP_dG]); refine And.intro (fun hb => ?_) (fun hb => ?_) <;> (first | have hd := dq1 hb | have hd := dq2 hb | have hd := dq3 hb | have hd := dq4 hb | skip)))
theorem record_neg (i : Int) (p : List Int) (o : AOwn) (hl : p.length ≤ 65536) (hi : i < 0) : prun T F6 [i64 i, .slice o none (p.map u8)] = some (.tup [.nil, i64 1]) := by
  refine WP_eq (prun_wp ?_)
  have h1 : ¬ (65536 : Int) < p.length := by omega
  first | have hb := hb | have hb := trivial
  repeat' (first | (simp -implicitDefEqProofs (disch := omega) only [hb, F6, h1, hi, wC, initE, aop, Nat.reduceEqDiff, ↓reduceIte, Nat.reduceAdd, finish, resOf, tupOf, AM.freeze, freeze1, freezeL, closed, nam, namL, if_true, if_false, deref, boxAt, exAt, ldCells, oneL, oneCell, Nat.reduceLeDiff, evL, adopt, rigid, rigidL, trim, Int.reduceEq, Int.reduceMod, Int.reduceDiv, if_pos, if_neg, asI, forall_const, implies_true, chkD, chkO, chkW, effB, reB, vEq, beq_self_eq_true, Nat.reduceSub, Nat.reduceLT, Int.reduceSub, Int.reduceAdd, Int.reduceMul, Int.reduceLT, Int.reduceLE, Int.reduceToNat, optI, aslice, cutSl, cutMs, cutStr, cutOwn, cellsOf, one, elCells, lenOf, beqV, beqVL, strip, stripO, convS]) | ((first | rw [WP_condK] | rw [WP_opsG] | rw [WP_quiG] | rw [WP_dG]); refine And.intro (fun hb => ?_) (fun hb => ?_) <;> (first | have hd := dq1 hb | have hd := dq2 hb | have hd := dq3 hb | have hd := dq4 hb | skip)))
theorem record_ok (i : Int) (p : List Int) (o : AOwn) (ho : o = .none ∨ o = .full) (hp : Bytes p) (hl : p.length ≤ 65536) (hi : 0 ≤ i) : prun T F6 [i64 i, .slice o none (p.map u8)] = some (.tup [.slice .fresh none ((recS i p).map u8), i64 0]) := by
  refine WP_eq (prun_wp ?_)
  have h1 : ¬ (65536 : Int) < p.length := by omega
  have h2 : ¬ i < 0 := by omega
  have h3 := call_low8 i
  have h4 := call_low4 p.length
  have h5 := rec_sum i p hp hl o ho
  have hD := recH_len i p
  have hlw := lowS_len 4 p.length
  have hc := fun (H : Heap) (hid : H[0]? = some (.cells ((recH i p).map u8))) => call_concat3 (id := 0) (o := .full) (o0 := .full) (o2 := o) (A := lowS 4 p.length) (B := p) hid hD (by rw [hlw]; omega) (by omega)
  have hS : (recH i p).length = 32 := hD
  have hrec : lowS 4 p.length ++ (recH i p).take 8 ++ p = recS i p := rfl
  simp only [hrec] at hc
  have hcl := u8_namR (fun _ => false) (recS i p)
  generalize recS i p = R at *
  generalize recH i p = D at *
  have hDm : (D.map u8).length = 32 := by rw [List.length_map, hD]
  have hc := hc [.cells (D.map u8)] rfl
  have hone := oneL_u8I D
  have hsp : splice z32 0 (D.map u8) = D.map u8 := splice_all (by rw [hDm]; rfl)
  unfold z32 at hsp
  simp only [List.length_singleton, List.singleton_append] at hc
  unfold trio at hc
  rcases ho with rfl | rfl
  · first | have hb := hb | have hb := trivial
    repeat' (first | (simp -implicitDefEqProofs (disch := omega) only [hb, F6, h1, h2, h3, h4, h5, hDm, hc, hcl, hone, hsp, setEls, elFits, stripEl, strip, stripO, List.replicate_succ, List.replicate_zero, wC, initE, aop, Nat.reduceEqDiff, ↓reduceIte, Nat.reduceAdd, finish, resOf, tupOf, AM.freeze, freeze1, freezeL, closed, nam, namL, if_true, if_false, deref, boxAt, exAt, ldCells, oneL, oneCell, Nat.reduceLeDiff, evL, adopt, rigid, rigidL, trim, Int.reduceEq, Int.reduceMod, Int.reduceDiv, if_pos, if_neg, asI, forall_const, implies_true, chkD, chkO, chkW, effB, reB, vEq, beq_self_eq_true, Nat.reduceSub, Nat.reduceLT, Int.reduceSub, Int.reduceAdd, Int.reduceMul, Int.reduceLT, Int.reduceLE, Int.reduceToNat, optI, aslice, cutSl, cutMs, cutStr, cutOwn, cellsOf, one, elCells, lenOf, beqV, beqVL, strip, stripO, convS]) | ((first | rw [WP_condK] | rw [WP_opsG] | rw [WP_quiG] | rw [WP_dG]); refine And.intro (fun hb => ?_) (fun hb => ?_) <;> (first | have hd := dq1 hb | have hd := dq2 hb | have hd := dq3 hb | have hd := dq4 hb | skip)))
  · first | have hb := hb | have hb := trivial
    repeat' (first | (simp -implicitDefEqProofs (disch := omega) only [hb, F6, h1, h2, h3, h4, h5, hDm, hc, hcl, hone, hsp, setEls, elFits, stripEl, strip, stripO, List.replicate_succ, List.replicate_zero, wC, initE, aop, Nat.reduceEqDiff, ↓reduceIte, Nat.reduceAdd, finish, resOf, tupOf, AM.freeze, freeze1, freezeL, closed, nam, namL, if_true, if_false, deref, boxAt, exAt, ldCells, oneL, oneCell, Nat.reduceLeDiff, evL, adopt, rigid, rigidL, trim, Int.reduceEq, Int.reduceMod, Int.reduceDiv, if_pos, if_neg, asI, forall_const, implies_true, chkD, chkO, chkW, effB, reB, vEq, beq_self_eq_true, Nat.reduceSub, Nat.reduceLT, Int.reduceSub, Int.reduceAdd, Int.reduceMul, Int.reduceLT, Int.reduceLE, Int.reduceToNat, optI, aslice, cutSl, cutMs, cutStr, cutOwn, cellsOf, one, elCells, lenOf, beqV, beqVL, strip, stripO, convS]) | ((first | rw [WP_condK] | rw [WP_opsG] | rw [WP_quiG] | rw [WP_dG]); refine And.intro (fun hb => ?_) (fun hb => ?_) <;> (first | have hd := dq1 hb | have hd := dq2 hb | have hd := dq3 hb | have hd := dq4 hb | skip)))
end Go.Proofs.Ytipbmacpenmgoaa.AM

/- layer 11: the document's records. -/
namespace Go.Proofs.Ytipbmacpenmgoaa.AM
open Go
set_option maxRecDepth 100000
set_option maxHeartbeats 4000000
set_option linter.unusedVariables false
set_option linter.unusedSimpArgs false
theorem byteAt_zero (x : Int) : byteAt x 0 = IntKind.u8.wrap x := by
  unfold byteAt
  rw [Nat.mul_zero, Int.pow_zero, Int.fdiv_one]
theorem rrec_sum (l : List Int) (hb' : Bytes l) (hl : l.length ≤ 140737488353000) (o : Nat) (h : Heap) : ag T 20 [.slice (.tok o) none (l.map u8)] h = some (.agg ((kSum l).map u8), h) := by
  have h2 := u8_namR (fun _ => false) l
  have hs := rsum_ok .none l hb' hl (.inl rfl)
  have := call_pure (T := T) (h := h) (args := [.slice (.tok o) none (l.map u8)]) rfl t20 rfl rfl (by simp only [List.map_cons, List.map_nil, strip, stripO, closedL, namL, nam, h2, Bool.and_self]) hs
  exact this
theorem rrecord_long (i : Int) (p : List Int) (o : AOwn) (hl : 65536 < p.length) : prun T F7 [i64 i, .slice o none (p.map u8)] = some (.tup [.nil, i64 3]) := by
  refine WP_eq (prun_wp ?_)
  have h1 : (65536 : Int) < p.length := by omega
  first | have hb := hb | have hb := trivial
  repeat' (first | (simp -implicitDefEqProofs (disch := omega) only [hb, F7, h1, wC, initE, aop, Nat.reduceEqDiff, ↓reduceIte, Nat.reduceAdd, finish, resOf, tupOf, AM.freeze, freeze1, freezeL, closed, nam, namL, if_true, if_false, deref, boxAt, exAt, ldCells, oneL, oneCell, Nat.reduceLeDiff, evL, adopt, rigid, rigidL, trim, Int.reduceEq, Int.reduceMod, Int.reduceDiv, if_pos, if_neg, asI, forall_const, implies_true, chkD, chkO, chkW, effB, reB, vEq, beq_self_eq_true, Nat.reduceSub, Nat.reduceLT, Int.reduceSub, Int.reduceAdd, Int.reduceMul, Int.reduceLT, Int.reduceLE, Int.reduceToNat, optI, aslice, cutSl, cutMs, cutStr, cutOwn, cellsOf, one, elCells, lenOf, beqV, beqVL, strip, stripO, convS]) | ((first | rw [WP_condK] | rw [WP_opsG] | rw [WP_quiG] | rw [WP_dG]); refine And.intro (fun hb => ?_) (fun hb => ?_) <;> (first | have hd := dq1 hb | have hd := dq2 hb | have hd := dq3 hb | have hd := dq4 hb | skip)))
theorem rrecord_neg (i : Int) (p : List Int) (o : AOwn) (hl : p.length ≤ 65536) (hi : i < 0) : prun T F7 [i64 i, .slice o none (p.map u8)] = some (.tup [.nil, i64 1]) := by
  refine WP_eq (prun_wp ?_)
  have h1 : ¬ (65536 : Int) < p.length := by omega
  first | have hb := hb | have hb := trivial
  repeat' (first | (simp -implicitDefEqProofs (disch := omega) only [hb, F7, h1, hi, wC, initE, aop, Nat.reduceEqDiff, ↓reduceIte, Nat.reduceAdd, finish, resOf, tupOf, AM.freeze, freeze1, freezeL, closed, nam, namL, if_true, if_false, deref, boxAt, exAt, ldCells, oneL, oneCell, Nat.reduceLeDiff, evL, adopt, rigid, rigidL, trim, Int.reduceEq, Int.reduceMod, Int.reduceDiv, if_pos, if_neg, asI, forall_const, implies_true, chkD, chkO, chkW, effB, reB, vEq, beq_self_eq_true, Nat.reduceSub, Nat.reduceLT, Int.reduceSub, Int.reduceAdd, Int.reduceMul, Int.reduceLT, Int.reduceLE, Int.reduceToNat, optI, aslice, cutSl, cutMs, cutStr, cutOwn, cellsOf, one, elCells, lenOf, beqV, beqVL, strip, stripO, convS]) | ((first | rw [WP_condK] | rw [WP_opsG] | rw [WP_quiG] | rw [WP_dG]); refine And.intro (fun hb => ?_) (fun hb => ?_) <;> (first | have hd := dq1 hb | have hd := dq2 hb | have hd := dq3 hb | have hd := dq4 hb | skip)))
theorem rrecord_ok (i : Int) (p : List Int) (o : AOwn) (hp : Bytes p) (hl : p.length ≤ 65536) (hi : 0 ≤ i) (hi2 : i ≤ 9223372036854775807) : prun T F7 [i64 i, .slice o none (p.map u8)] = some (.tup [.slice .fresh none ((recS i p).map u8), i64 0]) := by
  refine WP_eq (prun_wp ?_)
  have h1 : ¬ (65536 : Int) < p.length := by omega
  have h2 : ¬ i < 0 := by omega
  have h3 := call_bytes8 i
  have hwi : IntKind.u64.wrap i = i := by rw [IntKind.wrap_u64]; omega
  have h5 := rrec_sum (logB ++ lowS 8 i ++ p) (by
    intro c hc
    rcases List.mem_append.1 hc with hc | hc
    · rcases List.mem_append.1 hc with hc | hc
      · exact logB_bytes c hc
      · exact lowS_bytes _ _ c hc
    · exact hp c hc) (by simp only [List.length_append, lowS_len]; show 3 + 8 + p.length ≤ _; omega)
  rw [← recH] at h5
  have hlm : (logB ++ lowS 8 i ++ p).map u8 = AV.int .u8 108 :: AV.int .u8 111 :: AV.int .u8 103 :: ((lowS 8 i).map u8 ++ p.map u8) := by
    simp only [logB, List.map_append, List.map_cons, List.map_nil, List.cons_append, List.nil_append]
  simp only [hlm] at h5
  have hD := recH_len i p
  have hfit1 : fitsB (3 + 8) 1 = true := rfl
  have hfit2 : fitsB (11 + p.length) 1 = true := fits_of (.inl (by omega))
  have hfit3 : fitsB (4 + 8) 1 = true := rfl
  have hfit4 : fitsB (12 + p.length) 1 = true := fits_of (.inl (by omega))
  have hlw := lowS_len 8 i
  have hcl := u8_namR (fun _ => false) (recS i p)
  have e0 := byteAt_zero p.length
  have hsh8 : abin .shr (.int .i64 (p.length : Int)) (.int .u64 8) = some (.int .i64 ((p.length : Int).fdiv (2 ^ (8 * 1)))) := shr_c .i64 .u64 _ 8 (by decide)
  have hsh16 : abin .shr (.int .i64 (p.length : Int)) (.int .u64 16) = some (.int .i64 ((p.length : Int).fdiv (2 ^ (8 * 2)))) := shr_c .i64 .u64 _ 16 (by decide)
  have hsh24 : abin .shr (.int .i64 (p.length : Int)) (.int .u64 24) = some (.int .i64 ((p.length : Int).fdiv (2 ^ (8 * 3)))) := shr_c .i64 .u64 _ 24 (by decide)
  have hone := oneL_u8I (recH i p)
  have hDm : ((recH i p).map u8).length = 32 := by rw [List.length_map, hD]
  have hsp : splice z32 0 ((recH i p).map u8) = (recH i p).map u8 := splice_all (by rw [hDm]; rfl)
  unfold z32 at hsp
  have hrec : [u8 (byteAt p.length 0), u8 (byteAt p.length 1), u8 (byteAt p.length 2), u8 (byteAt p.length 3)] ++ (((recH i p).map u8).take 8 ++ p.map u8) = (recS i p).map u8 := by
    unfold recS
    simp only [List.map_append, List.map_take, List.append_assoc]
    rfl
  have hrl := recS_len i p
  generalize recS i p = R at *
  generalize recH i p = D at *
  have b1 : IntKind.u8.wrap ((p.length : Int).fdiv (2 ^ (8 * 1))) = byteAt p.length 1 := rfl
  have b2 : IntKind.u8.wrap ((p.length : Int).fdiv (2 ^ (8 * 2))) = byteAt p.length 2 := rfl
  have b3 : IntKind.u8.wrap ((p.length : Int).fdiv (2 ^ (8 * 3))) = byteAt p.length 3 := rfl
  have hms : ∀ a b, msEls [a, b, .cells (D.map u8)] 2 0 none 8 = some ((D.map u8).take 8) := fun a b => by
    show (if 0 + 8 * 1 ≤ (D.map u8).length then some (((D.map u8).drop 0).take 8) else none) = _
    rw [if_pos (by omega), List.drop_zero]
  have h8 : ((D.map u8).take 8).length = 8 := by rw [List.length_take]; omega
  first | have hb := hb | have hb := trivial
  repeat' (first | (simp -implicitDefEqProofs (disch := omega) only [hb, F7, h1, h2, h3, hwi, setEls, elFits, stripEl, strip, stripO, List.replicate_succ, List.replicate_zero, aappend, appV, elemsOf, hfit1, hfit2, hlw, h5, hone, hsp, hsh8, hsh16, hsh24, ← e0, b1, b2, b3, hms, h8, hfit3, hfit4, wC, initE, aop, Nat.reduceEqDiff, ↓reduceIte, Nat.reduceAdd, finish, resOf, tupOf, AM.freeze, freeze1, freezeL, closed, nam, namL, if_true, if_false, deref, boxAt, exAt, ldCells, oneL, oneCell, Nat.reduceLeDiff, evL, adopt, rigid, rigidL, trim, Int.reduceEq, Int.reduceMod, Int.reduceDiv, if_pos, if_neg, asI, forall_const, implies_true, chkD, chkO, chkW, effB, reB, vEq, beq_self_eq_true, Nat.reduceSub, Nat.reduceLT, Int.reduceSub, Int.reduceAdd, Int.reduceMul, Int.reduceLT, Int.reduceLE, Int.reduceToNat, optI, aslice, cutSl, cutMs, cutStr, cutOwn, cellsOf, one, elCells, lenOf, beqV, beqVL, strip, stripO, convS]) | ((first | rw [WP_condK] | rw [WP_opsG] | rw [WP_quiG] | rw [WP_dG]); refine And.intro (fun hb => ?_) (fun hb => ?_) <;> (first | have hd := dq1 hb | have hd := dq2 hb | have hd := dq3 hb | have hd := dq4 hb | skip)))
  refine ⟨by rw [← List.map_take, ← List.map_append]; exact u8_namR _ _, ?_⟩
  rw [← hrec]
  rfl
/-- what is said of a record: 0, or why there is none -/
def recE (i : Int) (p : List Int) : Int := if 65536 < p.length then 3 else if i < 0 then 1 else 0
theorem call_record_ok (i : Int) (p : List Int) (o : AOwn) (hp : Bytes p) (he : recE i p = 0) (h : Heap) :
    ag T 6 [i64 i, .slice o none (p.map u8)] h = some (.tup [.slice (.tok h.length) none ((recS i p).map u8), i64 0], h ++ [.row none (recS i p).length]) := by
  unfold recE at he
  by_cases h1 : 65536 < p.length
  · rw [if_pos h1] at he; cases he
  rw [if_neg h1] at he
  by_cases h2 : i < 0
  · rw [if_pos h2] at he; cases he
  have hn := u8_namR (fun _ => false) p
  have ho : stripO o = .none ∨ stripO o = .full := by cases o <;> simp [stripO]
  have hr := record_ok i p (stripO o) ho hp (by omega) (by omega)
  have := call_pure (T := T) (h := h) (args := [i64 i, .slice o none (p.map u8)]) rfl t6 rfl rfl (by
    simp only [List.map_cons, List.map_nil, strip, closedL, namL, nam, hn, Bool.and_self, Bool.and_true]
    rcases ho with ho | ho <;> rw [ho] <;> rfl) hr
  rw [this]
  simp only [adopt, List.length_map]
theorem call_record_bad (i : Int) (p : List Int) (o : AOwn) (he : recE i p ≠ 0) (h : Heap) :
    ag T 6 [i64 i, .slice o none (p.map u8)] h = some (.tup [.nil, i64 (recE i p)], h) := by
  have hn := u8_namR (fun _ => false) p
  have ho : stripO o = .none ∨ stripO o = .full := by cases o <;> simp [stripO]
  have hr : prun T F6 [i64 i, .slice (stripO o) none (p.map u8)] = some (.tup [.nil, i64 (recE i p)]) := by
    unfold recE at he ⊢
    by_cases h1 : 65536 < p.length
    · rw [if_pos h1]; exact record_long i p _ h1
    rw [if_neg h1] at he ⊢
    by_cases h2 : i < 0
    · rw [if_pos h2]; exact record_neg i p _ (by omega) h2
    · rw [if_neg h2] at he; exact absurd rfl he
  have := call_pure (T := T) (h := h) (args := [i64 i, .slice o none (p.map u8)]) rfl t6 rfl rfl (by
    simp only [List.map_cons, List.map_nil, strip, closedL, namL, nam, hn, Bool.and_self, Bool.and_true]
    rcases ho with ho | ho <;> rw [ho] <;> rfl) hr
  rw [this]
  rfl
theorem call_rrecord_ok (i : Int) (p : List Int) (o : AOwn) (hp : Bytes p) (he : recE i p = 0) (hi2 : i ≤ 9223372036854775807) (h : Heap) :
    ag T 7 [i64 i, .slice o none (p.map u8)] h = some (.tup [.slice (.tok h.length) none ((recS i p).map u8), i64 0], h ++ [.row none (recS i p).length]) := by
  unfold recE at he
  by_cases h1 : 65536 < p.length
  · rw [if_pos h1] at he; cases he
  rw [if_neg h1] at he
  by_cases h2 : i < 0
  · rw [if_pos h2] at he; cases he
  have hn := u8_namR (fun _ => false) p
  have ho : stripO o = .none ∨ stripO o = .full := by cases o <;> simp [stripO]
  have hr := rrecord_ok i p (stripO o) hp (by omega) (by omega) hi2
  have := call_pure (T := T) (h := h) (args := [i64 i, .slice o none (p.map u8)]) rfl t7 rfl rfl (by
    simp only [List.map_cons, List.map_nil, strip, closedL, namL, nam, hn, Bool.and_self, Bool.and_true]
    rcases ho with ho | ho <;> rw [ho] <;> rfl) hr
  rw [this]
  simp only [adopt, List.length_map]
theorem call_rrecord_bad (i : Int) (p : List Int) (o : AOwn) (he : recE i p ≠ 0) (h : Heap) :
    ag T 7 [i64 i, .slice o none (p.map u8)] h = some (.tup [.nil, i64 (recE i p)], h) := by
  have hn := u8_namR (fun _ => false) p
  have ho : stripO o = .none ∨ stripO o = .full := by cases o <;> simp [stripO]
  have hr : prun T F7 [i64 i, .slice (stripO o) none (p.map u8)] = some (.tup [.nil, i64 (recE i p)]) := by
    unfold recE at he ⊢
    by_cases h1 : 65536 < p.length
    · rw [if_pos h1]; exact rrecord_long i p _ h1
    rw [if_neg h1] at he ⊢
    by_cases h2 : i < 0
    · rw [if_pos h2]; exact rrecord_neg i p _ (by omega) h2
    · rw [if_neg h2] at he; exact absurd rfl he
  have := call_pure (T := T) (h := h) (args := [i64 i, .slice o none (p.map u8)]) rfl t7 rfl rfl (by
    simp only [List.map_cons, List.map_nil, strip, closedL, namL, nam, hn, Bool.and_self, Bool.and_true]
    rcases ho with ho | ho <;> rw [ho] <;> rfl) hr
  rw [this]
  rfl
end Go.Proofs.Ytipbmacpenmgoaa.AM

/- layer 11: the first record of bytes. -/
namespace Go.Proofs.Ytipbmacpenmgoaa.AM
open Go
set_option maxRecDepth 100000
set_option maxHeartbeats 4000000
set_option linter.unusedVariables false
set_option linter.unusedSimpArgs false
theorem or_up (a c : Int) (k : Nat) (h0 : 0 ≤ a) (ha : a < 2 ^ k) (c0 : 0 ≤ c) (c1 : c ≤ 255) (hk : k ≤ 24) : abin .or (.int .i64 a) (.int .i64 (c * 2 ^ k)) = some (.int .i64 (a + c * 2 ^ k)) := by
  obtain ⟨a, rfl⟩ := Int.eq_ofNat_of_zero_le h0
  obtain ⟨c, rfl⟩ := Int.eq_ofNat_of_zero_le c0
  have hp : (2 : Nat) ^ k ≤ 2 ^ 24 := Nat.pow_le_pow_right (by omega) hk
  have hpp : 0 < (2 : Nat) ^ k := Nat.two_pow_pos k
  have ec : ((c : Int) * 2 ^ k) = ((c * 2 ^ k : Nat) : Int) := by rw [Int.natCast_mul, Int.natCast_pow]; rfl
  have ha' : a < 2 ^ k := by
    have : ((2 ^ k : Nat) : Int) = (2 : Int) ^ k := by rw [Int.natCast_pow]; rfl
    omega
  have hc2 : c * 2 ^ k ≤ 255 * 2 ^ 24 := Nat.mul_le_mul (by omega) hp
  have hc3 : c * 2 ^ k ≤ 4278190080 := hc2
  have ha3 : a < 16777216 := Nat.lt_of_lt_of_le ha' hp
  rw [ec]
  simp only [abin, aint, abit, if_true, Option.map_some, Option.some.injEq, Value.int.injEq, true_and]
  have e : (BitVec.ofInt IntKind.i64.bits (a : Int) ||| BitVec.ofInt IntKind.i64.bits ((c * 2 ^ k : Nat) : Int)).toNat = a + c * 2 ^ k := by
    show (BitVec.ofInt 64 (a : Int) ||| BitVec.ofInt 64 ((c * 2 ^ k : Nat) : Int)).toNat = _
    rw [BitVec.toNat_or, BitVec.toNat_ofInt, BitVec.toNat_ofInt]
    have e1 : (((c * 2 ^ k : Nat) : Int) % (2 ^ 64 : Nat)).toNat = c <<< k := by
      rw [Nat.shiftLeft_eq]
      omega
    have e2 : ((a : Int) % (2 ^ 64 : Nat)).toNat = a := by omega
    rw [e1, e2, Nat.or_comm, ← Nat.shiftLeft_add_eq_or_of_lt ha', Nat.shiftLeft_eq]
    omega
  rw [e, IntKind.wrap_i64]
  omega
theorem shl_up (c : Int) (k : Nat) (c0 : 0 ≤ c) (c1 : c ≤ 255) (hk : k ≤ 24) (kk : IntKind) : abin .shl (.int .i64 c) (.int kk (k : Int)) = some (.int .i64 (c * 2 ^ k)) := by
  rw [shl_c .i64 kk c k (by simp [IntKind.bits]; omega)]
  obtain ⟨c, rfl⟩ := Int.eq_ofNat_of_zero_le c0
  have hp : (2 : Nat) ^ k ≤ 2 ^ 24 := Nat.pow_le_pow_right (by omega) hk
  have ec : ((c : Int) * 2 ^ k) = ((c * 2 ^ k : Nat) : Int) := by rw [Int.natCast_mul, Int.natCast_pow]; rfl
  have hc2 : c * 2 ^ k ≤ 255 * 2 ^ 24 := Nat.mul_le_mul (by omega) hp
  have hc3 : c * 2 ^ k ≤ 4278190080 := hc2
  rw [ec]
  generalize c * 2 ^ k = m at *
  have hw : IntKind.i64.wrap (m : Int) = m := by rw [IntKind.wrap_i64]; omega
  rw [hw]
/-- are bytes the same? -/
theorem equal_ok (a b : List Int) (o1 o2 : AOwn) (hl : a.length ≤ 140737488355328) : prun T F44 [.slice o1 none (a.map u8), .slice o2 none (b.map u8)] = some (.bool (decide (a = b))) := by
  refine WP_eq (prun_wp ?_)
  by_cases hlen : a.length = b.length
  · first | have hb := hb | have hb := trivial
    repeat' (first | (simp -implicitDefEqProofs (disch := omega) only [hb, F44, hlen, wC, initE, aop, Nat.reduceEqDiff, ↓reduceIte, Nat.reduceAdd, finish, resOf, tupOf, AM.freeze, freeze1, freezeL, closed, nam, namL, if_true, if_false, deref, boxAt, exAt, ldCells, oneL, oneCell, Nat.reduceLeDiff, evL, adopt, rigid, rigidL, trim, Int.reduceEq, Int.reduceMod, Int.reduceDiv, if_pos, if_neg, asI, forall_const, implies_true, chkD, chkO, chkW, effB, reB, vEq, beq_self_eq_true, Nat.reduceSub, Nat.reduceLT, Int.reduceSub, Int.reduceAdd, Int.reduceMul, Int.reduceLT, Int.reduceLE, Int.reduceToNat, optI, aslice, cutSl, cutMs, cutStr, cutOwn, cellsOf, one, elCells, lenOf, beqV, beqVL, strip, stripO, convS]) | ((first | rw [WP_condK] | rw [WP_opsG] | rw [WP_quiG] | rw [WP_dG]); refine And.intro (fun hb => ?_) (fun hb => ?_) <;> (first | have hd := dq1 hb | have hd := dq2 hb | have hd := dq3 hb | have hd := dq4 hb | skip)))
    refine WP_loop (I := fun f e h' => ∃ j : Nat, f = a.length - j ∧ j ≤ a.length ∧ a.take j = b.take j ∧ getE e 0 = .slice o1 none (a.map u8) ∧ getE e 1 = .slice o2 none (b.map u8) ∧ getE e 12 = i64 a.length ∧ getE e 13 = i64 j ∧ h' = []) ?_ a.length _ _
      ⟨0, rfl, Nat.zero_le _, rfl, rfl, rfl, by simp [getE, hlen], rfl, rfl⟩
    rintro f e h' ⟨j, rfl, hj, hpre, e0, e1, e12, e13, rfl⟩
    rw [trim_same' (by simp)]
    by_cases hjn : j = a.length
    · have hlt : ¬ ((j : Int) < (a.length : Int)) := by omega
      have hab : a = b := by
        rw [hjn, List.take_length, List.take_of_length_le (by omega)] at hpre
        exact hpre
      have hd : decide (a = b) = true := decide_eq_true hab
      rw [hd]
      first | have hb := hb | have hb := trivial
      repeat' (first | (simp -implicitDefEqProofs (disch := omega) only [hb, L44_0, e0, e1, e12, e13, hlt, wC, initE, aop, Nat.reduceEqDiff, ↓reduceIte, Nat.reduceAdd, finish, resOf, tupOf, AM.freeze, freeze1, freezeL, closed, nam, namL, if_true, if_false, deref, boxAt, exAt, ldCells, oneL, oneCell, Nat.reduceLeDiff, evL, adopt, rigid, rigidL, trim, Int.reduceEq, Int.reduceMod, Int.reduceDiv, if_pos, if_neg, asI, forall_const, implies_true, chkD, chkO, chkW, effB, reB, vEq, beq_self_eq_true, Nat.reduceSub, Nat.reduceLT, Int.reduceSub, Int.reduceAdd, Int.reduceMul, Int.reduceLT, Int.reduceLE, Int.reduceToNat, optI, aslice, cutSl, cutMs, cutStr, cutOwn, cellsOf, one, elCells, lenOf, beqV, beqVL, strip, stripO, convS]) | ((first | rw [WP_condK] | rw [WP_opsG] | rw [WP_quiG] | rw [WP_dG]); refine And.intro (fun hb => ?_) (fun hb => ?_) <;> (first | have hd := dq1 hb | have hd := dq2 hb | have hd := dq3 hb | have hd := dq4 hb | skip)))
    · have hja : j < a.length := by omega
      have hjb : j < b.length := by omega
      have hlt : (j : Int) < (a.length : Int) := by omega
      have g1 : (a.map u8)[j]? = some (u8 a[j]) := get_u8 hja
      have g2 : (b.map u8)[j]? = some (u8 b[j]) := get_u8 hjb
      have hw : IntKind.i64.wrap ((j : Int) + 1) = ((j + 1 : Nat) : Int) := by rw [IntKind.wrap_i64]; omega
      by_cases hx : a[j] = b[j]
      · have hx' : a.take (j + 1) = b.take (j + 1) := by
          rw [List.take_succ_eq_append_getElem hja, List.take_succ_eq_append_getElem hjb, hpre, hx]
        generalize a[j] = x at *
        generalize b[j] = y at *
        subst hx
        first | have hb := hb | have hb := trivial
        repeat' (first | (simp -implicitDefEqProofs (disch := omega) only [hb, L44_0, e0, e1, e12, e13, hlt, g1, g2, hw, wC, initE, aop, Nat.reduceEqDiff, ↓reduceIte, Nat.reduceAdd, finish, resOf, tupOf, AM.freeze, freeze1, freezeL, closed, nam, namL, if_true, if_false, deref, boxAt, exAt, ldCells, oneL, oneCell, Nat.reduceLeDiff, evL, adopt, rigid, rigidL, trim, Int.reduceEq, Int.reduceMod, Int.reduceDiv, if_pos, if_neg, asI, forall_const, implies_true, chkD, chkO, chkW, effB, reB, vEq, beq_self_eq_true, Nat.reduceSub, Nat.reduceLT, Int.reduceSub, Int.reduceAdd, Int.reduceMul, Int.reduceLT, Int.reduceLE, Int.reduceToNat, optI, aslice, cutSl, cutMs, cutStr, cutOwn, cellsOf, one, elCells, lenOf, beqV, beqVL, strip, stripO, convS]) | ((first | rw [WP_condK] | rw [WP_opsG] | rw [WP_quiG] | rw [WP_dG]); refine And.intro (fun hb => ?_) (fun hb => ?_) <;> (first | have hd := dq1 hb | have hd := dq2 hb | have hd := dq3 hb | have hd := dq4 hb | skip)))
        exact ⟨a.length - (j + 1), by omega, j + 1, rfl, by omega, hx', rfl⟩
      · have hab : ¬ a = b := fun e => hx (by subst e; rfl)
        have hd : decide (a = b) = false := decide_eq_false hab
        rw [hd]
        generalize a[j] = x at *
        generalize b[j] = y at *
        first | have hb := hb | have hb := trivial
        repeat' (first | (simp -implicitDefEqProofs (disch := omega) only [hb, L44_0, e0, e1, e12, e13, hlt, g1, g2, hw, hx, wC, initE, aop, Nat.reduceEqDiff, ↓reduceIte, Nat.reduceAdd, finish, resOf, tupOf, AM.freeze, freeze1, freezeL, closed, nam, namL, if_true, if_false, deref, boxAt, exAt, ldCells, oneL, oneCell, Nat.reduceLeDiff, evL, adopt, rigid, rigidL, trim, Int.reduceEq, Int.reduceMod, Int.reduceDiv, if_pos, if_neg, asI, forall_const, implies_true, chkD, chkO, chkW, effB, reB, vEq, beq_self_eq_true, Nat.reduceSub, Nat.reduceLT, Int.reduceSub, Int.reduceAdd, Int.reduceMul, Int.reduceLT, Int.reduceLE, Int.reduceToNat, optI, aslice, cutSl, cutMs, cutStr, cutOwn, cellsOf, one, elCells, lenOf, beqV, beqVL, strip, stripO, convS]) | ((first | rw [WP_condK] | rw [WP_opsG] | rw [WP_quiG] | rw [WP_dG]); refine And.intro (fun hb => ?_) (fun hb => ?_) <;> (first | have hd := dq1 hb | have hd := dq2 hb | have hd := dq3 hb | have hd := dq4 hb | skip)))
  · have hab : ¬ a = b := fun e => hlen (by rw [e])
    have hd : decide (a = b) = false := decide_eq_false hab
    rw [hd]
    have hl' : ¬ ((a.length : Int) = b.length) := by omega
    first | have hb := hb | have hb := trivial
    repeat' (first | (simp -implicitDefEqProofs (disch := omega) only [hb, F44, hl', wC, initE, aop, Nat.reduceEqDiff, ↓reduceIte, Nat.reduceAdd, finish, resOf, tupOf, AM.freeze, freeze1, freezeL, closed, nam, namL, if_true, if_false, deref, boxAt, exAt, ldCells, oneL, oneCell, Nat.reduceLeDiff, evL, adopt, rigid, rigidL, trim, Int.reduceEq, Int.reduceMod, Int.reduceDiv, if_pos, if_neg, asI, forall_const, implies_true, chkD, chkO, chkW, effB, reB, vEq, beq_self_eq_true, Nat.reduceSub, Nat.reduceLT, Int.reduceSub, Int.reduceAdd, Int.reduceMul, Int.reduceLT, Int.reduceLE, Int.reduceToNat, optI, aslice, cutSl, cutMs, cutStr, cutOwn, cellsOf, one, elCells, lenOf, beqV, beqVL, strip, stripO, convS]) | ((first | rw [WP_condK] | rw [WP_opsG] | rw [WP_quiG] | rw [WP_dG]); refine And.intro (fun hb => ?_) (fun hb => ?_) <;> (first | have hd := dq1 hb | have hd := dq2 hb | have hd := dq3 hb | have hd := dq4 hb | skip)))
end Go.Proofs.Ytipbmacpenmgoaa.AM

/- layer 11: the first record of bytes. -/
namespace Go.Proofs.Ytipbmacpenmgoaa.AM
open Go
set_option maxRecDepth 100000
set_option maxHeartbeats 4000000
set_option linter.unusedVariables false
set_option linter.unusedSimpArgs false
def gI (b : List Int) (k : Nat) : Int := b.getD k 0
def accS (b : List Int) : Nat → Int
  | 0 => 0
  | j + 1 => accS b j + gI b j * 2 ^ (8 * j)
theorem gI_b {b : List Int} (hb : Bytes b) (k : Nat) : 0 ≤ gI b k ∧ gI b k ≤ 255 := by
  unfold gI
  rw [List.getD_eq_getElem?_getD]
  cases h : b[k]? with
  | none => simp
  | some x => exact hb x (List.mem_of_getElem? h)
theorem acc_b {b : List Int} (hb : Bytes b) : ∀ j, 0 ≤ accS b j ∧ accS b j < 2 ^ (8 * j)
  | 0 => by simp [accS]
  | j + 1 => by
    have h1 := acc_b hb j
    have h2 := gI_b hb j
    have hpp : (0 : Int) < 2 ^ (8 * j) := Int.pow_pos (by omega)
    have e : (2 : Int) ^ (8 * (j + 1)) = 256 * 2 ^ (8 * j) := by rw [show 8 * (j + 1) = 8 * j + 8 by omega, Int.pow_add]; omega
    have h3 : 0 ≤ gI b j * 2 ^ (8 * j) := Int.mul_nonneg h2.1 (by omega)
    have h4 : gI b j * 2 ^ (8 * j) ≤ 255 * 2 ^ (8 * j) := Int.mul_le_mul_of_nonneg_right h2.2 (by omega)
    rw [e]
    simp only [accS]
    omega
/-- what the first four bytes say -/
def hdN (b : List Int) : Int := accS b 4
theorem num_b {b : List Int} (hb : Bytes b) : 0 ≤ hdN b ∧ hdN b < 4294967296 := acc_b hb 4
theorem gI_get {b : List Int} {k : Nat} (h : k < b.length) : b[k]? = some (gI b k) := by
  unfold gI
  rw [List.getD_eq_getElem?_getD, List.getElem?_eq_getElem h]
  rfl
theorem first_loop (b : List Int) (hby : Bytes b) (hl : 12 ≤ b.length) (V1 : AV) (i : Int) (e : Env) (e0 : getE e 0 = i64 i) (e1 : getE e 1 = V1) (e6 : getE e 6 = i64 0) (e16 : getE e 16 = .slice .none none ((b.map u8).take 4)) (e17 : getE e 17 = i64 4) (e18 : getE e 18 = i64 0) {Q : Res → Prop}
    (hQ : ∀ e', getE e' 0 = i64 i → getE e' 1 = V1 → getE e' 6 = i64 (hdN b) → Q (.exit 0, e', [])) :
    WP Q (axl T [0, 1, 6, 16, 17, 18] true L22_0 0 e []) := by
  refine WP_loop (I := fun f e h' => ∃ j : Nat, f = 4 - j ∧ j ≤ 4 ∧ getE e 0 = i64 i ∧ getE e 1 = V1 ∧ getE e 6 = i64 (accS b j) ∧ getE e 16 = .slice .none none ((b.map u8).take 4) ∧ getE e 17 = i64 4 ∧ getE e 18 = i64 j ∧ h' = []) ?_ 4 _ _
    ⟨0, rfl, by omega, e0, e1, e6, e16, e17, e18, rfl⟩
  clear e0 e1 e6 e16 e17 e18 e
  rintro f e h' ⟨j, rfl, hj, e0, e1, e6, e16, e17, e18, rfl⟩
  rw [trim_same' (by simp)]
  by_cases hjn : j = 4
  · subst hjn
    have hlt : ¬ (((4 : Nat) : Int) < 4) := by omega
    first | have hb := hb | have hb := trivial
    repeat' (first | (simp -implicitDefEqProofs (disch := omega) only [hb, L22_0, e0, e1, e6, e16, e17, e18, hlt, wC, initE, aop, Nat.reduceEqDiff, ↓reduceIte, Nat.reduceAdd, finish, resOf, tupOf, AM.freeze, freeze1, freezeL, closed, nam, namL, if_true, if_false, deref, boxAt, exAt, ldCells, oneL, oneCell, Nat.reduceLeDiff, evL, adopt, rigid, rigidL, trim, Int.reduceEq, Int.reduceMod, Int.reduceDiv, if_pos, if_neg, asI, forall_const, implies_true, chkD, chkO, chkW, effB, reB, vEq, beq_self_eq_true, Nat.reduceSub, Nat.reduceLT, Int.reduceSub, Int.reduceAdd, Int.reduceMul, Int.reduceLT, Int.reduceLE, Int.reduceToNat, optI, aslice, cutSl, cutMs, cutStr, cutOwn, cellsOf, one, elCells, lenOf, beqV, beqVL, strip, stripO, convS]) | ((first | rw [WP_condK] | rw [WP_opsG] | rw [WP_quiG] | rw [WP_dG]); refine And.intro (fun hb => ?_) (fun hb => ?_) <;> (first | have hd := dq1 hb | have hd := dq2 hb | have hd := dq3 hb | have hd := dq4 hb | skip)))
    exact hQ _ rfl rfl rfl
  · have hlt : (j : Int) < 4 := by omega
    have hgb := gI_b hby j
    have hac := acc_b hby j
    have g1 : ((b.map u8).take 4)[j]? = some (u8 (gI b j)) := by
      rw [List.getElem?_take_of_lt (by omega), List.getElem?_map, gI_get (by omega)]; rfl
    have hml : IntKind.i64.wrap (8 * (j : Int)) = ((8 * j : Nat) : Int) := by rw [IntKind.wrap_i64]; omega
    have hcv : IntKind.i64.wrap (gI b j) = gI b j := by rw [IntKind.wrap_i64]; omega
    have hsh := shl_up (gI b j) (8 * j) hgb.1 hgb.2 (by omega) .i64
    have hor := or_up (accS b j) (gI b j) (8 * j) hac.1 hac.2 hgb.1 hgb.2 (by omega)
    have hw : IntKind.i64.wrap ((j : Int) + 1) = ((j + 1 : Nat) : Int) := by rw [IntKind.wrap_i64]; omega
    first | have hb := hb | have hb := trivial
    repeat' (first | (simp -implicitDefEqProofs (disch := omega) only [hb, L22_0, e0, e1, e6, e16, e17, e18, hlt, g1, hml, hcv, hsh, hor, hw, wC, initE, aop, Nat.reduceEqDiff, ↓reduceIte, Nat.reduceAdd, finish, resOf, tupOf, AM.freeze, freeze1, freezeL, closed, nam, namL, if_true, if_false, deref, boxAt, exAt, ldCells, oneL, oneCell, Nat.reduceLeDiff, evL, adopt, rigid, rigidL, trim, Int.reduceEq, Int.reduceMod, Int.reduceDiv, if_pos, if_neg, asI, forall_const, implies_true, chkD, chkO, chkW, effB, reB, vEq, beq_self_eq_true, Nat.reduceSub, Nat.reduceLT, Int.reduceSub, Int.reduceAdd, Int.reduceMul, Int.reduceLT, Int.reduceLE, Int.reduceToNat, optI, aslice, cutSl, cutMs, cutStr, cutOwn, cellsOf, one, elCells, lenOf, beqV, beqVL, strip, stripO, convS]) | ((first | rw [WP_condK] | rw [WP_opsG] | rw [WP_quiG] | rw [WP_dG]); refine And.intro (fun hb => ?_) (fun hb => ?_) <;> (first | have hd := dq1 hb | have hd := dq2 hb | have hd := dq3 hb | have hd := dq4 hb | skip)))
    exact ⟨4 - (j + 1), by omega, j + 1, rfl, by omega, rfl, rfl⟩
theorem call_equal (a b : List Int) (hl : a.length ≤ 140737488355328) (h : Heap) {o1 o2 : AOwn} : ag T 44 [.slice o1 none (a.map u8), .slice o2 none (b.map u8)] h = some (.bool (decide (a = b)), h) := by
  have h1 := u8_namR (fun _ => false) a
  have h2 := u8_namR (fun _ => false) b
  have ho1 : stripO o1 = .none ∨ stripO o1 = .full := by cases o1 <;> simp [stripO]
  have ho2 : stripO o2 = .none ∨ stripO o2 = .full := by cases o2 <;> simp [stripO]
  have := call_pure (T := T) (h := h) (args := [.slice o1 none (a.map u8), .slice o2 none (b.map u8)]) rfl t44 rfl rfl (by
    simp only [List.map_cons, List.map_nil, strip, closedL, namL, nam, h1, h2, Bool.and_self, Bool.and_true]
    rcases ho1 with ho1 | ho1 <;> rcases ho2 with ho2 | ho2 <;> rw [ho1, ho2] <;> rfl) (equal_ok a b (stripO o1) (stripO o2) hl)
  exact this
/-- the first record of bytes, as the i-th -/
def fstR (i : Int) (b : List Int) : Option (List Int) :=
  if 12 ≤ b.length ∧ hdN b + 12 ≤ b.length ∧ recE i ((b.drop 12).take (hdN b).toNat) = 0 ∧ recS i ((b.drop 12).take (hdN b).toNat) = b.take (12 + (hdN b).toNat) then some ((b.drop 12).take (hdN b).toNat) else none
theorem first_ok (i : Int) (b : List Int) (hby : Bytes b) (hl : b.length ≤ 140737488355328) (o : AOwn) (ho : o = .none ∨ o = .full) :
    (∀ p, fstR i b = some p → prun T F22 [i64 i, .slice o none (b.map u8)] = some (.tup [.slice .none none (p.map u8), .bool true])) ∧
    (fstR i b = none → prun T F22 [i64 i, .slice o none (b.map u8)] = some (.tup [.nil, .bool false]) ∨ ∃ p : List Int, prun T F22 [i64 i, .slice o none (b.map u8)] = some (.tup [.slice .none none (p.map u8), .bool false])) := by
  by_cases h12 : b.length < 12
  · have h1 : fstR i b = none := by unfold fstR; rw [if_neg (by omega)]
    refine ⟨fun p hp => (by rw [h1] at hp; cases hp), fun _ => .inl ?_⟩
    refine WP_eq (prun_wp ?_)
    have h2 : (b.length : Int) < 12 := by omega
    first | have hb := hb | have hb := trivial
    repeat' (first | (simp -implicitDefEqProofs (disch := omega) only [hb, F22, h2, wC, initE, aop, Nat.reduceEqDiff, ↓reduceIte, Nat.reduceAdd, finish, resOf, tupOf, AM.freeze, freeze1, freezeL, closed, nam, namL, if_true, if_false, deref, boxAt, exAt, ldCells, oneL, oneCell, Nat.reduceLeDiff, evL, adopt, rigid, rigidL, trim, Int.reduceEq, Int.reduceMod, Int.reduceDiv, if_pos, if_neg, asI, forall_const, implies_true, chkD, chkO, chkW, effB, reB, vEq, beq_self_eq_true, Nat.reduceSub, Nat.reduceLT, Int.reduceSub, Int.reduceAdd, Int.reduceMul, Int.reduceLT, Int.reduceLE, Int.reduceToNat, optI, aslice, cutSl, cutMs, cutStr, cutOwn, cellsOf, one, elCells, lenOf, beqV, beqVL, strip, stripO, convS]) | ((first | rw [WP_condK] | rw [WP_opsG] | rw [WP_quiG] | rw [WP_dG]); refine And.intro (fun hb => ?_) (fun hb => ?_) <;> (first | have hd := dq1 hb | have hd := dq2 hb | have hd := dq3 hb | have hd := dq4 hb | skip)))
  have hn := num_b hby
  obtain ⟨n, hnn⟩ := Int.eq_ofNat_of_zero_le hn.1
  have h2 : ¬ (b.length : Int) < 12 := by omega
  have h4 : (4 : Int) ≤ b.length := by omega
  have h44 : ((b.map u8).take 4).length = 4 := by rw [List.length_take, List.length_map]; omega
  have hsub : IntKind.i64.wrap ((b.length : Int) - 12) = (b.length : Int) - 12 := by rw [IntKind.wrap_i64]; omega
  by_cases hbig : (b.length : Int) - 12 < hdN b
  · have h1 : fstR i b = none := by unfold fstR; rw [if_neg (by omega)]
    refine ⟨fun p hp => (by rw [h1] at hp; cases hp), fun _ => .inl ?_⟩
    refine WP_eq (prun_wp ?_)
    first | have hb := hb | have hb := trivial
    repeat' (first | (simp -implicitDefEqProofs (disch := omega) only [hb, F22, h2, h4, h44, wC, initE, aop, Nat.reduceEqDiff, ↓reduceIte, Nat.reduceAdd, finish, resOf, tupOf, AM.freeze, freeze1, freezeL, closed, nam, namL, if_true, if_false, deref, boxAt, exAt, ldCells, oneL, oneCell, Nat.reduceLeDiff, evL, adopt, rigid, rigidL, trim, Int.reduceEq, Int.reduceMod, Int.reduceDiv, if_pos, if_neg, asI, forall_const, implies_true, chkD, chkO, chkW, effB, reB, vEq, beq_self_eq_true, Nat.reduceSub, Nat.reduceLT, Int.reduceSub, Int.reduceAdd, Int.reduceMul, Int.reduceLT, Int.reduceLE, Int.reduceToNat, optI, aslice, cutSl, cutMs, cutStr, cutOwn, cellsOf, one, elCells, lenOf, beqV, beqVL, strip, stripO, convS]) | ((first | rw [WP_condK] | rw [WP_opsG] | rw [WP_quiG] | rw [WP_dG]); refine And.intro (fun hb => ?_) (fun hb => ?_) <;> (first | have hd := dq1 hb | have hd := dq2 hb | have hd := dq3 hb | have hd := dq4 hb | skip)))
    refine first_loop b hby (by omega) _ i _ rfl rfl rfl rfl rfl rfl (fun e' e0 e1 e6 => ?_)
    first | have hb := hb | have hb := trivial
    repeat' (first | (simp -implicitDefEqProofs (disch := omega) only [hb, F22, e0, e1, e6, hsub, hbig, wC, initE, aop, Nat.reduceEqDiff, ↓reduceIte, Nat.reduceAdd, finish, resOf, tupOf, AM.freeze, freeze1, freezeL, closed, nam, namL, if_true, if_false, deref, boxAt, exAt, ldCells, oneL, oneCell, Nat.reduceLeDiff, evL, adopt, rigid, rigidL, trim, Int.reduceEq, Int.reduceMod, Int.reduceDiv, if_pos, if_neg, asI, forall_const, implies_true, chkD, chkO, chkW, effB, reB, vEq, beq_self_eq_true, Nat.reduceSub, Nat.reduceLT, Int.reduceSub, Int.reduceAdd, Int.reduceMul, Int.reduceLT, Int.reduceLE, Int.reduceToNat, optI, aslice, cutSl, cutMs, cutStr, cutOwn, cellsOf, one, elCells, lenOf, beqV, beqVL, strip, stripO, convS]) | ((first | rw [WP_condK] | rw [WP_opsG] | rw [WP_quiG] | rw [WP_dG]); refine And.intro (fun hb => ?_) (fun hb => ?_) <;> (first | have hd := dq1 hb | have hd := dq2 hb | have hd := dq3 hb | have hd := dq4 hb | skip)))
  have hfs : fstR i b = if recE i ((b.drop 12).take n) = 0 ∧ recS i ((b.drop 12).take n) = b.take (12 + n) then some ((b.drop 12).take n) else none := by
    unfold fstR
    rw [hnn]
    by_cases hc : recE i ((b.drop 12).take n) = 0 ∧ recS i ((b.drop 12).take n) = b.take (12 + n)
    · rw [if_pos hc, if_pos ⟨by omega, by omega, hc.1, hc.2⟩]; rfl
    · rw [if_neg hc, if_neg (fun h => hc ⟨h.2.2.1, h.2.2.2⟩)]
  rw [hfs]
  have hadd : IntKind.i64.wrap (12 + hdN b) = ((12 + n : Nat) : Int) := by rw [IntKind.wrap_i64]; omega
  have hb1 : (12 : Int) ≤ ((12 + n : Nat) : Int) := by omega
  have hb2 : ((12 + n : Nat) : Int) ≤ (b.length : Int) := by omega
  have hpl : ((b.drop 12).take n).length = n := by rw [List.length_take, List.length_drop]; omega
  have hpb : Bytes ((b.drop 12).take n) := fun c hc => hby c (List.mem_of_mem_drop (List.mem_of_mem_take hc))
  have hns := u8_namR (fun _ => false) ((b.drop 12).take n)
  have hsl : ((b.take (12 + n)).map u8).drop 12 = ((b.drop 12).take n).map u8 := by rw [← List.map_drop, List.drop_take, Nat.add_sub_cancel_left]
  have hsl2 : (b.map u8).take (12 + n) = (b.take (12 + n)).map u8 := by rw [List.map_take]
  have hok := fun he => call_record_ok i ((b.drop 12).take n) .none hpb he
  have hbad := fun he => call_record_bad i ((b.drop 12).take n) .none he
  have heq := fun (o1 o2 : AOwn) (h : Heap) => call_equal (o1 := o1) (o2 := o2) (recS i ((b.drop 12).take n)) (b.take (12 + n)) (by rw [recS_len, hpl]; omega) h
  have hw12 : (12 : Int) + (n : Int) - 12 = n := by omega
  generalize (b.drop 12).take n = p at *
  generalize b.take (12 + n) = pre at *
  by_cases he : recE i p = 0
  · have hok := hok he
    by_cases hq : recS i p = pre
    · have hr : prun T F22 [i64 i, .slice o none (b.map u8)] = some (.tup [.slice .none none (p.map u8), .bool true]) := by
        refine WP_eq (prun_wp ?_)
        have heq : ∀ o1 o2 h, ag T 44 [.slice o1 none ((recS i p).map u8), .slice o2 none (pre.map u8)] h = some (.bool true, h) := fun o1 o2 h => by rw [heq o1 o2 h, decide_eq_true hq]
        first | have hb := hb | have hb := trivial
        repeat' (first | (simp -implicitDefEqProofs (disch := omega) only [hb, F22, h2, h4, h44, wC, initE, aop, Nat.reduceEqDiff, ↓reduceIte, Nat.reduceAdd, finish, resOf, tupOf, AM.freeze, freeze1, freezeL, closed, nam, namL, if_true, if_false, deref, boxAt, exAt, ldCells, oneL, oneCell, Nat.reduceLeDiff, evL, adopt, rigid, rigidL, trim, Int.reduceEq, Int.reduceMod, Int.reduceDiv, if_pos, if_neg, asI, forall_const, implies_true, chkD, chkO, chkW, effB, reB, vEq, beq_self_eq_true, Nat.reduceSub, Nat.reduceLT, Int.reduceSub, Int.reduceAdd, Int.reduceMul, Int.reduceLT, Int.reduceLE, Int.reduceToNat, optI, aslice, cutSl, cutMs, cutStr, cutOwn, cellsOf, one, elCells, lenOf, beqV, beqVL, strip, stripO, convS]) | ((first | rw [WP_condK] | rw [WP_opsG] | rw [WP_quiG] | rw [WP_dG]); refine And.intro (fun hb => ?_) (fun hb => ?_) <;> (first | have hd := dq1 hb | have hd := dq2 hb | have hd := dq3 hb | have hd := dq4 hb | skip)))
        refine first_loop b hby (by omega) _ i _ rfl rfl rfl rfl rfl rfl (fun e' e0 e1 e6 => ?_)
        first | have hb := hb | have hb := trivial
        repeat' (first | (simp -implicitDefEqProofs (disch := omega) only [hb, F22, e0, e1, e6, hsub, hbig, hadd, hb1, hb2, hok, hsl, hsl2, heq, hns, wC, initE, aop, Nat.reduceEqDiff, ↓reduceIte, Nat.reduceAdd, finish, resOf, tupOf, AM.freeze, freeze1, freezeL, closed, nam, namL, if_true, if_false, deref, boxAt, exAt, ldCells, oneL, oneCell, Nat.reduceLeDiff, evL, adopt, rigid, rigidL, trim, Int.reduceEq, Int.reduceMod, Int.reduceDiv, if_pos, if_neg, asI, forall_const, implies_true, chkD, chkO, chkW, effB, reB, vEq, beq_self_eq_true, Nat.reduceSub, Nat.reduceLT, Int.reduceSub, Int.reduceAdd, Int.reduceMul, Int.reduceLT, Int.reduceLE, Int.reduceToNat, optI, aslice, cutSl, cutMs, cutStr, cutOwn, cellsOf, one, elCells, lenOf, beqV, beqVL, strip, stripO, convS]) | ((first | rw [WP_condK] | rw [WP_opsG] | rw [WP_quiG] | rw [WP_dG]); refine And.intro (fun hb => ?_) (fun hb => ?_) <;> (first | have hd := dq1 hb | have hd := dq2 hb | have hd := dq3 hb | have hd := dq4 hb | skip)))
      refine ⟨fun p' hp' => ?_, fun hn => ?_⟩
      · rw [if_pos ⟨he, hq⟩] at hp'; cases hp'; exact hr
      · rw [if_pos ⟨he, hq⟩] at hn; cases hn
    · have hr : prun T F22 [i64 i, .slice o none (b.map u8)] = some (.tup [.slice .none none (p.map u8), .bool false]) := by
        refine WP_eq (prun_wp ?_)
        have heq : ∀ o1 o2 h, ag T 44 [.slice o1 none ((recS i p).map u8), .slice o2 none (pre.map u8)] h = some (.bool false, h) := fun o1 o2 h => by rw [heq o1 o2 h, decide_eq_false hq]
        first | have hb := hb | have hb := trivial
        repeat' (first | (simp -implicitDefEqProofs (disch := omega) only [hb, F22, h2, h4, h44, wC, initE, aop, Nat.reduceEqDiff, ↓reduceIte, Nat.reduceAdd, finish, resOf, tupOf, AM.freeze, freeze1, freezeL, closed, nam, namL, if_true, if_false, deref, boxAt, exAt, ldCells, oneL, oneCell, Nat.reduceLeDiff, evL, adopt, rigid, rigidL, trim, Int.reduceEq, Int.reduceMod, Int.reduceDiv, if_pos, if_neg, asI, forall_const, implies_true, chkD, chkO, chkW, effB, reB, vEq, beq_self_eq_true, Nat.reduceSub, Nat.reduceLT, Int.reduceSub, Int.reduceAdd, Int.reduceMul, Int.reduceLT, Int.reduceLE, Int.reduceToNat, optI, aslice, cutSl, cutMs, cutStr, cutOwn, cellsOf, one, elCells, lenOf, beqV, beqVL, strip, stripO, convS]) | ((first | rw [WP_condK] | rw [WP_opsG] | rw [WP_quiG] | rw [WP_dG]); refine And.intro (fun hb => ?_) (fun hb => ?_) <;> (first | have hd := dq1 hb | have hd := dq2 hb | have hd := dq3 hb | have hd := dq4 hb | skip)))
        refine first_loop b hby (by omega) _ i _ rfl rfl rfl rfl rfl rfl (fun e' e0 e1 e6 => ?_)
        first | have hb := hb | have hb := trivial
        repeat' (first | (simp -implicitDefEqProofs (disch := omega) only [hb, F22, e0, e1, e6, hsub, hbig, hadd, hb1, hb2, hok, hsl, hsl2, heq, hns, wC, initE, aop, Nat.reduceEqDiff, ↓reduceIte, Nat.reduceAdd, finish, resOf, tupOf, AM.freeze, freeze1, freezeL, closed, nam, namL, if_true, if_false, deref, boxAt, exAt, ldCells, oneL, oneCell, Nat.reduceLeDiff, evL, adopt, rigid, rigidL, trim, Int.reduceEq, Int.reduceMod, Int.reduceDiv, if_pos, if_neg, asI, forall_const, implies_true, chkD, chkO, chkW, effB, reB, vEq, beq_self_eq_true, Nat.reduceSub, Nat.reduceLT, Int.reduceSub, Int.reduceAdd, Int.reduceMul, Int.reduceLT, Int.reduceLE, Int.reduceToNat, optI, aslice, cutSl, cutMs, cutStr, cutOwn, cellsOf, one, elCells, lenOf, beqV, beqVL, strip, stripO, convS]) | ((first | rw [WP_condK] | rw [WP_opsG] | rw [WP_quiG] | rw [WP_dG]); refine And.intro (fun hb => ?_) (fun hb => ?_) <;> (first | have hd := dq1 hb | have hd := dq2 hb | have hd := dq3 hb | have hd := dq4 hb | skip)))
      refine ⟨fun p' hp' => ?_, fun hn => .inr ⟨p, hr⟩⟩
      rw [if_neg (fun h => hq h.2)] at hp'; cases hp'
  · have hbad := hbad he
    have hr : prun T F22 [i64 i, .slice o none (b.map u8)] = some (.tup [.slice .none none (p.map u8), .bool false]) := by
      refine WP_eq (prun_wp ?_)
      first | have hb := hb | have hb := trivial
      repeat' (first | (simp -implicitDefEqProofs (disch := omega) only [hb, F22, h2, h4, h44, wC, initE, aop, Nat.reduceEqDiff, ↓reduceIte, Nat.reduceAdd, finish, resOf, tupOf, AM.freeze, freeze1, freezeL, closed, nam, namL, if_true, if_false, deref, boxAt, exAt, ldCells, oneL, oneCell, Nat.reduceLeDiff, evL, adopt, rigid, rigidL, trim, Int.reduceEq, Int.reduceMod, Int.reduceDiv, if_pos, if_neg, asI, forall_const, implies_true, chkD, chkO, chkW, effB, reB, vEq, beq_self_eq_true, Nat.reduceSub, Nat.reduceLT, Int.reduceSub, Int.reduceAdd, Int.reduceMul, Int.reduceLT, Int.reduceLE, Int.reduceToNat, optI, aslice, cutSl, cutMs, cutStr, cutOwn, cellsOf, one, elCells, lenOf, beqV, beqVL, strip, stripO, convS]) | ((first | rw [WP_condK] | rw [WP_opsG] | rw [WP_quiG] | rw [WP_dG]); refine And.intro (fun hb => ?_) (fun hb => ?_) <;> (first | have hd := dq1 hb | have hd := dq2 hb | have hd := dq3 hb | have hd := dq4 hb | skip)))
      refine first_loop b hby (by omega) _ i _ rfl rfl rfl rfl rfl rfl (fun e' e0 e1 e6 => ?_)
      first | have hb := hb | have hb := trivial
      repeat' (first | (simp -implicitDefEqProofs (disch := omega) only [hb, F22, e0, e1, e6, hsub, hbig, hadd, hb1, hb2, hbad, he, hsl, hsl2, hns, wC, initE, aop, Nat.reduceEqDiff, ↓reduceIte, Nat.reduceAdd, finish, resOf, tupOf, AM.freeze, freeze1, freezeL, closed, nam, namL, if_true, if_false, deref, boxAt, exAt, ldCells, oneL, oneCell, Nat.reduceLeDiff, evL, adopt, rigid, rigidL, trim, Int.reduceEq, Int.reduceMod, Int.reduceDiv, if_pos, if_neg, asI, forall_const, implies_true, chkD, chkO, chkW, effB, reB, vEq, beq_self_eq_true, Nat.reduceSub, Nat.reduceLT, Int.reduceSub, Int.reduceAdd, Int.reduceMul, Int.reduceLT, Int.reduceLE, Int.reduceToNat, optI, aslice, cutSl, cutMs, cutStr, cutOwn, cellsOf, one, elCells, lenOf, beqV, beqVL, strip, stripO, convS]) | ((first | rw [WP_condK] | rw [WP_opsG] | rw [WP_quiG] | rw [WP_dG]); refine And.intro (fun hb => ?_) (fun hb => ?_) <;> (first | have hd := dq1 hb | have hd := dq2 hb | have hd := dq3 hb | have hd := dq4 hb | skip)))
    refine ⟨fun p' hp' => ?_, fun hn => .inr ⟨p, hr⟩⟩
    rw [if_neg (fun h => he h.1)] at hp'; cases hp'
theorem call_first_some (i : Int) (b : List Int) (hby : Bytes b) (hl : b.length ≤ 140737488355328) (o : AOwn) {p : List Int} (hp : fstR i b = some p) (h : Heap) : ag T 22 [i64 i, .slice o none (b.map u8)] h = some (.tup [.slice .none none (p.map u8), .bool true], h) := by
  have h1 := u8_namR (fun _ => false) b
  have ho : stripO o = .none ∨ stripO o = .full := by cases o <;> simp [stripO]
  have hr := (first_ok i b hby hl (stripO o) ho).1 p hp
  have := call_pure (T := T) (h := h) (args := [i64 i, .slice o none (b.map u8)]) rfl t22 rfl rfl (by
    simp only [List.map_cons, List.map_nil, strip, closedL, namL, nam, h1, Bool.and_self, Bool.and_true]
    rcases ho with ho | ho <;> rw [ho] <;> rfl) hr
  exact this
theorem call_first_none (i : Int) (b : List Int) (hby : Bytes b) (hl : b.length ≤ 140737488355328) (o : AOwn) (hp : fstR i b = none) (h : Heap) : ag T 22 [i64 i, .slice o none (b.map u8)] h = some (.tup [.nil, .bool false], h) ∨ ∃ p : List Int, ag T 22 [i64 i, .slice o none (b.map u8)] h = some (.tup [.slice .none none (p.map u8), .bool false], h) := by
  have h1 := u8_namR (fun _ => false) b
  have ho : stripO o = .none ∨ stripO o = .full := by cases o <;> simp [stripO]
  have hcl : closedL ([i64 i, .slice o none (b.map u8)].map strip) = true := by
    simp only [List.map_cons, List.map_nil, strip, closedL, namL, nam, h1, Bool.and_self, Bool.and_true]
    rcases ho with ho | ho <;> rw [ho] <;> rfl
  rcases (first_ok i b hby hl (stripO o) ho).2 hp with hr | ⟨p, hr⟩
  · exact .inl (call_pure (T := T) (h := h) (args := [i64 i, .slice o none (b.map u8)]) rfl t22 rfl rfl hcl hr)
  · exact .inr ⟨p, call_pure (T := T) (h := h) (args := [i64 i, .slice o none (b.map u8)]) rfl t22 rfl rfl hcl hr⟩
end Go.Proofs.Ytipbmacpenmgoaa.AM

/- What comes in: bytes, numbers. -/
namespace Go.Proofs.Ytipbmacpenmgoaa.AM
open Go
set_option linter.unusedSimpArgs false
set_option linter.unusedVariables false
theorem oc_slice {S : St} {xs : List AV} {a : Option Addr} {n c : Nat} (h : VL S xs (Value.slice a n c).cells.toList) : VL S xs [.slice a n c] := h
theorem oc_agg {S : St} {xs : List AV} {c : Array Value} (h : VL S xs (Value.agg c).cells.toList) : VL S [.agg xs] [.agg c] := VL_cons (by simp only [V]; exact ⟨c, rfl, h⟩) VL_nil
theorem okWide_array {P : Program} {w : World} {r : Reach} {base : Nat} {t : TypeId} {v : Value} {n : Nat} {e : TypeId} (ht : P.underlying t = some (.array n e)) (h : Value.okWide P w r base t v) : ∃ cs, v = .agg cs ∧ cs.size = P.cellsOf t := by
  simp only [Value.okWide, ht] at h
  obtain ⟨cs, h1, h2, _⟩ := h
  exact ⟨cs, h1, h2⟩
theorem wf_i64 {x : Int} (h : (Lit.int .i64 x).wf = true) : I64 x := by
  simp [Lit.wf, IntKind.min, IntKind.max, IntKind.bits, IntKind.signed] at h
  unfold I64
  omega
theorem wf_u64 {x : Int} (h : (Lit.int .u64 x).wf = true) : U64 x := by
  simp [Lit.wf, IntKind.min, IntKind.max, IntKind.bits, IntKind.signed] at h
  unfold U64
  omega
theorem wf_b {x : Int} (h : (Lit.int .u8 x).wf = true) : 0 ≤ x ∧ x ≤ 255 := by
  simp [Lit.wf, IntKind.min, IntKind.max, IntKind.bits, IntKind.signed] at h
  omega
theorem reads_i64 {P : Program} {t : TypeId} (ht : P.underlying t = some (.int .i64)) : Reads P t (fun xs => ∃ x, xs = [i64 x] ∧ I64 x) :=
  (Reads.int ht).imp fun xs ⟨x, h, w⟩ => ⟨x, h, wf_i64 w⟩
theorem reads_u64 {P : Program} {t : TypeId} (ht : P.underlying t = some (.int .u64)) : Reads P t (fun xs => ∃ x, xs = [u64 x] ∧ U64 x) :=
  (Reads.int ht).imp fun xs ⟨x, h, w⟩ => ⟨x, h, wf_u64 w⟩
theorem els_of {I : List AV → Prop} {α : Type} {k : Option Nat} {f : α → AV} {p : α → Prop} (hI : ∀ y, I y ∧ y.length = kz k ∧ oneL y = true → ∃ x, mkEl k y = f x ∧ p x) : ∀ {ys : List (List AV)}, (∀ y ∈ ys, I y ∧ y.length = kz k ∧ oneL y = true) → ∃ l : List α, ys.map (mkEl k) = l.map f ∧ l.length = ys.length ∧ ∀ x ∈ l, p x := by
  intro ys
  induction ys with
  | nil => intro _; exact ⟨[], rfl, rfl, by intro c hc; cases hc⟩
  | cons y ys ih =>
    intro h
    obtain ⟨l, h1, h2, h3⟩ := ih fun z hz => h z (List.mem_cons_of_mem _ hz)
    obtain ⟨x, hx, px⟩ := hI y (h y List.mem_cons_self)
    refine ⟨x :: l, by rw [List.map_cons, List.map_cons, h1, hx], by simp [h2], ?_⟩
    intro c hc
    rcases List.mem_cons.1 hc with rfl | hc
    · exact px
    · exact h3 c hc
theorem reads_sl {P : Program} {t e : TypeId} {k : Option Nat} {I : List AV → Prop} {α : Type} {f : α → AV} {p : α → Prop} (ht : P.underlying t = some (.slice e)) (hc : P.cellsOf e = kz k) (hz : 0 < kz k) (B : Nat) (hb : P.bytesOf e = B) (h : Reads P e I)
    (hI : ∀ y, I y ∧ y.length = kz k ∧ oneL y = true → ∃ x, mkEl k y = f x ∧ p x) : Reads P t (fun xs => ∃ l : List α, xs = [.slice .none k (l.map f)] ∧ (∀ x ∈ l, p x) ∧ l.length * B ≤ 140737488351232) :=
  (Reads.slice ht hc hz h).imp fun xs ⟨ys, h1, h2, h3⟩ => by
    obtain ⟨l, g1, g2, g3⟩ := els_of hI h3
    refine ⟨l, by rw [h1, g1], g3, ?_⟩
    rw [g2, ← hb]
    exact h2
theorem reads_bytes {P : Program} {t e : TypeId} (ht : P.underlying t = some (.slice e)) (he : P.underlying e = some (.int .u8)) (hc : P.cellsOf e = 1) (hb : P.bytesOf e = 1) : Reads P t (fun xs => ∃ l : List Int, xs = [.slice .none none (l.map u8)] ∧ Bytes l ∧ l.length ≤ 140737488351232) :=
  (reads_sl (k := none) (f := u8) (p := fun c => 0 ≤ c ∧ c ≤ 255) ht hc (by decide) 1 hb (Reads.int he) (fun y ⟨⟨x, hy, hw⟩, _, _⟩ => ⟨x, by rw [hy]; rfl, wf_b hw⟩)).imp fun xs ⟨l, h1, h2, h3⟩ => ⟨l, h1, h2, by omega⟩
theorem reads_nums {P : Program} {t e : TypeId} (ht : P.underlying t = some (.slice e)) (he : P.underlying e = some (.int .u64)) (hc : P.cellsOf e = 1) (hb : P.bytesOf e = 8) : Reads P t (fun xs => ∃ l : List Int, xs = [.slice .none none (l.map u64)] ∧ (∀ x ∈ l, U64 x) ∧ l.length * 8 ≤ 140737488351232) :=
  reads_sl (k := none) (f := u64) ht hc (by decide) 8 hb (Reads.int he) (fun y ⟨⟨x, hy, hw⟩, _, _⟩ => ⟨x, by rw [hy]; rfl, wf_u64 hw⟩)
end Go.Proofs.Ytipbmacpenmgoaa.AM

/- layer 11: LogNobody. -/
namespace Go.Proofs.Ytipbmacpenmgoaa.AM
open Go
set_option maxRecDepth 100000
set_option linter.unusedVariables false
set_option linter.unusedSimpArgs false
def bsl (l : List Int) : AV := .slice .none none (l.map u8)
/-- a call, as data -/
structure Op11 where
  k : Int
  b : List Int
  l : List (List Int)
  n : Int
  m : Int
theorem reads_bss {P : Program} {tl tb e : TypeId} (hl : P.underlying tl = some (.slice tb)) (cb : P.cellsOf tb = 1) (bb : P.bytesOf tb = 24) (hb : P.underlying tb = some (.slice e)) (he : P.underlying e = some (.int .u8)) (ce : P.cellsOf e = 1) (be : P.bytesOf e = 1) :
    Reads P tl (fun xs => ∃ l : List (List Int), xs = [.slice .none none (l.map bsl)] ∧ (∀ x ∈ l, Bytes x ∧ x.length ≤ 140737488351232) ∧ l.length * 24 ≤ 140737488351232) :=
  reads_sl (k := none) (f := bsl) (p := fun x => Bytes x ∧ x.length ≤ 140737488351232) hl cb (by decide) 24 bb (reads_bytes hb he ce be) (fun y ⟨⟨l, hy, h1, h2⟩, _, _⟩ => ⟨l, by rw [hy]; rfl, h1, h2⟩)
theorem reads_op11 {P : Program} {t ti tl tb e : TypeId} {f1 f2 f3 f4 f5 : Field} (ht : P.underlying t = some (.struct #[f1, f2, f3, f4, f5])) (hc : P.cellsOf t = 5)
    (ho : [f1.offset, f2.offset, f3.offset, f4.offset, f5.offset] = [0, 1, 2, 3, 4])
    (hg : [f1.type, f2.type, f3.type, f4.type, f5.type] = [ti, tb, tl, ti, ti])
    (hi : P.underlying ti = some (.int .i64)) (ci : P.cellsOf ti = 1) (hl : P.underlying tl = some (.slice tb)) (cl : P.cellsOf tl = 1) (hb : P.underlying tb = some (.slice e)) (cb : P.cellsOf tb = 1) (bb : P.bytesOf tb = 24) (he : P.underlying e = some (.int .u8)) (ce : P.cellsOf e = 1) (be : P.bytesOf e = 1) :
    Reads P t (fun xs => ∃ o : Op11, xs = [i64 o.k, bsl o.b, .slice .none none (o.l.map bsl), i64 o.n, i64 o.m]) := by
  simp only [List.cons.injEq, and_true] at ho hg
  obtain ⟨o1, o2, o3, o4, o5⟩ := ho
  obtain ⟨g1, g2, g3, g4, g5⟩ := hg
  have rI : Reads P ti _ := reads_i64 hi
  have rB : Reads P tb _ := reads_bytes hb he ce be
  have rL : Reads P tl _ := reads_bss hl cb bb hb he ce be
  refine (Reads.struct (fs := [f1, f2, f3, f4, f5]) ht (by rw [hc]; simp [g1, g2, g3, g4, g5, ci, cl, cb])
    (ReadsF.cons (a := 1) (by rw [g1]; exact rI) (by rw [o1]) (by rw [g1]; exact ci) (ReadsF.cons (a := 1) (by rw [g2]; exact rB) (by rw [o2]) (by rw [g2]; exact cb) (ReadsF.cons (a := 1) (by rw [g3]; exact rL) (by rw [o3]) (by rw [g3]; exact cl) (ReadsF.cons (a := 1) (by rw [g4]; exact rI) (by rw [o4]) (by rw [g4]; exact ci) (ReadsF.cons (a := 1) (by rw [g5]; exact rI) (by rw [o5]) (by rw [g5]; exact ci) ReadsF.nil)))))).imp ?_
  rintro xs ⟨_, _, rfl, ⟨x1, rfl, w1⟩, _, _, rfl, ⟨x2, rfl, w2, n2⟩, _, _, rfl, ⟨x3, rfl, w3⟩, _, _, rfl, ⟨x4, rfl, w4⟩, _, _, rfl, ⟨x5, rfl, w5⟩, rfl⟩
  exact ⟨⟨x1, x2, x3, x4, x5⟩, rfl⟩
theorem u8_nam (p : Nat → Bool) : ∀ l : List Int, namL p (l.map u8) = true
  | [] => rfl
  | x :: l => u8_nam p l
theorem bsl_nam : ∀ l : List (List Int), namL (fun _ => false) (l.map bsl) = true
  | [] => rfl
  | x :: l => by
    have h1 := u8_nam (fun _ => false) x
    have h2 := bsl_nam l
    simp only [List.map_cons, bsl, namL, nam, h1, h2, Bool.and_self]
theorem nobody_ok (k n m : Int) (o1 o2 : AOwn) (k1 k2 : Option Nat) (l1 l2 : List AV) (h0 : ∀ h, ag T 10 [] h = some (.sc (.bool true), h)) : prun T F5 [.agg [i64 k, .slice o1 k1 l1, .slice o2 k2 l2, i64 n, i64 m]] = some (.bool true) := by
  refine WP_eq (prun_wp ?_)
  have h1 := append_nil
  have h2 := sync_nil
  have h3 := rewrite_nil
  have h4 := len_nil
  have h5 := size_nil
  first | have hb := hb | have hb := trivial
  repeat' (first | (simp -implicitDefEqProofs (disch := omega) only [hb, F5, h0, h1, h2, h3, h4, h5, wC, initE, aop, Nat.reduceEqDiff, ↓reduceIte, Nat.reduceAdd, finish, resOf, tupOf, AM.freeze, freeze1, freezeL, closed, nam, namL, if_true, if_false, deref, boxAt, exAt, ldCells, oneL, oneCell, Nat.reduceLeDiff, evL, adopt, rigid, rigidL, trim, Int.reduceEq, Int.reduceMod, Int.reduceDiv, if_pos, if_neg, asI, forall_const, implies_true, chkD, chkO, chkW, effB, reB, vEq, beq_self_eq_true, Nat.reduceSub, Nat.reduceLT, Int.reduceSub, Int.reduceAdd, Int.reduceMul, Int.reduceLT, Int.reduceLE, Int.reduceToNat, optI, aslice, cutSl, cutMs, cutStr, cutOwn, cellsOf, one, elCells, lenOf, beqV, beqVL, strip, stripO, convS]) | ((first | rw [WP_condK] | rw [WP_opsG] | rw [WP_quiG] | rw [WP_dG]); refine And.intro (fun hb => ?_) (fun hb => ?_) <;> (first | have hd := dq1 hb | have hd := dq2 hb | have hd := dq3 hb | have hd := dq4 hb | skip)))
end Go.Proofs.Ytipbmacpenmgoaa.AM

/- layer 11: Scan. -/
namespace Go.Proofs.Ytipbmacpenmgoaa.AM
open Go
set_option maxRecDepth 100000
set_option maxHeartbeats 4000000
set_option linter.unusedVariables false
set_option linter.unusedSimpArgs false
theorem call_clone_b (o : AOwn) (l : List Int) (hl : l.length ≤ 140737488355328) (h : Heap) : ∃ r h', ag T 23 [.slice o none (l.map u8)] h = some (.slice (.tok r) none (l.map u8), h ++ h') := by
  have hc : closedL (l.map u8) = true := u8_nam _ l
  exact ⟨_, _, call_clone e23 h hc (by rw [List.length_map]; exact fits_of (.inl (by omega)))⟩
/-- the payloads of the whole part of bytes, and how many bytes that has -/
def scanS (b : List Int) : Nat → Nat → List (List Int) → List (List Int) × Nat
  | 0, a, out => (out, a)
  | f + 1, a, out => match fstR out.length (b.drop a) with
    | none => (out, a)
    | some p => scanS b f (a + 12 + p.length) (out ++ [p])
def scanR (b : List Int) : List (List Int) × Nat := scanS b (b.length + 1) 0 []
theorem fst_len {i : Int} {b p : List Int} (h : fstR i b = some p) : 12 + p.length ≤ b.length := by
  unfold fstR at h
  split at h
  · rename_i hc
    cases h
    rw [List.length_take, List.length_drop]
    omega
  · cases h
def accR (h : Heap) (v : AV) (out : List (List Int)) : Prop := v = .slice (.tok 0) none (out.map bsl) ∧ h[0]? = some (.row none out.length)
def accF (out : List (List Int)) : AV := .slice .fresh none (out.map bsl)
theorem bytes_drop {b : List Int} (hb' : Bytes b) (a : Nat) : Bytes (b.drop a) := fun c hc => hb' c (List.mem_of_mem_drop hc)
theorem scan_ok (b : List Int) (hby : Bytes b) (hl : b.length ≤ 70368744177664) (o : AOwn) (hoo : o = .none ∨ o = .full) : prun T F8 [.slice o none (b.map u8)] = some (.tup [accF (scanR b).1, i64 (scanR b).2]) := by
  refine WP_eq (prun_wp ?_)
  first | have hb := hb | have hb := trivial
  repeat' (first | (simp -implicitDefEqProofs (disch := omega) only [hb, F8, wC, initE, aop, Nat.reduceEqDiff, ↓reduceIte, Nat.reduceAdd, finish, resOf, tupOf, AM.freeze, freeze1, freezeL, closed, nam, namL, if_true, if_false, deref, boxAt, exAt, ldCells, oneL, oneCell, Nat.reduceLeDiff, evL, adopt, rigid, rigidL, trim, Int.reduceEq, Int.reduceMod, Int.reduceDiv, if_pos, if_neg, asI, forall_const, implies_true, chkD, chkO, chkW, effB, reB, vEq, beq_self_eq_true, Nat.reduceSub, Nat.reduceLT, Int.reduceSub, Int.reduceAdd, Int.reduceMul, Int.reduceLT, Int.reduceLE, Int.reduceToNat, optI, aslice, cutSl, cutMs, cutStr, cutOwn, cellsOf, one, elCells, lenOf, beqV, beqVL, strip, stripO, convS]) | ((first | rw [WP_condK] | rw [WP_opsG] | rw [WP_quiG] | rw [WP_dG]); refine And.intro (fun hb => ?_) (fun hb => ?_) <;> (first | have hd := dq1 hb | have hd := dq2 hb | have hd := dq3 hb | have hd := dq4 hb | skip)))
  refine WP_loop (I := fun f e h' => ∃ (a k : Nat) (out : List (List Int)), f = b.length - a ∧ a ≤ b.length ∧ b.length - a < k ∧ 12 * out.length ≤ a ∧ scanS b k a out = scanR b ∧ getE e 0 = .slice o none (b.map u8) ∧ getE e 4 = .slice (.tok 0) none (out.map bsl) ∧ h'[0]? = some (.row none out.length) ∧ getE e 5 = i64 a) ?_ b.length _ _
    ⟨0, b.length + 1, [], rfl, Nat.zero_le _, by omega, Nat.le_refl _, rfl, rfl, rfl, rfl, rfl⟩
  rintro f e h' ⟨a, k, out, rfl, ha, hk, ho, hs, e0, e4, hrow, e5⟩
  rw [trim_off]
  obtain ⟨k, rfl⟩ : ∃ k', k = k' + 1 := ⟨k - 1, by omega⟩
  have hlo : (a : Int) ≤ (b.length : Int) := by omega
  have h0a : (0 : Int) ≤ (a : Int) := by omega
  have hdm : (b.map u8).drop a = (b.drop a).map u8 := by rw [List.map_drop]
  have hdl : (b.drop a).length ≤ 140737488355328 := by rw [List.length_drop]; omega
  cases hf : fstR out.length (b.drop a) with
  | none =>
    have hr : scanR b = (out, a) := by rw [← hs]; simp only [scanS, hf]
    rw [hr]
    have hcl := bsl_nam out
    unfold accF
    rcases call_first_none _ _ (bytes_drop hby a) hdl o hf h' with hc | ⟨p, hc⟩
    · rcases hoo with rfl | rfl
      · first | have hb := hb | have hb := trivial
        repeat' (first | (simp -implicitDefEqProofs (disch := omega) only [hb, L8_0, e0, e4, e5, hlo, h0a, hdm, hc, hcl, hrow, wC, initE, aop, Nat.reduceEqDiff, ↓reduceIte, Nat.reduceAdd, finish, resOf, tupOf, AM.freeze, freeze1, freezeL, closed, nam, namL, if_true, if_false, deref, boxAt, exAt, ldCells, oneL, oneCell, Nat.reduceLeDiff, evL, adopt, rigid, rigidL, trim, Int.reduceEq, Int.reduceMod, Int.reduceDiv, if_pos, if_neg, asI, forall_const, implies_true, chkD, chkO, chkW, effB, reB, vEq, beq_self_eq_true, Nat.reduceSub, Nat.reduceLT, Int.reduceSub, Int.reduceAdd, Int.reduceMul, Int.reduceLT, Int.reduceLE, Int.reduceToNat, optI, aslice, cutSl, cutMs, cutStr, cutOwn, cellsOf, one, elCells, lenOf, beqV, beqVL, strip, stripO, convS]) | ((first | rw [WP_condK] | rw [WP_opsG] | rw [WP_quiG] | rw [WP_dG]); refine And.intro (fun hb => ?_) (fun hb => ?_) <;> (first | have hd := dq1 hb | have hd := dq2 hb | have hd := dq3 hb | have hd := dq4 hb | skip)))
      · first | have hb := hb | have hb := trivial
        repeat' (first | (simp -implicitDefEqProofs (disch := omega) only [hb, L8_0, e0, e4, e5, hlo, h0a, hdm, hc, hcl, hrow, wC, initE, aop, Nat.reduceEqDiff, ↓reduceIte, Nat.reduceAdd, finish, resOf, tupOf, AM.freeze, freeze1, freezeL, closed, nam, namL, if_true, if_false, deref, boxAt, exAt, ldCells, oneL, oneCell, Nat.reduceLeDiff, evL, adopt, rigid, rigidL, trim, Int.reduceEq, Int.reduceMod, Int.reduceDiv, if_pos, if_neg, asI, forall_const, implies_true, chkD, chkO, chkW, effB, reB, vEq, beq_self_eq_true, Nat.reduceSub, Nat.reduceLT, Int.reduceSub, Int.reduceAdd, Int.reduceMul, Int.reduceLT, Int.reduceLE, Int.reduceToNat, optI, aslice, cutSl, cutMs, cutStr, cutOwn, cellsOf, one, elCells, lenOf, beqV, beqVL, strip, stripO, convS]) | ((first | rw [WP_condK] | rw [WP_opsG] | rw [WP_quiG] | rw [WP_dG]); refine And.intro (fun hb => ?_) (fun hb => ?_) <;> (first | have hd := dq1 hb | have hd := dq2 hb | have hd := dq3 hb | have hd := dq4 hb | skip)))
    · rcases hoo with rfl | rfl
      · first | have hb := hb | have hb := trivial
        repeat' (first | (simp -implicitDefEqProofs (disch := omega) only [hb, L8_0, e0, e4, e5, hlo, h0a, hdm, hc, hcl, hrow, wC, initE, aop, Nat.reduceEqDiff, ↓reduceIte, Nat.reduceAdd, finish, resOf, tupOf, AM.freeze, freeze1, freezeL, closed, nam, namL, if_true, if_false, deref, boxAt, exAt, ldCells, oneL, oneCell, Nat.reduceLeDiff, evL, adopt, rigid, rigidL, trim, Int.reduceEq, Int.reduceMod, Int.reduceDiv, if_pos, if_neg, asI, forall_const, implies_true, chkD, chkO, chkW, effB, reB, vEq, beq_self_eq_true, Nat.reduceSub, Nat.reduceLT, Int.reduceSub, Int.reduceAdd, Int.reduceMul, Int.reduceLT, Int.reduceLE, Int.reduceToNat, optI, aslice, cutSl, cutMs, cutStr, cutOwn, cellsOf, one, elCells, lenOf, beqV, beqVL, strip, stripO, convS]) | ((first | rw [WP_condK] | rw [WP_opsG] | rw [WP_quiG] | rw [WP_dG]); refine And.intro (fun hb => ?_) (fun hb => ?_) <;> (first | have hd := dq1 hb | have hd := dq2 hb | have hd := dq3 hb | have hd := dq4 hb | skip)))
      · first | have hb := hb | have hb := trivial
        repeat' (first | (simp -implicitDefEqProofs (disch := omega) only [hb, L8_0, e0, e4, e5, hlo, h0a, hdm, hc, hcl, hrow, wC, initE, aop, Nat.reduceEqDiff, ↓reduceIte, Nat.reduceAdd, finish, resOf, tupOf, AM.freeze, freeze1, freezeL, closed, nam, namL, if_true, if_false, deref, boxAt, exAt, ldCells, oneL, oneCell, Nat.reduceLeDiff, evL, adopt, rigid, rigidL, trim, Int.reduceEq, Int.reduceMod, Int.reduceDiv, if_pos, if_neg, asI, forall_const, implies_true, chkD, chkO, chkW, effB, reB, vEq, beq_self_eq_true, Nat.reduceSub, Nat.reduceLT, Int.reduceSub, Int.reduceAdd, Int.reduceMul, Int.reduceLT, Int.reduceLE, Int.reduceToNat, optI, aslice, cutSl, cutMs, cutStr, cutOwn, cellsOf, one, elCells, lenOf, beqV, beqVL, strip, stripO, convS]) | ((first | rw [WP_condK] | rw [WP_opsG] | rw [WP_quiG] | rw [WP_dG]); refine And.intro (fun hb => ?_) (fun hb => ?_) <;> (first | have hd := dq1 hb | have hd := dq2 hb | have hd := dq3 hb | have hd := dq4 hb | skip)))
  | some p =>
    have hc := call_first_some _ _ (bytes_drop hby a) hdl o hf
    have hpl := fst_len hf
    rw [List.length_drop] at hpl
    have hs' : scanS b k (a + 12 + p.length) (out ++ [p]) = scanR b := by rw [← hs]; simp only [scanS, hf]
    obtain ⟨o', G, hcn⟩ := call_clone_b .none p (by omega) h'
    have hfit : fitsB (out.length + 1) 24 = true := fits_of (.inl (by omega))
    have hlt := (List.getElem?_eq_some_iff.1 hrow).1
    have hrow2 : (h' ++ G)[0]? = some (.row none out.length) := by rw [List.getElem?_append_left hlt, hrow]
    have hw1 : IntKind.i64.wrap (12 + (p.length : Int)) = ((12 + p.length : Nat) : Int) := by rw [IntKind.wrap_i64]; omega
    have hw2 : IntKind.i64.wrap ((a : Int) + ((12 + p.length : Nat) : Int)) = ((a + 12 + p.length : Nat) : Int) := by rw [IntKind.wrap_i64]; omega
    rcases hoo with rfl | rfl
    · first | have hb := hb | have hb := trivial
      repeat' (first | (simp -implicitDefEqProofs (disch := omega) only [hb, L8_0, e0, e4, e5, hlo, h0a, hdm, hc, hcn, hfit, hrow2, hw1, hw2, setEls, List.replicate_succ, List.replicate_zero, elFits, aappend, elemsOf, wC, initE, aop, Nat.reduceEqDiff, ↓reduceIte, Nat.reduceAdd, finish, resOf, tupOf, AM.freeze, freeze1, freezeL, closed, nam, namL, if_true, if_false, deref, boxAt, exAt, ldCells, oneL, oneCell, Nat.reduceLeDiff, evL, adopt, rigid, rigidL, trim, Int.reduceEq, Int.reduceMod, Int.reduceDiv, if_pos, if_neg, asI, forall_const, implies_true, chkD, chkO, chkW, effB, reB, vEq, beq_self_eq_true, Nat.reduceSub, Nat.reduceLT, Int.reduceSub, Int.reduceAdd, Int.reduceMul, Int.reduceLT, Int.reduceLE, Int.reduceToNat, optI, aslice, cutSl, cutMs, cutStr, cutOwn, cellsOf, one, elCells, lenOf, beqV, beqVL, strip, stripO, convS]) | ((first | rw [WP_condK] | rw [WP_opsG] | rw [WP_quiG] | rw [WP_dG]); refine And.intro (fun hb => ?_) (fun hb => ?_) <;> (first | have hd := dq1 hb | have hd := dq2 hb | have hd := dq3 hb | have hd := dq4 hb | skip)))
      exact ⟨b.length - (a + 12 + p.length), by omega, a + 12 + p.length, k, out ++ [p], rfl, by omega, by omega, by rw [List.length_append]; simp; omega, hs', by rw [List.map_append]; rfl, by rw [List.getElem?_set_self (by rw [List.length_append]; omega), List.length_append]; rfl, rfl⟩
    · first | have hb := hb | have hb := trivial
      repeat' (first | (simp -implicitDefEqProofs (disch := omega) only [hb, L8_0, e0, e4, e5, hlo, h0a, hdm, hc, hcn, hfit, hrow2, hw1, hw2, setEls, List.replicate_succ, List.replicate_zero, elFits, aappend, elemsOf, wC, initE, aop, Nat.reduceEqDiff, ↓reduceIte, Nat.reduceAdd, finish, resOf, tupOf, AM.freeze, freeze1, freezeL, closed, nam, namL, if_true, if_false, deref, boxAt, exAt, ldCells, oneL, oneCell, Nat.reduceLeDiff, evL, adopt, rigid, rigidL, trim, Int.reduceEq, Int.reduceMod, Int.reduceDiv, if_pos, if_neg, asI, forall_const, implies_true, chkD, chkO, chkW, effB, reB, vEq, beq_self_eq_true, Nat.reduceSub, Nat.reduceLT, Int.reduceSub, Int.reduceAdd, Int.reduceMul, Int.reduceLT, Int.reduceLE, Int.reduceToNat, optI, aslice, cutSl, cutMs, cutStr, cutOwn, cellsOf, one, elCells, lenOf, beqV, beqVL, strip, stripO, convS]) | ((first | rw [WP_condK] | rw [WP_opsG] | rw [WP_quiG] | rw [WP_dG]); refine And.intro (fun hb => ?_) (fun hb => ?_) <;> (first | have hd := dq1 hb | have hd := dq2 hb | have hd := dq3 hb | have hd := dq4 hb | skip)))
      exact ⟨b.length - (a + 12 + p.length), by omega, a + 12 + p.length, k, out ++ [p], rfl, by omega, by omega, by rw [List.length_append]; simp; omega, hs', by rw [List.map_append]; rfl, by rw [List.getElem?_set_self (by rw [List.length_append]; omega), List.length_append]; rfl, rfl⟩
end Go.Proofs.Ytipbmacpenmgoaa.AM

/- layer 11: the document's Scan. -/
namespace Go.Proofs.Ytipbmacpenmgoaa.AM
open Go
set_option maxRecDepth 100000
set_option maxHeartbeats 4000000
set_option linter.unusedVariables false
set_option linter.unusedSimpArgs false
theorem l_beq {a b : List Int} (ha : Bytes a) (hb : Bytes b) : ((strOfNums a).toList == (strOfNums b).toList) = decide (a = b) := by
  by_cases h : a = b
  · subst h; simp
  · rw [decide_eq_false h, beq_eq_false_iff_ne]
    exact fun hh => h (str_inj ha hb hh)
theorem l_eq {a b : List Int} (ha : Bytes a) (hb : Bytes b) : abin .eql (.string (strOfNums a)) (.string (strOfNums b)) = some (.bool (decide (a = b))) := by
  simp only [abin, astr, l_beq ha hb]
theorem l_ne {a b : List Int} (ha : Bytes a) (hb : Bytes b) : abin .neq (.string (strOfNums a)) (.string (strOfNums b)) = some (.bool (!decide (a = b))) := by
  have := l_eq ha hb
  simp only [abin, astr, Option.some.injEq, Value.bool.injEq] at this ⊢
  rw [this]
theorem recS_bytes (i : Int) {p : List Int} (hp : Bytes p) : Bytes (recS i p) := by
  intro c hc
  rcases List.mem_append.1 hc with hc | hc
  · rcases List.mem_append.1 hc with hc | hc
    · exact lowS_bytes _ _ c hc
    · have := kSum_byte _ c (List.mem_of_mem_take hc)
      omega
  · exact hp c hc
theorem bsl_namp (p : Nat → Bool) : ∀ l : List (List Int), namL p (l.map bsl) = true
  | [] => rfl
  | x :: l => by
    have h1 := u8_nam p x
    have h2 := bsl_namp p l
    simp only [List.map_cons, bsl, namL, nam, h1, h2, Bool.and_self]
theorem hdN_eq (b : List Int) : hdN b = gI b 0 + gI b 1 * 2 ^ 8 + gI b 2 * 2 ^ 16 + gI b 3 * 2 ^ 24 := by
  simp only [hdN, accS, Nat.mul_zero, Int.pow_zero, Int.mul_one, Int.zero_add]
theorem rscan_ok (b : List Int) (hby : Bytes b) (hl : b.length ≤ 70368744177664) (o : AOwn) (hoo : o = .none ∨ o = .full) : prun T F9 [.slice o none (b.map u8)] = some (.tup [accF (scanR b).1, i64 (scanR b).2]) := by
  refine WP_eq (prun_wp ?_)
  first | have hb := hb | have hb := trivial
  repeat' (first | (simp -implicitDefEqProofs (disch := omega) only [hb, F9, wC, initE, aop, Nat.reduceEqDiff, ↓reduceIte, Nat.reduceAdd, finish, resOf, tupOf, AM.freeze, freeze1, freezeL, closed, nam, namL, if_true, if_false, deref, boxAt, exAt, ldCells, oneL, oneCell, Nat.reduceLeDiff, evL, adopt, rigid, rigidL, trim, Int.reduceEq, Int.reduceMod, Int.reduceDiv, if_pos, if_neg, asI, forall_const, implies_true, chkD, chkO, chkW, effB, reB, vEq, beq_self_eq_true, Nat.reduceSub, Nat.reduceLT, Int.reduceSub, Int.reduceAdd, Int.reduceMul, Int.reduceLT, Int.reduceLE, Int.reduceToNat, optI, aslice, cutSl, cutMs, cutStr, cutOwn, cellsOf, one, elCells, lenOf, beqV, beqVL, strip, stripO, convS]) | ((first | rw [WP_condK] | rw [WP_opsG] | rw [WP_quiG] | rw [WP_dG]); refine And.intro (fun hb => ?_) (fun hb => ?_) <;> (first | have hd := dq1 hb | have hd := dq2 hb | have hd := dq3 hb | have hd := dq4 hb | skip)))
  refine WP_loop (I := fun f e h' => ∃ (a k : Nat) (out : List (List Int)), f = b.length - a ∧ a ≤ b.length ∧ b.length - a < k ∧ 12 * out.length ≤ a ∧ scanS b k a out = scanR b ∧ getE e 0 = .slice o none (b.map u8) ∧ getE e 4 = .slice (.tok 0) none (out.map bsl) ∧ h'[0]? = some (.row none out.length) ∧ getE e 5 = i64 a) ?_ b.length _ _
    ⟨0, b.length + 1, [], rfl, Nat.zero_le _, by omega, Nat.le_refl _, rfl, rfl, rfl, rfl, rfl⟩
  rintro f e h' ⟨a, k, out, rfl, ha, hk, ho, hs, e0, e4, hrow, e5⟩
  have htk : h'.take 1 = [.row none out.length] := by
    cases h' with
    | nil => cases hrow
    | cons x r => simp at hrow; simp [hrow]
  have hub := u8_nam (fun i => decide (i < 1)) b
  have hob := bsl_namp (fun i => decide (i < 1)) out
  rw [trim_take (m := 1) (by
    simp only [List.all_cons, List.all_nil, e0, e4, e5, below, nam, hub, hob]
    rcases hoo with rfl | rfl <;> rfl) (by rw [htk]; rfl), htk]
  obtain ⟨k, rfl⟩ : ∃ k', k = k' + 1 := ⟨k - 1, by omega⟩
  have hsub : IntKind.i64.wrap ((b.length : Int) - (a : Int)) = (b.length : Int) - (a : Int) := by rw [IntKind.wrap_i64]; omega
  have hdl : (b.drop a).length = b.length - a := by rw [List.length_drop]
  by_cases h12 : b.length - a < 12
  · have hf : fstR out.length (b.drop a) = none := by unfold fstR; rw [if_neg (by omega)]
    have hr : scanR b = (out, a) := by rw [← hs]; simp only [scanS, hf]
    rw [hr]
    have hcl := bsl_nam out
    unfold accF
    have hge : ¬ (12 : Int) ≤ (b.length : Int) - (a : Int) := by omega
    first | have hb := hb | have hb := trivial
    repeat' (first | (simp -implicitDefEqProofs (disch := omega) only [hb, L9_0, e0, e4, e5, hsub, hge, hcl, wC, initE, aop, Nat.reduceEqDiff, ↓reduceIte, Nat.reduceAdd, finish, resOf, tupOf, AM.freeze, freeze1, freezeL, closed, nam, namL, if_true, if_false, deref, boxAt, exAt, ldCells, oneL, oneCell, Nat.reduceLeDiff, evL, adopt, rigid, rigidL, trim, Int.reduceEq, Int.reduceMod, Int.reduceDiv, if_pos, if_neg, asI, forall_const, implies_true, chkD, chkO, chkW, effB, reB, vEq, beq_self_eq_true, Nat.reduceSub, Nat.reduceLT, Int.reduceSub, Int.reduceAdd, Int.reduceMul, Int.reduceLT, Int.reduceLE, Int.reduceToNat, optI, aslice, cutSl, cutMs, cutStr, cutOwn, cellsOf, one, elCells, lenOf, beqV, beqVL, strip, stripO, convS]) | ((first | rw [WP_condK] | rw [WP_opsG] | rw [WP_quiG] | rw [WP_dG]); refine And.intro (fun hb => ?_) (fun hb => ?_) <;> (first | have hd := dq1 hb | have hd := dq2 hb | have hd := dq3 hb | have hd := dq4 hb | skip)))
  have hby2 := bytes_drop hby a
  have g : ∀ j, j < 12 → (b.map u8)[a + j]? = some (u8 (gI (b.drop a) j)) := fun j hj => by
    rw [List.getElem?_map, ← List.getElem?_drop, gI_get (by omega)]; rfl
  have g0 := g 0 (by omega)
  have g1 := g 1 (by omega)
  have g2 := g 2 (by omega)
  have g3 := g 3 (by omega)
  rw [Nat.add_zero] at g0
  have c0 := gI_b hby2 0
  have c1 := gI_b hby2 1
  have c2 := gI_b hby2 2
  have c3 := gI_b hby2 3
  have hx := hdN_eq (b.drop a)
  have hn := num_b hby2
  have v0 : IntKind.i64.wrap (gI (b.drop a) 0) = gI (b.drop a) 0 := by rw [IntKind.wrap_i64]; omega
  have v1 : IntKind.i64.wrap (gI (b.drop a) 1) = gI (b.drop a) 1 := by rw [IntKind.wrap_i64]; omega
  have v2 : IntKind.i64.wrap (gI (b.drop a) 2) = gI (b.drop a) 2 := by rw [IntKind.wrap_i64]; omega
  have v3 : IntKind.i64.wrap (gI (b.drop a) 3) = gI (b.drop a) 3 := by rw [IntKind.wrap_i64]; omega
  have s1 : abin .shl (.int .i64 (gI (b.drop a) 1)) (.int .u64 8) = some (.int .i64 (gI (b.drop a) 1 * 2 ^ 8)) := shl_up _ 8 c1.1 c1.2 (by omega) .u64
  have s2 : abin .shl (.int .i64 (gI (b.drop a) 2)) (.int .u64 16) = some (.int .i64 (gI (b.drop a) 2 * 2 ^ 16)) := shl_up _ 16 c2.1 c2.2 (by omega) .u64
  have s3 : abin .shl (.int .i64 (gI (b.drop a) 3)) (.int .u64 24) = some (.int .i64 (gI (b.drop a) 3 * 2 ^ 24)) := shl_up _ 24 c3.1 c3.2 (by omega) .u64
  have r1 := or_up (gI (b.drop a) 0) (gI (b.drop a) 1) 8 (by omega) (by omega) c1.1 c1.2 (by omega)
  have r2 := or_up (gI (b.drop a) 0 + gI (b.drop a) 1 * 2 ^ 8) (gI (b.drop a) 2) 16 (by omega) (by omega) c2.1 c2.2 (by omega)
  have r3 := or_up (gI (b.drop a) 0 + gI (b.drop a) 1 * 2 ^ 8 + gI (b.drop a) 2 * 2 ^ 16) (gI (b.drop a) 3) 24 (by omega) (by omega) c3.1 c3.2 (by omega)
  rw [← hx] at r3
  clear hx
  have w1 : IntKind.i64.wrap ((a : Int) + 1) = ((a + 1 : Nat) : Int) := by rw [IntKind.wrap_i64]; omega
  have w2 : IntKind.i64.wrap ((a : Int) + 2) = ((a + 2 : Nat) : Int) := by rw [IntKind.wrap_i64]; omega
  have w3 : IntKind.i64.wrap ((a : Int) + 3) = ((a + 3 : Nat) : Int) := by rw [IntKind.wrap_i64]; omega
  have hsub2 : IntKind.i64.wrap ((b.length : Int) - (a : Int) - 12) = (b.length : Int) - (a : Int) - 12 := by rw [IntKind.wrap_i64]; omega
  have hge : (12 : Int) ≤ (b.length : Int) - (a : Int) := by omega
  obtain ⟨n, hnn⟩ := Int.eq_ofNat_of_zero_le hn.1
  generalize hxx : hdN (b.drop a) = x at *
  generalize gI (b.drop a) 1 * 2 ^ 8 = y1 at *
  generalize gI (b.drop a) 2 * 2 ^ 16 = y2 at *
  generalize gI (b.drop a) 3 * 2 ^ 24 = y3 at *
  generalize gI (b.drop a) 0 = d0 at *
  generalize gI (b.drop a) 1 = d1 at *
  generalize gI (b.drop a) 2 = d2 at *
  generalize gI (b.drop a) 3 = d3 at *
  generalize d0 + y1 = z1 at *
  generalize z1 + y2 = z2 at *
  have stop : fstR out.length (b.drop a) = none → scanR b = (out, a) := fun hf => by rw [← hs]; simp only [scanS, hf]
  have hcl := bsl_nam out
  have hpl : n + 12 ≤ b.length - a → (((b.drop a).drop 12).take n).length = n := fun h => by rw [List.length_take, List.length_drop, hdl]; omega
  by_cases hb1 : (65536 : Int) < x
  · have hf : fstR out.length (b.drop a) = none := by
      unfold fstR
      rw [if_neg]
      rintro ⟨_, q1, q2, _⟩
      rw [hxx, hnn] at q2
      unfold recE at q2
      rw [if_pos (by rw [show (n : Int).toNat = n from rfl, hpl (by omega)]; omega)] at q2
      cases q2
    rw [stop hf]
    unfold accF
    first | have hb := hb | have hb := trivial
    repeat' (first | (simp -implicitDefEqProofs (disch := omega) only [hb, L9_0, e0, e4, e5, hsub, hge, g0, g1, g2, g3, v0, v1, v2, v3, s1, s2, s3, r1, r2, r3, w1, w2, w3, hb1, hcl, wC, initE, aop, Nat.reduceEqDiff, ↓reduceIte, Nat.reduceAdd, finish, resOf, tupOf, AM.freeze, freeze1, freezeL, closed, nam, namL, if_true, if_false, deref, boxAt, exAt, ldCells, oneL, oneCell, Nat.reduceLeDiff, evL, adopt, rigid, rigidL, trim, Int.reduceEq, Int.reduceMod, Int.reduceDiv, if_pos, if_neg, asI, forall_const, implies_true, chkD, chkO, chkW, effB, reB, vEq, beq_self_eq_true, Nat.reduceSub, Nat.reduceLT, Int.reduceSub, Int.reduceAdd, Int.reduceMul, Int.reduceLT, Int.reduceLE, Int.reduceToNat, optI, aslice, cutSl, cutMs, cutStr, cutOwn, cellsOf, one, elCells, lenOf, beqV, beqVL, strip, stripO, convS]) | ((first | rw [WP_condK] | rw [WP_opsG] | rw [WP_quiG] | rw [WP_dG]); refine And.intro (fun hb => ?_) (fun hb => ?_) <;> (first | have hd := dq1 hb | have hd := dq2 hb | have hd := dq3 hb | have hd := dq4 hb | skip)))
  by_cases hb2 : (b.length : Int) - (a : Int) - 12 < x
  · have hf : fstR out.length (b.drop a) = none := by
      unfold fstR
      rw [if_neg]
      rintro ⟨_, q1, _, _⟩
      rw [hxx] at q1
      omega
    rw [stop hf]
    unfold accF
    first | have hb := hb | have hb := trivial
    repeat' (first | (simp -implicitDefEqProofs (disch := omega) only [hb, L9_0, e0, e4, e5, hsub, hsub2, hge, g0, g1, g2, g3, v0, v1, v2, v3, s1, s2, s3, r1, r2, r3, w1, w2, w3, hb1, hb2, hcl, wC, initE, aop, Nat.reduceEqDiff, ↓reduceIte, Nat.reduceAdd, finish, resOf, tupOf, AM.freeze, freeze1, freezeL, closed, nam, namL, if_true, if_false, deref, boxAt, exAt, ldCells, oneL, oneCell, Nat.reduceLeDiff, evL, adopt, rigid, rigidL, trim, Int.reduceEq, Int.reduceMod, Int.reduceDiv, if_pos, if_neg, asI, forall_const, implies_true, chkD, chkO, chkW, effB, reB, vEq, beq_self_eq_true, Nat.reduceSub, Nat.reduceLT, Int.reduceSub, Int.reduceAdd, Int.reduceMul, Int.reduceLT, Int.reduceLE, Int.reduceToNat, optI, aslice, cutSl, cutMs, cutStr, cutOwn, cellsOf, one, elCells, lenOf, beqV, beqVL, strip, stripO, convS]) | ((first | rw [WP_condK] | rw [WP_opsG] | rw [WP_quiG] | rw [WP_dG]); refine And.intro (fun hb => ?_) (fun hb => ?_) <;> (first | have hd := dq1 hb | have hd := dq2 hb | have hd := dq3 hb | have hd := dq4 hb | skip)))
  have hfs : fstR out.length (b.drop a) = if recS out.length (((b.drop a).drop 12).take n) = (b.drop a).take (12 + n) then some (((b.drop a).drop 12).take n) else none := by
    unfold fstR
    rw [hxx, hnn, show (n : Int).toNat = n from rfl]
    have hre : recE (out.length : Int) (((b.drop a).drop 12).take n) = 0 := by
      unfold recE
      rw [if_neg (by rw [hpl (by omega)]; omega), if_neg (by omega)]
    by_cases hq : recS out.length (((b.drop a).drop 12).take n) = (b.drop a).take (12 + n)
    · rw [if_pos hq, if_pos ⟨by omega, by omega, hre, hq⟩]
    · rw [if_neg hq, if_neg (fun h => hq h.2.2.2)]
  have hre : recE (out.length : Int) (((b.drop a).drop 12).take n) = 0 := by
    unfold recE
    rw [if_neg (by rw [hpl (by omega)]; omega), if_neg (by omega)]
  have hpb : Bytes (((b.drop a).drop 12).take n) := fun c hc => hby2 c (List.mem_of_mem_drop (List.mem_of_mem_take hc))
  have hqb : Bytes ((b.drop a).take (12 + n)) := fun c hc => hby2 c (List.mem_of_mem_take hc)
  have wA : IntKind.i64.wrap ((a : Int) + 12) = ((a + 12 : Nat) : Int) := by rw [IntKind.wrap_i64]; omega
  have wB : IntKind.i64.wrap (((a + 12 : Nat) : Int) + x) = ((a + 12 + n : Nat) : Int) := by rw [IntKind.wrap_i64]; omega
  have l1 : ((a + 12 : Nat) : Int) ≤ ((a + 12 + n : Nat) : Int) := by omega
  have l2 : ((a + 12 + n : Nat) : Int) ≤ (b.length : Int) := by omega
  have l3 : (a : Int) ≤ ((a + 12 + n : Nat) : Int) := by omega
  have f1 : ((b.map u8).take (a + 12 + n)).drop (a + 12) = (((b.drop a).drop 12).take n).map u8 := by
    rw [List.drop_take, List.map_take, List.map_drop, List.map_drop, List.drop_drop, show a + 12 + n - (a + 12) = n by omega]
  have f2 : ((b.map u8).take (a + 12 + n)).drop a = ((b.drop a).take (12 + n)).map u8 := by
    rw [List.drop_take, List.map_take, List.map_drop, show a + 12 + n - a = 12 + n by omega]
  have hpn := hpl (by omega)
  have hrb := recS_bytes out.length hpb
  have hok := fun (o : AOwn) => call_rrecord_ok out.length (((b.drop a).drop 12).take n) o hpb hre (by omega)
  have hne := l_ne hrb hqb
  have e1 := byteEls_u8 (recS out.length (((b.drop a).drop 12).take n))
  have e2 := byteEls_u8 ((b.drop a).take (12 + n))
  have hs0 := hs
  generalize ((b.drop a).drop 12).take n = p at *
  generalize (b.drop a).take (12 + n) = pre at *
  by_cases hq : recS out.length p = pre
  · have hf : fstR out.length (b.drop a) = some p := by rw [hfs, if_pos hq]
    have hs' : scanS b k (a + 12 + p.length) (out ++ [p]) = scanR b := by rw [← hs]; simp only [scanS, hf]
    have hd : (!decide (recS out.length p = pre)) = false := by rw [decide_eq_true hq]; rfl
    rw [hd] at hne
    have wP : IntKind.i64.wrap (((a + 12 : Nat) : Int) + x) = ((a + 12 + p.length : Nat) : Int) := by rw [IntKind.wrap_i64]; omega
    have hfit : fitsB (out.length + 1) 24 = true := fits_of (.inl (by omega))
    have hfit2 : fitsB (0 + p.length) 1 = true := fits_of (.inl (by omega))
    have l1' : ((a + 12 : Nat) : Int) ≤ ((a + 12 + p.length : Nat) : Int) := by omega
    have l2' : ((a + 12 + p.length : Nat) : Int) ≤ (b.length : Int) := by omega
    have l3' : (a : Int) ≤ ((a + 12 + p.length : Nat) : Int) := by omega
    rw [← hpn] at f1 f2
    generalize recS out.length p = R at *
    first | have hb := hb | have hb := trivial
    repeat' (first | (simp -implicitDefEqProofs (disch := omega) only [hb, L9_0, e0, e4, e5, hsub, hsub2, hge, g0, g1, g2, g3, v0, v1, v2, v3, s1, s2, s3, r1, r2, r3, w1, w2, w3, hb1, hb2, hcl, wA, wP, l1', l2', l3', f1, f2, hok, e1, e2, hne, hfit, hfit2, setEls, List.replicate_succ, List.replicate_zero, elFits, aappend, elemsOf, wC, initE, aop, Nat.reduceEqDiff, ↓reduceIte, Nat.reduceAdd, finish, resOf, tupOf, AM.freeze, freeze1, freezeL, closed, nam, namL, if_true, if_false, deref, boxAt, exAt, ldCells, oneL, oneCell, Nat.reduceLeDiff, evL, adopt, rigid, rigidL, trim, Int.reduceEq, Int.reduceMod, Int.reduceDiv, if_pos, if_neg, asI, forall_const, implies_true, chkD, chkO, chkW, effB, reB, vEq, beq_self_eq_true, Nat.reduceSub, Nat.reduceLT, Int.reduceSub, Int.reduceAdd, Int.reduceMul, Int.reduceLT, Int.reduceLE, Int.reduceToNat, optI, aslice, cutSl, cutMs, cutStr, cutOwn, cellsOf, one, elCells, lenOf, beqV, beqVL, strip, stripO, convS]) | ((first | rw [WP_condK] | rw [WP_opsG] | rw [WP_quiG] | rw [WP_dG]); refine And.intro (fun hb => ?_) (fun hb => ?_) <;> (first | have hd := dq1 hb | have hd := dq2 hb | have hd := dq3 hb | have hd := dq4 hb | skip)))
    exact ⟨b.length - (a + 12 + p.length), by omega, a + 12 + p.length, k, out ++ [p], rfl, by omega, by omega, by rw [List.length_append]; simp; omega, hs', by rw [List.map_append]; rfl, by rw [List.length_append]; rfl, rfl⟩
  · have hf : fstR out.length (b.drop a) = none := by rw [hfs, if_neg hq]
    have hd : (!decide (recS out.length p = pre)) = true := by rw [decide_eq_false hq]; rfl
    rw [hd] at hne
    rw [stop hf]
    unfold accF
    generalize recS out.length p = R at *
    first | have hb := hb | have hb := trivial
    repeat' (first | (simp -implicitDefEqProofs (disch := omega) only [hb, L9_0, e0, e4, e5, hsub, hsub2, hge, g0, g1, g2, g3, v0, v1, v2, v3, s1, s2, s3, r1, r2, r3, w1, w2, w3, hb1, hb2, hcl, wA, wB, l1, l2, l3, f1, f2, hok, e1, e2, hne, elemsOf, wC, initE, aop, Nat.reduceEqDiff, ↓reduceIte, Nat.reduceAdd, finish, resOf, tupOf, AM.freeze, freeze1, freezeL, closed, nam, namL, if_true, if_false, deref, boxAt, exAt, ldCells, oneL, oneCell, Nat.reduceLeDiff, evL, adopt, rigid, rigidL, trim, Int.reduceEq, Int.reduceMod, Int.reduceDiv, if_pos, if_neg, asI, forall_const, implies_true, chkD, chkO, chkW, effB, reB, vEq, beq_self_eq_true, Nat.reduceSub, Nat.reduceLT, Int.reduceSub, Int.reduceAdd, Int.reduceMul, Int.reduceLT, Int.reduceLE, Int.reduceToNat, optI, aslice, cutSl, cutMs, cutStr, cutOwn, cellsOf, one, elCells, lenOf, beqV, beqVL, strip, stripO, convS]) | ((first | rw [WP_condK] | rw [WP_opsG] | rw [WP_quiG] | rw [WP_dG]); refine And.intro (fun hb => ?_) (fun hb => ?_) <;> (first | have hd := dq1 hb | have hd := dq2 hb | have hd := dq3 hb | have hd := dq4 hb | skip)))
end Go.Proofs.Ytipbmacpenmgoaa.AM

/- layer 11: the same payloads; both Scans, called. -/
namespace Go.Proofs.Ytipbmacpenmgoaa.AM
open Go
set_option maxRecDepth 100000
set_option maxHeartbeats 4000000
set_option linter.unusedVariables false
set_option linter.unusedSimpArgs false
/-- two lists of payloads, the one as the other -/
theorem same_ok (l : List (List Int)) (hl : ∀ x ∈ l, x.length ≤ 140737488355328) (hln : l.length ≤ 1152921504606846976) (o1 o2 : AOwn) : prun T F11 [.slice o1 none (l.map bsl), .slice o2 none (l.map bsl)] = some (.bool true) := by
  refine WP_eq (prun_wp ?_)
  first | have hb := hb | have hb := trivial
  repeat' (first | (simp -implicitDefEqProofs (disch := omega) only [hb, F11, wC, initE, aop, Nat.reduceEqDiff, ↓reduceIte, Nat.reduceAdd, finish, resOf, tupOf, AM.freeze, freeze1, freezeL, closed, nam, namL, if_true, if_false, deref, boxAt, exAt, ldCells, oneL, oneCell, Nat.reduceLeDiff, evL, adopt, rigid, rigidL, trim, Int.reduceEq, Int.reduceMod, Int.reduceDiv, if_pos, if_neg, asI, forall_const, implies_true, chkD, chkO, chkW, effB, reB, vEq, beq_self_eq_true, Nat.reduceSub, Nat.reduceLT, Int.reduceSub, Int.reduceAdd, Int.reduceMul, Int.reduceLT, Int.reduceLE, Int.reduceToNat, optI, aslice, cutSl, cutMs, cutStr, cutOwn, cellsOf, one, elCells, lenOf, beqV, beqVL, strip, stripO, convS]) | ((first | rw [WP_condK] | rw [WP_opsG] | rw [WP_quiG] | rw [WP_dG]); refine And.intro (fun hb => ?_) (fun hb => ?_) <;> (first | have hd := dq1 hb | have hd := dq2 hb | have hd := dq3 hb | have hd := dq4 hb | skip)))
  refine WP_loop (I := fun f e h' => ∃ j : Nat, f = l.length - j ∧ j ≤ l.length ∧ getE e 0 = .slice o1 none (l.map bsl) ∧ getE e 1 = .slice o2 none (l.map bsl) ∧ getE e 5 = i64 j ∧ h' = []) ?_ l.length _ _
    ⟨0, rfl, Nat.zero_le _, rfl, rfl, rfl, rfl⟩
  rintro f e h' ⟨j, rfl, hj, e0, e1, e5, rfl⟩
  rw [trim_same' (by simp)]
  by_cases hjn : j < l.length
  · have hlt : (j : Int) < (l.length : Int) := by omega
    have hg : (l.map bsl)[j]? = some (.slice .none none (l[j].map u8)) := by rw [List.getElem?_map, List.getElem?_eq_getElem hjn]; rfl
    have hlx := hl l[j] (List.getElem_mem hjn)
    have hb1 := byteEls_u8 l[j]
    have hse : abin .neq (.string (strOfNums l[j])) (.string (strOfNums l[j])) = some (.bool false) := by simp [abin, astr]
    have hw : IntKind.i64.wrap ((j : Int) + 1) = ((j + 1 : Nat) : Int) := by rw [IntKind.wrap_i64]; omega
    generalize l[j] = x at *
    first | have hb := hb | have hb := trivial
    repeat' (first | (simp -implicitDefEqProofs (disch := omega) only [hb, L11_0, e0, e1, e5, hlt, hg, hb1, hse, hw, elemsOf, wC, initE, aop, Nat.reduceEqDiff, ↓reduceIte, Nat.reduceAdd, finish, resOf, tupOf, AM.freeze, freeze1, freezeL, closed, nam, namL, if_true, if_false, deref, boxAt, exAt, ldCells, oneL, oneCell, Nat.reduceLeDiff, evL, adopt, rigid, rigidL, trim, Int.reduceEq, Int.reduceMod, Int.reduceDiv, if_pos, if_neg, asI, forall_const, implies_true, chkD, chkO, chkW, effB, reB, vEq, beq_self_eq_true, Nat.reduceSub, Nat.reduceLT, Int.reduceSub, Int.reduceAdd, Int.reduceMul, Int.reduceLT, Int.reduceLE, Int.reduceToNat, optI, aslice, cutSl, cutMs, cutStr, cutOwn, cellsOf, one, elCells, lenOf, beqV, beqVL, strip, stripO, convS]) | ((first | rw [WP_condK] | rw [WP_opsG] | rw [WP_quiG] | rw [WP_dG]); refine And.intro (fun hb => ?_) (fun hb => ?_) <;> (first | have hd := dq1 hb | have hd := dq2 hb | have hd := dq3 hb | have hd := dq4 hb | skip)))
    exact ⟨l.length - (j + 1), by omega, j + 1, rfl, by omega, rfl⟩
  · have hlt : ¬ ((j : Int) < (l.length : Int)) := by omega
    first | have hb := hb | have hb := trivial
    repeat' (first | (simp -implicitDefEqProofs (disch := omega) only [hb, L11_0, e0, e1, e5, hlt, wC, initE, aop, Nat.reduceEqDiff, ↓reduceIte, Nat.reduceAdd, finish, resOf, tupOf, AM.freeze, freeze1, freezeL, closed, nam, namL, if_true, if_false, deref, boxAt, exAt, ldCells, oneL, oneCell, Nat.reduceLeDiff, evL, adopt, rigid, rigidL, trim, Int.reduceEq, Int.reduceMod, Int.reduceDiv, if_pos, if_neg, asI, forall_const, implies_true, chkD, chkO, chkW, effB, reB, vEq, beq_self_eq_true, Nat.reduceSub, Nat.reduceLT, Int.reduceSub, Int.reduceAdd, Int.reduceMul, Int.reduceLT, Int.reduceLE, Int.reduceToNat, optI, aslice, cutSl, cutMs, cutStr, cutOwn, cellsOf, one, elCells, lenOf, beqV, beqVL, strip, stripO, convS]) | ((first | rw [WP_condK] | rw [WP_opsG] | rw [WP_quiG] | rw [WP_dG]); refine And.intro (fun hb => ?_) (fun hb => ?_) <;> (first | have hd := dq1 hb | have hd := dq2 hb | have hd := dq3 hb | have hd := dq4 hb | skip)))
theorem call_same (l : List (List Int)) (hl : ∀ x ∈ l, x.length ≤ 140737488355328) (hln : l.length ≤ 1152921504606846976) (o1 o2 : AOwn) (h : Heap) : ag T 11 [.slice o1 none (l.map bsl), .slice o2 none (l.map bsl)] h = some (.bool true, h) := by
  have h1 := bsl_nam l
  have ho1 : stripO o1 = .none ∨ stripO o1 = .full := by cases o1 <;> simp [stripO]
  have ho2 : stripO o2 = .none ∨ stripO o2 = .full := by cases o2 <;> simp [stripO]
  exact call_pure (T := T) (h := h) (args := [.slice o1 none (l.map bsl), .slice o2 none (l.map bsl)]) rfl t11 rfl rfl (by
    simp only [List.map_cons, List.map_nil, strip, closedL, namL, nam, h1, Bool.and_self, Bool.and_true]
    rcases ho1 with ho1 | ho1 <;> rcases ho2 with ho2 | ho2 <;> rw [ho1, ho2] <;> rfl) (same_ok l hl hln (stripO o1) (stripO o2))
theorem call_scan (b : List Int) (hby : Bytes b) (hl : b.length ≤ 70368744177664) (o : AOwn) (h : Heap) : ag T 8 [.slice o none (b.map u8)] h = some (.tup [.slice (.tok h.length) none ((scanR b).1.map bsl), i64 (scanR b).2], h ++ [.row none (scanR b).1.length]) := by
  have h1 := u8_namR (fun _ => false) b
  have ho : stripO o = .none ∨ stripO o = .full := by cases o <;> simp [stripO]
  have := call_pure (T := T) (h := h) (args := [.slice o none (b.map u8)]) rfl t8 rfl rfl (by
    simp only [List.map_cons, List.map_nil, strip, closedL, namL, nam, h1, Bool.and_self, Bool.and_true]
    rcases ho with ho | ho <;> rw [ho] <;> rfl) (scan_ok b hby hl (stripO o) ho)
  rw [this]
  simp only [adopt, accF, List.length_map]
theorem call_rscan (b : List Int) (hby : Bytes b) (hl : b.length ≤ 70368744177664) (o : AOwn) (h : Heap) : ag T 9 [.slice o none (b.map u8)] h = some (.tup [.slice (.tok h.length) none ((scanR b).1.map bsl), i64 (scanR b).2], h ++ [.row none (scanR b).1.length]) := by
  have h1 := u8_namR (fun _ => false) b
  have ho : stripO o = .none ∨ stripO o = .full := by cases o <;> simp [stripO]
  have := call_pure (T := T) (h := h) (args := [.slice o none (b.map u8)]) rfl t9 rfl rfl (by
    simp only [List.map_cons, List.map_nil, strip, closedL, namL, nam, h1, Bool.and_self, Bool.and_true]
    rcases ho with ho | ho <;> rw [ho] <;> rfl) (rscan_ok b hby hl (stripO o) ho)
  rw [this]
  simp only [adopt, accF, List.length_map]
theorem scanS_mem {b : List Int} : ∀ (k a : Nat) (out : List (List Int)), (∀ x ∈ out, x.length ≤ b.length) → ∀ x ∈ (scanS b k a out).1, x.length ≤ b.length
  | 0, a, out, h => h
  | k + 1, a, out, h => by
    simp only [scanS]
    cases hf : fstR out.length (b.drop a) with
    | none => exact h
    | some p =>
      have hp := fst_len hf
      rw [List.length_drop] at hp
      refine scanS_mem k _ _ fun x hx => ?_
      rcases List.mem_append.1 hx with hx | hx
      · exact h x hx
      · simp at hx; subst hx; omega
theorem scanS_len {b : List Int} : ∀ (k a : Nat) (out : List (List Int)), (scanS b k a out).1.length ≤ out.length + k
  | 0, a, out => Nat.le_refl _
  | k + 1, a, out => by
    simp only [scanS]
    cases hf : fstR out.length (b.drop a) with
    | none => exact Nat.le_add_right _ _
    | some p =>
      have := scanS_len k (a + 12 + p.length) (out ++ [p]) (b := b)
      simp only [List.length_append, List.length_singleton] at this
      show (scanS b k (a + 12 + p.length) (out ++ [p])).1.length ≤ _
      omega
end Go.Proofs.Ytipbmacpenmgoaa.AM

/- layer 11: what must come of every program. -/
namespace Go.Proofs.Ytipbmacpenmgoaa.AM
open Go
set_option maxRecDepth 100000
theorem lives_k : ag T 10 [] [] = some (.sc (.bool true), []) := ag_of_sums (n := 1000) (by kernel_rfl)
theorem call_lives (h : Heap) : ag T 10 [] h = some (.sc (.bool true), h) := k_any rfl t10 rfl rfl rfl rfl lives_k h
end Go.Proofs.Ytipbmacpenmgoaa.AM

/- layer 11: LogRecords' run. -/
namespace Go.Proofs.Ytipbmacpenmgoaa.AM
open Go
set_option maxRecDepth 100000
set_option maxHeartbeats 4000000
set_option linter.unusedVariables false
set_option linter.unusedSimpArgs false
theorem l_self (s : ByteArray) : abin .eql (.string s) (.string s) = some (.bool true) := by simp [abin, astr]
theorem records_ok (i : Int) (hi : i ≤ 9223372036854775807) (p b : List Int) (hp : Bytes p) (hby : Bytes b) (hl : b.length ≤ 70368744177664) : prun T F3 [i64 i, .slice .none none (p.map u8), .slice .none none (b.map u8)] = some (.bool true) := by
  refine WP_eq (prun_wp ?_)
  have hlv := call_lives
  have hsc := fun (o : AOwn) => call_scan b hby hl o
  have hrs := fun (o : AOwn) => call_rscan b hby hl o
  have hsm := fun (o1 o2 : AOwn) (h : Heap) => call_same (scanR b).1 (fun x hx => by
    have := scanS_mem (b := b) (b.length + 1) 0 [] (fun x hx => by cases hx) x hx
    omega) (by
    have := scanS_len (b := b) (b.length + 1) 0 []
    simp only [List.length_nil] at this
    show (scanS b (b.length + 1) 0 []).1.length ≤ _
    omega) o1 o2 h
  have hbb := byteEls_u8 b
  have hself := l_self
  have hbn : byteEls [] = some [] := rfl
  have hfit : fitsB (0 + b.length) 1 = true := fits_of (.inl (by omega))
  have hap : fitsB b.length 1 = true := fits_of (.inl (by omega))
  generalize (scanR b).1 = L at *
  generalize (scanR b).2 = M at *
  by_cases he : recE i p = 0
  · have hr := fun (o : AOwn) => call_record_ok i p o hp he
    have hq := fun (o : AOwn) => call_rrecord_ok i p o hp he hi
    have hrb := byteEls_u8 (recS i p)
    generalize recS i p = R at *
    first | have hb := hb | have hb := trivial
    repeat' (first | (simp -implicitDefEqProofs (disch := omega) only [hb, F3, hr, hq, hlv, hsc, hrs, hsm, hbb, hrb, hself, hfit, hap, List.replicate_succ, List.replicate_zero, List.nil_append, setEls, elFits, aappend, elemsOf, isNil, wC, initE, aop, Nat.reduceEqDiff, ↓reduceIte, Nat.reduceAdd, finish, resOf, tupOf, AM.freeze, freeze1, freezeL, closed, nam, namL, if_true, if_false, deref, boxAt, exAt, ldCells, oneL, oneCell, Nat.reduceLeDiff, evL, adopt, rigid, rigidL, trim, Int.reduceEq, Int.reduceMod, Int.reduceDiv, if_pos, if_neg, asI, forall_const, implies_true, chkD, chkO, chkW, effB, reB, vEq, beq_self_eq_true, Nat.reduceSub, Nat.reduceLT, Int.reduceSub, Int.reduceAdd, Int.reduceMul, Int.reduceLT, Int.reduceLE, Int.reduceToNat, optI, aslice, cutSl, cutMs, cutStr, cutOwn, cellsOf, one, elCells, lenOf, beqV, beqVL, strip, stripO, convS]) | ((first | rw [WP_condK] | rw [WP_opsG] | rw [WP_quiG] | rw [WP_dG]); refine And.intro (fun hb => ?_) (fun hb => ?_) <;> (first | have hd := dq1 hb | have hd := dq2 hb | have hd := dq3 hb | have hd := dq4 hb | skip)))
  · have hr := fun (o : AOwn) => call_record_bad i p o he
    have hq := fun (o : AOwn) => call_rrecord_bad i p o he
    generalize recE i p = E at *
    first | have hb := hb | have hb := trivial
    repeat' (first | (simp -implicitDefEqProofs (disch := omega) only [hb, F3, hr, hq, hlv, hsc, hrs, hsm, hbb, hbn, hself, hfit, hap, List.replicate_succ, List.replicate_zero, List.nil_append, setEls, elFits, aappend, elemsOf, isNil, wC, initE, aop, Nat.reduceEqDiff, ↓reduceIte, Nat.reduceAdd, finish, resOf, tupOf, AM.freeze, freeze1, freezeL, closed, nam, namL, if_true, if_false, deref, boxAt, exAt, ldCells, oneL, oneCell, Nat.reduceLeDiff, evL, adopt, rigid, rigidL, trim, Int.reduceEq, Int.reduceMod, Int.reduceDiv, if_pos, if_neg, asI, forall_const, implies_true, chkD, chkO, chkW, effB, reB, vEq, beq_self_eq_true, Nat.reduceSub, Nat.reduceLT, Int.reduceSub, Int.reduceAdd, Int.reduceMul, Int.reduceLT, Int.reduceLE, Int.reduceToNat, optI, aslice, cutSl, cutMs, cutStr, cutOwn, cellsOf, one, elCells, lenOf, beqV, beqVL, strip, stripO, convS]) | ((first | rw [WP_condK] | rw [WP_opsG] | rw [WP_quiG] | rw [WP_dG]); refine And.intro (fun hb => ?_) (fun hb => ?_) <;> (first | have hd := dq1 hb | have hd := dq2 hb | have hd := dq3 hb | have hd := dq4 hb | skip)))
theorem call_records (i : Int) (hi : i ≤ 9223372036854775807) (p b : List Int) (hp : Bytes p) (hby : Bytes b) (hl : b.length ≤ 70368744177664) : ag T 3 [i64 i, .slice .none none (p.map u8), .slice .none none (b.map u8)] [] = some (.sc (.bool true), []) :=
  call_sc rfl t3 rfl rfl rfl (by
    have h1 := u8_nam (fun _ => false) p
    have h2 := u8_nam (fun _ => false) b
    simp only [closedL, namL, nam, h1, h2, Bool.and_self]) (records_ok i hi p b hp hby hl)
end Go.Proofs.Ytipbmacpenmgoaa.AM

/- layer 11: what comes in, where it is small. -/
namespace Go.Proofs.Ytipbmacpenmgoaa.AM
open Go Go.RowKit Go.Deep
set_option linter.unusedSimpArgs false
set_option linter.unusedVariables false
theorem bulk_len {H : Type} (l : List (DataW H)) : l.length ≤ Rows.uptoBulkAll l := by
  induction l with
  | nil => simp [Rows.uptoBulkAll]
  | cons x r ih =>
    have : 1 ≤ Rows.uptoBulk x := by
      cases x with
      | lit l => cases l <;> simp [Rows.uptoBulk]
      | _ => simp [Rows.uptoBulk]
    simp only [Rows.uptoBulkAll, List.length_cons]; omega
theorem slice_bulk {H : Type} {enc : TypeId × Value → H} {P : Program} {w : World} {base : Nat} {spare : Nat → Bool} {held : Bool} {fuel : Nat} {t e : TypeId} (ht : P.underlying t = some (.slice e)) {a : Option Addr} {len cap : Nat} {x : DataW H × List MemPlace}
    (h : DataW.trod enc P w base spare held fuel t [.slice a len cap] = some x) : len ≤ Rows.uptoBulk x.1 := by
  rcases open_slice ht h with ⟨hc, _⟩ | ⟨a, len', cap', m, n, D, Pl, hc, hb, hl, hm, hmm, rfl, hel⟩
  · cases hc; omega
  · cases hc
    have := bulk_len ((List.range len).map D)
    rw [List.length_map, List.length_range] at this
    simp only [Rows.uptoBulk]
    omega
theorem bulk_mem {H : Type} {d : DataW H} : ∀ {ds : List (DataW H)}, d ∈ ds → Rows.uptoBulk d ≤ Rows.uptoBulkAll ds
  | [], h => by cases h
  | x :: r, h => by
    simp only [Rows.uptoBulkAll]
    rcases List.mem_cons.1 h with rfl | h
    · omega
    · have := bulk_mem h; omega
theorem slice_len {S : St} {els : List AV} {a : Option Addr} {len cap : Nat} (h : VL S [.slice .none none els] [.slice a len cap]) : els.length = len := by
  simp only [VL, V] at h
  obtain ⟨u, us, hu, ⟨ao, cap', h1, _⟩, _⟩ := h
  cases hu
  cases h1
  rfl
theorem slice_small {S : St} {H : Type} {enc : TypeId × Value → H} {P : Program} {w : World} {base : Nat} {spare : Nat → Bool} {held : Bool} {fuel : Nat} {t e : TypeId} (ht : P.underlying t = some (.slice e)) {a : Option Addr} {len cap : Nat} {x : DataW H × List MemPlace} {ds : List (DataW H)} {l : List Int}
    (hk : Rows.uptoSmall H ds = true) (hd : x.1 ∈ ds) (h : DataW.trod enc P w base spare held fuel t [.slice a len cap] = some x) (hv : VL S [.slice .none none (l.map u8)] [.slice a len cap]) : l.length ≤ 70368744177664 := by
  have h0 := of_decide_eq_true hk
  have h1 := bulk_mem hd
  have h2 := slice_bulk ht h
  have h3 := slice_len hv
  rw [List.length_map] at h3
  omega
end Go.Proofs.Ytipbmacpenmgoaa.AM
