import Derived.Test.YtkihcmlmcgokhaaDoorMc
/- The sets for runs, each as one fact. -/
namespace Go.Proofs.YtkihcmlmcgokhaaDoor.AM
open Go
set_option maxRecDepth 100000
set_option maxHeartbeats 4000000
set_option linter.defProp false
def wC := (And.intro (And.intro (And.intro (And.intro (And.intro (And.intro (And.intro @ax_seq (And.intro @ax_skip @ax_ret)) (And.intro @ax_exit (And.intro @ax_scope @ax_regK))) (And.intro (And.intro @ax_regQK (And.intro @ax_condK @ax_blockK)) (And.intro @condK_t (And.intro @condK_f @blkR_normal)))) (And.intro (And.intro (And.intro @blkR_ret (And.intro @blkR_if @norR_eq)) (And.intro @norQ_eq (And.intro @nextR_normal @nextR_ret))) (And.intro (And.intro @nextR_exit (And.intro @aops_nil @aops_none)) (And.intro (And.intro @aops_some @opsK_some) (And.intro @opsG_tt @opsG_ft))))) (And.intro (And.intro (And.intro (And.intro @opsG_tf (And.intro @opsG_ff @aopsQ_nil)) (And.intro @aopsQ_none (And.intro @aopsQ_some @quiK_some))) (And.intro (And.intro @quiG_tt (And.intro @quiG_ft @quiG_tf)) (And.intro @quiG_ff (And.intro @evO_tmp @evO_cst)))) (And.intro (And.intro (And.intro @getE_cons (And.intro @setE_some @setE_none)) (And.intro @bin_leq (And.intro @bin_geq @bin_lss))) (And.intro (And.intro @bin_gtr (And.intro @bin_eql @bin_neq)) (And.intro (And.intro @bin_add @bin_sub) (And.intro @bin_mul @Option.bind_some.{0, 0})))))) (And.intro (And.intro (And.intro (And.intro (And.intro @Option.map_some.{0, 0} (And.intro @Option.bind_none.{0, 0} @Option.map_none.{0, 0})) (And.intro @frz_eq (And.intro @Bool.false_eq_true @Bool.true_and))) (And.intro (And.intro @Bool.false_and (And.intro @Bool.and_true @Bool.and_false)) (And.intro @List.length_cons.{0} (And.intro @List.length_nil.{0} @List.nil_append.{0})))) (And.intro (And.intro (And.intro @List.cons_append.{0} (And.intro @List.getElem?_cons_zero.{0} @List.getElem?_cons_succ.{0})) (And.intro @List.drop_zero.{0} (And.intro @List.drop_succ_cons.{0} @List.take_succ_cons.{0}))) (And.intro (And.intro @List.take_zero.{0} (And.intro @Nat.le_refl @List.map_cons.{0, 0})) (And.intro (And.intro @List.map_nil.{0, 0} @List.append_nil.{0}) (And.intro @bin_quo @bin_rem))))) (And.intro (And.intro (And.intro (And.intro @rigK_sc (And.intro @rigK_agg @rigK_tup)) (And.intro @fstV_eq (And.intro @quiet_load @quiet_convStr))) (And.intro (And.intro @quiet_call (And.intro @Nat.lt_irrefl @and_false)) (And.intro @false_and (And.intro @decide_true @decide_false)))) (And.intro (And.intro (And.intro @Int.mul_zero (And.intro @Int.add_zero @ax_loop)) (And.intro @quiet_move (And.intro @quiet_pick @quiet_build))) (And.intro (And.intro @quiet_nilCheck (And.intro @quiet_bin @quiet_eqBool)) (And.intro (And.intro @quiet_eqArr @quiet_eqNil) (And.intro @quiet_un @quiet_convInt))))))) (And.intro (And.intro (And.intro (And.intro (And.intro (And.intro @quiet_makeFunc (And.intro @quiet_slice @quiet_toArr)) (And.intro @quiet_fieldAddr (And.intro @quiet_field @quiet_indexAddr))) (And.intro (And.intro @quiet_index (And.intro @quiet_indexStr @quiet_extract)) (And.intro @quiet_len (And.intro @quiet_lenT @quiet_convSS)))) (And.intro (And.intro (And.intro @quiet_minmax (And.intro @opsG_undef @quiG_undef)) (And.intro @fin_ret (And.intro @fin_normal @WP_some))) (And.intro (And.intro @WP_bind (And.intro @WP_map @WP_ite)) (And.intro (And.intro @WP_opsK_ite @WP_quiK_ite) (And.intro @BQ_eq @MQ_eq))))) (And.intro (And.intro (And.intro (And.intro @LQ_normal (And.intro @LQ_exit @LQ_ret)) (And.intro @Bool.not_true (And.intro @Bool.not_false @kz_some))) (And.intro (And.intro @kz_none (And.intro @Nat.mul_one @Nat.zero_add)) (And.intro @Int.toNat_natCast (And.intro @List.length_map.{0, 0} @true_and)))) (And.intro (And.intro (And.intro @and_true (And.intro @trim_off @and_self)) (And.intro @aun_not (And.intro @decide_eq_true @decide_eq_false))) (And.intro (And.intro @IntWalk.i64_in (And.intro @IntWalk.u64_in @cast_succ')) (And.intro (And.intro @List.set_cons_zero.{0} @List.set_cons_succ.{0}) (And.intro @List.length_set.{0} @List.length_append.{0})))))) (And.intro (And.intro (And.intro (And.intro (And.intro @List.length_replicate.{0} (And.intro @Int.natCast_nonneg @flat_one')) (And.intro @List.getElem?_drop.{0} (And.intro @Nat.add_zero @ax_regD))) (And.intro (And.intro @runD_nil (And.intro @runD_none @runD_some)) (And.intro @dK_some (And.intro @dG_tt @dG_ft)))) (And.intro (And.intro (And.intro @dG_tf (And.intro @dG_ff @dG_undef)) (And.intro @WP_dK_ite (And.intro @chkR_eq @chkV_some))) (And.intro (And.intro @chkV_off (And.intro @grow_eq @wantE_none)) (And.intro (And.intro @wantE_some @storeB_K) (And.intro @stB_eq @splice_nil))))) (And.intro (And.intro (And.intro (And.intro @splice_one (And.intro @splice_more @setParts_nil)) (And.intro @setParts_K (And.intro @spK_eq @nxE_some))) (And.intro (And.intro @nxE_none (And.intro @bne_ff @bne_tf)) (And.intro @bne_ft (And.intro @bne_tt @beq_ff)))) (And.intro (And.intro (And.intro @beq_tf (And.intro @beq_ft @beq_tt)) (And.intro @bne_f (And.intro @bne_t @fits_of))) (And.intro (And.intro @Option.getD_some.{0} (And.intro @Option.getD_none.{0} @get_app)) (And.intro (And.intro @get_app0 @set_app) (And.intro @set_app0 @tn_pred))))))))
def wO := (And.intro (And.intro (And.intro (And.intro (And.intro (And.intro @cellsOf_int @one_int) (And.intro @cellsOf_bool @one_bool)) (And.intro (And.intro @cellsOf_str @one_str) (And.intro @cellsOf_nil (And.intro @one_nil @cellsOf_nilp)))) (And.intro (And.intro (And.intro @one_nilp @cellsOf_nilm) (And.intro @one_nilm @cellsOf_nilf)) (And.intro (And.intro @one_nilf @cellsOf_slice) (And.intro @one_slice (And.intro @cellsOf_ptr @one_ptr))))) (And.intro (And.intro (And.intro (And.intro @cellsOf_ref @one_ref) (And.intro @cellsOf_ms @one_ms)) (And.intro (And.intro @cellsOf_func @one_func) (And.intro @cellsOf_agg (And.intro @one_agg @strip_sc)))) (And.intro (And.intro (And.intro @strip_slice @strip_ptr) (And.intro @strip_ref (And.intro @strip_ms @strip_func))) (And.intro (And.intro @strip_agg @strip_tup) (And.intro @lenOf_slice (And.intro @lenOf_ms @lenOf_nil)))))) (And.intro (And.intro (And.intro (And.intro (And.intro @elems_slice @elems_ms) (And.intro @elems_nil @elems_str)) (And.intro (And.intro @stripO_none @stripO_full) (And.intro @stripO_tok (And.intro @stripO_fresh @isNil_pn)))) (And.intro (And.intro (And.intro @isNil_pp @isNil_pr) (And.intro @isNil_sn (And.intro @isNil_sc @isNil_ms))) (And.intro (And.intro @elC_agg @elC_int) (And.intro @elC_slice (And.intro @elC_ref @elC_ptr))))) (And.intro (And.intro (And.intro (And.intro @elC_ms @stripEl_agg) (And.intro @stripEl_sc @stripEl_slice)) (And.intro (And.intro @elFits_agg @elFits_sc) (And.intro @elFits_slice (And.intro @beqV_ref @beqV_agg)))) (And.intro (And.intro (And.intro @beqV_slice @beqV_ptr) (And.intro @beqV_ms (And.intro @beqV_tup @beqV_sc))) (And.intro (And.intro @beqVL_nil @beqVL_cons) (And.intro @convS_slice (And.intro @convS_nil @convS_ms)))))))
theorem dq1 {p : Prop} [Decidable p] (h : decide p = true) : p := of_decide_eq_true h
theorem dq2 {p : Prop} [Decidable p] (h : decide p = false) : ¬p := of_decide_eq_false h
theorem dq3 {p : Prop} [Decidable p] (h : (!decide p) = true) : ¬p := of_decide_eq_false ((Bool.not_eq_true' _).mp h)
theorem dq4 {p : Prop} [Decidable p] (h : (!decide p) = false) : p := of_decide_eq_true ((Bool.not_eq_false' _).mp h)
end Go.Proofs.YtkihcmlmcgokhaaDoor.AM

/- The digest, in plain Lean: words, rounds, bytes. -/
namespace Go.Proofs.YtkihcmlmcgokhaaDoor.AM
open Go
set_option linter.unusedVariables false
set_option linter.unusedSimpArgs false
abbrev Wd := BitVec 64
def nw (l : List Wd) (i : Nat) : Wd := l.getD i 0#64
def nn (l : List Nat) (i : Nat) : Nat := l.getD i 0
/-- a word turned to the left -/
def rl (n : Nat) (w : Wd) : Wd := (w <<< n) ||| (w >>> (64 - n))
def kBy : List Nat := [0, 1, 62, 28, 27, 36, 44, 6, 55, 20, 3, 10, 43, 25, 39, 41, 45, 15, 21, 8, 18, 2, 61, 56, 14]
def kTo : List Nat := [0, 10, 20, 5, 15, 16, 1, 11, 21, 6, 7, 17, 2, 12, 22, 23, 8, 18, 3, 13, 14, 24, 9, 19, 4]
def kFrom : List Nat := [0, 6, 12, 18, 24, 3, 9, 10, 16, 22, 1, 7, 13, 19, 20, 4, 5, 11, 17, 23, 2, 8, 14, 15, 21]
def kCon : List Nat := [1, 32898, 9223372036854808714, 9223372039002292224, 32907, 2147483649, 9223372039002292353, 9223372036854808585, 138, 136, 2147516425, 2147483658, 2147516555, 9223372036854775947, 9223372036854808713, 9223372036854808579, 9223372036854808578, 9223372036854775936, 32778, 9223372039002259466, 9223372039002292353, 9223372036854808704, 2147483649, 9223372039002292232]
def k5 : List Nat := [0, 1, 2, 3, 4]
def k25 : List Nat := [0, 1, 2, 3, 4, 5, 6, 7, 8, 9, 10, 11, 12, 13, 14, 15, 16, 17, 18, 19, 20, 21, 22, 23, 24]
def k32 : List Nat := [0, 1, 2, 3, 4, 5, 6, 7, 8, 9, 10, 11, 12, 13, 14, 15, 16, 17, 18, 19, 20, 21, 22, 23, 24, 25, 26, 27, 28, 29, 30, 31]
def kCols (s : List Wd) : List Wd := k5.map fun x => nw s x ^^^ nw s (x + 5) ^^^ nw s (x + 10) ^^^ nw s (x + 15) ^^^ nw s (x + 20)
def kSums (c : List Wd) : List Wd := k5.map fun x => nw c ((x + 4) % 5) ^^^ rl 1 (nw c ((x + 1) % 5))
def kTurned (s d : List Wd) : List Wd := k25.map fun j => rl (nn kBy (nn kFrom j)) (nw s (nn kFrom j) ^^^ nw d (nn kFrom j % 5))
def kRows (b : List Wd) : List Wd := k25.map fun j => nw b j ^^^ (nw b (5 * (j / 5) + (j + 2) % 5) &&& ~~~ nw b (5 * (j / 5) + (j + 1) % 5))
def kHead (c : Wd) : List Wd → List Wd
  | [] => []
  | x :: l => (x ^^^ c) :: l
def kRound (s : List Wd) (c : Wd) : List Wd := kHead c (kRows (kTurned s (kSums (kCols s))))
def kPerm (s : List Wd) : List Wd := (kCon.map (BitVec.ofNat 64)).foldl kRound s
def kAdd (s : List Wd) (a : Nat) (b : Int) : List Wd := s.set (a / 8) (nw s (a / 8) ^^^ (BitVec.ofInt 64 b <<< (8 * (a % 8))))
/-- a byte is taken in, at a rate -/
def kStep (r : Nat) (p : List Wd × Nat) (b : Int) : List Wd × Nat := if p.2 + 1 = r then (kPerm (kAdd p.1 p.2 b), 0) else (kAdd p.1 p.2 b, p.2 + 1)
def kTake (l : List Int) : List Wd × Nat := l.foldl (kStep 136) (List.replicate 25 0#64, 0)
def kEnd (p : List Wd × Nat) : List Wd := kPerm (kAdd (kAdd p.1 p.2 6) 135 128)
def kByte (s : List Wd) (i : Nat) : Int := ((nw s (i / 8) >>> (8 * (i % 8))).toNat % 256 : Nat)
/-- the digest of bytes -/
def kSum (l : List Int) : List Int := k32.map (kByte (kEnd (kTake l)))
/-! ### the same over numbers, for the kernel -/
def nRl (n w : Nat) : Nat := ((w <<< n) % 18446744073709551616) ||| (w >>> (64 - n))
def nCols (s : List Nat) : List Nat := k5.map fun x => nn s x ^^^ nn s (x + 5) ^^^ nn s (x + 10) ^^^ nn s (x + 15) ^^^ nn s (x + 20)
def nSums (c : List Nat) : List Nat := k5.map fun x => nn c ((x + 4) % 5) ^^^ nRl 1 (nn c ((x + 1) % 5))
def nTurned (s d : List Nat) : List Nat := k25.map fun j => nRl (nn kBy (nn kFrom j)) (nn s (nn kFrom j) ^^^ nn d (nn kFrom j % 5))
def nRows (b : List Nat) : List Nat := k25.map fun j => nn b j ^^^ (nn b (5 * (j / 5) + (j + 2) % 5) &&& (18446744073709551615 - nn b (5 * (j / 5) + (j + 1) % 5)))
def nHead (c : Nat) : List Nat → List Nat
  | [] => []
  | x :: l => (x ^^^ c) :: l
def nRound (s : List Nat) (c : Nat) : List Nat := nHead c (nRows (nTurned s (nSums (nCols s))))
def nPerm (s : List Nat) : List Nat := kCon.foldl nRound s
def nAdd (s : List Nat) (a b : Nat) : List Nat := s.set (a / 8) (nn s (a / 8) ^^^ ((b <<< (8 * (a % 8))) % 18446744073709551616))
def nStep (r : Nat) (p : List Nat × Nat) (b : Nat) : List Nat × Nat := if p.2 + 1 = r then (nPerm (nAdd p.1 p.2 b), 0) else (nAdd p.1 p.2 b, p.2 + 1)
def nTake (l : List Nat) : List Nat × Nat := l.foldl (nStep 136) (List.replicate 25 0, 0)
def nEnd (p : List Nat × Nat) : List Nat := nPerm (nAdd (nAdd p.1 p.2 6) 135 128)
def nSum (l : List Nat) : List Nat := k32.map fun i => (nn (nEnd (nTake l)) (i / 8) >>> (8 * (i % 8))) % 256
/-! ### they are the same -/
abbrev wn (l : List Wd) : List Nat := l.map BitVec.toNat
theorem nn_wn (l : List Wd) (i : Nat) : nn (wn l) i = (nw l i).toNat := by
  simp only [nn, nw, wn, List.getD_eq_getElem?_getD, List.getElem?_map]
  cases l[i]? <;> rfl
theorem nRl_wn (n : Nat) (w : Wd) : nRl n w.toNat = (rl n w).toNat := by
  simp only [nRl, rl, BitVec.toNat_or, BitVec.toNat_shiftLeft, BitVec.toNat_ushiftRight]
theorem nCols_wn (s : List Wd) : nCols (wn s) = wn (kCols s) := by
  simp only [nCols, kCols, nn_wn, List.map_map]
  apply List.map_congr_left
  intro x _
  simp only [Function.comp, BitVec.toNat_xor]
theorem nSums_wn (s : List Wd) : nSums (wn s) = wn (kSums s) := by
  simp only [nSums, kSums, nn_wn, List.map_map]
  apply List.map_congr_left
  intro x _
  simp only [Function.comp, BitVec.toNat_xor, nRl_wn]
theorem nTurned_wn (s d : List Wd) : nTurned (wn s) (wn d) = wn (kTurned s d) := by
  simp only [nTurned, kTurned, nn_wn, List.map_map]
  apply List.map_congr_left
  intro x _
  simp only [Function.comp, ← BitVec.toNat_xor, nRl_wn]
theorem nRows_wn (s : List Wd) : nRows (wn s) = wn (kRows s) := by
  simp only [nRows, kRows, nn_wn, List.map_map]
  apply List.map_congr_left
  intro x _
  simp only [Function.comp, BitVec.toNat_xor, BitVec.toNat_and, BitVec.toNat_not]
theorem nHead_wn (c : Wd) : ∀ (s : List Wd), nHead c.toNat (wn s) = wn (kHead c s)
  | [] => rfl
  | x :: l => by simp only [nHead, kHead, wn, List.map_cons, BitVec.toNat_xor]
theorem nRound_wn (s : List Wd) (c : Wd) : nRound (wn s) c.toNat = wn (kRound s c) := by
  simp only [nRound, kRound, nCols_wn, nSums_wn, nTurned_wn, nRows_wn, nHead_wn]
theorem nFold_wn : ∀ (cs : List Nat) (s : List Wd), (∀ c ∈ cs, c < 2 ^ 64) → cs.foldl nRound (wn s) = wn ((cs.map (BitVec.ofNat 64)).foldl kRound s)
  | [], s, _ => rfl
  | c :: cs, s, h => by
    have hc : (BitVec.ofNat 64 c).toNat = c := by rw [BitVec.toNat_ofNat, Nat.mod_eq_of_lt (h c (by simp))]
    simp only [List.foldl_cons, List.map_cons]
    rw [← hc, nRound_wn, nFold_wn cs _ (fun x hx => h x (by simp [hx])), hc]
theorem nPerm_wn (s : List Wd) : nPerm (wn s) = wn (kPerm s) := nFold_wn _ _ (by decide)
theorem nAdd_wn (s : List Wd) (a : Nat) (b : Int) (h0 : 0 ≤ b) (h1 : b < 256) : nAdd (wn s) a b.toNat = wn (kAdd s a b) := by
  have hb : b.toNat = (BitVec.ofInt 64 b).toNat := by rw [BitVec.toNat_ofInt]; omega
  simp only [nAdd, kAdd, nn_wn, wn, List.map_set, BitVec.toNat_xor, BitVec.toNat_shiftLeft, hb]
theorem nStep_wn (r : Nat) (s : List Wd) (a : Nat) (b : Int) (h0 : 0 ≤ b) (h1 : b < 256) : nStep r (wn s, a) b.toNat = (wn (kStep r (s, a) b).1, (kStep r (s, a) b).2) := by
  simp only [nStep, kStep, nAdd_wn _ _ _ h0 h1, nPerm_wn]
  split <;> rfl
theorem nTake_wn : ∀ (l : List Int) (s : List Wd) (a : Nat), (∀ b ∈ l, 0 ≤ b ∧ b < 256) → (l.map Int.toNat).foldl (nStep 136) (wn s, a) = (wn (l.foldl (kStep 136) (s, a)).1, (l.foldl (kStep 136) (s, a)).2)
  | [], s, a, _ => rfl
  | b :: l, s, a, h => by
    simp only [List.map_cons, List.foldl_cons]
    rw [nStep_wn 136 s a b (h b (by simp)).1 (h b (by simp)).2]
    exact nTake_wn l _ _ fun x hx => h x (by simp [hx])
theorem kSum_nSum (l : List Int) (h : ∀ b ∈ l, 0 ≤ b ∧ b < 256) : kSum l = (nSum (l.map Int.toNat)).map Int.ofNat := by
  have h1 := nTake_wn l (List.replicate 25 0#64) 0 h
  have h2 : nEnd (nTake (l.map Int.toNat)) = wn (kEnd (kTake l)) := by
    unfold nEnd nTake kEnd kTake
    rw [show (List.replicate 25 (0 : Nat)) = wn (List.replicate 25 0#64) from rfl, h1]
    rw [show (6 : Nat) = (6 : Int).toNat from rfl, nAdd_wn _ _ _ (by decide) (by decide), show (128 : Nat) = (128 : Int).toNat from rfl, nAdd_wn _ _ _ (by decide) (by decide), nPerm_wn]
  unfold kSum nSum
  rw [h2, List.map_map]
  apply List.map_congr_left
  intro i _
  simp only [Function.comp, kByte, nn_wn, BitVec.toNat_ushiftRight]
  rfl
theorem kRound_len (s : List Wd) (c : Wd) : (kRound s c).length = 25 := rfl
theorem kFold_len : ∀ (cs : List Wd) (s : List Wd), s.length = 25 → (cs.foldl kRound s).length = 25
  | [], s, h => h
  | c :: cs, s, h => kFold_len cs _ (kRound_len s c)
theorem kPerm_len {s : List Wd} (h : s.length = 25) : (kPerm s).length = 25 := kFold_len _ s h
theorem kAdd_len {s : List Wd} (h : s.length = 25) (a : Nat) (b : Int) : (kAdd s a b).length = 25 := by rw [kAdd, List.length_set, h]
theorem kSum_len (l : List Int) : (kSum l).length = 32 := by simp [kSum, k32]
theorem kSum_byte (l : List Int) : ∀ b ∈ kSum l, 0 ≤ b ∧ b < 256 := by
  intro b hb
  simp only [kSum, List.mem_map] at hb
  obtain ⟨i, _, rfl⟩ := hb
  simp only [kByte]
  omega
end Go.Proofs.YtkihcmlmcgokhaaDoor.AM

/- A run with pure contracts in the place of functions that have them is a run of the machine. -/
namespace Go.Proofs.YtkihcmlmcgokhaaDoor.AM
open Go
set_option linter.unusedVariables false
theorem aexec_ax {T : Tab} {C : Cl} (hc : CLe C (Cω T)) (n : Nat) : ∀ (c : AC) (e : Env) (h : Heap), ole (aexec C n c e h) (ax T c e h)
  | .skip, e, h => by rw [ax_skip]; exact ole.refl _
  | .reg ops, e, h => by rw [ax_reg]; exact (aops_le hc _ _ _).map
  | .regQ ops, e, h => by rw [ax_regQ]; exact (aopsQ_le hc _ _ _).map
  | .regD ops st, e, h => by rw [ax_regD]; exact (runD_le hc _ _ _ _).bind fun r => chkR_le hc e ops st r
  | .seq a b, e, h => by
    rw [ax_seq]
    simp only [aexec]
    refine (aexec_ax hc n a e h).bind fun p => ?_
    obtain ⟨x, e', h'⟩ := p
    cases x
    · exact aexec_ax hc n b _ _
    · exact ole.refl _
    · exact ole.refl _
  | .cond c a b, e, h => by
    rw [ax_condK]
    simp only [aexec]
    split
    · rename_i hv; rw [hv]; exact aexec_ax hc n a e h
    · rename_i hv; rw [hv]; exact aexec_ax hc n b e h
    · exact fun r hr => by cases hr
  | .block id b, e, h => by rw [ax_block]; exact (aexec_ax hc n b e h).map
  | .loop keep gc b, e, h => by
    rw [ax_loop]
    simp only [aexec]
    have : ∀ (k m : Nat) (e : Env) (h : Heap), ole (aloop (aexec C n b) keep gc m k e h) (axl T keep gc b m e h) := by
      intro k m
      induction k with
      | zero => exact fun e h r hr => by simp [aloop] at hr
      | succ k ih =>
        intro e h
        rw [axl_eq]
        simp only [aloop]
        refine (ole.refl _).bind fun p => (aexec_ax hc n b _ _).bind fun q => ?_
        obtain ⟨x, e', h'⟩ := q
        cases x
        · exact ih _ _
        · exact ole.refl _
        · exact ole.refl _
    exact this _ _ _ _
  | .exit id, e, h => by rw [ax_exit]; exact ole.refl _
  | .scope b, e, h => by rw [ax_scope]; exact aexec_ax hc n b e h
  | .ret, e, h => by rw [ax_ret]; exact ole.refl _
/-- contracts in the place of functions -/
def Over (T : Tab) (x : Nat → Option (List AV → Option AV)) : Tab := ⟨fun f => (x f).or (T.ext f), T.fn, T.nat⟩
theorem over_le {T : Tab} {x : Nat → Option (List AV → Option AV)} (hp : ∀ f g, x f = some g → T.pure f = true ∧ ∀ args h, ole (pcall g args h) (ag T f args h)) : ∀ n, CLe ⟨gcall (Over T x) n, (Over T x).pure⟩ (Cω T) := by
  have hpure : (Over T x).pure = T.pure := by
    funext f
    cases hx : x f with
    | none => simp only [Tab.pure, Over, hx, Option.none_or]
    | some g =>
      rw [(hp f g hx).1]
      simp only [Tab.pure, Over, hx, Option.some_or, Option.isSome_some, Bool.true_or]
  intro n
  induction n with
  | zero => exact ⟨hpure, fun f args h r hr => by simp [gcall] at hr⟩
  | succ n ih =>
    refine ⟨hpure, fun f args h => ?_⟩
    simp only [gcall]
    cases hx : x f with
    | some g =>
      simp only [Over, hx, Option.some_or]
      exact (hp f g hx).2 args h
    | none =>
      simp only [Over, hx, Option.none_or]
      cases hx2 : T.ext f with
      | some g => simp only []; rw [ag_ext hx2]; exact ole.refl _
      | none =>
        simp only []
        cases hf : T.fn f with
        | none =>
          simp only []
          cases hn : T.nat f with
          | none => exact fun r hr => by simp at hr
          | some g => rw [ag_nat hx2 hf hn]; exact ole.refl _
        | some F =>
          simp only []
          split
          · rename_i hl
            cases hpu : F.pure with
            | true =>
              simp only [if_true]
              rw [ag_pure hx2 hf hpu args hl]
              refine pcall_le (fun a => ?_) args h
              unfold prun
              exact ((aexec_ax ih n F.body _ _).bind fun _ => ole.refl _).bind fun _ => ole.refl _
            | false =>
              simp only [Bool.false_eq_true, if_false]
              rw [ag_gen hx2 hf hpu args hl]
              exact (aexec_ax ih n F.body _ _).bind fun _ => ole.refl _
          · exact fun r hr => by simp at hr
theorem ag_of_over {T : Tab} {x : Nat → Option (List AV → Option AV)} (hp : ∀ f g, x f = some g → T.pure f = true ∧ ∀ args h, ole (pcall g args h) (ag T f args h)) {n f : Nat} {args : List AV} {h : Heap} {r : AV × Heap} (hr : gcall (Over T x) n f args h = some r) : ag T f args h = some r :=
  (over_le hp n).call f args h r hr
end Go.Proofs.YtkihcmlmcgokhaaDoor.AM

/- The rounds of the digest, as the machine runs them: by the kernel, over words that are not known. -/
namespace Go.Proofs.YtkihcmlmcgokhaaDoor.AM
open Go
set_option maxRecDepth 100000
set_option linter.unusedVariables false
set_option linter.unusedSimpArgs false
/-- operations on words, as the machine has them -/
def oI (op : BinOp) (a b : Int) : Int := match abin op (.int .u64 a) (.int .u64 b) with | some (.int _ n) => n | _ => 0
def uI (a : Int) : Int := match aun .xor (.int .u64 a) with | some (.int _ n) => n | _ => 0
def ni (l : List Int) (i : Nat) : Int := l.getD i 0
def iRl (n : Nat) (w : Int) : Int := oI .or (oI .shl w n) (oI .shr w (64 - n : Nat))
def iCols (s : List Int) : List Int := k5.map fun x => oI .xor (oI .xor (oI .xor (oI .xor (ni s x) (ni s (x + 5))) (ni s (x + 10))) (ni s (x + 15))) (ni s (x + 20))
def iSums (c : List Int) : List Int := k5.map fun x => oI .xor (ni c ((x + 4) % 5)) (iRl 1 (ni c ((x + 1) % 5)))
def iTurned (s d : List Int) : List Int := k25.map fun j => iRl (nn kBy (nn kFrom j)) (oI .xor (ni s (nn kFrom j)) (ni d (nn kFrom j % 5)))
def iRows (b : List Int) : List Int := k25.map fun j => oI .xor (ni b j) (oI .andNot (ni b (5 * (j / 5) + (j + 2) % 5)) (ni b (5 * (j / 5) + (j + 1) % 5)))
def iRowsR (b : List Int) : List Int := k25.map fun j => oI .xor (ni b j) (oI .and (uI (ni b (5 * (j / 5) + (j + 1) % 5))) (ni b (5 * (j / 5) + (j + 2) % 5)))
def iHead (c : Int) : List Int → List Int
  | [] => []
  | x :: l => oI .xor x c :: l
def iRound (s : List Int) (c : Int) : List Int := iHead c (iRows (iTurned s (iSums (iCols s))))
def iRoundR (s : List Int) (c : Int) : List Int := iHead c (iRowsR (iTurned s (iSums (iCols s))))
abbrev vI (l : List Int) : List AV := l.map fun n => .int .u64 n
def spgT : List AV := (kBy.map fun n => .int .i64 (n : Nat)) ++ ((kTo.map fun n => .int .i64 (n : Nat)) ++ (kCon.map fun n => .int .u64 (n : Nat)))
/-- a sponge's cells: its words, its tables, its rate and place -/
def spgC (s : List AV) (r a : Int) : List AV := s ++ (spgT ++ [.int .i64 r, .int .i64 a])
def tabC : List AV := (kBy.map fun n => .int .i64 (n : Nat)) ++ (kCon.map fun n => .int .u64 (n : Nat))
/-- 32 empty bytes -/
def Z32 : AObj := .cells (List.replicate 32 (.int .u8 0))
theorem mix_k (c r a s0 s1 s2 s3 s4 s5 s6 s7 s8 s9 s10 s11 s12 s13 s14 s15 s16 s17 s18 s19 s20 s21 s22 s23 s24 : Int) :
    (gcall T 60 52 [.ptr 2 0, .ptr 2 25, .ptr 2 50, .int .u64 c] [Z32, Z32, .cells (spgC (vI [s0, s1, s2, s3, s4, s5, s6, s7, s8, s9, s10, s11, s12, s13, s14, s15, s16, s17, s18, s19, s20, s21, s22, s23, s24]) r a)]).map (fun p => (p.1, p.2.take 3)) =
      some (.tup [], [Z32, Z32, .cells (spgC (vI (iRound [s0, s1, s2, s3, s4, s5, s6, s7, s8, s9, s10, s11, s12, s13, s14, s15, s16, s17, s18, s19, s20, s21, s22, s23, s24] c)) r a)]) := by kernel_rfl
/-! ### words -/
abbrev wI (l : List Wd) : List Int := l.map fun w => (w.toNat : Int)
theorem ofInt_nat (a : Wd) : BitVec.ofInt 64 (a.toNat : Int) = a := by
  rw [BitVec.ofInt_natCast, BitVec.ofNat_toNat, BitVec.setWidth_eq]
theorem wrap_nat (a : Wd) : IntKind.u64.wrap (a.toNat : Int) = a.toNat := by
  rw [IntKind.wrap_u64]
  have := a.isLt
  omega
theorem oI_xor (a b : Wd) : oI .xor a.toNat b.toNat = ((a ^^^ b).toNat : Int) := by
  show IntKind.u64.wrap ((BitVec.ofInt 64 (a.toNat : Int) ^^^ BitVec.ofInt 64 (b.toNat : Int)).toNat : Int) = _
  rw [ofInt_nat, ofInt_nat, wrap_nat]
theorem oI_or (a b : Wd) : oI .or a.toNat b.toNat = ((a ||| b).toNat : Int) := by
  show IntKind.u64.wrap ((BitVec.ofInt 64 (a.toNat : Int) ||| BitVec.ofInt 64 (b.toNat : Int)).toNat : Int) = _
  rw [ofInt_nat, ofInt_nat, wrap_nat]
theorem oI_and (a b : Wd) : oI .and a.toNat b.toNat = ((a &&& b).toNat : Int) := by
  show IntKind.u64.wrap ((BitVec.ofInt 64 (a.toNat : Int) &&& BitVec.ofInt 64 (b.toNat : Int)).toNat : Int) = _
  rw [ofInt_nat, ofInt_nat, wrap_nat]
theorem oI_andNot (a b : Wd) : oI .andNot a.toNat b.toNat = ((a &&& ~~~b).toNat : Int) := by
  show IntKind.u64.wrap ((BitVec.ofInt 64 (a.toNat : Int) &&& ~~~BitVec.ofInt 64 (b.toNat : Int)).toNat : Int) = _
  rw [ofInt_nat, ofInt_nat, wrap_nat]
theorem uI_not (a : Wd) : uI a.toNat = ((~~~a).toNat : Int) := by
  show IntKind.u64.wrap ((BitVec.ofInt 64 (18446744073709551615 : Int) ^^^ BitVec.ofInt 64 (a.toNat : Int)).toNat : Int) = _
  rw [ofInt_nat, wrap_nat, show BitVec.ofInt 64 (18446744073709551615 : Int) = BitVec.allOnes 64 from by kernel_rfl, BitVec.allOnes_xor]
theorem oI_shl (a : Wd) (n : Nat) (hn : n ≤ 64) : oI .shl a.toNat (n : Nat) = ((a <<< n).toNat : Int) := by
  have h0 : ¬ ((n : Int) < 0) := by omega
  show (match (if (n : Int) < 0 then none else some (Value.int .u64 (IntKind.u64.wrap ((a.toNat : Int) * 2 ^ min (n : Int).toNat 64)))) with | some (.int _ m) => m | _ => (0 : Int)) = _
  rw [if_neg h0]
  show IntKind.u64.wrap ((a.toNat : Int) * 2 ^ min (n : Int).toNat 64) = _
  have h1 : ((a.toNat * 2 ^ n : Nat) : Int) = (a.toNat : Int) * 2 ^ n := by rw [Int.natCast_mul, Int.natCast_pow]; rfl
  rw [Int.toNat_natCast, Nat.min_eq_left hn, IntKind.wrap_u64, BitVec.toNat_shiftLeft, Nat.shiftLeft_eq, ← h1]
  generalize a.toNat * 2 ^ n = x
  show (x : Int) % 18446744073709551616 = ((x % 18446744073709551616 : Nat) : Int)
  omega
theorem oI_shr (a : Wd) (n : Nat) (hn : n ≤ 64) : oI .shr a.toNat (n : Nat) = ((a >>> n).toNat : Int) := by
  have h0 : ¬ ((n : Int) < 0) := by omega
  show (match (if (n : Int) < 0 then none else some (Value.int .u64 ((a.toNat : Int).fdiv (2 ^ min (n : Int).toNat 64)))) with | some (.int _ m) => m | _ => (0 : Int)) = _
  rw [if_neg h0]
  show (a.toNat : Int).fdiv (2 ^ min (n : Int).toNat 64) = _
  rw [Int.toNat_natCast, Nat.min_eq_left hn, BitVec.toNat_ushiftRight, Nat.shiftRight_eq_div_pow, Int.fdiv_eq_ediv_of_nonneg _ (Int.le_of_lt (Int.pow_pos (by decide)))]
  norm_cast
theorem ni_w (s : List Wd) (i : Nat) : ni (wI s) i = ((nw s i).toNat : Int) := by
  simp only [ni, nw, wI, List.getD_eq_getElem?_getD, List.getElem?_map]
  cases s[i]? <;> rfl
theorem iRl_w (n : Nat) (hn : n ≤ 64) (w : Wd) : iRl n w.toNat = ((rl n w).toNat : Int) := by
  rw [iRl, oI_shl _ _ hn, oI_shr _ _ (by omega), oI_or]; rfl
theorem iCols_w (s : List Wd) : iCols (wI s) = wI (kCols s) := by
  simp only [iCols, kCols, ni_w, oI_xor, List.map_map, Function.comp_def]
theorem iSums_w (s : List Wd) : iSums (wI s) = wI (kSums s) := by
  simp only [iSums, kSums, ni_w, iRl_w 1 (by decide), oI_xor, List.map_map, Function.comp_def]
theorem by_le : ∀ x, nn kBy x ≤ 64 := by
  intro x
  unfold nn
  rw [List.getD_eq_getElem?_getD]
  cases h : kBy[x]? with
  | none => simp
  | some v =>
    have := List.mem_of_getElem? h
    have hall : ∀ v ∈ kBy, v ≤ 64 := by decide
    exact hall v this
theorem iTurned_w (s d : List Wd) : iTurned (wI s) (wI d) = wI (kTurned s d) := by
  simp only [iTurned, kTurned, ni_w, oI_xor, List.map_map, Function.comp_def]
  apply List.map_congr_left
  intro x _
  exact iRl_w _ (by_le _) _
theorem iRows_w (s : List Wd) : iRows (wI s) = wI (kRows s) := by
  simp only [iRows, kRows, ni_w, oI_xor, oI_andNot, List.map_map, Function.comp_def]
theorem iRowsR_w (s : List Wd) : iRowsR (wI s) = wI (kRows s) := by
  simp only [iRowsR, kRows, ni_w, uI_not, oI_xor, oI_and, List.map_map, Function.comp_def]
  apply List.map_congr_left
  intro x _
  rw [BitVec.and_comm]
theorem iHead_w (c : Wd) : ∀ s : List Wd, iHead c.toNat (wI s) = wI (kHead c s)
  | [] => rfl
  | x :: l => by simp only [iHead, kHead, wI, List.map_cons, oI_xor]
theorem iRound_w (s : List Wd) (c : Wd) : iRound (wI s) c.toNat = wI (kRound s c) := by
  simp only [iRound, kRound, iCols_w, iSums_w, iTurned_w, iRows_w, iHead_w]
theorem iRoundR_w (s : List Wd) (c : Wd) : iRoundR (wI s) c.toNat = wI (kRound s c) := by
  simp only [iRoundR, kRound, iCols_w, iSums_w, iTurned_w, iRowsR_w, iHead_w]
end Go.Proofs.YtkihcmlmcgokhaaDoor.AM

/- The digest, as the machine runs it: all rounds, bytes in, bytes out. -/
namespace Go.Proofs.YtkihcmlmcgokhaaDoor.AM
open Go
set_option maxRecDepth 100000
set_option maxHeartbeats 4000000
set_option linter.unusedVariables false
set_option linter.unusedSimpArgs false
theorem k_wp {f : Nat} {F : AFn} {args : List AV} {h : Heap} {Q : AV × Heap → Prop} (hx : T.ext f = none) (hf : T.fn f = some F) (hp : F.pure = false) (hl : args.length = F.np) (hw : WP (BQ (fin F.res) Q) (ax T F.body (initE 0 args) h)) : WP Q (ag T f args h) := by
  rw [ag_gen hx hf hp args hl, WP_bind]
  exact hw
abbrev wv (l : List Wd) : List AV := vI (wI l)
theorem words25 {s : List Wd} (h : s.length = 25) : s = k25.map (nw s) := by
  apply List.ext_getElem?
  intro i
  by_cases hi : i < 25
  · have h1 : s[i]? = some (nw s i) := by
      rw [nw, List.getD_eq_getElem?_getD, List.getElem?_eq_getElem (by omega)]; rfl
    rw [h1, List.getElem?_map]
    have h2 : k25[i]? = some i := by
      have : ∀ i, i < 25 → k25[i]? = some i := by decide
      exact this i hi
    rw [h2]; rfl
  · rw [List.getElem?_eq_none (by omega), List.getElem?_eq_none (by simp [k25]; omega)]
theorem call_mix (s : List Wd) (hs : s.length = 25) (c : Wd) (r a : Int) : ∃ g, ag T 52 [.ptr 2 0, .ptr 2 25, .ptr 2 50, .int .u64 c.toNat] [Z32, Z32, .cells (spgC (wv s) r a)] = some (.tup [], [Z32, Z32, .cells (spgC (wv (kRound s c)) r a)] ++ g) := by
  have hk := mix_k c.toNat r a (nw s 0).toNat (nw s 1).toNat (nw s 2).toNat (nw s 3).toNat (nw s 4).toNat (nw s 5).toNat (nw s 6).toNat (nw s 7).toNat (nw s 8).toNat (nw s 9).toNat (nw s 10).toNat (nw s 11).toNat (nw s 12).toNat (nw s 13).toNat (nw s 14).toNat (nw s 15).toNat (nw s 16).toNat (nw s 17).toNat (nw s 18).toNat (nw s 19).toNat (nw s 20).toNat (nw s 21).toNat (nw s 22).toNat (nw s 23).toNat (nw s 24).toNat
  have hw : ([((nw s 0).toNat : Int), (nw s 1).toNat, (nw s 2).toNat, (nw s 3).toNat, (nw s 4).toNat, (nw s 5).toNat, (nw s 6).toNat, (nw s 7).toNat, (nw s 8).toNat, (nw s 9).toNat, (nw s 10).toNat, (nw s 11).toNat, (nw s 12).toNat, (nw s 13).toNat, (nw s 14).toNat, (nw s 15).toNat, (nw s 16).toNat, (nw s 17).toNat, (nw s 18).toNat, (nw s 19).toNat, (nw s 20).toNat, (nw s 21).toNat, (nw s 22).toNat, (nw s 23).toNat, (nw s 24).toNat] : List Int) = wI s := by
    conv => rhs; rw [words25 hs]
    rfl
  rw [hw, iRound_w, Option.map_eq_some_iff] at hk
  obtain ⟨⟨v, h'⟩, hg, he⟩ := hk
  simp only [Prod.mk.injEq] at he
  obtain ⟨rfl, he⟩ := he
  refine ⟨h'.drop 3, ?_⟩
  rw [← he, List.take_append_drop]
  exact ag_of_gcall hg
theorem spg_len (s : List AV) (r a : Int) : (spgC s r a).length = s.length + 76 := by simp [spgC, spgT, kBy, kTo, kCon]
theorem spg_drop {s : List AV} (hs : s.length = 25) (r a : Int) (n : Nat) : (spgC s r a).drop (25 + n) = (spgT ++ [AV.int .i64 r, AV.int .i64 a]).drop n := by
  rw [spgC, List.drop_append, List.drop_of_length_le (by omega), List.nil_append]; congr 1; omega
def conC : List AV := kCon.map fun n => .int .u64 (n : Nat)
theorem spg_con {s : List AV} (hs : s.length = 25) (r a : Int) : ldCells (some 24) ((spgC s r a).drop 75) = some (.agg conC) := by
  rw [spg_drop hs r a 50]; rfl
theorem spg_rate {s : List AV} (hs : s.length = 25) (r a : Int) : (spgC s r a)[99]? = some (.int .i64 r) := by
  have := spg_drop hs r a 74
  have h2 := congrArg (·[0]?) this
  simp only [List.getElem?_drop, Nat.add_zero] at h2
  exact h2.trans rfl
theorem spg_at {s : List AV} (hs : s.length = 25) (r a : Int) : (spgC s r a)[100]? = some (.int .i64 a) := by
  have := spg_drop hs r a 75
  have h2 := congrArg (·[0]?) this
  simp only [List.getElem?_drop, Nat.add_zero] at h2
  exact h2.trans rfl
theorem spg_setAt {s : List AV} (hs : s.length = 25) (r a b : Int) : (spgC s r a).set 100 (.int .i64 b) = spgC s r b := by
  rw [spgC, List.set_append_right _ _ (by omega), hs]; rfl
theorem spg_set {s : List AV} (hs : s.length = 25) (r a : Int) (i : Nat) (hi : i < 25) (x : AV) : (spgC s r a).set i x = spgC (s.set i x) r a := by
  rw [spgC, List.set_append_left _ _ (by omega)]; rfl
theorem wv_len (s : List Wd) : (wv s).length = s.length := by simp [vI, wI]
theorem wv_below (p : Nat → Bool) : ∀ s : List Wd, namL p (wv s) = true
  | [] => rfl
  | w :: s => wv_below p s
theorem namL_app (p : Nat → Bool) : ∀ (a b : List AV), namL p (a ++ b) = (namL p a && namL p b)
  | [], b => by simp [namL]
  | x :: a, b => by simp only [List.cons_append, namL, namL_app p a b, Bool.and_assoc]
theorem spg_below (p : Nat → Bool) (s : List Wd) (r a : Int) : namL p (spgC (wv s) r a) = true := by
  rw [spgC, namL_app, namL_app, wv_below]; rfl
def kFold (n : Nat) (s : List Wd) : List Wd := ((kCon.take n).map (BitVec.ofNat 64)).foldl kRound s
theorem kFold_length {s : List Wd} (hs : s.length = 25) (n : Nat) : (kFold n s).length = 25 := kFold_len _ s hs
theorem kFold_succ (s : List Wd) (i : Nat) (hi : i < 24) : kFold (i + 1) s = kRound (kFold i s) (BitVec.ofNat 64 (nn kCon i)) := by
  have h1 : kCon.take (i + 1) = kCon.take i ++ [nn kCon i] := by
    have : ∀ i, i < 24 → kCon.take (i + 1) = kCon.take i ++ [nn kCon i] := by decide
    exact this i hi
  rw [kFold, h1, List.map_append, List.foldl_append]; rfl
theorem con_get (i : Nat) (hi : i < 24) : conC[i]? = some (.int .u64 ((BitVec.ofNat 64 (nn kCon i)).toNat : Int)) := by
  have h1 : ∀ i, i < 24 → kCon[i]? = some (BitVec.ofNat 64 (nn kCon i)).toNat := by decide
  rw [conC, List.getElem?_map, h1 i hi]; rfl
theorem all_ok (s : List Wd) (hs : s.length = 25) (r a : Int) : ag T 49 [.ptr 2 0] [Z32, Z32, .cells (spgC (wv s) r a)] = some (.tup [], [Z32, Z32, .cells (spgC (wv (kPerm s)) r 0)]) := by
  refine WP_eq (k_wp rfl t49 rfl rfl ?_)
  have h75 := spg_con (by rw [wv_len, hs] : (wv s).length = 25) r a
  first | have hb := hb | have hb := trivial
  repeat' (first | (simp -implicitDefEqProofs (disch := omega) only [hb, F49, h75, wC, initE, aop, Nat.reduceEqDiff, ↓reduceIte, Nat.reduceAdd, finish, resOf, tupOf, AM.freeze, freeze1, freezeL, closed, nam, namL, if_true, if_false, deref, boxAt, exAt, oneL, oneCell, Nat.reduceLeDiff, evL, adopt, rigid, rigidL, trim, Int.reduceEq, Int.reduceMod, Int.reduceDiv, if_pos, if_neg, asI, forall_const, implies_true, chkD, chkO, chkW, effB, reB, vEq, beq_self_eq_true, Nat.reduceSub, Nat.reduceLT, Int.reduceSub, Int.reduceAdd, Int.reduceMul, Int.reduceLT, Int.reduceLE, Int.reduceToNat, optI, aslice, cutSl, cutMs, cutStr, cutOwn, cellsOf, one, elCells, lenOf, beqV, beqVL, strip, stripO, convS]) | ((first | rw [WP_condK] | rw [WP_opsG] | rw [WP_quiG] | rw [WP_dG]); refine And.intro (fun hb => ?_) (fun hb => ?_) <;> (first | have hd := dq1 hb | have hd := dq2 hb | have hd := dq3 hb | have hd := dq4 hb | skip)))
  refine WP_loop (I := fun n e h => ∃ i g, i ≤ 24 ∧ n = 24 - i ∧ getE e 0 = .ptr 2 0 ∧ getE e 7 = .agg conC ∧ getE e 8 = i64 i ∧ h = [Z32, Z32, .cells (spgC (wv (kFold i s)) r a)] ++ g) ?_ 24 _ _ ⟨0, [], by omega, rfl, rfl, rfl, rfl, rfl⟩
  rintro n e h ⟨i, g, hi, rfl, h0, h7, h8, rfl⟩
  have hl := kFold_length hs i
  rw [trim_take (by simp only [List.all_cons, List.all_nil, h0, h7, h8]; rfl) (by simp only [List.cons_append, List.nil_append, List.length_cons, List.length_nil, List.take_succ_cons, List.take_zero, List.all_cons, List.all_nil, belowO, belowL, spg_below, Bool.and_true]; rfl)]
  by_cases h24 : i < 24
  · obtain ⟨g2, hm⟩ := call_mix (kFold i s) hl (BitVec.ofNat 64 (nn kCon i)) r a
    have hc := con_get i h24
    first | have hb := hb | have hb := trivial
    repeat' (first | (simp -implicitDefEqProofs (disch := omega) only [hb, L49_0, h0, h7, h8, h24, hc, hm, wC, initE, aop, Nat.reduceEqDiff, ↓reduceIte, Nat.reduceAdd, finish, resOf, tupOf, AM.freeze, freeze1, freezeL, closed, nam, namL, if_true, if_false, deref, boxAt, exAt, ldCells, oneL, oneCell, Nat.reduceLeDiff, evL, adopt, rigid, rigidL, trim, Int.reduceEq, Int.reduceMod, Int.reduceDiv, if_pos, if_neg, asI, forall_const, implies_true, chkD, chkO, chkW, effB, reB, vEq, beq_self_eq_true, Nat.reduceSub, Nat.reduceLT, Int.reduceSub, Int.reduceAdd, Int.reduceMul, Int.reduceLT, Int.reduceLE, Int.reduceToNat, optI, aslice, cutSl, cutMs, cutStr, cutOwn, cellsOf, one, elCells, lenOf, beqV, beqVL, strip, stripO, convS]) | ((first | rw [WP_condK] | rw [WP_opsG] | rw [WP_quiG] | rw [WP_dG]); refine And.intro (fun hb => ?_) (fun hb => ?_) <;> (first | have hd := dq1 hb | have hd := dq2 hb | have hd := dq3 hb | have hd := dq4 hb | skip)))
    exact ⟨23 - i, by omega, i + 1, g2, by omega, by omega, rfl, by rw [kFold_succ _ _ h24]⟩
  · obtain rfl : i = 24 := by omega
    have hn : (spgC (wv (kFold 24 s)) r a).length = 101 := by rw [spg_len, wv_len, hl]
    have hst := spg_setAt (by rw [wv_len, hl] : (wv (kFold 24 s)).length = 25) r a 0
    first | have hb := hb | have hb := trivial
    repeat' (first | (simp -implicitDefEqProofs (disch := omega) only [hb, L49_0, h0, h7, h8, hn, hst, wC, initE, aop, Nat.reduceEqDiff, ↓reduceIte, Nat.reduceAdd, finish, resOf, tupOf, AM.freeze, freeze1, freezeL, closed, nam, namL, if_true, if_false, deref, boxAt, exAt, ldCells, oneL, oneCell, Nat.reduceLeDiff, evL, adopt, rigid, rigidL, trim, Int.reduceEq, Int.reduceMod, Int.reduceDiv, if_pos, if_neg, asI, forall_const, implies_true, chkD, chkO, chkW, effB, reB, vEq, beq_self_eq_true, Nat.reduceSub, Nat.reduceLT, Int.reduceSub, Int.reduceAdd, Int.reduceMul, Int.reduceLT, Int.reduceLE, Int.reduceToNat, optI, aslice, cutSl, cutMs, cutStr, cutOwn, cellsOf, one, elCells, lenOf, beqV, beqVL, strip, stripO, convS]) | ((first | rw [WP_condK] | rw [WP_opsG] | rw [WP_quiG] | rw [WP_dG]); refine And.intro (fun hb => ?_) (fun hb => ?_) <;> (first | have hd := dq1 hb | have hd := dq2 hb | have hd := dq3 hb | have hd := dq4 hb | skip)))
    rfl
/-- a byte into a place -/
theorem wv_set (s : List Wd) (i : Nat) (w : Wd) : (wv s).set i (.int .u64 w.toNat) = wv (s.set i w) := by
  simp only [wv, vI, wI, List.map_set]
theorem wv_get {s : List Wd} {i : Nat} (hi : i < s.length) : (wv s)[i]? = some (.int .u64 (nw s i).toNat) := by
  simp only [wv, vI, wI, List.getElem?_map, nw, List.getD_eq_getElem?_getD, List.getElem?_eq_getElem hi, Option.map_some, Option.getD_some]
theorem spg_get {s : List Wd} (hs : s.length = 25) (r a : Int) {i : Nat} (hi : i < 25) : (spgC (wv s) r a)[i]? = some (.int .u64 (nw s i).toNat) := by
  rw [spgC, List.getElem?_append_left (by rw [wv_len]; omega), wv_get (by omega)]
theorem bin_xorW (a b : Wd) : abin .xor (.int .u64 a.toNat) (.int .u64 b.toNat) = some (.int .u64 (a ^^^ b).toNat) := by
  have := oI_xor a b
  show some (Value.int .u64 (oI .xor a.toNat b.toNat)) = _
  rw [this]
theorem bin_shlW (k : IntKind) (x : Int) (n : Nat) (hn : n ≤ 64) (h0 : 0 ≤ x) (h1 : x ≤ 255) : abin .shl (.int .u64 x) (.int k (n : Nat)) = some (.int .u64 (BitVec.ofInt 64 x <<< n).toNat) := by
  have hx : x = ((BitVec.ofInt 64 x).toNat : Int) := by rw [BitVec.toNat_ofInt]; omega
  have hn0 : ¬ ((n : Int) < 0) := by omega
  have := oI_shl (BitVec.ofInt 64 x) n hn
  rw [← hx] at this
  have e : abin .shl (.int .u64 x) (.int k (n : Nat)) = some (.int .u64 (oI .shl x n)) := by
    simp only [oI, abin, ashift, if_neg hn0]
  rw [e, this]
theorem bin_shrW (k : IntKind) (w : Wd) (n : Nat) (hn : n ≤ 64) : abin .shr (.int .u64 w.toNat) (.int k (n : Nat)) = some (.int .u64 (w >>> n).toNat) := by
  have hn0 : ¬ ((n : Int) < 0) := by omega
  have e : abin .shr (.int .u64 w.toNat) (.int k (n : Nat)) = some (.int .u64 (oI .shr w.toNat n)) := by
    simp only [oI, abin, ashift, if_neg hn0]
  rw [e, oI_shr _ _ hn]
theorem add_ok (s : List Wd) (hs : s.length = 25) (r a : Int) (i : Nat) (hi : i < 200) (b : Int) (h0 : 0 ≤ b) (h1 : b ≤ 255) : ag T 48 [.ptr 2 0, i64 i, u8 b] [Z32, Z32, .cells (spgC (wv s) r a)] = some (.tup [], [Z32, Z32, .cells (spgC (wv (kAdd s i b)) r a)]) := by
  refine WP_eq (k_wp rfl t48 rfl rfl ?_)
  have hq : ((i : Int).tdiv 8) = ((i / 8 : Nat) : Int) := by rw [Int.tdiv_eq_ediv_of_nonneg (by omega)]; omega
  have hm : ((i : Int).tmod 8) = ((i % 8 : Nat) : Int) := by rw [Int.tmod_eq_emod_of_nonneg (by omega)]; omega
  have h8 : (8 : Int) * ((i % 8 : Nat) : Int) = ((8 * (i % 8) : Nat) : Int) := by omega
  have hg := spg_get hs r a (i := i / 8) (by omega)
  have hsh := bin_shlW .i64 b (8 * (i % 8)) (by omega) h0 h1
  have hx := bin_xorW (nw s (i / 8)) (BitVec.ofInt 64 b <<< (8 * (i % 8)))
  have hw : IntKind.u64.wrap b = b := by rw [IntKind.wrap_u64]; omega
  have hset := spg_set (by rw [wv_len, hs] : (wv s).length = 25) r a (i / 8) (by omega) (.int .u64 ((nw s (i / 8)) ^^^ (BitVec.ofInt 64 b <<< (8 * (i % 8)))).toNat)
  rw [wv_set] at hset
  have hn : (spgC (wv s) r a).length = 101 := by rw [spg_len, wv_len, hs]
  first | have hb := hb | have hb := trivial
  repeat' (first | (simp -implicitDefEqProofs (disch := omega) only [hb, F48, hq, hm, h8, hg, hsh, hx, hw, hset, hn, wC, initE, aop, Nat.reduceEqDiff, ↓reduceIte, Nat.reduceAdd, finish, resOf, tupOf, AM.freeze, freeze1, freezeL, closed, nam, namL, if_true, if_false, deref, boxAt, exAt, ldCells, oneL, oneCell, Nat.reduceLeDiff, evL, adopt, rigid, rigidL, trim, Int.reduceEq, Int.reduceMod, Int.reduceDiv, if_pos, if_neg, asI, forall_const, implies_true, chkD, chkO, chkW, effB, reB, vEq, beq_self_eq_true, Nat.reduceSub, Nat.reduceLT, Int.reduceSub, Int.reduceAdd, Int.reduceMul, Int.reduceLT, Int.reduceLE, Int.reduceToNat, optI, aslice, cutSl, cutMs, cutStr, cutOwn, cellsOf, one, elCells, lenOf, beqV, beqVL, strip, stripO, convS]) | ((first | rw [WP_condK] | rw [WP_opsG] | rw [WP_quiG] | rw [WP_dG]); refine And.intro (fun hb => ?_) (fun hb => ?_) <;> (first | have hd := dq1 hb | have hd := dq2 hb | have hd := dq3 hb | have hd := dq4 hb | skip)))
  rfl
end Go.Proofs.YtkihcmlmcgokhaaDoor.AM

/- The digest, as the machine runs it: what is taken in. -/
namespace Go.Proofs.YtkihcmlmcgokhaaDoor.AM
open Go
set_option maxRecDepth 100000
set_option maxHeartbeats 4000000
set_option linter.unusedVariables false
set_option linter.unusedSimpArgs false
structure KS (p : List Wd × Nat) : Prop where
  len : p.1.length = 25
  lt : p.2 < 136
theorem KS.step {p : List Wd × Nat} (h : KS p) (b : Int) : KS (kStep 136 p b) := by
  unfold kStep
  split
  · exact ⟨kPerm_len (kAdd_len h.len _ _), by show (0 : Nat) < 136; omega⟩
  · have := h.lt
    exact ⟨kAdd_len h.len _ _, by show p.2 + 1 < 136; omega⟩
theorem KS.fold : ∀ (l : List Int) {p : List Wd × Nat}, KS p → KS (l.foldl (kStep 136) p)
  | [], p, h => h
  | b :: l, p, h => KS.fold l (h.step b)
theorem fold_snoc (l : List Int) (p : List Wd × Nat) {j : Nat} (hj : j < l.length) : (l.take (j + 1)).foldl (kStep 136) p = kStep 136 ((l.take j).foldl (kStep 136) p) l[j] := by
  rw [List.take_succ_eq_append_getElem hj, List.foldl_append]; rfl
def spH (p : List Wd × Nat) : Heap := [Z32, Z32, .cells (spgC (wv p.1) 136 p.2)]
theorem spH_below (p : List Wd × Nat) : ((spH p).take 3).all (belowO 3) = true := by
  simp only [spH, List.take_succ_cons, List.take_zero, List.all_cons, List.all_nil, belowO, belowL, spg_below, Bool.and_true]; rfl
theorem below_of (m : Nat) {x : AV} (h : closed x = true) : below m x = true := closed_below' m x h
theorem take_in (l : List Int) (hl : Bytes l) (hn : l.length ≤ 140737488351232) (p0 : List Wd × Nat) (hp : KS p0) (o : AOwn) (pv : AV) (en k i : Int) (keep : List Nat) (hkeep : keep = [0, 2, 10, 11, 12, 16, 17, 18]) (hcl : closed pv = true) (hcx : closed (.slice o none (l.map u8)) = true)
    (Q : Res → Prop) (e : Env) (h : Heap) (h0 : getE e 0 = .ptr 2 0) (h2 : getE e 2 = u8 en) (h10 : getE e 10 = pv) (h11 : getE e 11 = i64 k) (h12 : getE e 12 = i64 i) (h16 : getE e 16 = .slice o none (l.map u8)) (h17 : getE e 17 = i64 l.length) (h18 : getE e 18 = i64 0) (hh : h = spH p0)
    (hq : ∀ e', getE e' 0 = .ptr 2 0 → getE e' 2 = u8 en → getE e' 10 = pv → getE e' 11 = i64 k → getE e' 12 = i64 i → Q (.exit 2, e', spH (l.foldl (kStep 136) p0))) :
    WP Q (axl T keep true L39_0 3 e h) := by
  subst hkeep
  refine WP_loop (I := fun n e h => ∃ j, j ≤ l.length ∧ n = l.length - j ∧ getE e 0 = .ptr 2 0 ∧ getE e 2 = u8 en ∧ getE e 10 = pv ∧ getE e 11 = i64 k ∧ getE e 12 = i64 i ∧ getE e 16 = .slice o none (l.map u8) ∧ getE e 17 = i64 l.length ∧ getE e 18 = i64 j ∧ h = spH ((l.take j).foldl (kStep 136) p0)) ?_ l.length _ _ ⟨0, by omega, rfl, h0, h2, h10, h11, h12, h16, h17, h18, hh⟩
  rintro n e h ⟨j, hj, rfl, h0, h2, h10, h11, h12, h16, h17, h18, rfl⟩
  have b10 := below_of 3 hcl
  have b16 := below_of 3 hcx
  rw [trim_take (by simp only [List.all_cons, List.all_nil, h0, h2, h10, h11, h12, h16, h17, h18, b10, b16]; rfl) (spH_below _)]
  have hks := KS.fold (l.take j) hp
  by_cases hjl : j < l.length
  · have hfs := fold_snoc l p0 hjl
    generalize (l.take j).foldl (kStep 136) p0 = p at hks hfs ⊢
    obtain ⟨s, a⟩ := p
    have hs : s.length = 25 := hks.len
    have ha : a < 136 := hks.lt
    have hb := hl _ (List.getElem_mem hjl)
    have hgu := get_u8 hjl
    have hadd := add_ok s hs 136 a a (by omega) l[j] hb.1 hb.2
    have hs1 : (wv (kAdd s a l[j])).length = 25 := by rw [wv_len, kAdd_len hs]
    have f1 := spg_at (by rw [wv_len, hs] : (wv s).length = 25) 136 a
    have f2 := spg_at hs1 136 a
    have f3 := spg_setAt hs1 136 a ((a + 1 : Nat) : Int)
    have f4 := spg_at hs1 136 ((a + 1 : Nat) : Int)
    have f5 := spg_rate hs1 136 ((a + 1 : Nat) : Int)
    have f6 : (spgC (wv (kAdd s a l[j])) 136 a).length = 101 := by rw [spg_len, hs1]
    have hall := all_ok (kAdd s a l[j]) (kAdd_len hs _ _) 136 ((a + 1 : Nat) : Int)
    by_cases hr : a + 1 = 136
    · have hri : ((a + 1 : Nat) : Int) = 136 := by omega
      rw [hri] at f3 f4 f5 hall
      first | have hb := hb | have hb := trivial
      repeat' (first | (simp -implicitDefEqProofs (disch := omega) only [hb, L39_0, spH, h0, h2, h10, h11, h12, h16, h17, h18, hgu, hadd, f1, f2, f3, f4, f5, f6, hall, hri, wC, initE, aop, Nat.reduceEqDiff, ↓reduceIte, Nat.reduceAdd, finish, resOf, tupOf, AM.freeze, freeze1, freezeL, closed, nam, namL, if_true, if_false, deref, boxAt, exAt, ldCells, oneL, oneCell, Nat.reduceLeDiff, evL, adopt, rigid, rigidL, trim, Int.reduceEq, Int.reduceMod, Int.reduceDiv, if_pos, if_neg, asI, forall_const, implies_true, chkD, chkO, chkW, effB, reB, vEq, beq_self_eq_true, Nat.reduceSub, Nat.reduceLT, Int.reduceSub, Int.reduceAdd, Int.reduceMul, Int.reduceLT, Int.reduceLE, Int.reduceToNat, optI, aslice, cutSl, cutMs, cutStr, cutOwn, cellsOf, one, elCells, lenOf, beqV, beqVL, strip, stripO, convS]) | ((first | rw [WP_condK] | rw [WP_opsG] | rw [WP_quiG] | rw [WP_dG]); refine And.intro (fun hb => ?_) (fun hb => ?_) <;> (first | have hd := dq1 hb | have hd := dq2 hb | have hd := dq3 hb | have hd := dq4 hb | skip)))
      refine ⟨l.length - (j + 1), by omega, j + 1, by omega, rfl, rfl, ?_⟩
      rw [hfs]
      simp only [kStep, if_pos hr]
      rfl
    · have hri : ¬ ((a + 1 : Nat) : Int) = 136 := by omega
      first | have hb := hb | have hb := trivial
      repeat' (first | (simp -implicitDefEqProofs (disch := omega) only [hb, L39_0, spH, h0, h2, h10, h11, h12, h16, h17, h18, hgu, hadd, f1, f2, f3, f4, f5, f6, hall, hri, wC, initE, aop, Nat.reduceEqDiff, ↓reduceIte, Nat.reduceAdd, finish, resOf, tupOf, AM.freeze, freeze1, freezeL, closed, nam, namL, if_true, if_false, deref, boxAt, exAt, ldCells, oneL, oneCell, Nat.reduceLeDiff, evL, adopt, rigid, rigidL, trim, Int.reduceEq, Int.reduceMod, Int.reduceDiv, if_pos, if_neg, asI, forall_const, implies_true, chkD, chkO, chkW, effB, reB, vEq, beq_self_eq_true, Nat.reduceSub, Nat.reduceLT, Int.reduceSub, Int.reduceAdd, Int.reduceMul, Int.reduceLT, Int.reduceLE, Int.reduceToNat, optI, aslice, cutSl, cutMs, cutStr, cutOwn, cellsOf, one, elCells, lenOf, beqV, beqVL, strip, stripO, convS]) | ((first | rw [WP_condK] | rw [WP_opsG] | rw [WP_quiG] | rw [WP_dG]); refine And.intro (fun hb => ?_) (fun hb => ?_) <;> (first | have hd := dq1 hb | have hd := dq2 hb | have hd := dq3 hb | have hd := dq4 hb | skip)))
      refine ⟨l.length - (j + 1), by omega, j + 1, by omega, rfl, rfl, ?_⟩
      rw [hfs]
      simp only [kStep, if_neg hr]
  · obtain rfl : j = l.length := by omega
    first | have hb := hb | have hb := trivial
    repeat' (first | (simp -implicitDefEqProofs (disch := omega) only [hb, L39_0, h0, h2, h10, h11, h12, h16, h17, h18, wC, initE, aop, Nat.reduceEqDiff, ↓reduceIte, Nat.reduceAdd, finish, resOf, tupOf, AM.freeze, freeze1, freezeL, closed, nam, namL, if_true, if_false, deref, boxAt, exAt, ldCells, oneL, oneCell, Nat.reduceLeDiff, evL, adopt, rigid, rigidL, trim, Int.reduceEq, Int.reduceMod, Int.reduceDiv, if_pos, if_neg, asI, forall_const, implies_true, chkD, chkO, chkW, effB, reB, vEq, beq_self_eq_true, Nat.reduceSub, Nat.reduceLT, Int.reduceSub, Int.reduceAdd, Int.reduceMul, Int.reduceLT, Int.reduceLE, Int.reduceToNat, optI, aslice, cutSl, cutMs, cutStr, cutOwn, cellsOf, one, elCells, lenOf, beqV, beqVL, strip, stripO, convS]) | ((first | rw [WP_condK] | rw [WP_opsG] | rw [WP_quiG] | rw [WP_dG]); refine And.intro (fun hb => ?_) (fun hb => ?_) <;> (first | have hd := dq1 hb | have hd := dq2 hb | have hd := dq3 hb | have hd := dq4 hb | skip)))
    rw [List.take_length, show List.take 3 (spH (l.foldl (kStep 136) p0)) = spH (l.foldl (kStep 136) p0) from rfl]
    exact hq _ rfl rfl rfl rfl rfl
end Go.Proofs.YtkihcmlmcgokhaaDoor.AM

/- The digest, as the machine runs it: all parts, bytes out, the whole. -/
namespace Go.Proofs.YtkihcmlmcgokhaaDoor.AM
open Go
set_option maxRecDepth 100000
set_option maxHeartbeats 4000000
set_option linter.unusedVariables false
set_option linter.unusedSimpArgs false
theorem k_roll {keep : List Nat} {gc : Bool} {b : AC} {m : Nat} {e : Env} {h : Heap} {Q : Res → Prop} (hw : WP (fun p => WP (LQ (fun _ e h => WP Q (axl T keep gc b m e h)) Q 1) (ax T b p.1 p.2)) (trim keep gc m e h)) : WP Q (axl T keep gc b m e h) := by
  rw [axl_eq, WP_bind]
  refine WP_mono hw fun p hp => ?_
  rw [BQ_eq, WP_bind]
  refine WP_mono hp fun r hr => ?_
  obtain ⟨x, e', h'⟩ := r
  cases x with
  | normal => rw [BQ_eq, nextR_normal]; rw [LQ_normal] at hr; obtain ⟨_, _, hr⟩ := hr; exact hr
  | exit i => exact hr
  | ret => exact hr
/-- one part: bytes, or nothing at all -/
structure PartR (x : AV) (l : List Int) : Prop where
  bytes : Bytes l
  len : l.length ≤ 140737488351232
  cl : closed x = true
  is : (∃ o, x = .slice o none (l.map u8)) ∨ (x = .nil ∧ l = [])
theorem PartR.lenOf {x : AV} {l : List Int} (h : PartR x l) : lenOf x = some l.length := by
  rcases h.is with ⟨o, rfl⟩ | ⟨rfl, rfl⟩
  · simp [AM.lenOf]
  · rfl
theorem spH_len (p : List Wd × Nat) : (spH p).length = 3 := rfl
theorem spH_take (p : List Wd × Nat) : (spH p).take 3 = spH p := rfl
theorem take_part (x : AV) (l : List Int) (hx : PartR x l) (p0 : List Wd × Nat) (hp : KS p0) (pv : AV) (en k i : Int) (keep : List Nat) (hkeep : keep = [0, 2, 10, 11, 12, 16, 17, 18]) (hcl : closed pv = true)
    (Q : Res → Prop) (e : Env) (h : Heap) (h0 : getE e 0 = .ptr 2 0) (h2 : getE e 2 = u8 en) (h10 : getE e 10 = pv) (h11 : getE e 11 = i64 k) (h12 : getE e 12 = i64 i) (h16 : getE e 16 = x) (h17 : getE e 17 = i64 l.length) (h18 : getE e 18 = i64 0) (hh : h = spH p0)
    (hq : ∀ e', getE e' 0 = .ptr 2 0 → getE e' 2 = u8 en → getE e' 10 = pv → getE e' 11 = i64 k → getE e' 12 = i64 i → Q (.exit 2, e', spH (l.foldl (kStep 136) p0))) :
    WP Q (axl T keep true L39_0 3 e h) := by
  rcases hx.is with ⟨o, rfl⟩ | ⟨rfl, rfl⟩
  · exact take_in l hx.bytes hx.len p0 hp o pv en k i keep hkeep hcl hx.cl Q e h h0 h2 h10 h11 h12 h16 h17 h18 hh hq
  · subst hkeep
    subst hh
    refine k_roll ?_
    have b10 := below_of 3 hcl
    rw [trim_take (by simp only [List.all_cons, List.all_nil, h0, h2, h10, h11, h12, h16, h17, h18, b10]; rfl) (spH_below _)]
    first | have hb := hb | have hb := trivial
    repeat' (first | (simp -implicitDefEqProofs (disch := omega) only [hb, L39_0, h0, h2, h10, h11, h12, h16, h17, h18, spH_take, wC, initE, aop, Nat.reduceEqDiff, ↓reduceIte, Nat.reduceAdd, finish, resOf, tupOf, AM.freeze, freeze1, freezeL, closed, nam, namL, if_true, if_false, deref, boxAt, exAt, ldCells, oneL, oneCell, Nat.reduceLeDiff, evL, adopt, rigid, rigidL, trim, Int.reduceEq, Int.reduceMod, Int.reduceDiv, if_pos, if_neg, asI, forall_const, implies_true, chkD, chkO, chkW, effB, reB, vEq, beq_self_eq_true, Nat.reduceSub, Nat.reduceLT, Int.reduceSub, Int.reduceAdd, Int.reduceMul, Int.reduceLT, Int.reduceLE, Int.reduceToNat, optI, aslice, cutSl, cutMs, cutStr, cutOwn, cellsOf, one, elCells, lenOf, beqV, beqVL, strip, stripO, convS]) | ((first | rw [WP_condK] | rw [WP_opsG] | rw [WP_quiG] | rw [WP_dG]); refine And.intro (fun hb => ?_) (fun hb => ?_) <;> (first | have hd := dq1 hb | have hd := dq2 hb | have hd := dq3 hb | have hd := dq4 hb | skip)))
    exact hq _ rfl rfl rfl rfl rfl
/-- all parts -/
structure PartsR (xs : List AV) (ls : List (List Int)) : Prop where
  len : ls.length = xs.length
  at_ : ∀ (i : Nat) (hi : i < xs.length) (hj : i < ls.length), PartR xs[i] ls[i]
theorem flat_snoc (ls : List (List Int)) (p : List Wd × Nat) {j : Nat} (hj : j < ls.length) : (ls.take (j + 1)).flatten.foldl (kStep 136) p = ls[j].foldl (kStep 136) ((ls.take j).flatten.foldl (kStep 136) p) := by
  rw [List.take_succ_eq_append_getElem hj, List.flatten_append, List.foldl_append]; simp
theorem take_all (xs : List AV) (ls : List (List Int)) (hx : PartsR xs ls) (p0 : List Wd × Nat) (hp : KS p0) (po : AOwn) (en : Int) (keep : List Nat) (hkeep : keep = [0, 2, 10, 11, 12]) (hcl : closed (.slice po none xs) = true) (hn : xs.length ≤ 140737488351232)
    (Q : Res → Prop) (e : Env) (h : Heap) (h0 : getE e 0 = .ptr 2 0) (h2 : getE e 2 = u8 en) (h10 : getE e 10 = .slice po none xs) (h11 : getE e 11 = i64 xs.length) (h12 : getE e 12 = i64 0) (hh : h = spH p0)
    (hq : ∀ e', getE e' 0 = .ptr 2 0 → getE e' 2 = u8 en → Q (.exit 0, e', spH (ls.flatten.foldl (kStep 136) p0))) :
    WP Q (axl T keep true L39_1 3 e h) := by
  subst hkeep
  refine WP_loop (I := fun n e h => ∃ j, j ≤ xs.length ∧ n = xs.length - j ∧ getE e 0 = .ptr 2 0 ∧ getE e 2 = u8 en ∧ getE e 10 = .slice po none xs ∧ getE e 11 = i64 xs.length ∧ getE e 12 = i64 j ∧ h = spH ((ls.take j).flatten.foldl (kStep 136) p0)) ?_ xs.length _ _ ⟨0, by omega, rfl, h0, h2, h10, h11, h12, hh⟩
  rintro n e h ⟨j, hj, rfl, h0, h2, h10, h11, h12, rfl⟩
  have b10 := below_of 3 hcl
  rw [trim_take (by simp only [List.all_cons, List.all_nil, h0, h2, h10, h11, h12, b10]; rfl) (spH_below _)]
  have hks := KS.fold (ls.take j).flatten hp
  by_cases hjl : j < xs.length
  · have hjl' : j < ls.length := by rw [hx.len]; exact hjl
    have hfs := flat_snoc ls p0 hjl'
    have hpart := hx.at_ j hjl hjl'
    have hln := hpart.lenOf
    have hg := get_lt hjl
    have hec : elCells xs[j] = [xs[j]] := by rcases hpart.is with ⟨o, ho⟩ | ⟨ho, _⟩ <;> rw [ho] <;> rfl
    have hll := hpart.len
    generalize (ls.take j).flatten.foldl (kStep 136) p0 = p at hks hfs ⊢
    first | have hb := hb | have hb := trivial
    repeat' (first | (simp -implicitDefEqProofs (disch := omega) only [hb, L39_1, spH_take, spH_len, h0, h2, h10, h11, h12, hg, hec, hln, wC, initE, aop, Nat.reduceEqDiff, ↓reduceIte, Nat.reduceAdd, finish, resOf, tupOf, AM.freeze, freeze1, freezeL, closed, nam, namL, if_true, if_false, deref, boxAt, exAt, ldCells, oneL, oneCell, Nat.reduceLeDiff, evL, adopt, rigid, rigidL, trim, Int.reduceEq, Int.reduceMod, Int.reduceDiv, if_pos, if_neg, asI, forall_const, implies_true, chkD, chkO, chkW, effB, reB, vEq, beq_self_eq_true, Nat.reduceSub, Nat.reduceLT, Int.reduceSub, Int.reduceAdd, Int.reduceMul, Int.reduceLT, Int.reduceLE, Int.reduceToNat, optI, aslice, cutSl, cutMs, cutStr, cutOwn, cellsOf, one, beqV, beqVL, strip, stripO, convS]) | ((first | rw [WP_condK] | rw [WP_opsG] | rw [WP_quiG] | rw [WP_dG]); refine And.intro (fun hb => ?_) (fun hb => ?_) <;> (first | have hd := dq1 hb | have hd := dq2 hb | have hd := dq3 hb | have hd := dq4 hb | skip)))
    refine take_part xs[j] ls[j] hpart p hks (.slice po none xs) en xs.length j _ rfl hcl _ _ _ rfl rfl rfl rfl rfl rfl rfl rfl rfl ?_
    intro e' g0 g2 g10 g11 g12
    first | have hb := hb | have hb := trivial
    repeat' (first | (simp -implicitDefEqProofs (disch := omega) only [hb, g0, g2, g10, g11, g12, wC, initE, aop, Nat.reduceEqDiff, ↓reduceIte, Nat.reduceAdd, finish, resOf, tupOf, AM.freeze, freeze1, freezeL, closed, nam, namL, if_true, if_false, deref, boxAt, exAt, ldCells, oneL, oneCell, Nat.reduceLeDiff, evL, adopt, rigid, rigidL, trim, Int.reduceEq, Int.reduceMod, Int.reduceDiv, if_pos, if_neg, asI, forall_const, implies_true, chkD, chkO, chkW, effB, reB, vEq, beq_self_eq_true, Nat.reduceSub, Nat.reduceLT, Int.reduceSub, Int.reduceAdd, Int.reduceMul, Int.reduceLT, Int.reduceLE, Int.reduceToNat, optI, aslice, cutSl, cutMs, cutStr, cutOwn, cellsOf, one, elCells, lenOf, beqV, beqVL, strip, stripO, convS]) | ((first | rw [WP_condK] | rw [WP_opsG] | rw [WP_quiG] | rw [WP_dG]); refine And.intro (fun hb => ?_) (fun hb => ?_) <;> (first | have hd := dq1 hb | have hd := dq2 hb | have hd := dq3 hb | have hd := dq4 hb | skip)))
    exact ⟨xs.length - (j + 1), by omega, j + 1, by omega, rfl, rfl, by rw [hfs]⟩
  · obtain rfl : j = xs.length := by omega
    first | have hb := hb | have hb := trivial
    repeat' (first | (simp -implicitDefEqProofs (disch := omega) only [hb, L39_1, spH_take, h0, h2, h10, h11, h12, wC, initE, aop, Nat.reduceEqDiff, ↓reduceIte, Nat.reduceAdd, finish, resOf, tupOf, AM.freeze, freeze1, freezeL, closed, nam, namL, if_true, if_false, deref, boxAt, exAt, ldCells, oneL, oneCell, Nat.reduceLeDiff, evL, adopt, rigid, rigidL, trim, Int.reduceEq, Int.reduceMod, Int.reduceDiv, if_pos, if_neg, asI, forall_const, implies_true, chkD, chkO, chkW, effB, reB, vEq, beq_self_eq_true, Nat.reduceSub, Nat.reduceLT, Int.reduceSub, Int.reduceAdd, Int.reduceMul, Int.reduceLT, Int.reduceLE, Int.reduceToNat, optI, aslice, cutSl, cutMs, cutStr, cutOwn, cellsOf, one, elCells, lenOf, beqV, beqVL, strip, stripO, convS]) | ((first | rw [WP_condK] | rw [WP_opsG] | rw [WP_quiG] | rw [WP_dG]); refine And.intro (fun hb => ?_) (fun hb => ?_) <;> (first | have hd := dq1 hb | have hd := dq2 hb | have hd := dq3 hb | have hd := dq4 hb | skip)))
    rw [show List.take xs.length ls = ls by rw [← hx.len]; exact List.take_length]
    exact hq _ rfl rfl
theorem take_ok (xs : List AV) (ls : List (List Int)) (hx : PartsR xs ls) (p0 : List Wd × Nat) (hp : KS p0) (po : AOwn) (hcl : closed (.slice po none xs) = true) (hn : xs.length ≤ 140737488351232) : ag T 39 [.ptr 2 0, .slice po none xs, u8 6] (spH p0) = some (.tup [], spH (kEnd (ls.flatten.foldl (kStep 136) p0), 0)) := by
  refine WP_eq (k_wp rfl t39 rfl rfl ?_)
  first | have hb := hb | have hb := trivial
  repeat' (first | (simp -implicitDefEqProofs (disch := omega) only [hb, F39, spH_len, wC, initE, aop, Nat.reduceEqDiff, ↓reduceIte, Nat.reduceAdd, finish, resOf, tupOf, AM.freeze, freeze1, freezeL, closed, nam, namL, if_true, if_false, deref, boxAt, exAt, ldCells, oneL, oneCell, Nat.reduceLeDiff, evL, adopt, rigid, rigidL, trim, Int.reduceEq, Int.reduceMod, Int.reduceDiv, if_pos, if_neg, asI, forall_const, implies_true, chkD, chkO, chkW, effB, reB, vEq, beq_self_eq_true, Nat.reduceSub, Nat.reduceLT, Int.reduceSub, Int.reduceAdd, Int.reduceMul, Int.reduceLT, Int.reduceLE, Int.reduceToNat, optI, aslice, cutSl, cutMs, cutStr, cutOwn, cellsOf, one, elCells, lenOf, beqV, beqVL, strip, stripO, convS]) | ((first | rw [WP_condK] | rw [WP_opsG] | rw [WP_quiG] | rw [WP_dG]); refine And.intro (fun hb => ?_) (fun hb => ?_) <;> (first | have hd := dq1 hb | have hd := dq2 hb | have hd := dq3 hb | have hd := dq4 hb | skip)))
  refine take_all xs ls hx p0 hp po 6 _ rfl hcl hn _ _ _ rfl rfl rfl rfl rfl rfl ?_
  intro e' g0 g2
  have hks := KS.fold ls.flatten hp
  generalize ls.flatten.foldl (kStep 136) p0 = p at hks ⊢
  obtain ⟨s, a⟩ := p
  have hs : s.length = 25 := hks.len
  have ha : a < 136 := hks.lt
  have hs1 : (wv (kAdd s a 6)).length = 25 := by rw [wv_len, kAdd_len hs]
  have f1 := spg_at (by rw [wv_len, hs] : (wv s).length = 25) 136 a
  have f2 := spg_rate hs1 136 a
  have h1 := add_ok s hs 136 a a (by omega) 6 (by decide) (by decide)
  have h2 := add_ok (kAdd s a 6) (kAdd_len hs _ _) 136 a 135 (by omega) 128 (by decide) (by decide)
  have hall := all_ok (kAdd (kAdd s a 6) 135 128) (kAdd_len (kAdd_len hs _ _) _ _) 136 a
  rw [show ((135 : Nat) : Int) = 135 from rfl] at h2
  first | have hb := hb | have hb := trivial
  repeat' (first | (simp -implicitDefEqProofs (disch := omega) only [hb, g0, g2, spH, f1, f2, h1, h2, hall, wC, initE, aop, Nat.reduceEqDiff, ↓reduceIte, Nat.reduceAdd, finish, resOf, tupOf, AM.freeze, freeze1, freezeL, closed, nam, namL, if_true, if_false, deref, boxAt, exAt, ldCells, oneL, oneCell, Nat.reduceLeDiff, evL, adopt, rigid, rigidL, trim, Int.reduceEq, Int.reduceMod, Int.reduceDiv, if_pos, if_neg, asI, forall_const, implies_true, chkD, chkO, chkW, effB, reB, vEq, beq_self_eq_true, Nat.reduceSub, Nat.reduceLT, Int.reduceSub, Int.reduceAdd, Int.reduceMul, Int.reduceLT, Int.reduceLE, Int.reduceToNat, optI, aslice, cutSl, cutMs, cutStr, cutOwn, cellsOf, one, elCells, lenOf, beqV, beqVL, strip, stripO, convS]) | ((first | rw [WP_condK] | rw [WP_opsG] | rw [WP_quiG] | rw [WP_dG]); refine And.intro (fun hb => ?_) (fun hb => ?_) <;> (first | have hd := dq1 hb | have hd := dq2 hb | have hd := dq3 hb | have hd := dq4 hb | skip)))
  rfl
end Go.Proofs.YtkihcmlmcgokhaaDoor.AM

/- The digest: keccak.Sum is it. -/
namespace Go.Proofs.YtkihcmlmcgokhaaDoor.AM
open Go
set_option maxRecDepth 100000
set_option maxHeartbeats 4000000
set_option linter.unusedVariables false
set_option linter.unusedSimpArgs false
def kZero : List Wd := List.replicate 25 0#64
theorem start_k : gcall T 200 38 [i64 136] [Z32, Z32] = some (.ptr 2 0, spH (kZero, 0)) := by kernel_rfl
theorem start_ok : ag T 38 [i64 136] [Z32, Z32] = some (.ptr 2 0, spH (kZero, 0)) := ag_of_gcall start_k
def outI (s : List Int) : List AV := k32.map fun i => .int .u8 (IntKind.u8.wrap (oI .shr (ni s (i / 8)) (8 * (i % 8) : Nat)))
theorem let_k (s0 s1 s2 s3 s4 s5 s6 s7 s8 s9 s10 s11 s12 s13 s14 s15 s16 s17 s18 s19 s20 s21 s22 s23 s24 : Int) :
    gcall T 60 40 [.ptr 2 0, .ms 1 0 none 32] [Z32, Z32, .cells (spgC (vI [s0, s1, s2, s3, s4, s5, s6, s7, s8, s9, s10, s11, s12, s13, s14, s15, s16, s17, s18, s19, s20, s21, s22, s23, s24]) 136 0)] =
      some (.tup [], [Z32, .cells (outI [s0, s1, s2, s3, s4, s5, s6, s7, s8, s9, s10, s11, s12, s13, s14, s15, s16, s17, s18, s19, s20, s21, s22, s23, s24]), .cells (spgC (vI [s0, s1, s2, s3, s4, s5, s6, s7, s8, s9, s10, s11, s12, s13, s14, s15, s16, s17, s18, s19, s20, s21, s22, s23, s24]) 136 32)]) := by kernel_rfl
theorem words_wI {s : List Wd} (hs : s.length = 25) : ([((nw s 0).toNat : Int), (nw s 1).toNat, (nw s 2).toNat, (nw s 3).toNat, (nw s 4).toNat, (nw s 5).toNat, (nw s 6).toNat, (nw s 7).toNat, (nw s 8).toNat, (nw s 9).toNat, (nw s 10).toNat, (nw s 11).toNat, (nw s 12).toNat, (nw s 13).toNat, (nw s 14).toNat, (nw s 15).toNat, (nw s 16).toNat, (nw s 17).toNat, (nw s 18).toNat, (nw s 19).toNat, (nw s 20).toNat, (nw s 21).toNat, (nw s 22).toNat, (nw s 23).toNat, (nw s 24).toNat] : List Int) = wI s := by
  conv => rhs; rw [words25 hs]
  rfl
theorem outI_w (s : List Wd) : outI (wI s) = (k32.map (kByte s)).map u8 := by
  rw [outI, List.map_map]
  apply List.map_congr_left
  intro i _
  simp only [Function.comp, ni_w, kByte]
  rw [oI_shr _ _ (by omega), w_u8]
  congr 2
theorem let_ok (s : List Wd) (hs : s.length = 25) : ag T 40 [.ptr 2 0, .ms 1 0 none 32] (spH (s, 0)) = some (.tup [], [Z32, .cells ((k32.map (kByte s)).map u8), .cells (spgC (wv s) 136 32)]) := by
  have hk := let_k (nw s 0).toNat (nw s 1).toNat (nw s 2).toNat (nw s 3).toNat (nw s 4).toNat (nw s 5).toNat (nw s 6).toNat (nw s 7).toNat (nw s 8).toNat (nw s 9).toNat (nw s 10).toNat (nw s 11).toNat (nw s 12).toNat (nw s 13).toNat (nw s 14).toNat (nw s 15).toNat (nw s 16).toNat (nw s 17).toNat (nw s 18).toNat (nw s 19).toNat (nw s 20).toNat (nw s 21).toNat (nw s 22).toNat (nw s 23).toNat (nw s 24).toNat
  rw [words_wI hs, outI_w] at hk
  exact ag_of_gcall hk
theorem z32_eq : AObj.box true [.int .u8 0, .int .u8 0, .int .u8 0, .int .u8 0, .int .u8 0, .int .u8 0, .int .u8 0, .int .u8 0, .int .u8 0, .int .u8 0, .int .u8 0, .int .u8 0, .int .u8 0, .int .u8 0, .int .u8 0, .int .u8 0, .int .u8 0, .int .u8 0, .int .u8 0, .int .u8 0, .int .u8 0, .int .u8 0, .int .u8 0, .int .u8 0, .int .u8 0, .int .u8 0, .int .u8 0, .int .u8 0, .int .u8 0, .int .u8 0, .int .u8 0, .int .u8 0] = Z32 := rfl
theorem spH_1 (p : List Wd × Nat) : (spH p)[1]? = some (AObj.box true (List.replicate 32 (.int .u8 0))) := rfl
theorem n32 : (((32 : Nat) : Int) - 0).toNat = 32 := rfl
theorem splice_all {xs cs : List AV} (h : xs.length = cs.length) : splice cs 0 xs = xs := by
  match xs, h with
  | [], h => rw [splice_nil]; exact List.eq_nil_of_length_eq_zero h.symm
  | [x], h =>
    match cs, h with
    | [c], _ => rfl
  | x :: y :: r, h => rw [splice_more, List.drop_of_length_le (by simp at h; omega)]; simp
theorem oneL_u8 : ∀ l : List Int, oneL (l.map u8) = true
  | [] => rfl
  | x :: l => by simp only [List.map_cons, oneL, one, oneCell, oneL_u8 l, Bool.and_self]
theorem kTake_eq (l : List Int) : kTake l = l.foldl (kStep 136) (kZero, 0) := rfl
theorem kzero_ks : KS (kZero, 0) := ⟨rfl, by show (0 : Nat) < 136; omega⟩
theorem kEnd_len {p : List Wd × Nat} (h : KS p) : (kEnd p).length = 25 := kPerm_len (kAdd_len (kAdd_len h.len _ _) _ _)
theorem sum_ok (xs : List AV) (ls : List (List Int)) (hx : PartsR xs ls) (po : AOwn) (hcl : closed (.slice po none xs) = true) (hn : xs.length ≤ 140737488351232) : prun T F32 [.slice po none xs] = some (.agg ((kSum ls.flatten).map u8)) := by
  refine WP_eq (prun_wp ?_)
  have h1 := start_ok
  have h2 := take_ok xs ls hx (kZero, 0) kzero_ks po hcl hn
  rw [← kTake_eq] at h2
  have h3 := let_ok (kEnd (kTake ls.flatten)) (kEnd_len (KS.fold _ kzero_ks))
  have hL : ((kSum ls.flatten).map u8).length = 32 := by rw [List.length_map, kSum_len]
  have hc := u8_closed (kSum ls.flatten)
  rw [show k32.map (kByte (kEnd (kTake ls.flatten))) = kSum ls.flatten from rfl] at h3
  have h1L := oneL_u8 (kSum ls.flatten)
  have hst : ((kSum ls.flatten).map u8).map strip = (kSum ls.flatten).map u8 := by rw [List.map_map]; rfl
  generalize (kSum ls.flatten).map u8 = D at h3 hL hc h1L hst ⊢
  have hT : List.take 32 D = D := List.take_of_length_le (by omega)
  have hsp : splice (List.replicate 32 (AV.int .u8 0)) 0 D = D := splice_all (by rw [hL]; rfl)
  first | have hb := hb | have hb := trivial
  repeat' (first | (simp -implicitDefEqProofs (disch := omega) only [hb, F32, z32_eq, h1, h2, h3, hL, hc, spH_1, n32, hT, h1L, wC, initE, aop, Nat.reduceEqDiff, ↓reduceIte, Nat.reduceAdd, finish, resOf, tupOf, AM.freeze, freeze1, freezeL, closed, nam, namL, if_true, if_false, deref, boxAt, exAt, ldCells, oneL, oneCell, Nat.reduceLeDiff, evL, adopt, rigid, rigidL, trim, Int.reduceEq, Int.reduceMod, Int.reduceDiv, if_pos, if_neg, asI, forall_const, implies_true, chkD, chkO, chkW, effB, reB, vEq, beq_self_eq_true, Nat.reduceSub, Nat.reduceLT, Int.reduceSub, Int.reduceAdd, Int.reduceMul, Int.reduceLT, Int.reduceLE, Int.reduceToNat, optI, aslice, cutSl, cutMs, cutStr, cutOwn, cellsOf, one, elCells, lenOf, beqV, beqVL, strip, stripO, convS]) | ((first | rw [WP_condK] | rw [WP_opsG] | rw [WP_quiG] | rw [WP_dG]); refine And.intro (fun hb => ?_) (fun hb => ?_) <;> (first | have hd := dq1 hb | have hd := dq2 hb | have hd := dq3 hb | have hd := dq4 hb | skip)))
  first | have hb := hb | have hb := trivial
  repeat' (first | (simp -implicitDefEqProofs (disch := omega) only [hb, Z32, hL, hc, hT, h1L, hsp, wC, initE, aop, Nat.reduceEqDiff, ↓reduceIte, Nat.reduceAdd, finish, resOf, tupOf, AM.freeze, freeze1, freezeL, closed, nam, namL, if_true, if_false, deref, boxAt, exAt, ldCells, oneL, oneCell, Nat.reduceLeDiff, evL, adopt, rigid, rigidL, trim, Int.reduceEq, Int.reduceMod, Int.reduceDiv, if_pos, if_neg, asI, forall_const, implies_true, chkD, chkO, chkW, effB, reB, vEq, beq_self_eq_true, Nat.reduceSub, Nat.reduceLT, Int.reduceSub, Int.reduceAdd, Int.reduceMul, Int.reduceLT, Int.reduceLE, Int.reduceToNat, optI, aslice, cutSl, cutMs, cutStr, cutOwn, cellsOf, one, elCells, lenOf, beqV, beqVL, strip, stripO, convS]) | ((first | rw [WP_condK] | rw [WP_opsG] | rw [WP_quiG] | rw [WP_dG]); refine And.intro (fun hb => ?_) (fun hb => ?_) <;> (first | have hd := dq1 hb | have hd := dq2 hb | have hd := dq3 hb | have hd := dq4 hb | skip)))
  rw [hst]
  exact ⟨hc, rfl⟩
end Go.Proofs.YtkihcmlmcgokhaaDoor.AM

/- The document's digest: its rounds. -/
namespace Go.Proofs.YtkihcmlmcgokhaaDoor.AM
open Go
set_option maxRecDepth 100000
set_option maxHeartbeats 4000000
set_option linter.unusedVariables false
set_option linter.unusedSimpArgs false
/-- what a function that makes all for itself gives, by a run -/
theorem prun_of_gcall {f n : Nat} {F : AFn} {args : List AV} {cs : List AV} (hx : T.ext f = none) (hf : T.fn f = some F) (hp : F.pure = true) (hl : args.length = F.np) (hm : args.map strip = args) (hc : closedL args = true) (hr : gcall T n f args [] = some (.agg cs, [])) : prun T F args = some (.agg cs) := by
  have h1 := ag_of_gcall hr
  rw [ag_pure hx hf hp args hl] at h1
  simp only [pcall, prep, hm, if_pos hc, Option.bind_some, Bool.false_eq_true, if_false, Option.bind_eq_some_iff] at h1
  obtain ⟨v, h2, h3⟩ := h1
  rw [h2]
  unfold adopt at h3
  split at h3
  · cases h3
  · cases h3
  · cases h3; rfl
def RoundK (n : Nat) : Prop := ∀ (s0 s1 s2 s3 s4 s5 s6 s7 s8 s9 s10 s11 s12 s13 s14 s15 s16 s17 s18 s19 s20 s21 s22 s23 s24 : Int), gcall T 60 56 [.ref tabC, .agg (vI [s0, s1, s2, s3, s4, s5, s6, s7, s8, s9, s10, s11, s12, s13, s14, s15, s16, s17, s18, s19, s20, s21, s22, s23, s24]), i64 n] [] = some (.agg (vI (iRoundR [s0, s1, s2, s3, s4, s5, s6, s7, s8, s9, s10, s11, s12, s13, s14, s15, s16, s17, s18, s19, s20, s21, s22, s23, s24] (nn kCon n))), [])
theorem round_k0 : RoundK 0 := fun s0 s1 s2 s3 s4 s5 s6 s7 s8 s9 s10 s11 s12 s13 s14 s15 s16 s17 s18 s19 s20 s21 s22 s23 s24 => by kernel_rfl
theorem round_k1 : RoundK 1 := fun s0 s1 s2 s3 s4 s5 s6 s7 s8 s9 s10 s11 s12 s13 s14 s15 s16 s17 s18 s19 s20 s21 s22 s23 s24 => by kernel_rfl
theorem round_k2 : RoundK 2 := fun s0 s1 s2 s3 s4 s5 s6 s7 s8 s9 s10 s11 s12 s13 s14 s15 s16 s17 s18 s19 s20 s21 s22 s23 s24 => by kernel_rfl
theorem round_k3 : RoundK 3 := fun s0 s1 s2 s3 s4 s5 s6 s7 s8 s9 s10 s11 s12 s13 s14 s15 s16 s17 s18 s19 s20 s21 s22 s23 s24 => by kernel_rfl
theorem round_k4 : RoundK 4 := fun s0 s1 s2 s3 s4 s5 s6 s7 s8 s9 s10 s11 s12 s13 s14 s15 s16 s17 s18 s19 s20 s21 s22 s23 s24 => by kernel_rfl
theorem round_k5 : RoundK 5 := fun s0 s1 s2 s3 s4 s5 s6 s7 s8 s9 s10 s11 s12 s13 s14 s15 s16 s17 s18 s19 s20 s21 s22 s23 s24 => by kernel_rfl
theorem round_k6 : RoundK 6 := fun s0 s1 s2 s3 s4 s5 s6 s7 s8 s9 s10 s11 s12 s13 s14 s15 s16 s17 s18 s19 s20 s21 s22 s23 s24 => by kernel_rfl
theorem round_k7 : RoundK 7 := fun s0 s1 s2 s3 s4 s5 s6 s7 s8 s9 s10 s11 s12 s13 s14 s15 s16 s17 s18 s19 s20 s21 s22 s23 s24 => by kernel_rfl
theorem round_k8 : RoundK 8 := fun s0 s1 s2 s3 s4 s5 s6 s7 s8 s9 s10 s11 s12 s13 s14 s15 s16 s17 s18 s19 s20 s21 s22 s23 s24 => by kernel_rfl
theorem round_k9 : RoundK 9 := fun s0 s1 s2 s3 s4 s5 s6 s7 s8 s9 s10 s11 s12 s13 s14 s15 s16 s17 s18 s19 s20 s21 s22 s23 s24 => by kernel_rfl
theorem round_k10 : RoundK 10 := fun s0 s1 s2 s3 s4 s5 s6 s7 s8 s9 s10 s11 s12 s13 s14 s15 s16 s17 s18 s19 s20 s21 s22 s23 s24 => by kernel_rfl
theorem round_k11 : RoundK 11 := fun s0 s1 s2 s3 s4 s5 s6 s7 s8 s9 s10 s11 s12 s13 s14 s15 s16 s17 s18 s19 s20 s21 s22 s23 s24 => by kernel_rfl
theorem round_k12 : RoundK 12 := fun s0 s1 s2 s3 s4 s5 s6 s7 s8 s9 s10 s11 s12 s13 s14 s15 s16 s17 s18 s19 s20 s21 s22 s23 s24 => by kernel_rfl
theorem round_k13 : RoundK 13 := fun s0 s1 s2 s3 s4 s5 s6 s7 s8 s9 s10 s11 s12 s13 s14 s15 s16 s17 s18 s19 s20 s21 s22 s23 s24 => by kernel_rfl
theorem round_k14 : RoundK 14 := fun s0 s1 s2 s3 s4 s5 s6 s7 s8 s9 s10 s11 s12 s13 s14 s15 s16 s17 s18 s19 s20 s21 s22 s23 s24 => by kernel_rfl
theorem round_k15 : RoundK 15 := fun s0 s1 s2 s3 s4 s5 s6 s7 s8 s9 s10 s11 s12 s13 s14 s15 s16 s17 s18 s19 s20 s21 s22 s23 s24 => by kernel_rfl
theorem round_k16 : RoundK 16 := fun s0 s1 s2 s3 s4 s5 s6 s7 s8 s9 s10 s11 s12 s13 s14 s15 s16 s17 s18 s19 s20 s21 s22 s23 s24 => by kernel_rfl
theorem round_k17 : RoundK 17 := fun s0 s1 s2 s3 s4 s5 s6 s7 s8 s9 s10 s11 s12 s13 s14 s15 s16 s17 s18 s19 s20 s21 s22 s23 s24 => by kernel_rfl
theorem round_k18 : RoundK 18 := fun s0 s1 s2 s3 s4 s5 s6 s7 s8 s9 s10 s11 s12 s13 s14 s15 s16 s17 s18 s19 s20 s21 s22 s23 s24 => by kernel_rfl
theorem round_k19 : RoundK 19 := fun s0 s1 s2 s3 s4 s5 s6 s7 s8 s9 s10 s11 s12 s13 s14 s15 s16 s17 s18 s19 s20 s21 s22 s23 s24 => by kernel_rfl
theorem round_k20 : RoundK 20 := fun s0 s1 s2 s3 s4 s5 s6 s7 s8 s9 s10 s11 s12 s13 s14 s15 s16 s17 s18 s19 s20 s21 s22 s23 s24 => by kernel_rfl
theorem round_k21 : RoundK 21 := fun s0 s1 s2 s3 s4 s5 s6 s7 s8 s9 s10 s11 s12 s13 s14 s15 s16 s17 s18 s19 s20 s21 s22 s23 s24 => by kernel_rfl
theorem round_k22 : RoundK 22 := fun s0 s1 s2 s3 s4 s5 s6 s7 s8 s9 s10 s11 s12 s13 s14 s15 s16 s17 s18 s19 s20 s21 s22 s23 s24 => by kernel_rfl
theorem round_k23 : RoundK 23 := fun s0 s1 s2 s3 s4 s5 s6 s7 s8 s9 s10 s11 s12 s13 s14 s15 s16 s17 s18 s19 s20 s21 s22 s23 s24 => by kernel_rfl
theorem round_k (s0 s1 s2 s3 s4 s5 s6 s7 s8 s9 s10 s11 s12 s13 s14 s15 s16 s17 s18 s19 s20 s21 s22 s23 s24 : Int) : ∀ n : Nat, n < 24 → gcall T 60 56 [.ref tabC, .agg (vI [s0, s1, s2, s3, s4, s5, s6, s7, s8, s9, s10, s11, s12, s13, s14, s15, s16, s17, s18, s19, s20, s21, s22, s23, s24]), i64 n] [] = some (.agg (vI (iRoundR [s0, s1, s2, s3, s4, s5, s6, s7, s8, s9, s10, s11, s12, s13, s14, s15, s16, s17, s18, s19, s20, s21, s22, s23, s24] (nn kCon n))), [])
  | 0, _ => round_k0 s0 s1 s2 s3 s4 s5 s6 s7 s8 s9 s10 s11 s12 s13 s14 s15 s16 s17 s18 s19 s20 s21 s22 s23 s24
  | 1, _ => round_k1 s0 s1 s2 s3 s4 s5 s6 s7 s8 s9 s10 s11 s12 s13 s14 s15 s16 s17 s18 s19 s20 s21 s22 s23 s24
  | 2, _ => round_k2 s0 s1 s2 s3 s4 s5 s6 s7 s8 s9 s10 s11 s12 s13 s14 s15 s16 s17 s18 s19 s20 s21 s22 s23 s24
  | 3, _ => round_k3 s0 s1 s2 s3 s4 s5 s6 s7 s8 s9 s10 s11 s12 s13 s14 s15 s16 s17 s18 s19 s20 s21 s22 s23 s24
  | 4, _ => round_k4 s0 s1 s2 s3 s4 s5 s6 s7 s8 s9 s10 s11 s12 s13 s14 s15 s16 s17 s18 s19 s20 s21 s22 s23 s24
  | 5, _ => round_k5 s0 s1 s2 s3 s4 s5 s6 s7 s8 s9 s10 s11 s12 s13 s14 s15 s16 s17 s18 s19 s20 s21 s22 s23 s24
  | 6, _ => round_k6 s0 s1 s2 s3 s4 s5 s6 s7 s8 s9 s10 s11 s12 s13 s14 s15 s16 s17 s18 s19 s20 s21 s22 s23 s24
  | 7, _ => round_k7 s0 s1 s2 s3 s4 s5 s6 s7 s8 s9 s10 s11 s12 s13 s14 s15 s16 s17 s18 s19 s20 s21 s22 s23 s24
  | 8, _ => round_k8 s0 s1 s2 s3 s4 s5 s6 s7 s8 s9 s10 s11 s12 s13 s14 s15 s16 s17 s18 s19 s20 s21 s22 s23 s24
  | 9, _ => round_k9 s0 s1 s2 s3 s4 s5 s6 s7 s8 s9 s10 s11 s12 s13 s14 s15 s16 s17 s18 s19 s20 s21 s22 s23 s24
  | 10, _ => round_k10 s0 s1 s2 s3 s4 s5 s6 s7 s8 s9 s10 s11 s12 s13 s14 s15 s16 s17 s18 s19 s20 s21 s22 s23 s24
  | 11, _ => round_k11 s0 s1 s2 s3 s4 s5 s6 s7 s8 s9 s10 s11 s12 s13 s14 s15 s16 s17 s18 s19 s20 s21 s22 s23 s24
  | 12, _ => round_k12 s0 s1 s2 s3 s4 s5 s6 s7 s8 s9 s10 s11 s12 s13 s14 s15 s16 s17 s18 s19 s20 s21 s22 s23 s24
  | 13, _ => round_k13 s0 s1 s2 s3 s4 s5 s6 s7 s8 s9 s10 s11 s12 s13 s14 s15 s16 s17 s18 s19 s20 s21 s22 s23 s24
  | 14, _ => round_k14 s0 s1 s2 s3 s4 s5 s6 s7 s8 s9 s10 s11 s12 s13 s14 s15 s16 s17 s18 s19 s20 s21 s22 s23 s24
  | 15, _ => round_k15 s0 s1 s2 s3 s4 s5 s6 s7 s8 s9 s10 s11 s12 s13 s14 s15 s16 s17 s18 s19 s20 s21 s22 s23 s24
  | 16, _ => round_k16 s0 s1 s2 s3 s4 s5 s6 s7 s8 s9 s10 s11 s12 s13 s14 s15 s16 s17 s18 s19 s20 s21 s22 s23 s24
  | 17, _ => round_k17 s0 s1 s2 s3 s4 s5 s6 s7 s8 s9 s10 s11 s12 s13 s14 s15 s16 s17 s18 s19 s20 s21 s22 s23 s24
  | 18, _ => round_k18 s0 s1 s2 s3 s4 s5 s6 s7 s8 s9 s10 s11 s12 s13 s14 s15 s16 s17 s18 s19 s20 s21 s22 s23 s24
  | 19, _ => round_k19 s0 s1 s2 s3 s4 s5 s6 s7 s8 s9 s10 s11 s12 s13 s14 s15 s16 s17 s18 s19 s20 s21 s22 s23 s24
  | 20, _ => round_k20 s0 s1 s2 s3 s4 s5 s6 s7 s8 s9 s10 s11 s12 s13 s14 s15 s16 s17 s18 s19 s20 s21 s22 s23 s24
  | 21, _ => round_k21 s0 s1 s2 s3 s4 s5 s6 s7 s8 s9 s10 s11 s12 s13 s14 s15 s16 s17 s18 s19 s20 s21 s22 s23 s24
  | 22, _ => round_k22 s0 s1 s2 s3 s4 s5 s6 s7 s8 s9 s10 s11 s12 s13 s14 s15 s16 s17 s18 s19 s20 s21 s22 s23 s24
  | 23, _ => round_k23 s0 s1 s2 s3 s4 s5 s6 s7 s8 s9 s10 s11 s12 s13 s14 s15 s16 s17 s18 s19 s20 s21 s22 s23 s24
  | n + 24, h => by omega
theorem vI_cl (p : Nat → Bool) : ∀ l : List Int, namL p (vI l) = true
  | [] => rfl
  | x :: l => vI_cl p l
theorem vI_strip (l : List Int) : (vI l).map strip = vI l := by rw [vI, List.map_map]; rfl
theorem vI_rigid : ∀ l : List Int, rigidL (vI l) = true
  | [] => rfl
  | x :: l => vI_rigid l
theorem vI_one : ∀ l : List Int, oneL (vI l) = true
  | [] => rfl
  | x :: l => vI_one l
theorem tab_cl : closedL tabC = true := by kernel_rfl
theorem con_lt (n : Nat) (hn : n < 24) : ((BitVec.ofNat 64 (nn kCon n)).toNat : Int) = (nn kCon n : Nat) := by
  have : ∀ n, n < 24 → (BitVec.ofNat 64 (nn kCon n)).toNat = nn kCon n := by decide
  rw [this n hn]
theorem round_ok (s : List Wd) (hs : s.length = 25) (n : Nat) (hn : n < 24) : prun T F56 [.ref tabC, .agg (wv s), i64 n] = some (.agg (wv (kRound s (BitVec.ofNat 64 (nn kCon n))))) := by
  have hk := round_k (nw s 0).toNat (nw s 1).toNat (nw s 2).toNat (nw s 3).toNat (nw s 4).toNat (nw s 5).toNat (nw s 6).toNat (nw s 7).toNat (nw s 8).toNat (nw s 9).toNat (nw s 10).toNat (nw s 11).toNat (nw s 12).toNat (nw s 13).toNat (nw s 14).toNat (nw s 15).toNat (nw s 16).toNat (nw s 17).toNat (nw s 18).toNat (nw s 19).toNat (nw s 20).toNat (nw s 21).toNat (nw s 22).toNat (nw s 23).toNat (nw s 24).toNat n hn
  rw [words_wI hs, ← con_lt n hn, iRoundR_w] at hk
  refine prun_of_gcall rfl t56 rfl rfl ?_ ?_ hk
  · simp [strip]
  · have h1 := tab_cl
    have h2 := vI_cl (fun _ => false) (wI s)
    simp only [closedL, namL, nam, Bool.and_true] at h1 h2 ⊢
    rw [h1, h2]; rfl
theorem rounds_ok (s : List Wd) (hs : s.length = 25) : prun T F54 [.ref tabC, .agg (wv s)] = some (.agg (wv (kPerm s))) := by
  refine WP_eq (prun_wp ?_)
  have h1L := vI_one (wI s)
  have hl : (wv s).length = 25 := by rw [wv_len, hs]
  have htk := tab_cl
  first | have hb := hb | have hb := trivial
  repeat' (first | (simp -implicitDefEqProofs (disch := omega) only [hb, F54, hl, h1L, wC, initE, aop, Nat.reduceEqDiff, ↓reduceIte, Nat.reduceAdd, finish, resOf, tupOf, AM.freeze, freeze1, freezeL, closed, nam, namL, if_true, if_false, deref, boxAt, exAt, ldCells, oneL, oneCell, Nat.reduceLeDiff, evL, adopt, rigid, rigidL, trim, Int.reduceEq, Int.reduceMod, Int.reduceDiv, if_pos, if_neg, asI, forall_const, implies_true, chkD, chkO, chkW, effB, reB, vEq, beq_self_eq_true, Nat.reduceSub, Nat.reduceLT, Int.reduceSub, Int.reduceAdd, Int.reduceMul, Int.reduceLT, Int.reduceLE, Int.reduceToNat, optI, aslice, cutSl, cutMs, cutStr, cutOwn, cellsOf, one, elCells, lenOf, beqV, beqVL, strip, stripO, convS]) | ((first | rw [WP_condK] | rw [WP_opsG] | rw [WP_quiG] | rw [WP_dG]); refine And.intro (fun hb => ?_) (fun hb => ?_) <;> (first | have hd := dq1 hb | have hd := dq2 hb | have hd := dq3 hb | have hd := dq4 hb | skip)))
  refine WP_loop (I := fun n e h => ∃ (i : Nat) (x : AObj), i ≤ 24 ∧ n = 24 - i ∧ getE e 0 = .ref tabC ∧ getE e 3 = .ptr 0 0 ∧ getE e 4 = .ptr 1 0 ∧ getE e 5 = i64 i ∧ h = [.cells (wv (kFold i s)), .cells (List.replicate 25 (.int .u64 0))]) ?_ 24 _ _ ⟨0, .cells [], by omega, rfl, rfl, rfl, rfl, rfl, rfl⟩
  rintro n e h ⟨i, x, hi, rfl, h0, h3, h4, h5, rfl⟩
  have hk := kFold_length hs i
  have hkl : (wv (kFold i s)).length = 25 := by rw [wv_len, hk]
  rw [trim_same' (by simp)]
  by_cases h24 : i < 24
  · have hcall := call_agg (T := T) (h := [.cells (wv (kFold i s)), .cells (List.replicate 25 (.int .u64 0))]) rfl t56 rfl rfl (args := [.ref tabC, .agg (wv (kFold i s)), i64 i]) (by simp [strip]) (by
      have h2 := vI_cl (fun _ => false) (wI (kFold i s))
      simp only [closedL, namL, nam, Bool.and_true] at htk h2 ⊢
      rw [htk, h2]; rfl) (round_ok (kFold i s) hk i h24)
    have hT : List.take 25 (wv (kFold i s)) = wv (kFold i s) := List.take_of_length_le (by omega)
    have hl2 : (wv (kRound (kFold i s) (BitVec.ofNat 64 (nn kCon i)))).length = 25 := by rw [wv_len, kRound_len]
    have h1 := vI_one (wI (kRound (kFold i s) (BitVec.ofNat 64 (nn kCon i))))
    have hsp : splice (wv (kFold i s)) 0 (wv (kRound (kFold i s) (BitVec.ofNat 64 (nn kCon i)))) = wv (kRound (kFold i s) (BitVec.ofNat 64 (nn kCon i))) := splice_all (by rw [hl2, hkl])
    first | have hb := hb | have hb := trivial
    repeat' (first | (simp -implicitDefEqProofs (disch := omega) only [hb, L54_0, h0, h3, h4, h5, hkl, hT, hcall, hl2, h1, hsp, wC, initE, aop, Nat.reduceEqDiff, ↓reduceIte, Nat.reduceAdd, finish, resOf, tupOf, AM.freeze, freeze1, freezeL, closed, nam, namL, if_true, if_false, deref, boxAt, exAt, ldCells, oneL, oneCell, Nat.reduceLeDiff, evL, adopt, rigid, rigidL, trim, Int.reduceEq, Int.reduceMod, Int.reduceDiv, if_pos, if_neg, asI, forall_const, implies_true, chkD, chkO, chkW, effB, reB, vEq, beq_self_eq_true, Nat.reduceSub, Nat.reduceLT, Int.reduceSub, Int.reduceAdd, Int.reduceMul, Int.reduceLT, Int.reduceLE, Int.reduceToNat, optI, aslice, cutSl, cutMs, cutStr, cutOwn, cellsOf, one, elCells, lenOf, beqV, beqVL, strip, stripO, convS]) | ((first | rw [WP_condK] | rw [WP_opsG] | rw [WP_quiG] | rw [WP_dG]); refine And.intro (fun hb => ?_) (fun hb => ?_) <;> (first | have hd := dq1 hb | have hd := dq2 hb | have hd := dq3 hb | have hd := dq4 hb | skip)))
    exact ⟨23 - i, by omega, i + 1, .cells [], by omega, by omega, rfl, by rw [kFold_succ _ _ h24]⟩
  · obtain rfl : i = 24 := by omega
    first | have hb := hb | have hb := trivial
    repeat' (first | (simp -implicitDefEqProofs (disch := omega) only [hb, L54_0, h0, h3, h4, h5, hkl, wC, initE, aop, Nat.reduceEqDiff, ↓reduceIte, Nat.reduceAdd, finish, resOf, tupOf, AM.freeze, freeze1, freezeL, closed, nam, namL, if_true, if_false, deref, boxAt, exAt, ldCells, oneL, oneCell, Nat.reduceLeDiff, evL, adopt, rigid, rigidL, trim, Int.reduceEq, Int.reduceMod, Int.reduceDiv, if_pos, if_neg, asI, forall_const, implies_true, chkD, chkO, chkW, effB, reB, vEq, beq_self_eq_true, Nat.reduceSub, Nat.reduceLT, Int.reduceSub, Int.reduceAdd, Int.reduceMul, Int.reduceLT, Int.reduceLE, Int.reduceToNat, optI, aslice, cutSl, cutMs, cutStr, cutOwn, cellsOf, one, elCells, lenOf, beqV, beqVL, strip, stripO, convS]) | ((first | rw [WP_condK] | rw [WP_opsG] | rw [WP_quiG] | rw [WP_dG]); refine And.intro (fun hb => ?_) (fun hb => ?_) <;> (first | have hd := dq1 hb | have hd := dq2 hb | have hd := dq3 hb | have hd := dq4 hb | skip)))
    have hT : List.take 25 (wv (kFold 24 s)) = wv (kFold 24 s) := List.take_of_length_le (by omega)
    have hsp : splice (List.replicate 25 (AV.int .u64 0)) 0 (wv (kFold 24 s)) = wv (kFold 24 s) := splice_all (by rw [hkl]; rfl)
    have hst := vI_strip (wI (kFold 24 s))
    rw [hT, hsp, hT, hst]
    exact ⟨⟨hkl, vI_one _⟩, by omega, vI_cl _ _, rfl⟩
end Go.Proofs.YtkihcmlmcgokhaaDoor.AM

/- The document's digest: what is taken in. -/
namespace Go.Proofs.YtkihcmlmcgokhaaDoor.AM
open Go
set_option maxRecDepth 100000
set_option maxHeartbeats 4000000
set_option linter.unusedVariables false
set_option linter.unusedSimpArgs false
theorem fzL_vI (h : Heap) : ∀ l : List Int, fzL h (vI l) = some (vI l)
  | [] => rfl
  | x :: l => by simp only [vI, List.map_cons, fzL, fz, Option.bind_some] at *; rw [fzL_vI h l]; rfl
theorem call_rounds (s : List Wd) (hs : s.length = 25) (h : Heap) (id : Nat) (hid : h[id]? = some (.cells tabC)) : ag T 54 [.ptr id 0, .agg (wv s)] h = some (.agg (wv (kPerm s)), h) := by
  rw [ag_pure rfl t54 rfl _ rfl]
  have hb : boxAt h id = some tabC := by simp [boxAt, hid]
  have hp : prep h [.ptr id 0, .agg (wv s)] = some ([.ref tabC, .agg (wv s)], true) := by
    have h1 : closedL ([AV.ptr id 0, .agg (wv s)].map strip) = false := rfl
    have h2 : closedL ([AV.ptr id 0, .agg (wv s)].map stripEl) = false := rfl
    unfold prep
    rw [h1, h2]
    simp only [Bool.false_eq_true, if_false, fzL, fz, hb, Option.bind_some, List.drop_zero, tab_cl, if_true, fzL_vI, Option.map_some]
  simp only [pcall, hp, Option.bind_some, rounds_ok s hs, if_true, rigid, vI_rigid]
theorem all_k : gcall T 200 53 [] [] = some (.agg tabC, []) := by kernel_rfl
theorem call_All (h : Heap) : ag T 53 [] h = some (.agg tabC, h) := by
  have hp := prun_of_gcall rfl t53 rfl rfl rfl rfl all_k
  exact call_agg rfl t53 rfl rfl rfl rfl hp
/-! ### what is padded, and folded -/
def kPad (l : List Int) : List Int := l ++ (6 :: List.replicate (135 - l.length % 136) 0)
def kPadL (l : List Int) : List Int := (kPad l).set ((kPad l).length - 1) (if l.length % 136 = 135 then 134 else 128)
theorem kPad_len (l : List Int) : (kPad l).length = (l.length / 136 + 1) * 136 := by
  simp only [kPad, List.length_append, List.length_cons, List.length_replicate]
  omega
theorem kAdd_zero {s : List Wd} (a : Nat) (ha : a / 8 < s.length) : kAdd s a 0 = s := by
  rw [kAdd]
  have h0 : (BitVec.ofInt 64 0 <<< (8 * (a % 8))) = (0#64) := by
    rw [show BitVec.ofInt 64 0 = 0#64 from rfl]; simp
  rw [h0, BitVec.xor_zero, nw, List.getD_eq_getElem?_getD, List.getElem?_eq_getElem ha]
  simp
theorem kAdd_twice (s : List Wd) (a : Nat) (ha : a / 8 < s.length) (x y z : Int) (hz : BitVec.ofInt 64 x ^^^ BitVec.ofInt 64 y = BitVec.ofInt 64 z) : kAdd (kAdd s a x) a y = kAdd s a z := by
  simp only [kAdd, List.set_set]
  congr 1
  have h1 : nw (s.set (a / 8) (nw s (a / 8) ^^^ BitVec.ofInt 64 x <<< (8 * (a % 8)))) (a / 8) = nw s (a / 8) ^^^ BitVec.ofInt 64 x <<< (8 * (a % 8)) := by
    rw [nw, List.getD_eq_getElem?_getD, List.getElem?_set_self ha]; rfl
  rw [h1, BitVec.xor_assoc, ← hz]
  congr 1
  exact (BitVec.shiftLeft_xor_distrib _ _ _).symm
theorem kStep_hit (s : List Wd) (a : Nat) (b : Int) (h : a + 1 = 136) : kStep 136 (s, a) b = (kPerm (kAdd s a b), 0) := by unfold kStep; rw [if_pos h]
theorem kStep_miss (s : List Wd) (a : Nat) (b : Int) (h : ¬ a + 1 = 136) : kStep 136 (s, a) b = (kAdd s a b, a + 1) := by unfold kStep; rw [if_neg h]
theorem fold_zeros (s : List Wd) (hs : s.length = 25) : ∀ (z a : Nat), a + z ≤ 135 → (List.replicate z (0 : Int)).foldl (kStep 136) (s, a) = (s, a + z)
  | 0, a, _ => rfl
  | z + 1, a, h => by
    rw [List.replicate_succ, List.foldl_cons]
    have h1 : kStep 136 (s, a) 0 = (s, a + 1) := by rw [kStep_miss _ _ _ (by omega), kAdd_zero a (by omega)]
    rw [h1, fold_zeros s hs z (a + 1) (by omega)]
    congr 1; omega
theorem fold_at : ∀ (l : List Int) (s : List Wd) (a : Nat), a < 136 → (l.foldl (kStep 136) (s, a)).2 = (a + l.length) % 136
  | [], s, a, h => by simp; omega
  | b :: l, s, a, h => by
    rw [List.foldl_cons]
    by_cases h1 : a + 1 = 136
    · rw [kStep_hit _ _ _ h1, fold_at l _ 0 (by omega), List.length_cons]; omega
    · rw [kStep_miss _ _ _ h1, fold_at l _ (a + 1) (by omega), List.length_cons]; congr 1; omega
theorem kPadL_fold (l : List Int) : (kPadL l).foldl (kStep 136) (kZero, 0) = (kEnd (kTake l), 0) := by
  have hk := KS.fold l kzero_ks
  have ha := fold_at l kZero 0 (by omega)
  have hle := kPad_len l
  have e : kPadL l = l ++ (if l.length % 136 = 135 then [134] else 6 :: (List.replicate (134 - l.length % 136) 0 ++ [128])) := by
    unfold kPadL
    have hpl : (kPad l).length - 1 = l.length + (135 - l.length % 136) := by
      simp only [kPad, List.length_append, List.length_cons, List.length_replicate]; omega
    rw [hpl, kPad, List.set_append_right _ _ (by omega), show l.length + (135 - l.length % 136) - l.length = 135 - l.length % 136 by omega]
    congr 1
    split
    · rename_i h; rw [h]; rfl
    · rename_i h
      have : 135 - l.length % 136 = (134 - l.length % 136) + 1 := by omega
      rw [this, List.set_cons_succ, List.replicate_succ', List.set_append_right _ _ (by simp)]
      simp
  rw [e, List.foldl_append, kTake]
  rw [show (List.replicate 25 (0#64)) = kZero from rfl] at *
  generalize l.foldl (kStep 136) (kZero, 0) = p at hk ha ⊢
  obtain ⟨s, a⟩ := p
  have hs : s.length = 25 := hk.len
  have ha' : a < 136 := hk.lt
  simp only [Nat.zero_add] at ha
  split
  · rename_i h
    have : a = 135 := by omega
    subst this
    show kStep 136 (s, 135) 134 = _
    rw [kStep_hit _ _ _ rfl, kEnd, kAdd_twice s 135 (by omega) 6 128 134 (by decide)]
  · rename_i h
    have hne : a ≠ 135 := by omega
    rw [List.foldl_cons, List.foldl_append]
    have h1 : kStep 136 (s, a) 6 = (kAdd s a 6, a + 1) := kStep_miss _ _ _ (by omega)
    rw [h1, fold_zeros _ (kAdd_len hs _ _) _ _ (by omega), show a + 1 + (134 - l.length % 136) = 135 by omega]
    show kStep 136 (kAdd s a 6, 135) 128 = _
    rw [kStep_hit _ _ _ rfl, kEnd]
/-- bytes into places, one after the other -/
def kAdds (s : List Wd) (a : Nat) : List Int → List Wd
  | [] => s
  | b :: l => kAdds (kAdd s a b) (a + 1) l
theorem kAdds_len : ∀ (l : List Int) {s : List Wd} (a : Nat), s.length = 25 → (kAdds s a l).length = 25
  | [], s, a, h => h
  | b :: l, s, a, h => kAdds_len l _ (kAdd_len h _ _)
theorem kAdds_snoc : ∀ (l : List Int) (s : List Wd) (a : Nat) (b : Int), kAdds s a (l ++ [b]) = kAdd (kAdds s a l) (a + l.length) b
  | [], s, a, b => rfl
  | c :: l, s, a, b => by
    rw [List.cons_append, kAdds, kAdds_snoc l, kAdds, List.length_cons]; congr 1; omega
theorem fold_block : ∀ (l : List Int) (s : List Wd) (a : Nat), a + l.length = 136 → 0 < l.length → l.foldl (kStep 136) (s, a) = (kPerm (kAdds s a l), 0)
  | [], s, a, h, h0 => by simp at h0
  | [b], s, a, h, h0 => by
    have : a = 135 := by simpa using h
    subst this
    rfl
  | b :: c :: l, s, a, h, h0 => by
    rw [List.foldl_cons]
    rw [kStep_miss _ _ _ (by simp only [List.length_cons] at h; omega), fold_block (c :: l) _ (a + 1) (by simp only [List.length_cons] at h ⊢; omega) (by simp)]
    rfl
end Go.Proofs.YtkihcmlmcgokhaaDoor.AM

/- The document's digest: the message, padded. -/
namespace Go.Proofs.YtkihcmlmcgokhaaDoor.AM
open Go
set_option maxRecDepth 100000
set_option maxHeartbeats 4000000
set_option linter.unusedVariables false
set_option linter.unusedSimpArgs false
theorem flatC (l : List Int) : ((l.map u8).map elCells).flatten = l.map u8 := by
  induction l with
  | nil => rfl
  | cons x l ih => simp only [List.map_cons, List.flatten_cons, ih]; rfl
theorem kfits {n : Nat} (h : n ≤ 140737488355328) : fitsB n 1 = true := by simp [fitsB]; omega
/-- the noughts behind -/
theorem pad_ok (b : List Int) (hn : b.length ≤ 140737488353000) (o8 : AV) (m : Nat) (keep : List Nat) (hkeep : keep = [0, 1, 9]) (z0 : Nat) (hz0 : z0 = 0)
    (Q : Res → Prop) (e : Env) (pre : Heap) (h : Heap) (h0 : getE e 0 = i64 32) (h1 : getE e 1 = i64 136) (h9 : getE e 9 = .ms pre.length 0 none (b.length + 1)) (hh : h = pre ++ [.vec ((b ++ [6]).map u8)])
    (hq : ∀ e' pre', getE e' 0 = i64 32 → getE e' 1 = i64 136 → getE e' 9 = .ms pre'.length 0 none (kPad b).length → Q (.exit 0, e', pre' ++ [.vec ((kPad b).map u8)])) :
    WP Q (axl T keep false L50_4 m e h) := by
  subst hkeep
  refine WP_loop (I := fun n e h => ∃ (z : Nat) (pre : Heap), z ≤ 135 - b.length % 136 ∧ n = 135 - b.length % 136 - z ∧ getE e 0 = i64 32 ∧ getE e 1 = i64 136 ∧ getE e 9 = .ms pre.length 0 none (b.length + 1 + z) ∧ h = pre ++ [.vec ((b ++ 6 :: List.replicate z 0).map u8)]) ?_ _ _ _ ⟨0, pre, by omega, rfl, h0, h1, h9, hh⟩
  rintro n e h ⟨z, pre, hz, rfl, h0, h1, h9, rfl⟩
  rw [trim_off]
  have hrem : (((b.length + 1 + z : Nat) : Int).tmod 136) = (((b.length + 1 + z) % 136 : Nat) : Int) := by rw [Int.tmod_eq_emod_of_nonneg (by omega)]; omega
  have hcl : ((b ++ 6 :: List.replicate z 0).map u8).length = b.length + 1 + z := by simp; omega
  have hf := kfits (n := b.length + 1 + z + 1) (by omega)
  by_cases hz1 : z < 135 - b.length % 136
  · have hne : ¬ (((b.length + 1 + z) % 136 : Nat) : Int) = 0 := by omega
    first | have hb := hb | have hb := trivial
    repeat' (first | (simp -implicitDefEqProofs (disch := omega) only [hb, L50_4, h0, h1, h9, hrem, hne, appV, setEls, elemsOf, hcl, hf, stripEl, elFits, List.replicate_succ, List.replicate_zero, wC, initE, aop, Nat.reduceEqDiff, ↓reduceIte, Nat.reduceAdd, finish, resOf, tupOf, AM.freeze, freeze1, freezeL, closed, nam, namL, if_true, if_false, deref, boxAt, exAt, ldCells, oneL, oneCell, Nat.reduceLeDiff, evL, adopt, rigid, rigidL, trim, Int.reduceEq, Int.reduceMod, Int.reduceDiv, if_pos, if_neg, asI, forall_const, implies_true, chkD, chkO, chkW, effB, reB, vEq, beq_self_eq_true, Nat.reduceSub, Nat.reduceLT, Int.reduceSub, Int.reduceAdd, Int.reduceMul, Int.reduceLT, Int.reduceLE, Int.reduceToNat, optI, aslice, cutSl, cutMs, cutStr, cutOwn, cellsOf, one, elCells, lenOf, beqV, beqVL, strip, stripO, convS]) | ((first | rw [WP_condK] | rw [WP_opsG] | rw [WP_quiG] | rw [WP_dG]); refine And.intro (fun hb => ?_) (fun hb => ?_) <;> (first | have hd := dq1 hb | have hd := dq2 hb | have hd := dq3 hb | have hd := dq4 hb | skip)))
    refine ⟨135 - b.length % 136 - (z + 1), by omega, z + 1, pre ++ [.row none 1], by omega, rfl, by simp only [List.length_append, List.length_cons, List.length_nil]; rfl, ?_⟩
    congr 2
    simp only [List.flatten_cons, List.flatten_nil, List.append_nil, List.replicate_succ', List.map_append, List.map_cons, List.append_assoc, List.map_replicate, List.map_nil, List.cons_append]
  · have hne : (((b.length + 1 + z) % 136 : Nat) : Int) = 0 := by omega
    first | have hb := hb | have hb := trivial
    repeat' (first | (simp -implicitDefEqProofs (disch := omega) only [hb, L50_4, h0, h1, h9, hrem, hne, wC, initE, aop, Nat.reduceEqDiff, ↓reduceIte, Nat.reduceAdd, finish, resOf, tupOf, AM.freeze, freeze1, freezeL, closed, nam, namL, if_true, if_false, deref, boxAt, exAt, ldCells, oneL, oneCell, Nat.reduceLeDiff, evL, adopt, rigid, rigidL, trim, Int.reduceEq, Int.reduceMod, Int.reduceDiv, if_pos, if_neg, asI, forall_const, implies_true, chkD, chkO, chkW, effB, reB, vEq, beq_self_eq_true, Nat.reduceSub, Nat.reduceLT, Int.reduceSub, Int.reduceAdd, Int.reduceMul, Int.reduceLT, Int.reduceLE, Int.reduceToNat, optI, aslice, cutSl, cutMs, cutStr, cutOwn, cellsOf, one, elCells, lenOf, beqV, beqVL, strip, stripO, convS]) | ((first | rw [WP_condK] | rw [WP_opsG] | rw [WP_quiG] | rw [WP_dG]); refine And.intro (fun hb => ?_) (fun hb => ?_) <;> (first | have hd := dq1 hb | have hd := dq2 hb | have hd := dq3 hb | have hd := dq4 hb | skip)))
    have hz2 : z = 135 - b.length % 136 := by omega
    subst hz2
    refine hq _ pre rfl rfl ?_
    show AV.ms pre.length 0 none (b.length + 1 + (135 - b.length % 136)) = _
    rw [show b.length + 1 + (135 - b.length % 136) = (kPad b).length by simp only [kPad, List.length_append, List.length_cons, List.length_replicate]; omega]
/-- a block's bytes -/
theorem blk_ok (s0 : List Wd) (hs : s0.length = 25) (M : List Int) (hM : Bytes M) (k : Nat) (hk : 136 * k + 136 ≤ M.length) (hML : M.length ≤ 140737488355328) (id m : Nat) (keep : List Nat) (hkeep : keep = [0, 1, 9, 10, 11, 12, 13])
    (Q : Res → Prop) (e : Env) (pre h : Heap) (hid : pre.length = id) (h0 : getE e 0 = i64 32) (h1 : getE e 1 = i64 136) (h9 : getE e 9 = .ms id 0 none M.length) (h10 : getE e 10 = .ptr (id + 1) 0) (h11 : getE e 11 = .ptr (id + 2) 0) (h12 : getE e 12 = i64 (136 * k : Nat)) (h13 : getE e 13 = i64 0)
    (hh : h = pre ++ [.vec (M.map u8), .cells tabC, .cells (wv s0)])
    (hq : ∀ e', getE e' 0 = i64 32 → getE e' 1 = i64 136 → getE e' 9 = .ms id 0 none M.length → getE e' 10 = .ptr (id + 1) 0 → getE e' 11 = .ptr (id + 2) 0 → getE e' 12 = i64 (136 * k : Nat) → Q (.exit 4, e', pre ++ [.vec (M.map u8), .cells tabC, .cells (wv (kAdds s0 0 ((M.drop (136 * k)).take 136)))])) :
    WP Q (axl T keep false L50_2 m e h) := by
  subst hkeep
  subst hid
  refine WP_loop (I := fun n e h => ∃ (i : Nat), i ≤ 136 ∧ n = 136 - i ∧ getE e 0 = i64 32 ∧ getE e 1 = i64 136 ∧ getE e 9 = .ms pre.length 0 none M.length ∧ getE e 10 = .ptr (pre.length + 1) 0 ∧ getE e 11 = .ptr (pre.length + 2) 0 ∧ getE e 12 = i64 (136 * k : Nat) ∧ getE e 13 = i64 i ∧ h = pre ++ [.vec (M.map u8), .cells tabC, .cells (wv (kAdds s0 0 ((M.drop (136 * k)).take i)))]) ?_ _ _ _ ⟨0, by omega, rfl, h0, h1, h9, h10, h11, h12, h13, hh⟩
  rintro n e h ⟨i, hi, rfl, h0, h1, h9, h10, h11, h12, h13, rfl⟩
  rw [trim_off]
  by_cases hlt : i < 136
  · have hsl : (kAdds s0 0 ((M.drop (136 * k)).take i)).length = 25 := kAdds_len _ _ hs
    have hget : (List.drop (136 * k + i) (M.map u8))[0]? = some (u8 M[136 * k + i]) := by rw [List.getElem?_drop, Nat.add_zero, get_u8]
    have hget2 : (M.map u8)[136 * k + i]? = some (u8 M[136 * k + i]) := get_u8 _
    have hsn : (M.drop (136 * k)).take (i + 1) = (M.drop (136 * k)).take i ++ [M[136 * k + i]] := by
      rw [List.take_succ_eq_append_getElem (by rw [List.length_drop]; omega), List.getElem_drop]
    have hstp : kAdds s0 0 ((M.drop (136 * k)).take (i + 1)) = kAdd (kAdds s0 0 ((M.drop (136 * k)).take i)) i M[136 * k + i] := by
      rw [hsn, kAdds_snoc, List.length_take, List.length_drop, Nat.zero_add, Nat.min_eq_left (by omega)]
    have hby := hM _ (List.getElem_mem (show 136 * k + i < M.length by omega))
    generalize kAdds s0 0 ((M.drop (136 * k)).take i) = s at hsl hstp ⊢
    generalize M[136 * k + i] = b at hget hget2 hstp hby
    have hq : ((i : Int).tdiv 8) = ((i / 8 : Nat) : Int) := by rw [Int.tdiv_eq_ediv_of_nonneg (by omega)]; omega
    have hm : ((i : Int).tmod 8) = ((i % 8 : Nat) : Int) := by rw [Int.tmod_eq_emod_of_nonneg (by omega)]; omega
    have h8 : (8 : Int) * ((i % 8 : Nat) : Int) = ((8 * (i % 8) : Nat) : Int) := by omega
    have hA : ((136 * k : Nat) : Int) + (i : Int) = ((136 * k + i : Nat) : Int) := by omega
    have hg := wv_get (s := s) (i := i / 8) (by omega)
    have hsh := bin_shlW .i64 b (8 * (i % 8)) (by omega) hby.1 hby.2
    have hx := bin_xorW (nw s (i / 8)) (BitVec.ofInt 64 b <<< (8 * (i % 8)))
    have hw : IntKind.u64.wrap b = b := by rw [IntKind.wrap_u64]; omega
    have hset := wv_set s (i / 8) ((nw s (i / 8)) ^^^ (BitVec.ofInt 64 b <<< (8 * (i % 8))))
    have hwl : (wv s).length = 25 := by rw [wv_len, hsl]
    first | have hb := hb | have hb := trivial
    repeat' (first | (simp -implicitDefEqProofs (disch := omega) only [hb, L50_2, h0, h1, h9, h10, h11, h12, h13, hq, hm, h8, hA, hg, hsh, hx, hw, hset, hwl, hget, hget2, wC, initE, aop, Nat.reduceEqDiff, ↓reduceIte, Nat.reduceAdd, finish, resOf, tupOf, AM.freeze, freeze1, freezeL, closed, nam, namL, if_true, if_false, deref, boxAt, exAt, ldCells, oneL, oneCell, Nat.reduceLeDiff, evL, adopt, rigid, rigidL, trim, Int.reduceEq, Int.reduceMod, Int.reduceDiv, if_pos, if_neg, asI, forall_const, implies_true, chkD, chkO, chkW, effB, reB, vEq, beq_self_eq_true, Nat.reduceSub, Nat.reduceLT, Int.reduceSub, Int.reduceAdd, Int.reduceMul, Int.reduceLT, Int.reduceLE, Int.reduceToNat, optI, aslice, cutSl, cutMs, cutStr, cutOwn, cellsOf, one, elCells, lenOf, beqV, beqVL, strip, stripO, convS]) | ((first | rw [WP_condK] | rw [WP_opsG] | rw [WP_quiG] | rw [WP_dG]); refine And.intro (fun hb => ?_) (fun hb => ?_) <;> (first | have hd := dq1 hb | have hd := dq2 hb | have hd := dq3 hb | have hd := dq4 hb | skip)))
    exact ⟨136 - (i + 1), by omega, i + 1, by omega, rfl, rfl, by rw [hstp]; rfl⟩
  · obtain rfl : i = 136 := by omega
    first | have hb := hb | have hb := trivial
    repeat' (first | (simp -implicitDefEqProofs (disch := omega) only [hb, L50_2, h0, h1, h9, h10, h11, h12, h13, wC, initE, aop, Nat.reduceEqDiff, ↓reduceIte, Nat.reduceAdd, finish, resOf, tupOf, AM.freeze, freeze1, freezeL, closed, nam, namL, if_true, if_false, deref, boxAt, exAt, ldCells, oneL, oneCell, Nat.reduceLeDiff, evL, adopt, rigid, rigidL, trim, Int.reduceEq, Int.reduceMod, Int.reduceDiv, if_pos, if_neg, asI, forall_const, implies_true, chkD, chkO, chkW, effB, reB, vEq, beq_self_eq_true, Nat.reduceSub, Nat.reduceLT, Int.reduceSub, Int.reduceAdd, Int.reduceMul, Int.reduceLT, Int.reduceLE, Int.reduceToNat, optI, aslice, cutSl, cutMs, cutStr, cutOwn, cellsOf, one, elCells, lenOf, beqV, beqVL, strip, stripO, convS]) | ((first | rw [WP_condK] | rw [WP_opsG] | rw [WP_quiG] | rw [WP_dG]); refine And.intro (fun hb => ?_) (fun hb => ?_) <;> (first | have hd := dq1 hb | have hd := dq2 hb | have hd := dq3 hb | have hd := dq4 hb | skip)))
    exact hq _ rfl rfl rfl rfl rfl rfl
end Go.Proofs.YtkihcmlmcgokhaaDoor.AM

/- The document's digest: all blocks, and what comes out. -/
namespace Go.Proofs.YtkihcmlmcgokhaaDoor.AM
open Go
set_option maxRecDepth 100000
set_option maxHeartbeats 4000000
set_option linter.unusedVariables false
set_option linter.unusedSimpArgs false
theorem fold_blk (M : List Int) (p : List Wd × Nat) (k : Nat) (hk : 136 * k + 136 ≤ M.length) (h0 : ((M.take (136 * k)).foldl (kStep 136) p).2 = 0) :
    (M.take (136 * (k + 1))).foldl (kStep 136) p = (kPerm (kAdds ((M.take (136 * k)).foldl (kStep 136) p).1 0 ((M.drop (136 * k)).take 136)), 0) := by
  have e : M.take (136 * (k + 1)) = M.take (136 * k) ++ (M.drop (136 * k)).take 136 := by
    rw [← List.take_add]; congr 1
  rw [e, List.foldl_append]
  generalize (M.take (136 * k)).foldl (kStep 136) p = q at h0 ⊢
  obtain ⟨s, a⟩ := q
  simp only at h0
  subst h0
  rw [fold_block _ s 0 (by simp; omega) (by simp; omega)]
theorem blks_ok (M : List Int) (hM : Bytes M) (B : Nat) (hB : M.length = B * 136) (hML : M.length ≤ 140737488355328) (id m : Nat) (keep : List Nat) (hkeep : keep = [0, 1, 9, 10, 11, 12])
    (Q : Res → Prop) (e : Env) (pre h : Heap) (hid : pre.length = id) (h0 : getE e 0 = i64 32) (h1 : getE e 1 = i64 136) (h9 : getE e 9 = .ms id 0 none M.length) (h10 : getE e 10 = .ptr (id + 1) 0) (h11 : getE e 11 = .ptr (id + 2) 0) (h12 : getE e 12 = i64 0)
    (hh : h = pre ++ [.vec (M.map u8), .cells tabC, .cells (wv kZero)])
    (hq : ∀ e', getE e' 0 = i64 32 → getE e' 1 = i64 136 → getE e' 10 = .ptr (id + 1) 0 → getE e' 11 = .ptr (id + 2) 0 → Q (.exit 2, e', pre ++ [.vec (M.map u8), .cells tabC, .cells (wv (M.foldl (kStep 136) (kZero, 0)).1)])) :
    WP Q (axl T keep false L50_3 m e h) := by
  subst hkeep
  subst hid
  refine WP_loop (I := fun n e h => ∃ (k : Nat), k ≤ B ∧ n = B - k ∧ getE e 0 = i64 32 ∧ getE e 1 = i64 136 ∧ getE e 9 = .ms pre.length 0 none M.length ∧ getE e 10 = .ptr (pre.length + 1) 0 ∧ getE e 11 = .ptr (pre.length + 2) 0 ∧ getE e 12 = i64 (136 * k : Nat) ∧ h = pre ++ [.vec (M.map u8), .cells tabC, .cells (wv ((M.take (136 * k)).foldl (kStep 136) (kZero, 0)).1)]) ?_ B _ _ ⟨0, by omega, rfl, h0, h1, h9, h10, h11, h12, hh⟩
  rintro n e h ⟨k, hk, rfl, h0, h1, h9, h10, h11, h12, rfl⟩
  rw [trim_off]
  have hks := KS.fold (M.take (136 * k)) kzero_ks
  have hat := fold_at (M.take (136 * k)) kZero 0 (by omega)
  rw [List.length_take, Nat.zero_add, Nat.min_eq_left (by omega), Nat.mul_mod_right] at hat
  by_cases hlt : k < B
  · have hfb := fold_blk M (kZero, 0) k (by omega) hat
    have hlen : 136 * k + 136 ≤ M.length := by omega
    have hlt2 : ((136 * k : Nat) : Int) < (M.length : Int) := by omega
    have hA : ((136 * k : Nat) : Int) + 136 = ((136 * (k + 1) : Nat) : Int) := by omega
    generalize (M.take (136 * k)).foldl (kStep 136) (kZero, 0) = p at hks hat hfb ⊢
    have hs := hks.len
    have hs2 : (kAdds p.1 0 ((M.drop (136 * k)).take 136)).length = 25 := kAdds_len _ _ hs
    first | have hb := hb | have hb := trivial
    repeat' (first | (simp -implicitDefEqProofs (disch := omega) only [hb, L50_3, h0, h1, h9, h10, h11, h12, wC, initE, aop, Nat.reduceEqDiff, ↓reduceIte, Nat.reduceAdd, finish, resOf, tupOf, AM.freeze, freeze1, freezeL, closed, nam, namL, if_true, if_false, deref, boxAt, exAt, ldCells, oneL, oneCell, Nat.reduceLeDiff, evL, adopt, rigid, rigidL, trim, Int.reduceEq, Int.reduceMod, Int.reduceDiv, if_pos, if_neg, asI, forall_const, implies_true, chkD, chkO, chkW, effB, reB, vEq, beq_self_eq_true, Nat.reduceSub, Nat.reduceLT, Int.reduceSub, Int.reduceAdd, Int.reduceMul, Int.reduceLT, Int.reduceLE, Int.reduceToNat, optI, aslice, cutSl, cutMs, cutStr, cutOwn, cellsOf, one, elCells, lenOf, beqV, beqVL, strip, stripO, convS]) | ((first | rw [WP_condK] | rw [WP_opsG] | rw [WP_quiG] | rw [WP_dG]); refine And.intro (fun hb => ?_) (fun hb => ?_) <;> (first | have hd := dq1 hb | have hd := dq2 hb | have hd := dq3 hb | have hd := dq4 hb | skip)))
    refine blk_ok p.1 hs M hM k hlen hML pre.length _ _ rfl _ _ pre _ rfl rfl rfl rfl rfl rfl rfl rfl rfl ?_
    intro e' g0 g1 g9 g10 g11 g12
    have hcall := fun h id hid => call_rounds (kAdds p.1 0 ((M.drop (136 * k)).take 136)) hs2 h id hid
    generalize kAdds p.1 0 ((M.drop (136 * k)).take 136) = s at hs2 hcall hfb
    have hwl : (wv s).length = 25 := by rw [wv_len, hs2]
    have hT : List.take 25 (wv s) = wv s := List.take_of_length_le (by omega)
    have hc := hcall (pre ++ [.vec (M.map u8), .cells tabC, .cells (wv s)]) (pre.length + 1) (by rw [get_app]; rfl)
    have hwl2 : (wv (kPerm s)).length = 25 := by rw [wv_len, kPerm_len hs2]
    have ho := vI_one (wI (kPerm s))
    have hsp : splice (wv s) 0 (wv (kPerm s)) = wv (kPerm s) := splice_all (by rw [hwl2, hwl])
    first | have hb := hb | have hb := trivial
    repeat' (first | (simp -implicitDefEqProofs (disch := omega) only [hb, g0, g1, g9, g10, g11, g12, hwl, hT, hc, hwl2, ho, hsp, hA, wC, initE, aop, Nat.reduceEqDiff, ↓reduceIte, Nat.reduceAdd, finish, resOf, tupOf, AM.freeze, freeze1, freezeL, closed, nam, namL, if_true, if_false, deref, boxAt, exAt, ldCells, oneL, oneCell, Nat.reduceLeDiff, evL, adopt, rigid, rigidL, trim, Int.reduceEq, Int.reduceMod, Int.reduceDiv, if_pos, if_neg, asI, forall_const, implies_true, chkD, chkO, chkW, effB, reB, vEq, beq_self_eq_true, Nat.reduceSub, Nat.reduceLT, Int.reduceSub, Int.reduceAdd, Int.reduceMul, Int.reduceLT, Int.reduceLE, Int.reduceToNat, optI, aslice, cutSl, cutMs, cutStr, cutOwn, cellsOf, one, elCells, lenOf, beqV, beqVL, strip, stripO, convS]) | ((first | rw [WP_condK] | rw [WP_opsG] | rw [WP_quiG] | rw [WP_dG]); refine And.intro (fun hb => ?_) (fun hb => ?_) <;> (first | have hd := dq1 hb | have hd := dq2 hb | have hd := dq3 hb | have hd := dq4 hb | skip)))
    exact ⟨B - (k + 1), by omega, k + 1, by omega, rfl, rfl, by rw [hfb]⟩
  · obtain rfl : k = B := by omega
    have hlt2 : ¬ ((136 * k : Nat) : Int) < (M.length : Int) := by omega
    first | have hb := hb | have hb := trivial
    repeat' (first | (simp -implicitDefEqProofs (disch := omega) only [hb, L50_3, h0, h1, h9, h10, h11, h12, wC, initE, aop, Nat.reduceEqDiff, ↓reduceIte, Nat.reduceAdd, finish, resOf, tupOf, AM.freeze, freeze1, freezeL, closed, nam, namL, if_true, if_false, deref, boxAt, exAt, ldCells, oneL, oneCell, Nat.reduceLeDiff, evL, adopt, rigid, rigidL, trim, Int.reduceEq, Int.reduceMod, Int.reduceDiv, if_pos, if_neg, asI, forall_const, implies_true, chkD, chkO, chkW, effB, reB, vEq, beq_self_eq_true, Nat.reduceSub, Nat.reduceLT, Int.reduceSub, Int.reduceAdd, Int.reduceMul, Int.reduceLT, Int.reduceLE, Int.reduceToNat, optI, aslice, cutSl, cutMs, cutStr, cutOwn, cellsOf, one, elCells, lenOf, beqV, beqVL, strip, stripO, convS]) | ((first | rw [WP_condK] | rw [WP_opsG] | rw [WP_quiG] | rw [WP_dG]); refine And.intro (fun hb => ?_) (fun hb => ?_) <;> (first | have hd := dq1 hb | have hd := dq2 hb | have hd := dq3 hb | have hd := dq4 hb | skip)))
    rw [show M.take (136 * k) = M from List.take_of_length_le (by omega)]
    exact hq _ rfl rfl rfl rfl
/-- the bytes that come out -/
theorem out_in (s : List Wd) (hs : s.length = 25) (id r m : Nat) (keep : List Nat) (hkeep : keep = [0, 1, 10, 11, 14, 15]) (tb : Nat)
    (Q : Res → Prop) (e : Env) (pre h : Heap) (hid : pre.length = r) (hsb : pre[id]? = some (.cells (wv s))) (h0 : getE e 0 = i64 32) (h1 : getE e 1 = i64 136) (h10 : getE e 10 = .ptr tb 0) (h11 : getE e 11 = .ptr id 0) (h14 : getE e 14 = .slice (.tok r) none []) (h15 : getE e 15 = i64 0)
    (hh : h = pre ++ [.row none 0])
    (hq : ∀ e', getE e' 0 = i64 32 → getE e' 1 = i64 136 → getE e' 10 = .ptr tb 0 → getE e' 11 = .ptr id 0 → getE e' 14 = .slice (.tok r) none ((k32.map (kByte s)).map u8) → Q (.exit 8, e', pre ++ [.row none 32])) :
    WP Q (axl T keep false L50_0 m e h) := by
  subst hkeep
  subst hid
  refine WP_loop (I := fun n e h => ∃ (i : Nat), i ≤ 32 ∧ n = 32 - i ∧ getE e 0 = i64 32 ∧ getE e 1 = i64 136 ∧ getE e 10 = .ptr tb 0 ∧ getE e 11 = .ptr id 0 ∧ getE e 14 = .slice (.tok pre.length) none (((k32.take i).map (kByte s)).map u8) ∧ getE e 15 = i64 i ∧ h = pre ++ [.row none i]) ?_ 32 _ _ ⟨0, by omega, rfl, h0, h1, h10, h11, h14, h15, hh⟩
  rintro n e h ⟨i, hi, rfl, h0, h1, h10, h11, h14, h15, rfl⟩
  rw [trim_off]
  have hl : (((k32.take i).map (kByte s)).map u8).length = i := by simp [k32]; omega
  have hidl : id < pre.length := (List.getElem?_eq_some_iff.1 hsb).1
  have hgs : (pre ++ [AObj.row none i])[id]? = some (.cells (wv s)) := by rw [get_appl hidl, hsb]
  by_cases hlt : i < 32
  · have hq' : ((i : Int).tdiv 8) = ((i / 8 : Nat) : Int) := by rw [Int.tdiv_eq_ediv_of_nonneg (by omega)]; omega
    have hm : ((i : Int).tmod 8) = ((i % 8 : Nat) : Int) := by rw [Int.tmod_eq_emod_of_nonneg (by omega)]; omega
    have h8 : (8 : Int) * ((i % 8 : Nat) : Int) = ((8 * (i % 8) : Nat) : Int) := by omega
    have hg := wv_get (s := s) (i := i / 8) (by omega)
    have hsh := bin_shrW .i64 (nw s (i / 8)) (8 * (i % 8)) (by omega)
    have hkb : IntKind.u8.wrap ((nw s (i / 8) >>> (8 * (i % 8))).toNat : Int) = kByte s i := by rw [w_u8, kByte]; omega
    have hf := kfits (n := i + 1) (by omega)
    have hk : ((k32.take (i + 1)).map (kByte s)).map u8 = ((k32.take i).map (kByte s)).map u8 ++ [u8 (kByte s i)] := by
      have h1 : k32.take (i + 1) = k32.take i ++ [i] := by
        have : ∀ i, i < 32 → k32.take (i + 1) = k32.take i ++ [i] := by decide
        exact this i hlt
      rw [h1]; simp
    generalize ((k32.take i).map (kByte s)).map u8 = L at hl hk h14
    first | have hb := hb | have hb := trivial
    repeat' (first | (simp -implicitDefEqProofs (disch := omega) only [hb, L50_0, h0, h1, h10, h11, h14, h15, hq', hm, h8, hg, hsh, hkb, hf, hl, hgs, setEls, elemsOf, aappend, stripEl, elFits, List.replicate_succ, List.replicate_zero, wC, initE, aop, Nat.reduceEqDiff, ↓reduceIte, Nat.reduceAdd, finish, resOf, tupOf, AM.freeze, freeze1, freezeL, closed, nam, namL, if_true, if_false, deref, boxAt, exAt, ldCells, oneL, oneCell, Nat.reduceLeDiff, evL, adopt, rigid, rigidL, trim, Int.reduceEq, Int.reduceMod, Int.reduceDiv, if_pos, if_neg, asI, forall_const, implies_true, chkD, chkO, chkW, effB, reB, vEq, beq_self_eq_true, Nat.reduceSub, Nat.reduceLT, Int.reduceSub, Int.reduceAdd, Int.reduceMul, Int.reduceLT, Int.reduceLE, Int.reduceToNat, optI, aslice, cutSl, cutMs, cutStr, cutOwn, cellsOf, one, elCells, lenOf, beqV, beqVL, strip, stripO, convS]) | ((first | rw [WP_condK] | rw [WP_opsG] | rw [WP_quiG] | rw [WP_dG]); refine And.intro (fun hb => ?_) (fun hb => ?_) <;> (first | have hd := dq1 hb | have hd := dq2 hb | have hd := dq3 hb | have hd := dq4 hb | skip)))
    exact ⟨32 - (i + 1), by omega, i + 1, by omega, rfl, by rw [hk], rfl, rfl⟩
  · obtain rfl : i = 32 := by omega
    first | have hb := hb | have hb := trivial
    repeat' (first | (simp -implicitDefEqProofs (disch := omega) only [hb, L50_0, h0, h1, h10, h11, h14, h15, hl, wC, initE, aop, Nat.reduceEqDiff, ↓reduceIte, Nat.reduceAdd, finish, resOf, tupOf, AM.freeze, freeze1, freezeL, closed, nam, namL, if_true, if_false, deref, boxAt, exAt, ldCells, oneL, oneCell, Nat.reduceLeDiff, evL, adopt, rigid, rigidL, trim, Int.reduceEq, Int.reduceMod, Int.reduceDiv, if_pos, if_neg, asI, forall_const, implies_true, chkD, chkO, chkW, effB, reB, vEq, beq_self_eq_true, Nat.reduceSub, Nat.reduceLT, Int.reduceSub, Int.reduceAdd, Int.reduceMul, Int.reduceLT, Int.reduceLE, Int.reduceToNat, optI, aslice, cutSl, cutMs, cutStr, cutOwn, cellsOf, one, elCells, lenOf, beqV, beqVL, strip, stripO, convS]) | ((first | rw [WP_condK] | rw [WP_opsG] | rw [WP_quiG] | rw [WP_dG]); refine And.intro (fun hb => ?_) (fun hb => ?_) <;> (first | have hd := dq1 hb | have hd := dq2 hb | have hd := dq3 hb | have hd := dq4 hb | skip)))
    exact hq _ rfl rfl rfl rfl rfl
end Go.Proofs.YtkihcmlmcgokhaaDoor.AM

/- The document's digest, whole. -/
namespace Go.Proofs.YtkihcmlmcgokhaaDoor.AM
open Go
set_option maxRecDepth 100000
set_option maxHeartbeats 4000000
set_option linter.unusedVariables false
set_option linter.unusedSimpArgs false
theorem kPadL_bytes {l : List Int} (h : Bytes l) : Bytes (kPadL l) := by
  intro c hc
  unfold kPadL at hc
  rcases List.mem_or_eq_of_mem_set hc with hc | rfl
  · unfold kPad at hc
    rcases List.mem_append.1 hc with hc | hc
    · exact h c hc
    · rcases List.mem_cons.1 hc with rfl | hc
      · omega
      · rw [(List.mem_replicate.1 hc).2]; omega
  · split <;> omega
theorem kPadL_len (l : List Int) : (kPadL l).length = (l.length / 136 + 1) * 136 := by rw [kPadL, List.length_set, kPad_len]
/-- the last byte, and the other one in its place -/
theorem pad_last (l : List Int) : (kPad l)[(kPad l).length - 1]? = some (if l.length % 136 = 135 then 6 else 0) := by
  have hpl : (kPad l).length - 1 = l.length + (135 - l.length % 136) := by
    simp only [kPad, List.length_append, List.length_cons, List.length_replicate]; omega
  rw [hpl, kPad, List.getElem?_append_right (by omega), Nat.add_sub_cancel_left]
  split
  · rename_i h; rw [h]; rfl
  · rename_i h
    have : 135 - l.length % 136 = (134 - l.length % 136) + 1 := by omega
    rw [this, List.getElem?_cons_succ, List.getElem?_replicate, if_pos (by omega)]
theorem xor128 (l : List Int) : abin .xor (.int .u8 (if l.length % 136 = 135 then 6 else 0)) (.int .u8 128) = some (.int .u8 (if l.length % 136 = 135 then 134 else 128)) := by
  split <;> rfl
def tab0 : List AV := [.int .i64 0, .int .i64 0, .int .i64 0, .int .i64 0, .int .i64 0, .int .i64 0, .int .i64 0, .int .i64 0, .int .i64 0, .int .i64 0, .int .i64 0, .int .i64 0, .int .i64 0, .int .i64 0, .int .i64 0, .int .i64 0, .int .i64 0, .int .i64 0, .int .i64 0, .int .i64 0, .int .i64 0, .int .i64 0, .int .i64 0, .int .i64 0, .int .i64 0, .int .u64 0, .int .u64 0, .int .u64 0, .int .u64 0, .int .u64 0, .int .u64 0, .int .u64 0, .int .u64 0, .int .u64 0, .int .u64 0, .int .u64 0, .int .u64 0, .int .u64 0, .int .u64 0, .int .u64 0, .int .u64 0, .int .u64 0, .int .u64 0, .int .u64 0, .int .u64 0, .int .u64 0, .int .u64 0, .int .u64 0, .int .u64 0]
theorem z49_eq : AObj.box true [.int .i64 0, .int .i64 0, .int .i64 0, .int .i64 0, .int .i64 0, .int .i64 0, .int .i64 0, .int .i64 0, .int .i64 0, .int .i64 0, .int .i64 0, .int .i64 0, .int .i64 0, .int .i64 0, .int .i64 0, .int .i64 0, .int .i64 0, .int .i64 0, .int .i64 0, .int .i64 0, .int .i64 0, .int .i64 0, .int .i64 0, .int .i64 0, .int .i64 0, .int .u64 0, .int .u64 0, .int .u64 0, .int .u64 0, .int .u64 0, .int .u64 0, .int .u64 0, .int .u64 0, .int .u64 0, .int .u64 0, .int .u64 0, .int .u64 0, .int .u64 0, .int .u64 0, .int .u64 0, .int .u64 0, .int .u64 0, .int .u64 0, .int .u64 0, .int .u64 0, .int .u64 0, .int .u64 0, .int .u64 0, .int .u64 0] = AObj.box true tab0 := rfl
theorem z25_eq : AObj.box true [.int .u64 0, .int .u64 0, .int .u64 0, .int .u64 0, .int .u64 0, .int .u64 0, .int .u64 0, .int .u64 0, .int .u64 0, .int .u64 0, .int .u64 0, .int .u64 0, .int .u64 0, .int .u64 0, .int .u64 0, .int .u64 0, .int .u64 0, .int .u64 0, .int .u64 0, .int .u64 0, .int .u64 0, .int .u64 0, .int .u64 0, .int .u64 0, .int .u64 0] = AObj.box true (wv kZero) := rfl
theorem out_ok (o : AOwn) (b : List Int) (hb : Bytes b) (hn : b.length ≤ 140737488353000) : prun T F50 [i64 32, i64 136, u8 6, .slice o none (b.map u8)] = some (.slice .fresh none ((kSum b).map u8)) := by
  have hpl := kPad_len b
  have hpos : 0 < (kPad b).length := by rw [hpl]; omega
  have hle : (kPad b).length ≤ 140737488353200 := by rw [hpl]; omega
  have hpd : ∀ (e : Env) (pre : Heap) (h : Heap) (m : Nat) (Q : Res → Prop), getE e 0 = i64 32 → getE e 1 = i64 136 → getE e 9 = .ms pre.length 0 none (b.length + 1) → h = pre ++ [.vec ((b ++ [6]).map u8)] →
    (∀ e' pre', getE e' 0 = i64 32 → getE e' 1 = i64 136 → getE e' 9 = .ms pre'.length 0 none (kPad b).length → Q (.exit 0, e', pre' ++ [.vec ((kPad b).map u8)])) → WP Q (axl T [0, 1, 9] false L50_4 m e h) :=
    fun e pre h m Q g0 g1 g9 hh hq => pad_ok b hn .unk m _ rfl 0 rfl Q e pre h g0 g1 g9 hh hq
  refine WP_eq (prun_wp ?_)
  have hf := kfits (n := b.length) (by omega)
  have hf1 := kfits (n := b.length + 1) (by omega)
  have hfl := flatC b
  have hx := xor128 b
  have hgl : ((kPad b).map u8)[(kPad b).length - 1]? = some (u8 (if b.length % 136 = 135 then 6 else 0)) := by rw [List.getElem?_map, pad_last]; rfl
  have hset : ((kPad b).map u8).set ((kPad b).length - 1) (u8 (if b.length % 136 = 135 then 134 else 128)) = (kPadL b).map u8 := by rw [kPadL, List.map_set]
  have htl : tabC.length = 49 := rfl
  have hto : oneL tabC = true := by kernel_rfl
  have htT : List.take 49 tabC = tabC := rfl
  have hts : splice tab0 0 tabC = tabC := splice_all rfl
  have h0l : tab0.length = 49 := rfl
  have hML := kPadL_len b
  have hPL : (kPadL b).length = (kPad b).length := by rw [hML, hpl]
  have hMB := kPadL_bytes hb
  have hfold := kPadL_fold b
  have hks := KS.fold (kPadL b) kzero_ks
  have hks0 : KS (kTake b) := KS.fold b kzero_ks
  have hcl := u8_closed (kSum b)
  have hl32 : ((kSum b).map u8).length = 32 := by rw [List.length_map, kSum_len]
  by_cases hb0 : b.length = 0
  · obtain rfl := List.eq_nil_of_length_eq_zero hb0
    first | have hb := hb | have hb := trivial
    repeat' (first | (simp -implicitDefEqProofs (disch := omega) only [hb, F50, appV, setEls, elemsOf, stripEl, elFits, List.replicate_succ, List.replicate_zero, hf, hf1, hfl, wC, initE, aop, Nat.reduceEqDiff, ↓reduceIte, Nat.reduceAdd, finish, resOf, tupOf, AM.freeze, freeze1, freezeL, closed, nam, namL, if_true, if_false, deref, boxAt, exAt, ldCells, oneL, oneCell, Nat.reduceLeDiff, evL, adopt, rigid, rigidL, trim, Int.reduceEq, Int.reduceMod, Int.reduceDiv, if_pos, if_neg, asI, forall_const, implies_true, chkD, chkO, chkW, effB, reB, vEq, beq_self_eq_true, Nat.reduceSub, Nat.reduceLT, Int.reduceSub, Int.reduceAdd, Int.reduceMul, Int.reduceLT, Int.reduceLE, Int.reduceToNat, optI, aslice, cutSl, cutMs, cutStr, cutOwn, cellsOf, one, elCells, lenOf, beqV, beqVL, strip, stripO, convS]) | ((first | rw [WP_condK] | rw [WP_opsG] | rw [WP_quiG] | rw [WP_dG]); refine And.intro (fun hb => ?_) (fun hb => ?_) <;> (first | have hd := dq1 hb | have hd := dq2 hb | have hd := dq3 hb | have hd := dq4 hb | skip)))
    refine hpd _ [] _ _ _ rfl rfl rfl rfl ?_
    intro e' pre' g0 g1 g9
    generalize (if ([] : List Int).length % 136 = 135 then (6 : Int) else 0) = x6 at hx hgl
    generalize (if ([] : List Int).length % 136 = 135 then (134 : Int) else 128) = x7 at hx hset
    first | have hb := hb | have hb := trivial
    repeat' (first | (simp -implicitDefEqProofs (disch := omega) only [hb, g0, g1, g9, hgl, hx, hset, call_All, z49_eq, z25_eq, htl, hto, htT, hts, h0l, app_app, wC, initE, aop, Nat.reduceEqDiff, ↓reduceIte, Nat.reduceAdd, finish, resOf, tupOf, AM.freeze, freeze1, freezeL, closed, nam, namL, if_true, if_false, deref, boxAt, exAt, ldCells, oneL, oneCell, Nat.reduceLeDiff, evL, adopt, rigid, rigidL, trim, Int.reduceEq, Int.reduceMod, Int.reduceDiv, if_pos, if_neg, asI, forall_const, implies_true, chkD, chkO, chkW, effB, reB, vEq, beq_self_eq_true, Nat.reduceSub, Nat.reduceLT, Int.reduceSub, Int.reduceAdd, Int.reduceMul, Int.reduceLT, Int.reduceLE, Int.reduceToNat, optI, aslice, cutSl, cutMs, cutStr, cutOwn, cellsOf, one, elCells, lenOf, beqV, beqVL, strip, stripO, convS]) | ((first | rw [WP_condK] | rw [WP_opsG] | rw [WP_quiG] | rw [WP_dG]); refine And.intro (fun hb => ?_) (fun hb => ?_) <;> (first | have hd := dq1 hb | have hd := dq2 hb | have hd := dq3 hb | have hd := dq4 hb | skip)))
    refine blks_ok (kPadL ([] : List Int)) hMB (([] : List Int).length / 136 + 1) hML (by rw [hPL]; omega) pre'.length _ _ rfl _ _ pre' _ rfl g0 g1 (by rw [hPL]; exact g9) rfl rfl rfl rfl ?_
    intro e2 q0 q1 q10 q11
    rw [hfold]
    have hel := kEnd_len hks0
    have hend : k32.map (kByte (kEnd (kTake ([] : List Int)))) = kSum ([] : List Int) := rfl
    generalize kEnd (kTake ([] : List Int)) = s at hel hend ⊢
    first | have hb := hb | have hb := trivial
    repeat' (first | (simp -implicitDefEqProofs (disch := omega) only [hb, q0, q1, q10, q11, app_app, wC, initE, aop, Nat.reduceEqDiff, ↓reduceIte, Nat.reduceAdd, finish, resOf, tupOf, AM.freeze, freeze1, freezeL, closed, nam, namL, if_true, if_false, deref, boxAt, exAt, ldCells, oneL, oneCell, Nat.reduceLeDiff, evL, adopt, rigid, rigidL, trim, Int.reduceEq, Int.reduceMod, Int.reduceDiv, if_pos, if_neg, asI, forall_const, implies_true, chkD, chkO, chkW, effB, reB, vEq, beq_self_eq_true, Nat.reduceSub, Nat.reduceLT, Int.reduceSub, Int.reduceAdd, Int.reduceMul, Int.reduceLT, Int.reduceLE, Int.reduceToNat, optI, aslice, cutSl, cutMs, cutStr, cutOwn, cellsOf, one, elCells, lenOf, beqV, beqVL, strip, stripO, convS]) | ((first | rw [WP_condK] | rw [WP_opsG] | rw [WP_quiG] | rw [WP_dG]); refine And.intro (fun hb => ?_) (fun hb => ?_) <;> (first | have hd := dq1 hb | have hd := dq2 hb | have hd := dq3 hb | have hd := dq4 hb | skip)))
    refine k_roll ?_
    rw [trim_off]
    first | have hb := hb | have hb := trivial
    repeat' (first | (simp -implicitDefEqProofs (disch := omega) only [hb, L50_1, q0, q1, q10, q11, wC, initE, aop, Nat.reduceEqDiff, ↓reduceIte, Nat.reduceAdd, finish, resOf, tupOf, AM.freeze, freeze1, freezeL, closed, nam, namL, if_true, if_false, deref, boxAt, exAt, ldCells, oneL, oneCell, Nat.reduceLeDiff, evL, adopt, rigid, rigidL, trim, Int.reduceEq, Int.reduceMod, Int.reduceDiv, if_pos, if_neg, asI, forall_const, implies_true, chkD, chkO, chkW, effB, reB, vEq, beq_self_eq_true, Nat.reduceSub, Nat.reduceLT, Int.reduceSub, Int.reduceAdd, Int.reduceMul, Int.reduceLT, Int.reduceLE, Int.reduceToNat, optI, aslice, cutSl, cutMs, cutStr, cutOwn, cellsOf, one, elCells, lenOf, beqV, beqVL, strip, stripO, convS]) | ((first | rw [WP_condK] | rw [WP_opsG] | rw [WP_quiG] | rw [WP_dG]); refine And.intro (fun hb => ?_) (fun hb => ?_) <;> (first | have hd := dq1 hb | have hd := dq2 hb | have hd := dq3 hb | have hd := dq4 hb | skip)))
    refine out_in s hel (pre'.length + 2) (pre'.length + 3) _ _ rfl (pre'.length + 1) _ _ (pre' ++ [.vec ((kPadL ([] : List Int)).map u8), .cells tabC, .cells (wv s)]) _ (by simp) (by rw [get_app]; rfl) rfl rfl rfl rfl rfl rfl (by simp) ?_
    intro e3 p0 p1 p10 p11 p14
    rw [hend] at p14
    first | have hb := hb | have hb := trivial
    repeat' (first | (simp -implicitDefEqProofs (disch := omega) only [hb, p0, p1, p10, p11, p14, q0, q1, wC, initE, aop, Nat.reduceEqDiff, ↓reduceIte, Nat.reduceAdd, finish, resOf, tupOf, AM.freeze, freeze1, freezeL, closed, nam, namL, if_true, if_false, deref, boxAt, exAt, ldCells, oneL, oneCell, Nat.reduceLeDiff, evL, adopt, rigid, rigidL, trim, Int.reduceEq, Int.reduceMod, Int.reduceDiv, if_pos, if_neg, asI, forall_const, implies_true, chkD, chkO, chkW, effB, reB, vEq, beq_self_eq_true, Nat.reduceSub, Nat.reduceLT, Int.reduceSub, Int.reduceAdd, Int.reduceMul, Int.reduceLT, Int.reduceLE, Int.reduceToNat, optI, aslice, cutSl, cutMs, cutStr, cutOwn, cellsOf, one, elCells, lenOf, beqV, beqVL, strip, stripO, convS]) | ((first | rw [WP_condK] | rw [WP_opsG] | rw [WP_quiG] | rw [WP_dG]); refine And.intro (fun hb => ?_) (fun hb => ?_) <;> (first | have hd := dq1 hb | have hd := dq2 hb | have hd := dq3 hb | have hd := dq4 hb | skip)))
    refine ⟨0, by omega, ?_⟩
    refine k_roll ?_
    rw [trim_off]
    have hrow : (pre' ++ [AObj.vec ((kPadL ([] : List Int)).map u8), AObj.cells tabC, AObj.cells (wv s)] ++ [AObj.row none 32])[pre'.length + 3]? = some (.row none 32) := by rw [List.append_assoc, get_app]; rfl
    first | have hb := hb | have hb := trivial
    repeat' (first | (simp -implicitDefEqProofs (disch := omega) only [hb, L50_1, p0, p1, p10, p11, p14, hl32, hcl, hrow, wC, initE, aop, Nat.reduceEqDiff, ↓reduceIte, Nat.reduceAdd, finish, resOf, tupOf, AM.freeze, freeze1, freezeL, closed, nam, namL, if_true, if_false, deref, boxAt, exAt, ldCells, oneL, oneCell, Nat.reduceLeDiff, evL, adopt, rigid, rigidL, trim, Int.reduceEq, Int.reduceMod, Int.reduceDiv, if_pos, if_neg, asI, forall_const, implies_true, chkD, chkO, chkW, effB, reB, vEq, beq_self_eq_true, Nat.reduceSub, Nat.reduceLT, Int.reduceSub, Int.reduceAdd, Int.reduceMul, Int.reduceLT, Int.reduceLE, Int.reduceToNat, optI, aslice, cutSl, cutMs, cutStr, cutOwn, cellsOf, one, elCells, lenOf, beqV, beqVL, strip, stripO, convS]) | ((first | rw [WP_condK] | rw [WP_opsG] | rw [WP_quiG] | rw [WP_dG]); refine And.intro (fun hb => ?_) (fun hb => ?_) <;> (first | have hd := dq1 hb | have hd := dq2 hb | have hd := dq3 hb | have hd := dq4 hb | skip)))
  · first | have hb := hb | have hb := trivial
    repeat' (first | (simp -implicitDefEqProofs (disch := omega) only [hb, F50, appV, setEls, elemsOf, stripEl, elFits, List.replicate_succ, List.replicate_zero, hf, hf1, hb0, hfl, wC, initE, aop, Nat.reduceEqDiff, ↓reduceIte, Nat.reduceAdd, finish, resOf, tupOf, AM.freeze, freeze1, freezeL, closed, nam, namL, if_true, if_false, deref, boxAt, exAt, ldCells, oneL, oneCell, Nat.reduceLeDiff, evL, adopt, rigid, rigidL, trim, Int.reduceEq, Int.reduceMod, Int.reduceDiv, if_pos, if_neg, asI, forall_const, implies_true, chkD, chkO, chkW, effB, reB, vEq, beq_self_eq_true, Nat.reduceSub, Nat.reduceLT, Int.reduceSub, Int.reduceAdd, Int.reduceMul, Int.reduceLT, Int.reduceLE, Int.reduceToNat, optI, aslice, cutSl, cutMs, cutStr, cutOwn, cellsOf, one, elCells, lenOf, beqV, beqVL, strip, stripO, convS]) | ((first | rw [WP_condK] | rw [WP_opsG] | rw [WP_quiG] | rw [WP_dG]); refine And.intro (fun hb => ?_) (fun hb => ?_) <;> (first | have hd := dq1 hb | have hd := dq2 hb | have hd := dq3 hb | have hd := dq4 hb | skip)))
    refine hpd _ [.row none 1] _ _ _ rfl rfl rfl (by simp) ?_
    intro e' pre' g0 g1 g9
    generalize (if b.length % 136 = 135 then (6 : Int) else 0) = x6 at hx hgl
    generalize (if b.length % 136 = 135 then (134 : Int) else 128) = x7 at hx hset
    first | have hb := hb | have hb := trivial
    repeat' (first | (simp -implicitDefEqProofs (disch := omega) only [hb, g0, g1, g9, hgl, hx, hset, call_All, z49_eq, z25_eq, htl, hto, htT, hts, h0l, app_app, wC, initE, aop, Nat.reduceEqDiff, ↓reduceIte, Nat.reduceAdd, finish, resOf, tupOf, AM.freeze, freeze1, freezeL, closed, nam, namL, if_true, if_false, deref, boxAt, exAt, ldCells, oneL, oneCell, Nat.reduceLeDiff, evL, adopt, rigid, rigidL, trim, Int.reduceEq, Int.reduceMod, Int.reduceDiv, if_pos, if_neg, asI, forall_const, implies_true, chkD, chkO, chkW, effB, reB, vEq, beq_self_eq_true, Nat.reduceSub, Nat.reduceLT, Int.reduceSub, Int.reduceAdd, Int.reduceMul, Int.reduceLT, Int.reduceLE, Int.reduceToNat, optI, aslice, cutSl, cutMs, cutStr, cutOwn, cellsOf, one, elCells, lenOf, beqV, beqVL, strip, stripO, convS]) | ((first | rw [WP_condK] | rw [WP_opsG] | rw [WP_quiG] | rw [WP_dG]); refine And.intro (fun hb => ?_) (fun hb => ?_) <;> (first | have hd := dq1 hb | have hd := dq2 hb | have hd := dq3 hb | have hd := dq4 hb | skip)))
    refine blks_ok (kPadL b) hMB (b.length / 136 + 1) hML (by rw [hPL]; omega) pre'.length _ _ rfl _ _ pre' _ rfl g0 g1 (by rw [hPL]; exact g9) rfl rfl rfl rfl ?_
    intro e2 q0 q1 q10 q11
    rw [hfold]
    have hel := kEnd_len hks0
    have hend : k32.map (kByte (kEnd (kTake b))) = kSum b := rfl
    generalize kEnd (kTake b) = s at hel hend ⊢
    first | have hb := hb | have hb := trivial
    repeat' (first | (simp -implicitDefEqProofs (disch := omega) only [hb, q0, q1, q10, q11, app_app, wC, initE, aop, Nat.reduceEqDiff, ↓reduceIte, Nat.reduceAdd, finish, resOf, tupOf, AM.freeze, freeze1, freezeL, closed, nam, namL, if_true, if_false, deref, boxAt, exAt, ldCells, oneL, oneCell, Nat.reduceLeDiff, evL, adopt, rigid, rigidL, trim, Int.reduceEq, Int.reduceMod, Int.reduceDiv, if_pos, if_neg, asI, forall_const, implies_true, chkD, chkO, chkW, effB, reB, vEq, beq_self_eq_true, Nat.reduceSub, Nat.reduceLT, Int.reduceSub, Int.reduceAdd, Int.reduceMul, Int.reduceLT, Int.reduceLE, Int.reduceToNat, optI, aslice, cutSl, cutMs, cutStr, cutOwn, cellsOf, one, elCells, lenOf, beqV, beqVL, strip, stripO, convS]) | ((first | rw [WP_condK] | rw [WP_opsG] | rw [WP_quiG] | rw [WP_dG]); refine And.intro (fun hb => ?_) (fun hb => ?_) <;> (first | have hd := dq1 hb | have hd := dq2 hb | have hd := dq3 hb | have hd := dq4 hb | skip)))
    refine k_roll ?_
    rw [trim_off]
    first | have hb := hb | have hb := trivial
    repeat' (first | (simp -implicitDefEqProofs (disch := omega) only [hb, L50_1, q0, q1, q10, q11, wC, initE, aop, Nat.reduceEqDiff, ↓reduceIte, Nat.reduceAdd, finish, resOf, tupOf, AM.freeze, freeze1, freezeL, closed, nam, namL, if_true, if_false, deref, boxAt, exAt, ldCells, oneL, oneCell, Nat.reduceLeDiff, evL, adopt, rigid, rigidL, trim, Int.reduceEq, Int.reduceMod, Int.reduceDiv, if_pos, if_neg, asI, forall_const, implies_true, chkD, chkO, chkW, effB, reB, vEq, beq_self_eq_true, Nat.reduceSub, Nat.reduceLT, Int.reduceSub, Int.reduceAdd, Int.reduceMul, Int.reduceLT, Int.reduceLE, Int.reduceToNat, optI, aslice, cutSl, cutMs, cutStr, cutOwn, cellsOf, one, elCells, lenOf, beqV, beqVL, strip, stripO, convS]) | ((first | rw [WP_condK] | rw [WP_opsG] | rw [WP_quiG] | rw [WP_dG]); refine And.intro (fun hb => ?_) (fun hb => ?_) <;> (first | have hd := dq1 hb | have hd := dq2 hb | have hd := dq3 hb | have hd := dq4 hb | skip)))
    refine out_in s hel (pre'.length + 2) (pre'.length + 3) _ _ rfl (pre'.length + 1) _ _ (pre' ++ [.vec ((kPadL b).map u8), .cells tabC, .cells (wv s)]) _ (by simp) (by rw [get_app]; rfl) rfl rfl rfl rfl rfl rfl (by simp) ?_
    intro e3 p0 p1 p10 p11 p14
    rw [hend] at p14
    first | have hb := hb | have hb := trivial
    repeat' (first | (simp -implicitDefEqProofs (disch := omega) only [hb, p0, p1, p10, p11, p14, q0, q1, wC, initE, aop, Nat.reduceEqDiff, ↓reduceIte, Nat.reduceAdd, finish, resOf, tupOf, AM.freeze, freeze1, freezeL, closed, nam, namL, if_true, if_false, deref, boxAt, exAt, ldCells, oneL, oneCell, Nat.reduceLeDiff, evL, adopt, rigid, rigidL, trim, Int.reduceEq, Int.reduceMod, Int.reduceDiv, if_pos, if_neg, asI, forall_const, implies_true, chkD, chkO, chkW, effB, reB, vEq, beq_self_eq_true, Nat.reduceSub, Nat.reduceLT, Int.reduceSub, Int.reduceAdd, Int.reduceMul, Int.reduceLT, Int.reduceLE, Int.reduceToNat, optI, aslice, cutSl, cutMs, cutStr, cutOwn, cellsOf, one, elCells, lenOf, beqV, beqVL, strip, stripO, convS]) | ((first | rw [WP_condK] | rw [WP_opsG] | rw [WP_quiG] | rw [WP_dG]); refine And.intro (fun hb => ?_) (fun hb => ?_) <;> (first | have hd := dq1 hb | have hd := dq2 hb | have hd := dq3 hb | have hd := dq4 hb | skip)))
    refine ⟨0, by omega, ?_⟩
    refine k_roll ?_
    rw [trim_off]
    have hrow : (pre' ++ [AObj.vec ((kPadL b).map u8), AObj.cells tabC, AObj.cells (wv s)] ++ [AObj.row none 32])[pre'.length + 3]? = some (.row none 32) := by rw [List.append_assoc, get_app]; rfl
    first | have hb := hb | have hb := trivial
    repeat' (first | (simp -implicitDefEqProofs (disch := omega) only [hb, L50_1, p0, p1, p10, p11, p14, hl32, hcl, hrow, wC, initE, aop, Nat.reduceEqDiff, ↓reduceIte, Nat.reduceAdd, finish, resOf, tupOf, AM.freeze, freeze1, freezeL, closed, nam, namL, if_true, if_false, deref, boxAt, exAt, ldCells, oneL, oneCell, Nat.reduceLeDiff, evL, adopt, rigid, rigidL, trim, Int.reduceEq, Int.reduceMod, Int.reduceDiv, if_pos, if_neg, asI, forall_const, implies_true, chkD, chkO, chkW, effB, reB, vEq, beq_self_eq_true, Nat.reduceSub, Nat.reduceLT, Int.reduceSub, Int.reduceAdd, Int.reduceMul, Int.reduceLT, Int.reduceLE, Int.reduceToNat, optI, aslice, cutSl, cutMs, cutStr, cutOwn, cellsOf, one, elCells, lenOf, beqV, beqVL, strip, stripO, convS]) | ((first | rw [WP_condK] | rw [WP_opsG] | rw [WP_quiG] | rw [WP_dG]); refine And.intro (fun hb => ?_) (fun hb => ?_) <;> (first | have hd := dq1 hb | have hd := dq2 hb | have hd := dq3 hb | have hd := dq4 hb | skip)))
/-- a call of Out, at bytes that name nothing -/
theorem call_out (o : AOwn) (b : List Int) (hb : Bytes b) (hn : b.length ≤ 140737488353000) (ho : stripO o = .none ∨ stripO o = .full) (h : Heap) : ag T 50 [i64 32, i64 136, u8 6, .slice o none (b.map u8)] h = some (.slice (.tok h.length) none ((kSum b).map u8), h ++ [.row none 32]) := by
  have hcl := u8_closed b
  have := call_pure (T := T) (h := h) (args := [i64 32, i64 136, u8 6, .slice o none (b.map u8)]) rfl t50 rfl rfl (by
    simp only [List.map_cons, List.map_nil, strip]
    rcases ho with ho | ho <;> rw [ho] <;> simp only [closedL, namL, nam, Bool.true_and, Bool.and_true] at hcl ⊢ <;> exact hcl) (by
    simp only [List.map_cons, List.map_nil, strip]
    exact out_ok _ b hb hn)
  rw [this]
  simp only [AM.adopt, List.length_map, kSum_len]
theorem rsum_ok (o : AOwn) (b : List Int) (hb : Bytes b) (hn : b.length ≤ 140737488353000) (ho : stripO o = .none ∨ stripO o = .full) : prun T F45 [.slice o none (b.map u8)] = some (.agg ((kSum b).map u8)) := by
  refine WP_eq (prun_wp ?_)
  have hcall := call_out o b hb hn ho
  have hS : (kSum b).length = 32 := kSum_len b
  generalize kSum b = S at hcall hS ⊢
  have hc := u8_closed S
  have hst : (S.map u8).map strip = S.map u8 := by rw [List.map_map]; rfl
  have h1 := oneL_u8 S
  first | have hb := hb | have hb := trivial
  repeat' (first | (simp -implicitDefEqProofs (disch := omega) only [hb, F45, hcall, z32_eq, wC, initE, aop, Nat.reduceEqDiff, ↓reduceIte, Nat.reduceAdd, finish, resOf, tupOf, AM.freeze, freeze1, freezeL, closed, nam, namL, if_true, if_false, deref, boxAt, exAt, ldCells, oneL, oneCell, Nat.reduceLeDiff, evL, adopt, rigid, rigidL, trim, Int.reduceEq, Int.reduceMod, Int.reduceDiv, if_pos, if_neg, asI, forall_const, implies_true, chkD, chkO, chkW, effB, reB, vEq, beq_self_eq_true, Nat.reduceSub, Nat.reduceLT, Int.reduceSub, Int.reduceAdd, Int.reduceMul, Int.reduceLT, Int.reduceLE, Int.reduceToNat, optI, aslice, cutSl, cutMs, cutStr, cutOwn, cellsOf, one, elCells, lenOf, beqV, beqVL, strip, stripO, convS]) | ((first | rw [WP_condK] | rw [WP_opsG] | rw [WP_quiG] | rw [WP_dG]); refine And.intro (fun hb => ?_) (fun hb => ?_) <;> (first | have hd := dq1 hb | have hd := dq2 hb | have hd := dq3 hb | have hd := dq4 hb | skip)))
  refine WP_loop (I := fun n e h => ∃ i, i ≤ 32 ∧ n = 32 - i ∧ getE e 2 = .ptr 0 0 ∧ getE e 3 = .ptr 1 0 ∧ getE e 4 = .slice (.tok 2) none (S.map u8) ∧ getE e 5 = i64 i ∧ h = [Z32, .cells ((S.take i).map u8 ++ List.replicate (32 - i) (u8 0)), .row none 32]) ?_ 32 _ _ ⟨0, by omega, rfl, rfl, rfl, rfl, rfl, rfl⟩
  rintro n e h ⟨i, hi, rfl, h2, h3, h4, h5, rfl⟩
  have b4 : below 3 (.slice (.tok 2) none (S.map u8)) = true := by
    have := closed_below' 3 (.slice .none none (S.map u8)) (by simp only [closed, nam, Bool.true_and]; exact hc)
    simp only [below, nam, Bool.true_and] at this ⊢
    rw [this]; rfl
  have bc : namL (fun x => decide (x < 3)) ((S.take i).map u8 ++ List.replicate (32 - i) (u8 0)) = true := by
    rw [namL_app]
    have r1 : namL (fun x => decide (x < 3)) ((S.take i).map u8) = true := namL_imp (fun _ h => by cases h) _ (u8_closed (S.take i))
    have r2 : ∀ k, namL (fun x => decide (x < 3)) (List.replicate k (u8 0)) = true := fun k => by
      induction k with
      | zero => rfl
      | succ k ih => rw [List.replicate_succ]; exact ih
    rw [r1, r2]; rfl
  rw [trim_take (by simp only [List.all_cons, List.all_nil, h2, h3, h4, h5, b4]; rfl) (by simp only [List.take_succ_cons, List.take_zero, List.all_cons, List.all_nil, belowO, belowL, bc, Bool.and_true]; rfl)]
  have hlen : ((S.take i).map u8 ++ List.replicate (32 - i) (u8 0)).length = 32 := by simp; omega
  by_cases hlt : i < 32
  · have hg := get_u8 (l := S) (i := i) (by omega)
    have hset : ((S.take i).map u8 ++ List.replicate (32 - i) (u8 0)).set i (u8 (S[i]'(by omega))) = (S.take (i + 1)).map u8 ++ List.replicate (32 - (i + 1)) (u8 0) := by
      rw [List.set_append_right _ _ (by simp; omega)]
      have e1 : (i - ((S.take i).map u8).length) = 0 := by simp; omega
      rw [e1, List.take_succ_eq_append_getElem (by omega), show 32 - i = (32 - (i + 1)) + 1 by omega, List.replicate_succ, List.set_cons_zero, List.map_append, List.append_assoc]
      rfl
    first | have hb := hb | have hb := trivial
    repeat' (first | (simp -implicitDefEqProofs (disch := omega) only [hb, L45_0, h2, h3, h4, h5, hg, hset, hlen, wC, initE, aop, Nat.reduceEqDiff, ↓reduceIte, Nat.reduceAdd, finish, resOf, tupOf, AM.freeze, freeze1, freezeL, closed, nam, namL, if_true, if_false, deref, boxAt, exAt, ldCells, oneL, oneCell, Nat.reduceLeDiff, evL, adopt, rigid, rigidL, trim, Int.reduceEq, Int.reduceMod, Int.reduceDiv, if_pos, if_neg, asI, forall_const, implies_true, chkD, chkO, chkW, effB, reB, vEq, beq_self_eq_true, Nat.reduceSub, Nat.reduceLT, Int.reduceSub, Int.reduceAdd, Int.reduceMul, Int.reduceLT, Int.reduceLE, Int.reduceToNat, optI, aslice, cutSl, cutMs, cutStr, cutOwn, cellsOf, one, elCells, lenOf, beqV, beqVL, strip, stripO, convS]) | ((first | rw [WP_condK] | rw [WP_opsG] | rw [WP_quiG] | rw [WP_dG]); refine And.intro (fun hb => ?_) (fun hb => ?_) <;> (first | have hd := dq1 hb | have hd := dq2 hb | have hd := dq3 hb | have hd := dq4 hb | skip)))
    exact ⟨32 - (i + 1), by omega, i + 1, by omega, rfl, rfl, rfl⟩
  · obtain rfl : i = 32 := by omega
    have hT : S.take 32 = S := List.take_of_length_le (by omega)
    rw [hT] at hlen ⊢
    rw [show List.replicate (32 - 32) (u8 0) = [] from rfl, List.append_nil] at hlen ⊢
    have hTm : List.take 32 (S.map u8) = S.map u8 := List.take_of_length_le (by omega)
    have hsp : splice (List.replicate 32 (AV.int .u8 0)) 0 (S.map u8) = S.map u8 := splice_all (by rw [hlen]; rfl)
    first | have hb := hb | have hb := trivial
    repeat' (first | (simp -implicitDefEqProofs (disch := omega) only [hb, L45_0, h2, h3, h4, h5, Z32, hTm, hlen, h1, hsp, hc, wC, initE, aop, Nat.reduceEqDiff, ↓reduceIte, Nat.reduceAdd, finish, resOf, tupOf, AM.freeze, freeze1, freezeL, closed, nam, namL, if_true, if_false, deref, boxAt, exAt, ldCells, oneL, oneCell, Nat.reduceLeDiff, evL, adopt, rigid, rigidL, trim, Int.reduceEq, Int.reduceMod, Int.reduceDiv, if_pos, if_neg, asI, forall_const, implies_true, chkD, chkO, chkW, effB, reB, vEq, beq_self_eq_true, Nat.reduceSub, Nat.reduceLT, Int.reduceSub, Int.reduceAdd, Int.reduceMul, Int.reduceLT, Int.reduceLE, Int.reduceToNat, optI, aslice, cutSl, cutMs, cutStr, cutOwn, cellsOf, one, elCells, lenOf, beqV, beqVL, strip, stripO, convS]) | ((first | rw [WP_condK] | rw [WP_opsG] | rw [WP_quiG] | rw [WP_dG]); refine And.intro (fun hb => ?_) (fun hb => ?_) <;> (first | have hd := dq1 hb | have hd := dq2 hb | have hd := dq3 hb | have hd := dq4 hb | skip)))
    rw [hst]
    exact ⟨hc, rfl⟩
end Go.Proofs.YtkihcmlmcgokhaaDoor.AM

/- The digests, as they are called; and as contracts that the kernel can reckon. -/
namespace Go.Proofs.YtkihcmlmcgokhaaDoor.AM
open Go
set_option maxRecDepth 100000
set_option linter.unusedVariables false
set_option linter.unusedSimpArgs false
/-- a part's bytes -/
def partB : AV → Option (List Int)
  | .slice _ none els => byteEls els
  | .sc (.slice none 0 0) => some []
  | _ => none
def okB (l : List Int) : Bool := l.all (fun c => decide (0 ≤ c) && decide (c ≤ 255)) && decide (l.length ≤ 140737488351232)
def partsB : List AV → Option (List (List Int))
  | [] => some []
  | x :: r => (partB x).bind fun l => if okB l then (partsB r).map (l :: ·) else none
theorem okB_spec {l : List Int} (h : okB l = true) : Bytes l ∧ l.length ≤ 140737488351232 := by
  simp only [okB, Bool.and_eq_true, List.all_eq_true, decide_eq_true_eq] at h
  exact h
theorem byteEls_inv : ∀ {els : List AV} {l : List Int}, byteEls els = some l → els = l.map u8
  | [], l, h => by simp only [byteEls] at h; cases h; rfl
  | x :: r, l, h => by
    unfold byteEls at h
    split at h
    · rename_i heq; cases heq
    · rename_i n r' heq
      cases heq
      rw [Option.map_eq_some_iff] at h
      obtain ⟨l', h1, rfl⟩ := h
      rw [byteEls_inv h1]; rfl
    · cases h
theorem partsB_spec : ∀ {xs : List AV} {ls : List (List Int)}, partsB xs = some ls → closedL xs = true → PartsR xs ls
  | [], ls, h, _ => by simp only [partsB] at h; cases h; exact ⟨rfl, fun i hi => by simp at hi⟩
  | x :: r, ls, h, hc => by
    simp only [partsB, Option.bind_eq_some_iff] at h
    obtain ⟨l, h1, h⟩ := h
    split at h
    · rename_i hok
      rw [Option.map_eq_some_iff] at h
      obtain ⟨ls', h2, rfl⟩ := h
      simp only [closedL, namL, Bool.and_eq_true] at hc
      have ih := partsB_spec h2 hc.2
      obtain ⟨k1, k2⟩ := okB_spec hok
      refine ⟨by simp [ih.len], fun i hi hj => ?_⟩
      cases i with
      | zero =>
        refine ⟨k1, k2, hc.1, ?_⟩
        unfold partB at h1
        split at h1
        · rename_i o els; left; exact ⟨o, by rw [byteEls_inv h1]; rfl⟩
        · cases h1; exact .inr ⟨rfl, rfl⟩
        · cases h1
      | succ i => exact ih.at_ i (by simpa using hi) (by simpa using hj)
    · cases h
/-- the digest, for the kernel -/
def sumN (l : List Int) : AV := .agg (((nSum (l.map Int.toNat)).map Int.ofNat).map u8)
theorem sumN_eq {l : List Int} (h : Bytes l) : sumN l = .agg ((kSum l).map u8) := by
  rw [sumN, kSum_nSum l fun b hb => ⟨(h b hb).1, by have := (h b hb).2; omega⟩]
theorem flat_bytes {xs : List AV} {ls : List (List Int)} (h : PartsR xs ls) : Bytes ls.flatten := by
  intro c hc
  rw [List.mem_flatten] at hc
  obtain ⟨l, hl, hc⟩ := hc
  obtain ⟨i, hi, rfl⟩ := List.mem_iff_getElem.1 hl
  exact (h.at_ i (by rw [← h.len]; exact hi) hi).bytes c hc
def sumG (els : List AV) : Option AV := if closedL els && decide (els.length ≤ 140737488351232) then (partsB els).map fun ls => sumN ls.flatten else none
def sumX : List AV → Option AV
  | [.slice .none none els] => sumG els
  | [.slice .full none els] => sumG els
  | _ => none
def rsumG (els : List AV) : Option AV := (byteEls els).bind fun l => if okB l then some (sumN l) else none
def rsumX : List AV → Option AV
  | [.slice .none none els] => rsumG els
  | [.slice .full none els] => rsumG els
  | _ => none
theorem sumG_ok {els : List AV} {v : AV} (h : sumG els = some v) (o : AOwn) (ho : o = .none ∨ o = .full) : prun T F32 [.slice o none els] = some v := by
  unfold sumG at h
  split at h
  · rename_i hc
    simp only [Bool.and_eq_true, decide_eq_true_eq] at hc
    rw [Option.map_eq_some_iff] at h
    obtain ⟨ls, h1, rfl⟩ := h
    have hp := partsB_spec h1 hc.1
    rw [sumN_eq (flat_bytes hp)]
    refine sum_ok els ls hp o ?_ hc.2
    rcases ho with rfl | rfl <;> simp only [closed, nam, Bool.true_and] <;> exact hc.1
  · cases h
theorem rsumG_ok {els : List AV} {v : AV} (h : rsumG els = some v) (o : AOwn) (ho : o = .none ∨ o = .full) : prun T F45 [.slice o none els] = some v := by
  simp only [rsumG, Option.bind_eq_some_iff] at h
  obtain ⟨l, h1, h⟩ := h
  split at h
  · rename_i hok
    cases h
    obtain ⟨k1, k2⟩ := okB_spec hok
    rw [byteEls_inv h1, sumN_eq k1]
    refine rsum_ok o l k1 (by omega) ?_
    rcases ho with rfl | rfl
    · exact .inl rfl
    · exact .inr rfl
  · cases h
theorem sumX_ok {a : List AV} {v : AV} (h : sumX a = some v) : prun T F32 a = some v := by
  unfold sumX at h
  split at h
  · exact sumG_ok h _ (.inl rfl)
  · exact sumG_ok h _ (.inr rfl)
  · cases h
theorem rsumX_ok {a : List AV} {v : AV} (h : rsumX a = some v) : prun T F45 a = some v := by
  unfold rsumX at h
  split at h
  · exact rsumG_ok h _ (.inl rfl)
  · exact rsumG_ok h _ (.inr rfl)
  · cases h
theorem kfzL_len (h : Heap) : ∀ {l r : List AV}, fzL h l = some r → r.length = l.length
  | [], r, hh => by simp only [fzL] at hh; cases hh; rfl
  | x :: l, r, hh => by
    simp only [fzL, Option.bind_eq_some_iff, Option.map_eq_some_iff] at hh
    obtain ⟨y, _, z, h1, rfl⟩ := hh
    simp [kfzL_len h h1]
theorem prep_len {h : Heap} {l r : List AV} {b : Bool} (hh : prep h l = some (r, b)) : r.length = l.length := by
  unfold prep at hh
  split at hh
  · cases hh; simp
  · split at hh
    · cases hh; simp
    · rw [Option.map_eq_some_iff] at hh
      obtain ⟨a, h1, h2⟩ := hh
      cases h2
      exact kfzL_len h h1
theorem pcall_ole {f : Nat} {F : AFn} (hx : T.ext f = none) (hf : T.fn f = some F) (hp : F.pure = true) {g : List AV → Option AV} (hg : ∀ a v, g a = some v → a.length = F.np ∧ prun T F a = some v) (args : List AV) (h : Heap) : ole (pcall g args h) (ag T f args h) := by
  intro r hr
  have hr' := hr
  simp only [pcall, Option.bind_eq_some_iff] at hr
  obtain ⟨⟨a, b⟩, h1, v, h2, _⟩ := hr
  have hl := (hg a v h2).1
  rw [prep_len h1] at hl
  rw [ag_pure hx hf hp args hl]
  exact pcall_le (fun a w hw => (hg a w hw).2) args h r hr'
def sumsX (f : Nat) : Option (List AV → Option AV) := if f = 32 then some sumX else if f = 45 then some rsumX else none
theorem sumX_len {a : List AV} {v : AV} (h : sumX a = some v) : a.length = 1 := by
  unfold sumX at h
  split at h
  · rfl
  · rfl
  · cases h
theorem rsumX_len {a : List AV} {v : AV} (h : rsumX a = some v) : a.length = 1 := by
  unfold rsumX at h
  split at h
  · rfl
  · rfl
  · cases h
theorem sumsX_ok : ∀ f g, sumsX f = some g → T.pure f = true ∧ ∀ args h, ole (pcall g args h) (ag T f args h) := by
  intro f g h
  unfold sumsX at h
  split at h
  · rename_i hf
    cases h
    subst hf
    exact ⟨rfl, pcall_ole rfl t32 rfl fun a v hv => ⟨sumX_len hv, sumX_ok hv⟩⟩
  · split at h
    · rename_i hf
      cases h
      subst hf
      exact ⟨rfl, pcall_ole rfl t45 rfl fun a v hv => ⟨rsumX_len hv, rsumX_ok hv⟩⟩
    · cases h
/-- a run with the digests as contracts -/
theorem ag_of_sums {n f : Nat} {args : List AV} {h : Heap} {r : AV × Heap} (hr : gcall (Over T sumsX) n f args h = some r) : ag T f args h = some r := ag_of_over sumsX_ok hr
end Go.Proofs.YtkihcmlmcgokhaaDoor.AM

/- layer 05, in plain Lean: secrets that are walked to. -/
namespace Go.Proofs.YtkihcmlmcgokhaaDoor.AM
open Go
set_option maxRecDepth 100000
set_option linter.unusedVariables false
set_option linter.unusedSimpArgs false
def xorB (b : Int) (j : Nat) : Int := ((b.toNat ^^^ 2 ^ j : Nat) : Int)
def flipS (s : List Int) (k : Nat) : List Int := s.set (k / 8) (xorB (s.getD (k / 8) 0) (k % 8))
def kTurn (s : List Int) (k : Nat) : List Int := kSum (flipS s k)
/-- the bits below some that an index has, from the highest down -/
def kWalk (s : List Int) (i : Nat) : Nat → List Int
  | 0 => s
  | k + 1 => if i / 2 ^ k % 2 = 1 then kWalk (kTurn s k) i k else kWalk s i k
def lowF (i : Nat) : Nat → Nat → Nat
  | 0, k => k
  | f + 1, k => if i / 2 ^ k % 2 = 0 then lowF i f (k + 1) else k
/-- how many low bits are 0, twelve at most -/
def lowS (i : Nat) : Nat := lowF i 12 0
structure Sec (s : List Int) : Prop where
  len : s.length = 32
  by_ : Bytes s
theorem sec_sum (l : List Int) : Sec (kSum l) := ⟨kSum_len l, fun b hb => by have := kSum_byte l b hb; omega⟩
theorem sec_turn (s : List Int) (k : Nat) : Sec (kTurn s k) := sec_sum _
theorem sec_walk {s : List Int} (h : Sec s) (i : Nat) : ∀ k, Sec (kWalk s i k) := by
  intro k
  induction k generalizing s with
  | zero => exact h
  | succ k ih =>
    rw [kWalk]
    split
    · exact ih (sec_turn s k)
    · exact ih h
theorem xorB_byte {b : Int} (h : 0 ≤ b ∧ b ≤ 255) {j : Nat} (hj : j < 8) : 0 ≤ xorB b j ∧ xorB b j ≤ 255 := by
  have h1 : 2 ^ j < 2 ^ 8 := Nat.pow_lt_pow_right (by decide) hj
  have h2 : b.toNat ^^^ 2 ^ j < 2 ^ 8 := Nat.xor_lt_two_pow (by omega) h1
  unfold xorB
  omega
theorem flip_bytes {s : List Int} (h : Sec s) (k : Nat) : Bytes (flipS s k) ∧ (flipS s k).length = 32 := by
  refine ⟨fun c hc => ?_, by rw [flipS, List.length_set, h.len]⟩
  rcases List.mem_or_eq_of_mem_set hc with hc | rfl
  · exact h.by_ c hc
  · refine xorB_byte ?_ (by omega)
    rw [List.getD_eq_getElem?_getD]
    cases hq : s[k / 8]? with
    | none => exact ⟨Int.le_refl _, by decide⟩
    | some v => exact h.by_ v (List.mem_of_getElem? hq)
/-- bits that are not there are passed over -/
theorem walk_skip (s : List Int) (i k : Nat) : ∀ j, k ≤ j → i % 2 ^ j < 2 ^ k → kWalk s i j = kWalk s i k := by
  intro j
  induction j with
  | zero => intro hk _; obtain rfl : k = 0 := by omega
            rfl
  | succ j ih =>
    intro hk hlt
    by_cases hkj : k = j + 1
    · rw [hkj]
    · have hkj' : k ≤ j := by omega
      have h1 : i % 2 ^ (j + 1) = i % 2 ^ j + 2 ^ j * (i / 2 ^ j % 2) := by rw [Nat.pow_succ, Nat.mod_mul]
      have h2 : 2 ^ k ≤ 2 ^ j := Nat.pow_le_pow_right (by decide) hkj'
      have h3 : i / 2 ^ j % 2 = 0 := by
        rcases Nat.mod_two_eq_zero_or_one (i / 2 ^ j) with h | h
        · exact h
        · rw [h] at h1; omega
      rw [kWalk, if_neg (by omega)]
      exact ih hkj' (by rw [h3] at h1; omega)
/-- one step from the highest bit that is left -/
theorem walk_top (s : List Int) (i j x : Nat) (hx : x = i % 2 ^ j) (h0 : x ≠ 0) : Nat.log2 x < j ∧ kWalk s i j = kWalk (kTurn s (Nat.log2 x)) i (Nat.log2 x) ∧ x - 2 ^ Nat.log2 x = i % 2 ^ Nat.log2 x := by
  have h1 := Nat.log2_self_le h0
  have h2 : x < 2 ^ (Nat.log2 x + 1) := Nat.lt_log2_self
  generalize Nat.log2 x = k at h1 h2 ⊢
  have hj : k < j := by
    have : x < 2 ^ j := by rw [hx]; exact Nat.mod_lt _ (Nat.two_pow_pos j)
    have h4 : 2 ^ k < 2 ^ j := by omega
    exact (Nat.pow_lt_pow_iff_right (by decide)).1 h4
  have hd : ∀ m, m ≤ j → i % 2 ^ m = x % 2 ^ m := fun m hm => by rw [hx, Nat.mod_mod_of_dvd _ (Nat.pow_dvd_pow 2 hm)]
  have hm1 : i % 2 ^ (k + 1) = x := by rw [hd (k + 1) (by omega), Nat.mod_eq_of_lt h2]
  have hm2 : i % 2 ^ (k + 1) = i % 2 ^ k + 2 ^ k * (i / 2 ^ k % 2) := by rw [Nat.pow_succ, Nat.mod_mul]
  have hlt := Nat.mod_lt i (Nat.two_pow_pos k)
  have hb : i / 2 ^ k % 2 = 1 := by
    rcases Nat.mod_two_eq_zero_or_one (i / 2 ^ k) with h | h
    · rw [h] at hm2; omega
    · exact h
  refine ⟨hj, ?_, by rw [hb] at hm2; omega⟩
  rw [walk_skip s i (k + 1) j (by omega) (by rw [← hx]; exact h2), kWalk, if_pos hb]
/-- walked on -/
theorem walk_none (s : List Int) (i : Nat) : ∀ k, i % 2 ^ k = 0 → kWalk s i k = s := by
  intro k hk
  rw [walk_skip s i 0 k (by omega) (by omega)]; rfl
theorem walk_comp (s : List Int) (m j k : Nat) (h0 : m % 2 ^ k = 0) (hs : j / 2 ^ k = m / 2 ^ k) : ∀ n, k ≤ n → kWalk s j n = kWalk (kWalk s m n) j k := by
  intro n
  induction n generalizing s with
  | zero => intro hk; obtain rfl : k = 0 := by omega
            rfl
  | succ n ih =>
    intro hk
    by_cases hkn : k = n + 1
    · rw [← hkn, walk_none s m k h0]
    · have hkn' : k ≤ n := by omega
      have hbit : j / 2 ^ n = m / 2 ^ n := by
        obtain ⟨d, rfl⟩ := Nat.exists_eq_add_of_le hkn'
        rw [Nat.pow_add, ← Nat.div_div_eq_div_mul, ← Nat.div_div_eq_div_mul, hs]
      rw [kWalk, kWalk, hbit]
      split
      · exact ih _ hkn'
      · exact ih _ hkn'
theorem lowF_le (i : Nat) : ∀ f k, k ≤ lowF i f k ∧ lowF i f k ≤ k + f
  | 0, k => by simp [lowF]
  | f + 1, k => by
    rw [lowF]
    split
    · have := lowF_le i f (k + 1); omega
    · omega
theorem lowS_le (i : Nat) : lowS i ≤ 12 := by have := lowF_le i 12 0; unfold lowS; omega
theorem lowF_mod (i : Nat) : ∀ f k, i % 2 ^ k = 0 → i % 2 ^ lowF i f k = 0
  | 0, k, h => h
  | f + 1, k, h => by
    rw [lowF]
    split
    · rename_i hb
      refine lowF_mod i f (k + 1) ?_
      rw [Nat.pow_succ, Nat.mod_mul, h, hb, Nat.mul_zero]
    · exact h
theorem lowS_mod (i : Nat) : i % 2 ^ lowS i = 0 := lowF_mod i 12 0 (by simp [Nat.mod_one])
theorem lowF_bit (i : Nat) : ∀ f k, lowF i f k < k + f → i / 2 ^ lowF i f k % 2 = 1
  | 0, k, h => by simp [lowF] at h
  | f + 1, k, h => by
    rw [lowF] at h ⊢
    split
    · rename_i hb
      rw [if_pos hb] at h
      exact lowF_bit i f (k + 1) (by omega)
    · omega
theorem lowS_bit (i : Nat) (h : lowS i < 12) : i / 2 ^ lowS i % 2 = 1 := lowF_bit i 12 0 (by simpa [lowS] using h)
end Go.Proofs.YtkihcmlmcgokhaaDoor.AM

/- layer 05: bits, by the kernel. -/
namespace Go.Proofs.YtkihcmlmcgokhaaDoor.AM
open Go
set_option maxRecDepth 100000
set_option linter.unusedVariables false
set_option linter.unusedSimpArgs false
def isSc (r : Option (AV × Heap)) (v : Int → Bool) : Bool := match r with | some (.sc (.int .i64 n), []) => v n | _ => false
def isTup2 (r : Option (AV × Heap)) (a b : Int) : Bool := match r with | some (.tup [.sc (.int .u64 x), .sc (.int .i64 y)], []) => x == a && y == b | _ => false
theorem isSc_eq {r : Option (AV × Heap)} {a : Int} (h : isSc r (· == a) = true) : r = some (i64 a, []) := by
  unfold isSc at h
  split at h
  · rw [eq_of_beq h]
  · cases h
theorem isTup2_eq {r : Option (AV × Heap)} {a b : Int} (h : isTup2 r a b = true) : r = some (.tup [u64 a, i64 b], []) := by
  unfold isTup2 at h
  split at h
  · simp only [Bool.and_eq_true, beq_iff_eq] at h
    rw [h.1, h.2]
  · cases h
def isU64 (r : Option Value) (a : Int) : Bool := match r with | some (.int .u64 n) => n == a | _ => false
def isU8 (r : Option Value) (a : Int) : Bool := match r with | some (.int .u8 n) => n == a | _ => false
theorem isU64_eq {r : Option Value} {a : Int} (h : isU64 r a = true) : r = some (.int .u64 a) := by
  unfold isU64 at h
  split at h
  · rw [eq_of_beq h]
  · cases h
theorem isU8_eq {r : Option Value} {a : Int} (h : isU8 r a = true) : r = some (.int .u8 a) := by
  unfold isU8 at h
  split at h
  · rw [eq_of_beq h]
  · cases h
theorem shl8_k : (List.range 8).all (fun j => isU8 (abin .shl (.int .u8 1) (.int .i64 (j : Nat))) ((2 ^ j : Nat) : Int)) = true := by kernel_rfl
theorem shl64_k : (List.range 13).all (fun j => isU64 (abin .shl (.int .u64 1) (.int .i64 (j : Nat))) ((2 ^ j : Nat) : Int)) = true := by kernel_rfl
theorem k_any {f : Nat} {F : AFn} {args : List AV} {v : Value} (hx : T.ext f = none) (hf : T.fn f = some F) (hp : F.pure = true) (hl : args.length = F.np) (hm : args.map strip = args) (hc : closedL args = true) (hr : ag T f args [] = some (.sc v, [])) (h : Heap) : ag T f args h = some (.sc v, h) := by
  rw [ag_pure hx hf hp args hl] at hr ⊢
  simp only [pcall, prep, hm, if_pos hc, Option.bind_some, Bool.false_eq_true, if_false, Option.bind_eq_some_iff] at hr ⊢
  obtain ⟨w, h1, h2⟩ := hr
  refine ⟨w, h1, ?_⟩
  unfold adopt at h2 ⊢
  split at h2
  · cases h2
  · cases h2
  · cases h2; rfl
theorem k_anyT {f : Nat} {F : AFn} {args r : List AV} {v : Value} (hx : T.ext f = none) (hf : T.fn f = some F) (hp : F.pure = true) (hl : args.length = F.np) (hm : args.map strip = args) (hc : closedL args = true) (hr : ag T f args [] = some (.tup (.sc v :: r), [])) (h : Heap) : ag T f args h = some (.tup (.sc v :: r), h) := by
  rw [ag_pure hx hf hp args hl] at hr ⊢
  simp only [pcall, prep, hm, if_pos hc, Option.bind_some, Bool.false_eq_true, if_false, Option.bind_eq_some_iff] at hr ⊢
  obtain ⟨w, h1, h2⟩ := hr
  refine ⟨w, h1, ?_⟩
  unfold adopt at h2 ⊢
  split at h2
  · cases h2
  · cases h2
  · cases h2; rfl
/-! the tables -/
def tzT : List AV := [.int .u8 0, .int .u8 1, .int .u8 56, .int .u8 2, .int .u8 57, .int .u8 49, .int .u8 28, .int .u8 3, .int .u8 61, .int .u8 58, .int .u8 42, .int .u8 50, .int .u8 38, .int .u8 29, .int .u8 17, .int .u8 4, .int .u8 62, .int .u8 47, .int .u8 59, .int .u8 36, .int .u8 45, .int .u8 43, .int .u8 51, .int .u8 22, .int .u8 53, .int .u8 39, .int .u8 33, .int .u8 30, .int .u8 24, .int .u8 18, .int .u8 12, .int .u8 5, .int .u8 63, .int .u8 55, .int .u8 48, .int .u8 27, .int .u8 60, .int .u8 41, .int .u8 37, .int .u8 16, .int .u8 46, .int .u8 35, .int .u8 44, .int .u8 21, .int .u8 52, .int .u8 32, .int .u8 23, .int .u8 11, .int .u8 54, .int .u8 26, .int .u8 40, .int .u8 15, .int .u8 34, .int .u8 20, .int .u8 31, .int .u8 10, .int .u8 25, .int .u8 14, .int .u8 19, .int .u8 9, .int .u8 13, .int .u8 8, .int .u8 7, .int .u8 6]
def l8T : List Nat := [0, 1, 2, 2, 3, 3, 3, 3, 4, 4, 4, 4, 4, 4, 4, 4, 5, 5, 5, 5, 5, 5, 5, 5, 5, 5, 5, 5, 5, 5, 5, 5, 6, 6, 6, 6, 6, 6, 6, 6, 6, 6, 6, 6, 6, 6, 6, 6, 6, 6, 6, 6, 6, 6, 6, 6, 6, 6, 6, 6, 6, 6, 6, 6, 7, 7, 7, 7, 7, 7, 7, 7, 7, 7, 7, 7, 7, 7, 7, 7, 7, 7, 7, 7, 7, 7, 7, 7, 7, 7, 7, 7, 7, 7, 7, 7, 7, 7, 7, 7, 7, 7, 7, 7, 7, 7, 7, 7, 7, 7, 7, 7, 7, 7, 7, 7, 7, 7, 7, 7, 7, 7, 7, 7, 7, 7, 7, 7, 8, 8, 8, 8, 8, 8, 8, 8, 8, 8, 8, 8, 8, 8, 8, 8, 8, 8, 8, 8, 8, 8, 8, 8, 8, 8, 8, 8, 8, 8, 8, 8, 8, 8, 8, 8, 8, 8, 8, 8, 8, 8, 8, 8, 8, 8, 8, 8, 8, 8, 8, 8, 8, 8, 8, 8, 8, 8, 8, 8, 8, 8, 8, 8, 8, 8, 8, 8, 8, 8, 8, 8, 8, 8, 8, 8, 8, 8, 8, 8, 8, 8, 8, 8, 8, 8, 8, 8, 8, 8, 8, 8, 8, 8, 8, 8, 8, 8, 8, 8, 8, 8, 8, 8, 8, 8, 8, 8, 8, 8, 8, 8, 8, 8, 8, 8, 8, 8, 8, 8, 8, 8, 8, 8, 8, 8, 8, 8]
theorem l8_k : (List.range 256).all (fun y => match (bs l8T).data.toList[y]? with | some b => b.toNat == (if y = 0 then 0 else Nat.log2 y + 1) | none => false) = true := by kernel_rfl
theorem l8_get (y : Nat) (hy : y < 256) : ∃ b, (bs [0, 1, 2, 2, 3, 3, 3, 3, 4, 4, 4, 4, 4, 4, 4, 4, 5, 5, 5, 5, 5, 5, 5, 5, 5, 5, 5, 5, 5, 5, 5, 5, 6, 6, 6, 6, 6, 6, 6, 6, 6, 6, 6, 6, 6, 6, 6, 6, 6, 6, 6, 6, 6, 6, 6, 6, 6, 6, 6, 6, 6, 6, 6, 6, 7, 7, 7, 7, 7, 7, 7, 7, 7, 7, 7, 7, 7, 7, 7, 7, 7, 7, 7, 7, 7, 7, 7, 7, 7, 7, 7, 7, 7, 7, 7, 7, 7, 7, 7, 7, 7, 7, 7, 7, 7, 7, 7, 7, 7, 7, 7, 7, 7, 7, 7, 7, 7, 7, 7, 7, 7, 7, 7, 7, 7, 7, 7, 7, 8, 8, 8, 8, 8, 8, 8, 8, 8, 8, 8, 8, 8, 8, 8, 8, 8, 8, 8, 8, 8, 8, 8, 8, 8, 8, 8, 8, 8, 8, 8, 8, 8, 8, 8, 8, 8, 8, 8, 8, 8, 8, 8, 8, 8, 8, 8, 8, 8, 8, 8, 8, 8, 8, 8, 8, 8, 8, 8, 8, 8, 8, 8, 8, 8, 8, 8, 8, 8, 8, 8, 8, 8, 8, 8, 8, 8, 8, 8, 8, 8, 8, 8, 8, 8, 8, 8, 8, 8, 8, 8, 8, 8, 8, 8, 8, 8, 8, 8, 8, 8, 8, 8, 8, 8, 8, 8, 8, 8, 8, 8, 8, 8, 8, 8, 8, 8, 8, 8, 8, 8, 8, 8, 8, 8, 8, 8, 8]).data.toList[y]? = some b ∧ b.toNat = (if y = 0 then 0 else Nat.log2 y + 1) := by
  have h := List.all_eq_true.1 l8_k y (List.mem_range.2 hy)
  show ∃ b, (bs l8T).data.toList[y]? = some b ∧ _
  revert h
  cases (bs l8T).data.toList[y]? with
  | none => intro h; cases h
  | some b => intro h; exact ⟨b, rfl, by simpa using h⟩
theorem log2_k : (List.range 4096).all (fun x => decide (x < 256) || Nat.log2 (x / 256) + 8 == Nat.log2 x) = true := by kernel_rfl
theorem log2_hi (x : Nat) (hx : x < 4096) (h : ¬ x < 256) : Nat.log2 (x / 256) + 8 = Nat.log2 x := by
  have := List.all_eq_true.1 log2_k x (List.mem_range.2 hx)
  simpa [h] using this
theorem len64_ok (x : Nat) (hx : x < 4096) : prun T F44 [u64 x] = some (i64 ((if x = 0 then 0 else Nat.log2 x + 1 : Nat) : Int)) := by
  refine WP_eq (prun_wp ?_)
  by_cases h : x < 256
  · obtain ⟨b, h1, h2⟩ := l8_get x h
    have hw : IntKind.u8.wrap (x : Int) = x := by rw [w_u8]; omega
    have hle : b.toNat ≤ 255 := by have := b.toNat_lt; omega
    first | have hb := hb | have hb := trivial
    repeat' (first | (simp -implicitDefEqProofs (disch := omega) only [hb, F44, hw, h1, wC, initE, aop, Nat.reduceEqDiff, ↓reduceIte, Nat.reduceAdd, finish, resOf, tupOf, AM.freeze, freeze1, freezeL, closed, nam, namL, if_true, if_false, deref, boxAt, exAt, ldCells, oneL, oneCell, Nat.reduceLeDiff, evL, adopt, rigid, rigidL, trim, Int.reduceEq, Int.reduceMod, Int.reduceDiv, if_pos, if_neg, asI, forall_const, implies_true, chkD, chkO, chkW, effB, reB, vEq, beq_self_eq_true, Nat.reduceSub, Nat.reduceLT, Int.reduceSub, Int.reduceAdd, Int.reduceMul, Int.reduceLT, Int.reduceLE, Int.reduceToNat, optI, aslice, cutSl, cutMs, cutStr, cutOwn, cellsOf, one, elCells, lenOf, beqV, beqVL, strip, stripO, convS]) | ((first | rw [WP_condK] | rw [WP_opsG] | rw [WP_quiG] | rw [WP_dG]); refine And.intro (fun hb => ?_) (fun hb => ?_) <;> (first | have hd := dq1 hb | have hd := dq2 hb | have hd := dq3 hb | have hd := dq4 hb | skip)))
    rw [h2]
    split <;> simp [IntKind.wrap_i64] <;> omega
  · obtain ⟨b, h1, h2⟩ := l8_get (x / 256) (by omega)
    have hsh : abin .shr (.int .u64 (x : Int)) (.int .u64 8) = some (.int .u64 ((x / 256 : Nat) : Int)) := by
      rw [show (8 : Int) = ((8 : Nat) : Int) from rfl, shr_c _ _ _ _ (by decide), Int.fdiv_eq_ediv_of_nonneg _ (by decide)]; rfl
    have hw : IntKind.u8.wrap ((x / 256 : Nat) : Int) = ((x / 256 : Nat) : Int) := by rw [w_u8]; omega
    have hle : b.toNat ≤ 255 := by have := b.toNat_lt; omega
    have hlog := log2_hi x hx h
    first | have hb := hb | have hb := trivial
    repeat' (first | (simp -implicitDefEqProofs (disch := omega) only [hb, F44, hsh, hw, h1, wC, initE, aop, Nat.reduceEqDiff, ↓reduceIte, Nat.reduceAdd, finish, resOf, tupOf, AM.freeze, freeze1, freezeL, closed, nam, namL, if_true, if_false, deref, boxAt, exAt, ldCells, oneL, oneCell, Nat.reduceLeDiff, evL, adopt, rigid, rigidL, trim, Int.reduceEq, Int.reduceMod, Int.reduceDiv, if_pos, if_neg, asI, forall_const, implies_true, chkD, chkO, chkW, effB, reB, vEq, beq_self_eq_true, Nat.reduceSub, Nat.reduceLT, Int.reduceSub, Int.reduceAdd, Int.reduceMul, Int.reduceLT, Int.reduceLE, Int.reduceToNat, optI, aslice, cutSl, cutMs, cutStr, cutOwn, cellsOf, one, elCells, lenOf, beqV, beqVL, strip, stripO, convS]) | ((first | rw [WP_condK] | rw [WP_opsG] | rw [WP_quiG] | rw [WP_dG]); refine And.intro (fun hb => ?_) (fun hb => ?_) <;> (first | have hd := dq1 hb | have hd := dq2 hb | have hd := dq3 hb | have hd := dq4 hb | skip)))
    rw [h2, if_neg (show ¬ x / 256 = 0 by omega)]
    congr 2
    omega
theorem call_len (x : Nat) (hx : x < 4096) (h : Heap) : ag T 36 [u64 x] h = some (i64 ((if x = 0 then 0 else Nat.log2 x + 1 : Nat) : Int), h) := by
  have h1 := fun h => call_sc (T := T) (h := h) rfl t44 rfl rfl rfl rfl (len64_ok x hx)
  refine call_sc rfl t36 rfl rfl rfl rfl (WP_eq (prun_wp ?_))
  first | have hb := hb | have hb := trivial
  repeat' (first | (simp -implicitDefEqProofs (disch := omega) only [hb, F36, h1, wC, initE, aop, Nat.reduceEqDiff, ↓reduceIte, Nat.reduceAdd, finish, resOf, tupOf, AM.freeze, freeze1, freezeL, closed, nam, namL, if_true, if_false, deref, boxAt, exAt, ldCells, oneL, oneCell, Nat.reduceLeDiff, evL, adopt, rigid, rigidL, trim, Int.reduceEq, Int.reduceMod, Int.reduceDiv, if_pos, if_neg, asI, forall_const, implies_true, chkD, chkO, chkW, effB, reB, vEq, beq_self_eq_true, Nat.reduceSub, Nat.reduceLT, Int.reduceSub, Int.reduceAdd, Int.reduceMul, Int.reduceLT, Int.reduceLE, Int.reduceToNat, optI, aslice, cutSl, cutMs, cutStr, cutOwn, cellsOf, one, elCells, lenOf, beqV, beqVL, strip, stripO, convS]) | ((first | rw [WP_condK] | rw [WP_opsG] | rw [WP_quiG] | rw [WP_dG]); refine And.intro (fun hb => ?_) (fun hb => ?_) <;> (first | have hd := dq1 hb | have hd := dq2 hb | have hd := dq3 hb | have hd := dq4 hb | skip)))
theorem tz_k : (List.range 4096).all (fun x => x == 0 || ((x &&& (18446744073709551616 - x)) == 2 ^ lowS x && decide (lowS x < 12))) = true := by kernel_rfl
theorem tz_and (x : Nat) (hx : x < 4096) (h0 : x ≠ 0) : (x &&& (18446744073709551616 - x)) = 2 ^ lowS x ∧ lowS x < 12 := by
  have := List.all_eq_true.1 tz_k x (List.mem_range.2 hx)
  simpa [h0] using this
def tzM (t : Nat) : Nat := 2 ^ t * 285870213051353865 % 18446744073709551616
def isU8v (r : Option AV) (n : Int) : Bool := match r with | some (AV.sc (Value.int .u8 m)) => m == n | _ => false
theorem isU8v_eq {r : Option AV} {n : Int} (h : isU8v r n = true) : r = some (.int .u8 n) := by
  unfold isU8v at h
  split at h
  · rw [eq_of_beq h]
  · cases h
theorem tz_tab : (List.range 12).all (fun t => isU8v (tzT[tzM t / 2 ^ 58]?) (t : Nat) && decide (tzM t / 2 ^ 58 < 64)) = true := by kernel_rfl
theorem tz_get (t : Nat) (ht : t < 12) : tzT[tzM t / 288230376151711744]? = some (.int .u8 (t : Nat)) ∧ tzM t / 288230376151711744 < 64 := by
  have h := List.all_eq_true.1 tz_tab t (List.mem_range.2 ht)
  show tzT[tzM t / 2 ^ 58]? = _ ∧ tzM t / 2 ^ 58 < 64
  simp only [Bool.and_eq_true, decide_eq_true_eq] at h
  exact ⟨isU8v_eq h.1, h.2⟩
theorem tz64_ok (x : Nat) (hx : x < 4096) (h0 : x ≠ 0) : prun T F42 [u64 x] = some (i64 (lowS x)) := by
  refine WP_eq (prun_wp ?_)
  obtain ⟨h1, h2⟩ := tz_and x hx h0
  obtain ⟨h3, h4⟩ := tz_get (lowS x) h2
  have hneg : aun .neg (.int .u64 (x : Int)) = some (.int .u64 ((18446744073709551616 - x : Nat) : Int)) := by
    show some (Value.int .u64 (IntKind.u64.wrap (0 - (x : Int)))) = _
    rw [IntKind.wrap_u64]
    congr 2
    omega
  have hand : abin .and (.int .u64 (x : Int)) (.int .u64 ((18446744073709551616 - x : Nat) : Int)) = some (.int .u64 ((2 ^ lowS x : Nat) : Int)) := by
    have e1 : ((BitVec.ofNat 64 x).toNat : Int) = x := by rw [BitVec.toNat_ofNat, Nat.mod_eq_of_lt (by omega)]
    have e2 : ((BitVec.ofNat 64 (18446744073709551616 - x)).toNat : Int) = ((18446744073709551616 - x : Nat) : Int) := by rw [BitVec.toNat_ofNat, Nat.mod_eq_of_lt (by omega)]
    have := oI_and (BitVec.ofNat 64 x) (BitVec.ofNat 64 (18446744073709551616 - x))
    rw [e1, e2, BitVec.toNat_and, BitVec.toNat_ofNat, BitVec.toNat_ofNat, Nat.mod_eq_of_lt (show x < 2 ^ 64 by omega), Nat.mod_eq_of_lt (show 18446744073709551616 - x < 2 ^ 64 by omega), h1] at this
    show some (Value.int .u64 (oI .and (x : Int) ((18446744073709551616 - x : Nat) : Int))) = _
    rw [this]
  have hmul : IntKind.u64.wrap (((2 ^ lowS x : Nat) : Int) * 285870213051353865) = ((tzM (lowS x) : Nat) : Int) := by
    rw [IntKind.wrap_u64, tzM]; omega
  have hshr : abin .shr (.int .u64 ((tzM (lowS x) : Nat) : Int)) (.int .u64 58) = some (.int .u64 ((tzM (lowS x) / 288230376151711744 : Nat) : Int)) := by
    rw [show (58 : Int) = ((58 : Nat) : Int) from rfl, shr_c _ _ _ _ (by decide), Int.fdiv_eq_ediv_of_nonneg _ (by decide)]; rfl
  have hz : ¬ (x : Int) = 0 := by omega
  generalize 2 ^ lowS x = p at hand hmul
  generalize tzM (lowS x) = q at hmul hshr h3 h4
  generalize hj : q / 288230376151711744 = j at hshr h3 h4
  have hT : ([AV.int .u8 0, AV.int .u8 1, AV.int .u8 56, AV.int .u8 2, AV.int .u8 57, AV.int .u8 49, AV.int .u8 28, AV.int .u8 3, AV.int .u8 61, AV.int .u8 58, AV.int .u8 42, AV.int .u8 50, AV.int .u8 38, AV.int .u8 29, AV.int .u8 17, AV.int .u8 4, AV.int .u8 62, AV.int .u8 47, AV.int .u8 59, AV.int .u8 36, AV.int .u8 45, AV.int .u8 43, AV.int .u8 51, AV.int .u8 22, AV.int .u8 53, AV.int .u8 39, AV.int .u8 33, AV.int .u8 30, AV.int .u8 24, AV.int .u8 18, AV.int .u8 12, AV.int .u8 5, AV.int .u8 63, AV.int .u8 55, AV.int .u8 48, AV.int .u8 27, AV.int .u8 60, AV.int .u8 41, AV.int .u8 37, AV.int .u8 16, AV.int .u8 46, AV.int .u8 35, AV.int .u8 44, AV.int .u8 21, AV.int .u8 52, AV.int .u8 32, AV.int .u8 23, AV.int .u8 11, AV.int .u8 54, AV.int .u8 26, AV.int .u8 40, AV.int .u8 15, AV.int .u8 34, AV.int .u8 20, AV.int .u8 31, AV.int .u8 10, AV.int .u8 25, AV.int .u8 14, AV.int .u8 19, AV.int .u8 9, AV.int .u8 13, AV.int .u8 8, AV.int .u8 7, AV.int .u8 6] : List AV) = tzT := rfl
  first | have hb := hb | have hb := trivial
  repeat' (first | (simp -implicitDefEqProofs (disch := omega) only [hb, F42, hz, hneg, hand, hmul, hshr, hT, h3, wC, initE, aop, Nat.reduceEqDiff, ↓reduceIte, Nat.reduceAdd, finish, resOf, tupOf, AM.freeze, freeze1, freezeL, closed, nam, namL, if_true, if_false, deref, boxAt, exAt, ldCells, oneL, oneCell, Nat.reduceLeDiff, evL, adopt, rigid, rigidL, trim, Int.reduceEq, Int.reduceMod, Int.reduceDiv, if_pos, if_neg, asI, forall_const, implies_true, chkD, chkO, chkW, effB, reB, vEq, beq_self_eq_true, Nat.reduceSub, Nat.reduceLT, Int.reduceSub, Int.reduceAdd, Int.reduceMul, Int.reduceLT, Int.reduceLE, Int.reduceToNat, optI, aslice, cutSl, cutMs, cutStr, cutOwn, cellsOf, one, elCells, lenOf, beqV, beqVL, strip, stripO, convS]) | ((first | rw [WP_condK] | rw [WP_opsG] | rw [WP_quiG] | rw [WP_dG]); refine And.intro (fun hb => ?_) (fun hb => ?_) <;> (first | have hd := dq1 hb | have hd := dq2 hb | have hd := dq3 hb | have hd := dq4 hb | skip)))
  done
end Go.Proofs.YtkihcmlmcgokhaaDoor.AM

/- layer 05: the machine's walks. -/
namespace Go.Proofs.YtkihcmlmcgokhaaDoor.AM
open Go
set_option maxRecDepth 100000
set_option maxHeartbeats 4000000
set_option linter.unusedVariables false
set_option linter.unusedSimpArgs false
theorem call_tz (x : Nat) (hx : x < 4096) (h0 : x ≠ 0) (h : Heap) : ag T 35 [u64 x] h = some (i64 (lowS x), h) := by
  have h1 := fun h => call_sc (T := T) (h := h) rfl t42 rfl rfl rfl rfl (tz64_ok x hx h0)
  refine call_sc rfl t35 rfl rfl rfl rfl (WP_eq (prun_wp ?_))
  first | have hb := hb | have hb := trivial
  repeat' (first | (simp -implicitDefEqProofs (disch := omega) only [hb, F35, h1, wC, initE, aop, Nat.reduceEqDiff, ↓reduceIte, Nat.reduceAdd, finish, resOf, tupOf, AM.freeze, freeze1, freezeL, closed, nam, namL, if_true, if_false, deref, boxAt, exAt, ldCells, oneL, oneCell, Nat.reduceLeDiff, evL, adopt, rigid, rigidL, trim, Int.reduceEq, Int.reduceMod, Int.reduceDiv, if_pos, if_neg, asI, forall_const, implies_true, chkD, chkO, chkW, effB, reB, vEq, beq_self_eq_true, Nat.reduceSub, Nat.reduceLT, Int.reduceSub, Int.reduceAdd, Int.reduceMul, Int.reduceLT, Int.reduceLE, Int.reduceToNat, optI, aslice, cutSl, cutMs, cutStr, cutOwn, cellsOf, one, elCells, lenOf, beqV, beqVL, strip, stripO, convS]) | ((first | rw [WP_condK] | rw [WP_opsG] | rw [WP_quiG] | rw [WP_dG]); refine And.intro (fun hb => ?_) (fun hb => ?_) <;> (first | have hd := dq1 hb | have hd := dq2 hb | have hd := dq3 hb | have hd := dq4 hb | skip)))
theorem call_tz0 (h : Heap) : ag T 35 [u64 0] h = some (i64 64, h) := by
  refine call_sc rfl t35 rfl rfl rfl rfl (WP_eq (prun_wp ?_))
  have h1 := fun h => call_sc (T := T) (h := h) (args := [u64 0]) (v := .int .i64 64) rfl t42 rfl rfl rfl rfl (WP_eq (prun_wp (by
    first | have hb := hb | have hb := trivial
    repeat' (first | (simp -implicitDefEqProofs (disch := omega) only [hb, F42, wC, initE, aop, Nat.reduceEqDiff, ↓reduceIte, Nat.reduceAdd, finish, resOf, tupOf, AM.freeze, freeze1, freezeL, closed, nam, namL, if_true, if_false, deref, boxAt, exAt, ldCells, oneL, oneCell, Nat.reduceLeDiff, evL, adopt, rigid, rigidL, trim, Int.reduceEq, Int.reduceMod, Int.reduceDiv, if_pos, if_neg, asI, forall_const, implies_true, chkD, chkO, chkW, effB, reB, vEq, beq_self_eq_true, Nat.reduceSub, Nat.reduceLT, Int.reduceSub, Int.reduceAdd, Int.reduceMul, Int.reduceLT, Int.reduceLE, Int.reduceToNat, optI, aslice, cutSl, cutMs, cutStr, cutOwn, cellsOf, one, elCells, lenOf, beqV, beqVL, strip, stripO, convS]) | ((first | rw [WP_condK] | rw [WP_opsG] | rw [WP_quiG] | rw [WP_dG]); refine And.intro (fun hb => ?_) (fun hb => ?_) <;> (first | have hd := dq1 hb | have hd := dq2 hb | have hd := dq3 hb | have hd := dq4 hb | skip))))))
  first | have hb := hb | have hb := trivial
  repeat' (first | (simp -implicitDefEqProofs (disch := omega) only [hb, F35, h1, wC, initE, aop, Nat.reduceEqDiff, ↓reduceIte, Nat.reduceAdd, finish, resOf, tupOf, AM.freeze, freeze1, freezeL, closed, nam, namL, if_true, if_false, deref, boxAt, exAt, ldCells, oneL, oneCell, Nat.reduceLeDiff, evL, adopt, rigid, rigidL, trim, Int.reduceEq, Int.reduceMod, Int.reduceDiv, if_pos, if_neg, asI, forall_const, implies_true, chkD, chkO, chkW, effB, reB, vEq, beq_self_eq_true, Nat.reduceSub, Nat.reduceLT, Int.reduceSub, Int.reduceAdd, Int.reduceMul, Int.reduceLT, Int.reduceLE, Int.reduceToNat, optI, aslice, cutSl, cutMs, cutStr, cutOwn, cellsOf, one, elCells, lenOf, beqV, beqVL, strip, stripO, convS]) | ((first | rw [WP_condK] | rw [WP_opsG] | rw [WP_quiG] | rw [WP_dG]); refine And.intro (fun hb => ?_) (fun hb => ?_) <;> (first | have hd := dq1 hb | have hd := dq2 hb | have hd := dq3 hb | have hd := dq4 hb | skip)))
theorem index_ok (n : Nat) (hn : n < 4096) : prun T F28 [i64 n] = some (.tup [u64 (4095 - n : Nat), i64 (lowS (4095 - n))]) := by
  refine WP_eq (prun_wp ?_)
  have hs : ((4095 : Int) - (n : Int)) = ((4095 - n : Nat) : Int) := by omega
  have hw : IntKind.u64.wrap ((4095 - n : Nat) : Int) = ((4095 - n : Nat) : Int) := by rw [IntKind.wrap_u64]; omega
  by_cases h0 : 4095 - n = 0
  · have h1 := call_tz0
    have hl : lowS 0 = 12 := by decide
    rw [h0] at hw ⊢
    rw [hl]
    have hs' : ((4095 : Int) - (n : Int)) = 0 := by omega
    rw [show ((0 : Nat) : Int) = 0 from rfl] at hw
    first | have hb := hb | have hb := trivial
    repeat' (first | (simp -implicitDefEqProofs (disch := omega) only [hb, F28, hs', hw, h1, wC, initE, aop, Nat.reduceEqDiff, ↓reduceIte, Nat.reduceAdd, finish, resOf, tupOf, AM.freeze, freeze1, freezeL, closed, nam, namL, if_true, if_false, deref, boxAt, exAt, ldCells, oneL, oneCell, Nat.reduceLeDiff, evL, adopt, rigid, rigidL, trim, Int.reduceEq, Int.reduceMod, Int.reduceDiv, if_pos, if_neg, asI, forall_const, implies_true, chkD, chkO, chkW, effB, reB, vEq, beq_self_eq_true, Nat.reduceSub, Nat.reduceLT, Int.reduceSub, Int.reduceAdd, Int.reduceMul, Int.reduceLT, Int.reduceLE, Int.reduceToNat, optI, aslice, cutSl, cutMs, cutStr, cutOwn, cellsOf, one, elCells, lenOf, beqV, beqVL, strip, stripO, convS]) | ((first | rw [WP_condK] | rw [WP_opsG] | rw [WP_quiG] | rw [WP_dG]); refine And.intro (fun hb => ?_) (fun hb => ?_) <;> (first | have hd := dq1 hb | have hd := dq2 hb | have hd := dq3 hb | have hd := dq4 hb | skip)))
    rfl
  · have h1 := call_tz (4095 - n) (by omega) h0
    have hl := lowS_le (4095 - n)
    generalize 4095 - n = x at hs hw h1 hl ⊢
    first | have hb := hb | have hb := trivial
    repeat' (first | (simp -implicitDefEqProofs (disch := omega) only [hb, F28, hs, hw, h1, wC, initE, aop, Nat.reduceEqDiff, ↓reduceIte, Nat.reduceAdd, finish, resOf, tupOf, AM.freeze, freeze1, freezeL, closed, nam, namL, if_true, if_false, deref, boxAt, exAt, ldCells, oneL, oneCell, Nat.reduceLeDiff, evL, adopt, rigid, rigidL, trim, Int.reduceEq, Int.reduceMod, Int.reduceDiv, if_pos, if_neg, asI, forall_const, implies_true, chkD, chkO, chkW, effB, reB, vEq, beq_self_eq_true, Nat.reduceSub, Nat.reduceLT, Int.reduceSub, Int.reduceAdd, Int.reduceMul, Int.reduceLT, Int.reduceLE, Int.reduceToNat, optI, aslice, cutSl, cutMs, cutStr, cutOwn, cellsOf, one, elCells, lenOf, beqV, beqVL, strip, stripO, convS]) | ((first | rw [WP_condK] | rw [WP_opsG] | rw [WP_quiG] | rw [WP_dG]); refine And.intro (fun hb => ?_) (fun hb => ?_) <;> (first | have hd := dq1 hb | have hd := dq2 hb | have hd := dq3 hb | have hd := dq4 hb | skip)))
theorem call_index (n : Nat) (hn : n < 4096) (h : Heap) : ag T 28 [i64 n] h = some (.tup [u64 (4095 - n : Nat), i64 (lowS (4095 - n))], h) := call_tup rfl t28 rfl rfl rfl rfl (index_ok n hn)
theorem bin_shl64 (j : Nat) (hj : j < 13) : abin .shl (.int .u64 1) (.int .i64 j) = some (.int .u64 ((2 ^ j : Nat) : Int)) := by
  have hp : 2 ^ j < 2 ^ 13 := Nat.pow_lt_pow_right (by decide) hj
  have e : (1 : Int) * 2 ^ j = ((2 ^ j : Nat) : Int) := by rw [Int.one_mul, Int.natCast_pow]; rfl
  rw [shl_c _ _ _ _ (by show j ≤ 64; omega), e, IntKind.wrap_u64]
  congr 2
  generalize 2 ^ j = p at hp ⊢
  omega
theorem bin_shl8 (j : Nat) (hj : j < 8) : abin .shl (.int .u8 1) (.int .i64 j) = some (.int .u8 ((2 ^ j : Nat) : Int)) := by
  have hp : 2 ^ j < 2 ^ 8 := Nat.pow_lt_pow_right (by decide) hj
  have e : (1 : Int) * 2 ^ j = ((2 ^ j : Nat) : Int) := by rw [Int.one_mul, Int.natCast_pow]; rfl
  rw [shl_c _ _ _ _ (by show j ≤ 8; omega), e, w_u8]
  congr 2
  generalize 2 ^ j = p at hp ⊢
  omega
theorem bin_andMod (i k : Nat) (hi : i < 18446744073709551616) (hk : k < 13) : abin .and (.int .u64 i) (.int .u64 ((2 ^ k - 1 : Nat) : Int)) = some (.int .u64 ((i % 2 ^ k : Nat) : Int)) := by
  have h2 : 2 ^ k < 2 ^ 13 := Nat.pow_lt_pow_right (by decide) hk
  have e1 : ((BitVec.ofNat 64 i).toNat : Int) = i := by rw [BitVec.toNat_ofNat, Nat.mod_eq_of_lt hi]
  have e2 : ((BitVec.ofNat 64 (2 ^ k - 1)).toNat : Int) = ((2 ^ k - 1 : Nat) : Int) := by rw [BitVec.toNat_ofNat, Nat.mod_eq_of_lt (by omega)]
  have := oI_and (BitVec.ofNat 64 i) (BitVec.ofNat 64 (2 ^ k - 1))
  rw [e1, e2, BitVec.toNat_and, BitVec.toNat_ofNat, BitVec.toNat_ofNat, Nat.mod_eq_of_lt hi, Nat.mod_eq_of_lt (show 2 ^ k - 1 < 2 ^ 64 by omega), Nat.and_two_pow_sub_one_eq_mod] at this
  show some (Value.int .u64 (oI .and (i : Int) ((2 ^ k - 1 : Nat) : Int))) = _
  rw [this]
theorem bin_xor8 (b : Int) (h0 : 0 ≤ b ∧ b ≤ 255) (j : Nat) (hj : j < 8) : abin .xor (.int .u8 b) (.int .u8 ((2 ^ j : Nat) : Int)) = some (.int .u8 (xorB b j)) := by
  have hp : 2 ^ j < 2 ^ 8 := Nat.pow_lt_pow_right (by decide) hj
  have hb := xorB_byte h0 hj
  show some (Value.int .u8 (IntKind.u8.wrap ((BitVec.ofInt 8 b ^^^ BitVec.ofInt 8 ((2 ^ j : Nat) : Int)).toNat : Int))) = _
  rw [BitVec.toNat_xor, BitVec.toNat_ofInt, BitVec.toNat_ofInt]
  have e1 : (b % ((2 ^ 8 : Nat) : Int)).toNat = b.toNat := by omega
  have e2 : (((2 ^ j : Nat) : Int) % ((2 ^ 8 : Nat) : Int)).toNat = 2 ^ j := by
    generalize 2 ^ j = p at hp ⊢
    omega
  rw [e1, e2, w_u8]
  have : ((b.toNat ^^^ 2 ^ j : Nat) : Int) = xorB b j := rfl
  rw [this]
  congr 2
  omega
/-- 1 below its highest bit -/
theorem andNot_k : (List.range 4096).all (fun x => (x &&& (18446744073709551615 - 2 ^ Nat.log2 x)) == x - 2 ^ Nat.log2 x) = true := by kernel_rfl
theorem bin_andNot12 (x : Nat) (hx : x < 4096) : abin .andNot (.int .u64 x) (.int .u64 ((2 ^ Nat.log2 x : Nat) : Int)) = some (.int .u64 ((x - 2 ^ Nat.log2 x : Nat) : Int)) := by
  have hk : 2 ^ Nat.log2 x < 2 ^ 64 := Nat.pow_lt_pow_right (by decide) (by
    by_cases h : x = 0
    · subst h; decide
    · exact (Nat.log2_lt h).2 (by omega))
  have h1 := eq_of_beq (List.all_eq_true.1 andNot_k x (List.mem_range.2 hx))
  generalize 2 ^ Nat.log2 x = p at hk h1 ⊢
  have e1 : ((BitVec.ofNat 64 x).toNat : Int) = x := by rw [BitVec.toNat_ofNat, Nat.mod_eq_of_lt (by omega)]
  have e2 : ((BitVec.ofNat 64 p).toNat : Int) = (p : Int) := by rw [BitVec.toNat_ofNat, Nat.mod_eq_of_lt (by omega)]
  have := oI_andNot (BitVec.ofNat 64 x) (BitVec.ofNat 64 p)
  rw [e1, e2, BitVec.toNat_and, BitVec.toNat_not, BitVec.toNat_ofNat, BitVec.toNat_ofNat, Nat.mod_eq_of_lt (show x < 2 ^ 64 by omega), Nat.mod_eq_of_lt (show p < 2 ^ 64 by omega)] at this
  rw [show (2 ^ 64 - 1 - p : Nat) = 18446744073709551615 - p from rfl, h1] at this
  show some (Value.int .u64 (oI .andNot (x : Int) (p : Int))) = _
  rw [this]
theorem get8 {s : List Int} (h : Sec s) {k : Nat} (hk : k < 12) : (s.map u8)[k / 8]? = some (u8 (s.getD (k / 8) 0)) := by
  have := h.len
  rw [List.getElem?_map, List.getD_eq_getElem?_getD, List.getElem?_eq_getElem (by omega)]; rfl
theorem getD_byte {s : List Int} (h : Sec s) (i : Nat) : 0 ≤ s.getD i 0 ∧ s.getD i 0 ≤ 255 := by
  rw [List.getD_eq_getElem?_getD]
  cases hq : s[i]? with
  | none => exact ⟨Int.le_refl _, by decide⟩
  | some v => exact h.by_ v (List.mem_of_getElem? hq)
theorem flip_set (s : List Int) (k : Nat) : (s.map u8).set (k / 8) (u8 (xorB (s.getD (k / 8) 0) (k % 8))) = (flipS s k).map u8 := by rw [flipS, List.map_set]
/-- the digest of what a box holds -/
theorem part_of (l : List Int) (hl : Bytes l) (hn : l.length ≤ 140737488351232) (o : AOwn) (ho : o = .none ∨ o = .full) : PartR (.slice o none (l.map u8)) l :=
  ⟨hl, hn, by
    have := u8_closed l
    rcases ho with rfl | rfl <;> simp only [closed, nam, Bool.true_and] <;> exact this, .inl ⟨o, rfl⟩⟩
theorem parts1 {x : AV} {l : List Int} (h : PartR x l) : PartsR [x] [l] := ⟨rfl, fun i hi hj => by
  obtain rfl : i = 0 := by simp at hi; omega
  exact h⟩
theorem call_sum_ms (l : List Int) (hl : Bytes l) (h32 : l.length = 32) (id : Nat) (ex : Bool) (h : Heap) (hb : h[id]? = some (.box ex (l.map u8))) : ag T 32 [.slice .full none [.ms id 0 none 32]] h = some (.agg ((kSum l).map u8), h) := by
  rw [ag_pure rfl t32 rfl _ rfl]
  have hbx : boxAt h id = some (l.map u8) := by simp [boxAt, hb]
  have hcl := u8_closed l
  have hms : msEls h id 0 none 32 = some (l.map u8) := by
    simp only [msEls, hbx, Option.bind_some, kz, Option.getD_none, List.length_map, h32, chunks, List.drop_zero]
    rw [if_pos (by omega), List.take_of_length_le (by simp [h32])]
  have hp : prep h [.slice .full none [.ms id 0 none 32]] = some ([.slice .full none [.slice (msOwn h id 0 none 32) none (l.map u8)]], true) := by
    have h1 : closedL ([AV.slice .full none [.ms id 0 none 32]].map strip) = false := rfl
    have h2 : closedL ([AV.slice .full none [.ms id 0 none 32]].map stripEl) = false := rfl
    unfold prep
    rw [h1, h2]
    simp only [Bool.false_eq_true, if_false, fzL, fz, hms, Option.bind_some, hcl, if_true, Option.map_some, stripO]
  have ho : msOwn h id 0 none 32 = .none ∨ msOwn h id 0 none 32 = .full := by
    unfold msOwn
    split
    · split
      · exact .inr rfl
      · exact .inl rfl
    · exact .inl rfl
  have hpt := part_of l hl (by omega) _ ho
  have hs := sum_ok _ _ (parts1 hpt) .full (by
    have := hpt.cl
    simp only [closed, nam, namL, Bool.true_and, Bool.and_true] at this ⊢
    exact this) (by simp)
  rw [List.flatten_cons, List.flatten_nil, List.append_nil] at hs
  have hr : rigidL ((kSum l).map u8) = true := by
    rw [show (kSum l).map u8 = ((kSum l).map fun n => Value.int .u8 n).map AV.sc by rw [List.map_map]; rfl]
    exact sc_rigid _
  simp only [pcall, hp, Option.bind_some, hs, if_true, rigid, hr]
theorem walk_ok (s : List Int) (hs : Sec s) (i b : Nat) (hi : i < 4096) (hb : b ≤ 12) : prun T F29 [.agg (s.map u8), u64 i, i64 b] = some (.agg ((kWalk s i b).map u8)) := by
  refine WP_eq (prun_wp ?_)
  have hl := hs.len
  have ho := oneL_u8 s
  have hsh := bin_shl64 b (by omega)
  have hp2 : 2 ^ b ≤ 2 ^ 12 := Nat.pow_le_pow_right (by decide) hb
  have hp0 := Nat.two_pow_pos b
  have hsub : (((2 ^ b : Nat) : Int) - 1) = ((2 ^ b - 1 : Nat) : Int) := by omega
  have hand := bin_andMod i b (by omega) (by omega)
  generalize hq : i % 2 ^ b = x0 at hand
  generalize hP : 2 ^ b - 1 = P at hsub hand
  have hw : IntKind.u64.wrap ((P : Nat) : Int) = ((P : Nat) : Int) := by rw [IntKind.wrap_u64]; omega
  first | have hb := hb | have hb := trivial
  repeat' (first | (simp -implicitDefEqProofs (disch := omega) only [hb, F29, hl, ho, hsh, hsub, hand, hw, z32_eq, wC, initE, aop, Nat.reduceEqDiff, ↓reduceIte, Nat.reduceAdd, finish, resOf, tupOf, AM.freeze, freeze1, freezeL, closed, nam, namL, if_true, if_false, deref, boxAt, exAt, ldCells, oneL, oneCell, Nat.reduceLeDiff, evL, adopt, rigid, rigidL, trim, Int.reduceEq, Int.reduceMod, Int.reduceDiv, if_pos, if_neg, asI, forall_const, implies_true, chkD, chkO, chkW, effB, reB, vEq, beq_self_eq_true, Nat.reduceSub, Nat.reduceLT, Int.reduceSub, Int.reduceAdd, Int.reduceMul, Int.reduceLT, Int.reduceLE, Int.reduceToNat, optI, aslice, cutSl, cutMs, cutStr, cutOwn, cellsOf, one, elCells, lenOf, beqV, beqVL, strip, stripO, convS]) | ((first | rw [WP_condK] | rw [WP_opsG] | rw [WP_quiG] | rw [WP_dG]); refine And.intro (fun hb => ?_) (fun hb => ?_) <;> (first | have hd := dq1 hb | have hd := dq2 hb | have hd := dq3 hb | have hd := dq4 hb | skip)))
  refine WP_loop (I := fun n e h => ∃ (x j : Nat) (s' : List Int), n = x ∧ Sec s' ∧ x = i % 2 ^ j ∧ j ≤ b ∧ kWalk s' i j = kWalk s i b ∧ getE e 3 = .ptr 0 0 ∧ getE e 6 = .ptr 1 0 ∧ getE e 7 = u64 x ∧ h = [.cells (s'.map u8), Z32]) ?_ x0 _ _ ⟨x0, b, s, rfl, hs, hq.symm, Nat.le_refl _, rfl, rfl, rfl, rfl, rfl⟩
  rintro n e h ⟨x, j, s', rfl, hs', hx, hj, hW, h3, h6, h7, rfl⟩
  rw [trim_same' (by simp)]
  have hl' := hs'.len
  by_cases hx0 : n = 0
  · have hj0 : i % 2 ^ j = 0 := by omega
    rw [walk_none s' i j hj0] at hW
    have hT : List.take 32 (s'.map u8) = s'.map u8 := List.take_of_length_le (by simp [hl'])
    have hsp : splice (List.replicate 32 (AV.int .u8 0)) 0 (s'.map u8) = s'.map u8 := splice_all (by simp [hl'])
    have ho' := oneL_u8 s'
    have hc' := u8_closed s'
    have hst : (s'.map u8).map strip = s'.map u8 := by rw [List.map_map]; rfl
    have hlm : (s'.map u8).length = 32 := by simp [hl']
    rw [← hW]
    generalize s'.map u8 = D at hT hsp ho' hc' hst hlm ⊢
    first | have hb := hb | have hb := trivial
    repeat' (first | (simp -implicitDefEqProofs (disch := omega) only [hb, L29_0, Z32, h3, h6, h7, hx0, hT, hsp, ho', hc', hst, hlm, wC, initE, aop, Nat.reduceEqDiff, ↓reduceIte, Nat.reduceAdd, finish, resOf, tupOf, AM.freeze, freeze1, freezeL, closed, nam, namL, if_true, if_false, deref, boxAt, exAt, ldCells, oneL, oneCell, Nat.reduceLeDiff, evL, adopt, rigid, rigidL, trim, Int.reduceEq, Int.reduceMod, Int.reduceDiv, if_pos, if_neg, asI, forall_const, implies_true, chkD, chkO, chkW, effB, reB, vEq, beq_self_eq_true, Nat.reduceSub, Nat.reduceLT, Int.reduceSub, Int.reduceAdd, Int.reduceMul, Int.reduceLT, Int.reduceLE, Int.reduceToNat, optI, aslice, cutSl, cutMs, cutStr, cutOwn, cellsOf, one, elCells, lenOf, beqV, beqVL, strip, stripO, convS]) | ((first | rw [WP_condK] | rw [WP_opsG] | rw [WP_quiG] | rw [WP_dG]); refine And.intro (fun hb => ?_) (fun hb => ?_) <;> (first | have hd := dq1 hb | have hd := dq2 hb | have hd := dq3 hb | have hd := dq4 hb | skip)))
    done
  · have hlt : n < 4096 := by rw [hx]; exact Nat.lt_of_le_of_lt (Nat.mod_le _ _) hi
    obtain ⟨g1, g2, g3⟩ := walk_top s' i j n hx hx0
    have hlen := call_len n hlt
    simp only [if_neg hx0] at hlen
    have han := bin_andNot12 n hlt
    have hk2 : Nat.log2 n < 12 := by omega
    have hsub : n - 2 ^ Nat.log2 n < n := by have := Nat.two_pow_pos (Nat.log2 n); omega
    rw [g2] at hW
    generalize Nat.log2 n = k at g1 g3 hlen han hk2 hsub hW
    have hsh2 := bin_shl64 k (by omega)
    generalize hp : 2 ^ k = p at han hsub hsh2 g3
    have hk1 : (((k + 1 : Nat) : Int) - 1) = (k : Int) := by omega
    have hq8 : ((k : Int).tdiv 8) = ((k / 8 : Nat) : Int) := by rw [Int.tdiv_eq_ediv_of_nonneg (by omega)]; omega
    have hm8 : ((k : Int).tmod 8) = ((k % 8 : Nat) : Int) := by rw [Int.tmod_eq_emod_of_nonneg (by omega)]; omega
    have hg8 := get8 hs' hk2
    have hs8 := bin_shl8 (k % 8) (by omega)
    have hx8 := bin_xor8 _ (getD_byte hs' (k / 8)) (k % 8) (by omega)
    have hf8 := flip_set s' k
    obtain ⟨fb, fl⟩ := flip_bytes hs' k
    have hsum := call_sum_ms (flipS s' k) fb fl 0 true [.cells ((flipS s' k).map u8), Z32] rfl
    have hr1 : (kTurn s' k).length = 32 := (sec_turn s' k).len
    have hr2 := oneL_u8 (kTurn s' k)
    have hsp : splice ((flipS s' k).map u8) 0 ((kTurn s' k).map u8) = (kTurn s' k).map u8 := splice_all (by simp [hr1, fl])
    rw [show kSum (flipS s' k) = kTurn s' k from rfl] at hsum
    generalize 2 ^ (k % 8) = p8 at hs8 hx8
    first | have hb := hb | have hb := trivial
    repeat' (first | (simp -implicitDefEqProofs (disch := omega) only [hb, L29_0, h3, h6, h7, hx0, hlen, han, hsh2, hq8, hm8, hg8, hs8, hx8, hf8, hl', fl, hsum, hr1, hr2, hsp, hk1, n32, setEls, elFits, stripEl, List.replicate_succ, List.replicate_zero, wC, initE, aop, Nat.reduceEqDiff, ↓reduceIte, Nat.reduceAdd, finish, resOf, tupOf, AM.freeze, freeze1, freezeL, closed, nam, namL, if_true, if_false, deref, boxAt, exAt, ldCells, oneL, oneCell, Nat.reduceLeDiff, evL, adopt, rigid, rigidL, trim, Int.reduceEq, Int.reduceMod, Int.reduceDiv, if_pos, if_neg, asI, forall_const, implies_true, chkD, chkO, chkW, effB, reB, vEq, beq_self_eq_true, Nat.reduceSub, Nat.reduceLT, Int.reduceSub, Int.reduceAdd, Int.reduceMul, Int.reduceLT, Int.reduceLE, Int.reduceToNat, optI, aslice, cutSl, cutMs, cutStr, cutOwn, cellsOf, one, elCells, lenOf, beqV, beqVL, strip, stripO, convS]) | ((first | rw [WP_condK] | rw [WP_opsG] | rw [WP_quiG] | rw [WP_dG]); refine And.intro (fun hb => ?_) (fun hb => ?_) <;> (first | have hd := dq1 hb | have hd := dq2 hb | have hd := dq3 hb | have hd := dq4 hb | skip)))
    exact ⟨n - p, hsub, n - p, k, kTurn s' k, rfl, sec_turn _ _, by rw [hp]; exact g3, by omega, hW, rfl, rfl⟩
theorem call_walk (s : List Int) (hs : Sec s) (i b : Nat) (hi : i < 4096) (hb : b ≤ 12) (h : Heap) : ag T 29 [.agg (s.map u8), u64 i, i64 b] h = some (.agg ((kWalk s i b).map u8), h) :=
  call_agg rfl t29 rfl rfl (by have := vI_strip; simp only [List.map_cons, List.map_nil, strip]) (by have := u8_closed s; simp only [closedL, namL, nam, Bool.and_true] at this ⊢; exact this) (walk_ok s hs i b hi hb)
/-- the document's -/
theorem call_rsum_ms (l : List Int) (hl : Bytes l) (h32 : l.length = 32) (id : Nat) (ex : Bool) (h : Heap) (hb : h[id]? = some (.box ex (l.map u8))) : ag T 45 [.ms id 0 none 32] h = some (.agg ((kSum l).map u8), h) := by
  rw [ag_pure rfl t45 rfl _ rfl]
  have hbx : boxAt h id = some (l.map u8) := by simp [boxAt, hb]
  have hcl := u8_closed l
  have hms : msEls h id 0 none 32 = some (l.map u8) := by
    simp only [msEls, hbx, Option.bind_some, kz, Option.getD_none, List.length_map, h32, chunks, List.drop_zero]
    rw [if_pos (by omega), List.take_of_length_le (by simp [h32])]
  have hp : prep h [.ms id 0 none 32] = some ([.slice (msOwn h id 0 none 32) none (l.map u8)], true) := by
    have h1 : closedL ([AV.ms id 0 none 32].map strip) = false := rfl
    have h2 : closedL ([AV.ms id 0 none 32].map stripEl) = false := rfl
    unfold prep
    rw [h1, h2]
    simp only [Bool.false_eq_true, if_false, fzL, fz, hms, Option.bind_some, hcl, if_true, Option.map_some]
  have ho : stripO (msOwn h id 0 none 32) = .none ∨ stripO (msOwn h id 0 none 32) = .full := by
    unfold msOwn
    split
    · split
      · exact .inr rfl
      · exact .inl rfl
    · exact .inl rfl
  have hs := rsum_ok _ l hl (by omega) ho
  have hr : rigidL ((kSum l).map u8) = true := by
    rw [show (kSum l).map u8 = ((kSum l).map fun n => Value.int .u8 n).map AV.sc by rw [List.map_map]; rfl]
    exact sc_rigid _
  simp only [pcall, hp, Option.bind_some, hs, if_true, rigid, hr]
theorem turn_ok (s : List Int) (hs : Sec s) (k : Nat) (hk : k < 12) : prun T F37 [.agg (s.map u8), i64 k] = some (.agg ((kTurn s k).map u8)) := by
  refine WP_eq (prun_wp ?_)
  have hl := hs.len
  have ho := oneL_u8 s
  have hq8 : ((k : Int).tdiv 8) = ((k / 8 : Nat) : Int) := by rw [Int.tdiv_eq_ediv_of_nonneg (by omega)]; omega
  have hm8 : ((k : Int).tmod 8) = ((k % 8 : Nat) : Int) := by rw [Int.tmod_eq_emod_of_nonneg (by omega)]; omega
  have hg8 := get8 hs hk
  have hs8 := bin_shl8 (k % 8) (by omega)
  have hx8 := bin_xor8 _ (getD_byte hs (k / 8)) (k % 8) (by omega)
  have hf8 := flip_set s k
  obtain ⟨fb, fl⟩ := flip_bytes hs k
  have hsum := call_rsum_ms (flipS s k) fb fl 0 true [.cells ((flipS s k).map u8), Z32] rfl
  rw [show kSum (flipS s k) = kTurn s k from rfl] at hsum
  have hr1 : ((kTurn s k).map u8).length = 32 := by rw [List.length_map, (sec_turn s k).len]
  have hr2 := oneL_u8 (kTurn s k)
  have hc := u8_closed (kTurn s k)
  have hst : ((kTurn s k).map u8).map strip = (kTurn s k).map u8 := by rw [List.map_map]; rfl
  have hT : List.take 32 ((kTurn s k).map u8) = (kTurn s k).map u8 := List.take_of_length_le (by omega)
  have hsp : splice (List.replicate 32 (AV.int .u8 0)) 0 ((kTurn s k).map u8) = (kTurn s k).map u8 := splice_all (by rw [hr1]; rfl)
  generalize 2 ^ (k % 8) = p8 at hs8 hx8
  generalize (kTurn s k).map u8 = D at hsum hr1 hr2 hc hst hT hsp ⊢
  first | have hb := hb | have hb := trivial
  repeat' (first | (simp -implicitDefEqProofs (disch := omega) only [hb, F37, z32_eq, hq8, hm8, hg8, hs8, hx8, hf8, hl, ho, fl, hsum, hr1, hr2, hc, n32, wC, initE, aop, Nat.reduceEqDiff, ↓reduceIte, Nat.reduceAdd, finish, resOf, tupOf, AM.freeze, freeze1, freezeL, closed, nam, namL, if_true, if_false, deref, boxAt, exAt, ldCells, oneL, oneCell, Nat.reduceLeDiff, evL, adopt, rigid, rigidL, trim, Int.reduceEq, Int.reduceMod, Int.reduceDiv, if_pos, if_neg, asI, forall_const, implies_true, chkD, chkO, chkW, effB, reB, vEq, beq_self_eq_true, Nat.reduceSub, Nat.reduceLT, Int.reduceSub, Int.reduceAdd, Int.reduceMul, Int.reduceLT, Int.reduceLE, Int.reduceToNat, optI, aslice, cutSl, cutMs, cutStr, cutOwn, cellsOf, one, elCells, lenOf, beqV, beqVL, strip, stripO, convS]) | ((first | rw [WP_condK] | rw [WP_opsG] | rw [WP_quiG] | rw [WP_dG]); refine And.intro (fun hb => ?_) (fun hb => ?_) <;> (first | have hd := dq1 hb | have hd := dq2 hb | have hd := dq3 hb | have hd := dq4 hb | skip)))
  first | have hb := hb | have hb := trivial
  repeat' (first | (simp -implicitDefEqProofs (disch := omega) only [hb, Z32, hr1, hr2, hc, hT, hsp, wC, initE, aop, Nat.reduceEqDiff, ↓reduceIte, Nat.reduceAdd, finish, resOf, tupOf, AM.freeze, freeze1, freezeL, closed, nam, namL, if_true, if_false, deref, boxAt, exAt, ldCells, oneL, oneCell, Nat.reduceLeDiff, evL, adopt, rigid, rigidL, trim, Int.reduceEq, Int.reduceMod, Int.reduceDiv, if_pos, if_neg, asI, forall_const, implies_true, chkD, chkO, chkW, effB, reB, vEq, beq_self_eq_true, Nat.reduceSub, Nat.reduceLT, Int.reduceSub, Int.reduceAdd, Int.reduceMul, Int.reduceLT, Int.reduceLE, Int.reduceToNat, optI, aslice, cutSl, cutMs, cutStr, cutOwn, cellsOf, one, elCells, lenOf, beqV, beqVL, strip, stripO, convS]) | ((first | rw [WP_condK] | rw [WP_opsG] | rw [WP_quiG] | rw [WP_dG]); refine And.intro (fun hb => ?_) (fun hb => ?_) <;> (first | have hd := dq1 hb | have hd := dq2 hb | have hd := dq3 hb | have hd := dq4 hb | skip)))
  rw [hst]
  exact ⟨hc, rfl⟩
end Go.Proofs.YtkihcmlmcgokhaaDoor.AM

/- layer 05: what is made of a secret. -/
namespace Go.Proofs.YtkihcmlmcgokhaaDoor.AM
open Go
set_option maxRecDepth 100000
set_option maxHeartbeats 4000000
set_option linter.unusedVariables false
set_option linter.unusedSimpArgs false
/-- 32 cells of bytes -/
structure Dg (D : List AV) : Prop where
  len : D.length = 32
  one : oneL D = true
  cl : closedL D = true
  st : D.map strip = D
  tk : List.take 32 D = D
  sp : splice (List.replicate 32 (AV.int .u8 0)) 0 D = D
  sl : splice [.int .u8 0, .int .u8 0, .int .u8 0, .int .u8 0, .int .u8 0, .int .u8 0, .int .u8 0, .int .u8 0, .int .u8 0, .int .u8 0, .int .u8 0, .int .u8 0, .int .u8 0, .int .u8 0, .int .u8 0, .int .u8 0, .int .u8 0, .int .u8 0, .int .u8 0, .int .u8 0, .int .u8 0, .int .u8 0, .int .u8 0, .int .u8 0, .int .u8 0, .int .u8 0, .int .u8 0, .int .u8 0, .int .u8 0, .int .u8 0, .int .u8 0, .int .u8 0] 0 D = D
theorem dg_of {l : List Int} (h : l.length = 32) : Dg (l.map u8) :=
  ⟨by rw [List.length_map, h], oneL_u8 l, u8_closed l, by rw [List.map_map]; rfl, List.take_of_length_le (by rw [List.length_map]; omega), splice_all (by rw [List.length_map, h]; rfl), splice_all (by rw [List.length_map, h]; rfl)⟩
def zS : List Int := List.replicate 32 0
theorem sec_zero : Sec zS := ⟨rfl, fun c hc => by rw [(List.mem_replicate.1 hc).2]; omega⟩
theorem zagg_eq : AV.agg [.int .u8 0, .int .u8 0, .int .u8 0, .int .u8 0, .int .u8 0, .int .u8 0, .int .u8 0, .int .u8 0, .int .u8 0, .int .u8 0, .int .u8 0, .int .u8 0, .int .u8 0, .int .u8 0, .int .u8 0, .int .u8 0, .int .u8 0, .int .u8 0, .int .u8 0, .int .u8 0, .int .u8 0, .int .u8 0, .int .u8 0, .int .u8 0, .int .u8 0, .int .u8 0, .int .u8 0, .int .u8 0, .int .u8 0, .int .u8 0, .int .u8 0, .int .u8 0] = AV.agg (zS.map u8) := rfl
theorem args1 {D : List AV} (h : Dg D) (x : List AV) (hx : closedL x = true) : closedL (.agg D :: x) = true := by
  have := h.cl
  simp only [closedL, namL, nam] at this hx ⊢
  rw [this, hx]; rfl
theorem call_turn (s : List Int) (hs : Sec s) (k : Nat) (hk : k < 12) (h : Heap) : ag T 37 [.agg (s.map u8), i64 k] h = some (.agg ((kTurn s k).map u8), h) :=
  call_agg rfl t37 rfl rfl rfl (args1 (dg_of hs.len) _ rfl) (turn_ok s hs k hk)
theorem tmod2 (d : Nat) : ((d : Int).tmod 2) = ((d % 2 : Nat) : Int) := by rw [Int.tmod_eq_emod_of_nonneg (by omega)]; omega
theorem shrN (i k : Nat) (hk : k ≤ 12) : abin .shr (.int .i64 (i : Int)) (.int .i64 (k : Int)) = some (.int .i64 ((i / 2 ^ k : Nat) : Int)) := by
  have e : ((i / 2 ^ k : Nat) : Int) = (i : Int).fdiv (2 ^ k) := by
    rw [Int.fdiv_eq_ediv_of_nonneg _ (Int.le_of_lt (Int.pow_pos (by decide))), Int.natCast_ediv, Int.natCast_pow]; rfl
  rw [shr_c _ _ _ _ (by show k ≤ 64; omega), e]
theorem shrU (i k : Nat) (hk : k ≤ 12) : abin .shr (.int .u64 (i : Int)) (.int .i64 (k : Int)) = some (.int .u64 ((i / 2 ^ k : Nat) : Int)) := by
  have e : ((i / 2 ^ k : Nat) : Int) = (i : Int).fdiv (2 ^ k) := by
    rw [Int.fdiv_eq_ediv_of_nonneg _ (Int.le_of_lt (Int.pow_pos (by decide))), Int.natCast_ediv, Int.natCast_pow]; rfl
  rw [shr_c _ _ _ _ (by show k ≤ 64; omega), e]
theorem rwalk_ok (s : List Int) (hs : Sec s) (i b : Nat) (hi : i < 4096) (hb : b ≤ 12) : prun T F31 [.agg (s.map u8), i64 i, i64 b] = some (.agg ((kWalk s i b).map u8)) := by
  refine WP_eq (prun_wp ?_)
  have hd := dg_of hs.len
  have hl := hs.len
  have ho := hd.one
  have hb1 : ((b : Int) - 1) = ((b : Int) - 1) := rfl
  first | have hb := hb | have hb := trivial
  repeat' (first | (simp -implicitDefEqProofs (disch := omega) only [hb, F31, hl, ho, z32_eq, wC, initE, aop, Nat.reduceEqDiff, ↓reduceIte, Nat.reduceAdd, finish, resOf, tupOf, AM.freeze, freeze1, freezeL, closed, nam, namL, if_true, if_false, deref, boxAt, exAt, ldCells, oneL, oneCell, Nat.reduceLeDiff, evL, adopt, rigid, rigidL, trim, Int.reduceEq, Int.reduceMod, Int.reduceDiv, if_pos, if_neg, asI, forall_const, implies_true, chkD, chkO, chkW, effB, reB, vEq, beq_self_eq_true, Nat.reduceSub, Nat.reduceLT, Int.reduceSub, Int.reduceAdd, Int.reduceMul, Int.reduceLT, Int.reduceLE, Int.reduceToNat, optI, aslice, cutSl, cutMs, cutStr, cutOwn, cellsOf, one, elCells, lenOf, beqV, beqVL, strip, stripO, convS]) | ((first | rw [WP_condK] | rw [WP_opsG] | rw [WP_quiG] | rw [WP_dG]); refine And.intro (fun hb => ?_) (fun hb => ?_) <;> (first | have hd := dq1 hb | have hd := dq2 hb | have hd := dq3 hb | have hd := dq4 hb | skip)))
  refine WP_loop (I := fun n e h => ∃ (j : Nat) (s' : List Int), n = j ∧ Sec s' ∧ j ≤ b ∧ kWalk s' i j = kWalk s i b ∧ getE e 1 = i64 i ∧ getE e 3 = .ptr 0 0 ∧ getE e 6 = .ptr 1 0 ∧ getE e 7 = i64 ((j : Int) - 1) ∧ h = [.cells (s'.map u8), Z32]) ?_ b _ _ ⟨b, s, rfl, hs, Nat.le_refl _, rfl, rfl, rfl, rfl, rfl, rfl⟩
  rintro n e h ⟨j, s', rfl, hs', hj, hW, h1, h3, h6, h7, rfl⟩
  rw [trim_same' (by simp)]
  have hd' := dg_of hs'.len
  by_cases hn : n = 0
  · subst hn
    rw [show kWalk s' i 0 = s' from rfl] at hW
    rw [← hW]
    have q1 := hd'.len
    have q2 := hd'.one
    have q3 := hd'.cl
    have q4 := hd'.st
    have q5 := hd'.tk
    have q6 := hd'.sp
    generalize s'.map u8 = D at q1 q2 q3 q4 q5 q6 ⊢
    first | have hb := hb | have hb := trivial
    repeat' (first | (simp -implicitDefEqProofs (disch := omega) only [hb, L31_0, Z32, h1, h3, h6, h7, q1, q2, q3, q5, q6, wC, initE, aop, Nat.reduceEqDiff, ↓reduceIte, Nat.reduceAdd, finish, resOf, tupOf, AM.freeze, freeze1, freezeL, closed, nam, namL, if_true, if_false, deref, boxAt, exAt, ldCells, oneL, oneCell, Nat.reduceLeDiff, evL, adopt, rigid, rigidL, trim, Int.reduceEq, Int.reduceMod, Int.reduceDiv, if_pos, if_neg, asI, forall_const, implies_true, chkD, chkO, chkW, effB, reB, vEq, beq_self_eq_true, Nat.reduceSub, Nat.reduceLT, Int.reduceSub, Int.reduceAdd, Int.reduceMul, Int.reduceLT, Int.reduceLE, Int.reduceToNat, optI, aslice, cutSl, cutMs, cutStr, cutOwn, cellsOf, one, elCells, lenOf, beqV, beqVL, strip, stripO, convS]) | ((first | rw [WP_condK] | rw [WP_opsG] | rw [WP_quiG] | rw [WP_dG]); refine And.intro (fun hb => ?_) (fun hb => ?_) <;> (first | have hd := dq1 hb | have hd := dq2 hb | have hd := dq3 hb | have hd := dq4 hb | skip)))
    rw [q4]
    exact ⟨q3, rfl⟩
  · obtain ⟨k, rfl⟩ : ∃ k, n = k + 1 := ⟨n - 1, by omega⟩
    have hk1 : (((k + 1 : Nat) : Int) - 1) = (k : Int) := by omega
    rw [hk1] at h7
    have hsh := shrN i k (by omega)
    have hm := tmod2 (i / 2 ^ k)
    have hturn := call_turn s' hs' k (by omega)
    have hbit : i / 2 ^ k % 2 = 0 ∨ i / 2 ^ k % 2 = 1 := Nat.mod_two_eq_zero_or_one _
    rw [kWalk] at hW
    have hdt := dg_of (sec_turn s' k).len
    have q1 := hd'.len
    have q2 := hd'.one
    have q5 := hd'.tk
    have r1 := hdt.len
    have r2 := hdt.one
    have hsp : splice (s'.map u8) 0 ((kTurn s' k).map u8) = (kTurn s' k).map u8 := splice_all (by rw [r1, q1])
    rcases hbit with hbit | hbit
    · rw [if_neg (by omega)] at hW
      rw [hbit] at hm
      have hm' : (((i / 2 ^ k : Nat) : Int).tmod 2) = 0 := hm
      generalize i / 2 ^ k = d at hsh hm' hm hbit
      first | have hb := hb | have hb := trivial
      repeat' (first | (simp -implicitDefEqProofs (disch := omega) only [hb, L31_0, h1, h3, h6, h7, hsh, hm', wC, initE, aop, Nat.reduceEqDiff, ↓reduceIte, Nat.reduceAdd, finish, resOf, tupOf, AM.freeze, freeze1, freezeL, closed, nam, namL, if_true, if_false, deref, boxAt, exAt, ldCells, oneL, oneCell, Nat.reduceLeDiff, evL, adopt, rigid, rigidL, trim, Int.reduceEq, Int.reduceMod, Int.reduceDiv, if_pos, if_neg, asI, forall_const, implies_true, chkD, chkO, chkW, effB, reB, vEq, beq_self_eq_true, Nat.reduceSub, Nat.reduceLT, Int.reduceSub, Int.reduceAdd, Int.reduceMul, Int.reduceLT, Int.reduceLE, Int.reduceToNat, optI, aslice, cutSl, cutMs, cutStr, cutOwn, cellsOf, one, elCells, lenOf, beqV, beqVL, strip, stripO, convS]) | ((first | rw [WP_condK] | rw [WP_opsG] | rw [WP_quiG] | rw [WP_dG]); refine And.intro (fun hb => ?_) (fun hb => ?_) <;> (first | have hd := dq1 hb | have hd := dq2 hb | have hd := dq3 hb | have hd := dq4 hb | skip)))
      exact ⟨k, by omega, k, s', rfl, hs', by omega, hW, rfl, rfl⟩
    · rw [if_pos hbit] at hW
      rw [hbit] at hm
      have hm' : (((i / 2 ^ k : Nat) : Int).tmod 2) = 1 := hm
      generalize i / 2 ^ k = d at hsh hm' hm hbit
      first | have hb := hb | have hb := trivial
      repeat' (first | (simp -implicitDefEqProofs (disch := omega) only [hb, L31_0, h1, h3, h6, h7, hsh, hm', q1, q2, q5, hturn, r1, r2, hsp, wC, initE, aop, Nat.reduceEqDiff, ↓reduceIte, Nat.reduceAdd, finish, resOf, tupOf, AM.freeze, freeze1, freezeL, closed, nam, namL, if_true, if_false, deref, boxAt, exAt, ldCells, oneL, oneCell, Nat.reduceLeDiff, evL, adopt, rigid, rigidL, trim, Int.reduceEq, Int.reduceMod, Int.reduceDiv, if_pos, if_neg, asI, forall_const, implies_true, chkD, chkO, chkW, effB, reB, vEq, beq_self_eq_true, Nat.reduceSub, Nat.reduceLT, Int.reduceSub, Int.reduceAdd, Int.reduceMul, Int.reduceLT, Int.reduceLE, Int.reduceToNat, optI, aslice, cutSl, cutMs, cutStr, cutOwn, cellsOf, one, elCells, lenOf, beqV, beqVL, strip, stripO, convS]) | ((first | rw [WP_condK] | rw [WP_opsG] | rw [WP_quiG] | rw [WP_dG]); refine And.intro (fun hb => ?_) (fun hb => ?_) <;> (first | have hd := dq1 hb | have hd := dq2 hb | have hd := dq3 hb | have hd := dq4 hb | skip)))
      exact ⟨k, by omega, k, kTurn s' k, rfl, sec_turn _ _, by omega, hW, rfl, rfl⟩
theorem call_rwalk (s : List Int) (hs : Sec s) (i b : Nat) (hi : i < 4096) (hb : b ≤ 12) (h : Heap) : ag T 31 [.agg (s.map u8), i64 i, i64 b] h = some (.agg ((kWalk s i b).map u8), h) :=
  call_agg rfl t31 rfl rfl rfl (args1 (dg_of hs.len) _ rfl) (rwalk_ok s hs i b hi hb)
/-! ### which makes which -/
theorem low_ok (i : Nat) (hi : i < 4096) : prun T F30 [i64 i] = some (i64 (lowS i)) := by
  refine WP_eq (prun_wp ?_)
  first | have hb := hb | have hb := trivial
  repeat' (first | (simp -implicitDefEqProofs (disch := omega) only [hb, F30, wC, initE, aop, Nat.reduceEqDiff, ↓reduceIte, Nat.reduceAdd, finish, resOf, tupOf, AM.freeze, freeze1, freezeL, closed, nam, namL, if_true, if_false, deref, boxAt, exAt, ldCells, oneL, oneCell, Nat.reduceLeDiff, evL, adopt, rigid, rigidL, trim, Int.reduceEq, Int.reduceMod, Int.reduceDiv, if_pos, if_neg, asI, forall_const, implies_true, chkD, chkO, chkW, effB, reB, vEq, beq_self_eq_true, Nat.reduceSub, Nat.reduceLT, Int.reduceSub, Int.reduceAdd, Int.reduceMul, Int.reduceLT, Int.reduceLE, Int.reduceToNat, optI, aslice, cutSl, cutMs, cutStr, cutOwn, cellsOf, one, elCells, lenOf, beqV, beqVL, strip, stripO, convS]) | ((first | rw [WP_condK] | rw [WP_opsG] | rw [WP_quiG] | rw [WP_dG]); refine And.intro (fun hb => ?_) (fun hb => ?_) <;> (first | have hd := dq1 hb | have hd := dq2 hb | have hd := dq3 hb | have hd := dq4 hb | skip)))
  refine WP_loop (I := fun n e h => ∃ (k f : Nat), n = f ∧ k + f = 12 ∧ lowF i f k = lowS i ∧ getE e 0 = i64 i ∧ getE e 3 = i64 k ∧ h = []) ?_ 12 _ _ ⟨0, 12, rfl, rfl, rfl, rfl, rfl, rfl⟩
  rintro n e h ⟨k, f, rfl, hk, hl, h0, h3, rfl⟩
  rw [trim_same' (by simp)]
  cases n with
  | zero =>
    obtain rfl : k = 12 := by omega
    rw [show lowF i 0 12 = 12 from rfl] at hl
    rw [← hl]
    first | have hb := hb | have hb := trivial
    repeat' (first | (simp -implicitDefEqProofs (disch := omega) only [hb, L30_0, h0, h3, wC, initE, aop, Nat.reduceEqDiff, ↓reduceIte, Nat.reduceAdd, finish, resOf, tupOf, AM.freeze, freeze1, freezeL, closed, nam, namL, if_true, if_false, deref, boxAt, exAt, ldCells, oneL, oneCell, Nat.reduceLeDiff, evL, adopt, rigid, rigidL, trim, Int.reduceEq, Int.reduceMod, Int.reduceDiv, if_pos, if_neg, asI, forall_const, implies_true, chkD, chkO, chkW, effB, reB, vEq, beq_self_eq_true, Nat.reduceSub, Nat.reduceLT, Int.reduceSub, Int.reduceAdd, Int.reduceMul, Int.reduceLT, Int.reduceLE, Int.reduceToNat, optI, aslice, cutSl, cutMs, cutStr, cutOwn, cellsOf, one, elCells, lenOf, beqV, beqVL, strip, stripO, convS]) | ((first | rw [WP_condK] | rw [WP_opsG] | rw [WP_quiG] | rw [WP_dG]); refine And.intro (fun hb => ?_) (fun hb => ?_) <;> (first | have hd := dq1 hb | have hd := dq2 hb | have hd := dq3 hb | have hd := dq4 hb | skip)))
  | succ f =>
    have hsh := shrN i k (by omega)
    have hm := tmod2 (i / 2 ^ k)
    have hbit : i / 2 ^ k % 2 = 0 ∨ i / 2 ^ k % 2 = 1 := Nat.mod_two_eq_zero_or_one _
    rw [lowF] at hl
    rcases hbit with hbit | hbit
    · rw [if_pos hbit] at hl
      rw [hbit] at hm
      have hm' : (((i / 2 ^ k : Nat) : Int).tmod 2) = 0 := hm
      generalize i / 2 ^ k = d at hsh hm' hm hbit
      first | have hb := hb | have hb := trivial
      repeat' (first | (simp -implicitDefEqProofs (disch := omega) only [hb, L30_0, h0, h3, hsh, hm', wC, initE, aop, Nat.reduceEqDiff, ↓reduceIte, Nat.reduceAdd, finish, resOf, tupOf, AM.freeze, freeze1, freezeL, closed, nam, namL, if_true, if_false, deref, boxAt, exAt, ldCells, oneL, oneCell, Nat.reduceLeDiff, evL, adopt, rigid, rigidL, trim, Int.reduceEq, Int.reduceMod, Int.reduceDiv, if_pos, if_neg, asI, forall_const, implies_true, chkD, chkO, chkW, effB, reB, vEq, beq_self_eq_true, Nat.reduceSub, Nat.reduceLT, Int.reduceSub, Int.reduceAdd, Int.reduceMul, Int.reduceLT, Int.reduceLE, Int.reduceToNat, optI, aslice, cutSl, cutMs, cutStr, cutOwn, cellsOf, one, elCells, lenOf, beqV, beqVL, strip, stripO, convS]) | ((first | rw [WP_condK] | rw [WP_opsG] | rw [WP_quiG] | rw [WP_dG]); refine And.intro (fun hb => ?_) (fun hb => ?_) <;> (first | have hd := dq1 hb | have hd := dq2 hb | have hd := dq3 hb | have hd := dq4 hb | skip)))
      exact ⟨f, by omega, k + 1, f, rfl, by omega, hl, rfl⟩
    · rw [if_neg (by omega)] at hl
      rw [hbit] at hm
      have hm' : (((i / 2 ^ k : Nat) : Int).tmod 2) = 1 := hm
      generalize i / 2 ^ k = d at hsh hm' hm hbit
      rw [← hl]
      first | have hb := hb | have hb := trivial
      repeat' (first | (simp -implicitDefEqProofs (disch := omega) only [hb, L30_0, h0, h3, hsh, hm', wC, initE, aop, Nat.reduceEqDiff, ↓reduceIte, Nat.reduceAdd, finish, resOf, tupOf, AM.freeze, freeze1, freezeL, closed, nam, namL, if_true, if_false, deref, boxAt, exAt, ldCells, oneL, oneCell, Nat.reduceLeDiff, evL, adopt, rigid, rigidL, trim, Int.reduceEq, Int.reduceMod, Int.reduceDiv, if_pos, if_neg, asI, forall_const, implies_true, chkD, chkO, chkW, effB, reB, vEq, beq_self_eq_true, Nat.reduceSub, Nat.reduceLT, Int.reduceSub, Int.reduceAdd, Int.reduceMul, Int.reduceLT, Int.reduceLE, Int.reduceToNat, optI, aslice, cutSl, cutMs, cutStr, cutOwn, cellsOf, one, elCells, lenOf, beqV, beqVL, strip, stripO, convS]) | ((first | rw [WP_condK] | rw [WP_opsG] | rw [WP_quiG] | rw [WP_dG]); refine And.intro (fun hb => ?_) (fun hb => ?_) <;> (first | have hd := dq1 hb | have hd := dq2 hb | have hd := dq3 hb | have hd := dq4 hb | skip)))
theorem call_low (i : Nat) (hi : i < 4096) (h : Heap) : ag T 30 [i64 i] h = some (i64 (lowS i), h) := call_sc rfl t30 rfl rfl rfl rfl (low_ok i hi)
def makesB (n m : Nat) : Bool := decide ((4095 - n) / 2 ^ lowS (4095 - n) = (4095 - m) / 2 ^ lowS (4095 - n))
theorem makes_ok (n m : Nat) (hn : n < 4096) (hm : m < 4096) : prun T F12 [i64 n, i64 m] = some (.bool (makesB n m)) := by
  refine WP_eq (prun_wp ?_)
  have e1 : ((4095 : Int) - (n : Int)) = ((4095 - n : Nat) : Int) := by omega
  have e2 : ((4095 : Int) - (m : Int)) = ((4095 - m : Nat) : Int) := by omega
  have hl := call_low (4095 - n) (by omega)
  have hle := lowS_le (4095 - n)
  unfold makesB
  generalize lowS (4095 - n) = k at hl hle ⊢
  have s1 := shrN (4095 - n) k hle
  have s2 := shrN (4095 - m) k hle
  generalize (4095 - n) / 2 ^ k = a at s1 ⊢
  generalize (4095 - m) / 2 ^ k = b at s2 ⊢
  generalize 4095 - n = x at e1 hl s1 ⊢
  generalize 4095 - m = y at e2 s2 ⊢
  first | have hb := hb | have hb := trivial
  repeat' (first | (simp -implicitDefEqProofs (disch := omega) only [hb, F12, e1, e2, hl, s1, s2, wC, initE, aop, Nat.reduceEqDiff, ↓reduceIte, Nat.reduceAdd, finish, resOf, tupOf, AM.freeze, freeze1, freezeL, closed, nam, namL, if_true, if_false, deref, boxAt, exAt, ldCells, oneL, oneCell, Nat.reduceLeDiff, evL, adopt, rigid, rigidL, trim, Int.reduceEq, Int.reduceMod, Int.reduceDiv, if_pos, if_neg, asI, forall_const, implies_true, chkD, chkO, chkW, effB, reB, vEq, beq_self_eq_true, Nat.reduceSub, Nat.reduceLT, Int.reduceSub, Int.reduceAdd, Int.reduceMul, Int.reduceLT, Int.reduceLE, Int.reduceToNat, optI, aslice, cutSl, cutMs, cutStr, cutOwn, cellsOf, one, elCells, lenOf, beqV, beqVL, strip, stripO, convS]) | ((first | rw [WP_condK] | rw [WP_opsG] | rw [WP_quiG] | rw [WP_dG]); refine And.intro (fun hb => ?_) (fun hb => ?_) <;> (first | have hd := dq1 hb | have hd := dq2 hb | have hd := dq3 hb | have hd := dq4 hb | skip)))
  congr 2
  rw [Bool.eq_iff_iff]; simp only [decide_eq_true_eq]; omega
theorem call_makes (n m : Nat) (hn : n < 4096) (hm : m < 4096) (h : Heap) : ag T 12 [i64 n, i64 m] h = some (.bool (makesB n m), h) := call_sc rfl t12 rfl rfl rfl rfl (makes_ok n m hn hm)
end Go.Proofs.YtkihcmlmcgokhaaDoor.AM

/- layer 05: At, Point, Make. -/
namespace Go.Proofs.YtkihcmlmcgokhaaDoor.AM
open Go
set_option maxRecDepth 100000
set_option maxHeartbeats 4000000
set_option linter.unusedVariables false
set_option linter.unusedSimpArgs false
def inB (n : Int) : Bool := decide (0 ≤ n) && decide (n ≤ 4095)
def atS (s : List Int) (n : Int) : List Int := if inB n then kWalk s (4095 - n.toNat) 12 else zS
def okM (n m : Int) : Bool := inB n && inB m && makesB n.toNat m.toNat
def makeS (s : List Int) (n m : Int) : List Int := if okM n m then kWalk s (4095 - m.toNat) (lowS (4095 - n.toNat)) else zS
def makeE (n m : Int) : Int := if okM n m then 0 else 1
theorem sec_at {s : List Int} (h : Sec s) (n : Int) : Sec (atS s n) := by
  unfold atS
  split
  · exact sec_walk h _ _
  · exact sec_zero
theorem sec_make {s : List Int} (h : Sec s) (n m : Int) : Sec (makeS s n m) := by
  unfold makeS
  split
  · exact sec_walk h _ _
  · exact sec_zero
theorem call_is (n : Int) (h : Heap) : ag T 27 [i64 n] h = some (.bool (inB n), h) := by
  refine call_sc rfl t27 rfl rfl rfl rfl (WP_eq (prun_wp ?_))
  unfold inB
  by_cases h1 : 0 ≤ n
  · by_cases h2 : n ≤ 4095
    · first | have hb := hb | have hb := trivial
      repeat' (first | (simp -implicitDefEqProofs (disch := omega) only [hb, F27, h1, h2, wC, initE, aop, Nat.reduceEqDiff, ↓reduceIte, Nat.reduceAdd, finish, resOf, tupOf, AM.freeze, freeze1, freezeL, closed, nam, namL, if_true, if_false, deref, boxAt, exAt, ldCells, oneL, oneCell, Nat.reduceLeDiff, evL, adopt, rigid, rigidL, trim, Int.reduceEq, Int.reduceMod, Int.reduceDiv, if_pos, if_neg, asI, forall_const, implies_true, chkD, chkO, chkW, effB, reB, vEq, beq_self_eq_true, Nat.reduceSub, Nat.reduceLT, Int.reduceSub, Int.reduceAdd, Int.reduceMul, Int.reduceLT, Int.reduceLE, Int.reduceToNat, optI, aslice, cutSl, cutMs, cutStr, cutOwn, cellsOf, one, elCells, lenOf, beqV, beqVL, strip, stripO, convS]) | ((first | rw [WP_condK] | rw [WP_opsG] | rw [WP_quiG] | rw [WP_dG]); refine And.intro (fun hb => ?_) (fun hb => ?_) <;> (first | have hd := dq1 hb | have hd := dq2 hb | have hd := dq3 hb | have hd := dq4 hb | skip)))
      all_goals done
    · first | have hb := hb | have hb := trivial
      repeat' (first | (simp -implicitDefEqProofs (disch := omega) only [hb, F27, h1, h2, wC, initE, aop, Nat.reduceEqDiff, ↓reduceIte, Nat.reduceAdd, finish, resOf, tupOf, AM.freeze, freeze1, freezeL, closed, nam, namL, if_true, if_false, deref, boxAt, exAt, ldCells, oneL, oneCell, Nat.reduceLeDiff, evL, adopt, rigid, rigidL, trim, Int.reduceEq, Int.reduceMod, Int.reduceDiv, if_pos, if_neg, asI, forall_const, implies_true, chkD, chkO, chkW, effB, reB, vEq, beq_self_eq_true, Nat.reduceSub, Nat.reduceLT, Int.reduceSub, Int.reduceAdd, Int.reduceMul, Int.reduceLT, Int.reduceLE, Int.reduceToNat, optI, aslice, cutSl, cutMs, cutStr, cutOwn, cellsOf, one, elCells, lenOf, beqV, beqVL, strip, stripO, convS]) | ((first | rw [WP_condK] | rw [WP_opsG] | rw [WP_quiG] | rw [WP_dG]); refine And.intro (fun hb => ?_) (fun hb => ?_) <;> (first | have hd := dq1 hb | have hd := dq2 hb | have hd := dq3 hb | have hd := dq4 hb | skip)))
      all_goals done
  · first | have hb := hb | have hb := trivial
    repeat' (first | (simp -implicitDefEqProofs (disch := omega) only [hb, F27, h1, wC, initE, aop, Nat.reduceEqDiff, ↓reduceIte, Nat.reduceAdd, finish, resOf, tupOf, AM.freeze, freeze1, freezeL, closed, nam, namL, if_true, if_false, deref, boxAt, exAt, ldCells, oneL, oneCell, Nat.reduceLeDiff, evL, adopt, rigid, rigidL, trim, Int.reduceEq, Int.reduceMod, Int.reduceDiv, if_pos, if_neg, asI, forall_const, implies_true, chkD, chkO, chkW, effB, reB, vEq, beq_self_eq_true, Nat.reduceSub, Nat.reduceLT, Int.reduceSub, Int.reduceAdd, Int.reduceMul, Int.reduceLT, Int.reduceLE, Int.reduceToNat, optI, aslice, cutSl, cutMs, cutStr, cutOwn, cellsOf, one, elCells, lenOf, beqV, beqVL, strip, stripO, convS]) | ((first | rw [WP_condK] | rw [WP_opsG] | rw [WP_quiG] | rw [WP_dG]); refine And.intro (fun hb => ?_) (fun hb => ?_) <;> (first | have hd := dq1 hb | have hd := dq2 hb | have hd := dq3 hb | have hd := dq4 hb | skip)))
    all_goals done
theorem in_nat {n : Int} (h : inB n = true) : n = (n.toNat : Int) ∧ n.toNat < 4096 := by
  simp only [inB, Bool.and_eq_true, decide_eq_true_eq] at h
  omega
theorem at_ok (s : List Int) (hs : Sec s) (n : Int) : prun T F11 [.agg (s.map u8), i64 n] = some (.agg ((atS s n).map u8)) := by
  refine WP_eq (prun_wp ?_)
  have hi := call_is n
  have hd := dg_of hs.len
  have q1 := hd.len
  have q2 := hd.one
  have q5 := hd.tk
  have hz := dg_of sec_zero.len
  cases hb : inB n with
  | false =>
    rw [hb] at hi
    have hr : atS s n = zS := by unfold atS; rw [hb]; rfl
    rw [hr]
    have r1 := hz.len
    have r2 := hz.one
    have r3 := hz.cl
    have r4 := hz.st
    have r5 := hz.tk
    have r6 := hz.sl
    generalize hZ : zS.map u8 = Z at r1 r2 r3 r4 r5 r6 ⊢
    have hza := zagg_eq
    rw [hZ] at hza
    generalize s.map u8 = D at q1 q2 q5 ⊢
    first | have hb := hb | have hb := trivial
    repeat' (first | (simp -implicitDefEqProofs (disch := omega) only [hb, F11, hi, q1, q2, hza, r1, r2, r3, r5, r6, wC, initE, aop, Nat.reduceEqDiff, ↓reduceIte, Nat.reduceAdd, finish, resOf, tupOf, AM.freeze, freeze1, freezeL, closed, nam, namL, if_true, if_false, deref, boxAt, exAt, ldCells, oneL, oneCell, Nat.reduceLeDiff, evL, adopt, rigid, rigidL, trim, Int.reduceEq, Int.reduceMod, Int.reduceDiv, if_pos, if_neg, asI, forall_const, implies_true, chkD, chkO, chkW, effB, reB, vEq, beq_self_eq_true, Nat.reduceSub, Nat.reduceLT, Int.reduceSub, Int.reduceAdd, Int.reduceMul, Int.reduceLT, Int.reduceLE, Int.reduceToNat, optI, aslice, cutSl, cutMs, cutStr, cutOwn, cellsOf, one, elCells, lenOf, beqV, beqVL, strip, stripO, convS]) | ((first | rw [WP_condK] | rw [WP_opsG] | rw [WP_quiG] | rw [WP_dG]); refine And.intro (fun hb => ?_) (fun hb => ?_) <;> (first | have hd := dq1 hb | have hd := dq2 hb | have hd := dq3 hb | have hd := dq4 hb | skip)))
    rw [r4]
    exact ⟨r3, rfl⟩
  | true =>
    rw [hb] at hi
    obtain ⟨e1, e2⟩ := in_nat hb
    have hr : atS s n = kWalk s (4095 - n.toNat) 12 := by unfold atS; rw [hb]; rfl
    rw [hr]
    have hx := call_index n.toNat e2
    rw [← e1] at hx
    have hw := call_walk s hs (4095 - n.toNat) 12 (by omega) (by omega)
    rw [show ((12 : Nat) : Int) = 12 from rfl] at hw
    have hdr := dg_of (sec_walk hs (4095 - n.toNat) 12).len
    have r1 := hdr.len
    have r2 := hdr.one
    have r3 := hdr.cl
    have r4 := hdr.st
    have r5 := hdr.tk
    have r6 := hdr.sl
    generalize (kWalk s (4095 - n.toNat) 12).map u8 = Z at hw r1 r2 r3 r4 r5 r6 ⊢
    generalize s.map u8 = D at hw q1 q2 q5 ⊢
    first | have hb := hb | have hb := trivial
    repeat' (first | (simp -implicitDefEqProofs (disch := omega) only [hb, F11, hi, hx, hw, q1, q2, q5, r1, r2, r3, r5, r6, wC, initE, aop, Nat.reduceEqDiff, ↓reduceIte, Nat.reduceAdd, finish, resOf, tupOf, AM.freeze, freeze1, freezeL, closed, nam, namL, if_true, if_false, deref, boxAt, exAt, ldCells, oneL, oneCell, Nat.reduceLeDiff, evL, adopt, rigid, rigidL, trim, Int.reduceEq, Int.reduceMod, Int.reduceDiv, if_pos, if_neg, asI, forall_const, implies_true, chkD, chkO, chkW, effB, reB, vEq, beq_self_eq_true, Nat.reduceSub, Nat.reduceLT, Int.reduceSub, Int.reduceAdd, Int.reduceMul, Int.reduceLT, Int.reduceLE, Int.reduceToNat, optI, aslice, cutSl, cutMs, cutStr, cutOwn, cellsOf, one, elCells, lenOf, beqV, beqVL, strip, stripO, convS]) | ((first | rw [WP_condK] | rw [WP_opsG] | rw [WP_quiG] | rw [WP_dG]); refine And.intro (fun hb => ?_) (fun hb => ?_) <;> (first | have hd := dq1 hb | have hd := dq2 hb | have hd := dq3 hb | have hd := dq4 hb | skip)))
    rw [r4]
    exact ⟨r3, rfl⟩
end Go.Proofs.YtkihcmlmcgokhaaDoor.AM

/- layer 05: Hash, Point, Make; the document's At and Make. -/
namespace Go.Proofs.YtkihcmlmcgokhaaDoor.AM
open Go
set_option maxRecDepth 100000
set_option maxHeartbeats 4000000
set_option linter.unusedVariables false
set_option linter.unusedSimpArgs false
theorem call_at (s : List Int) (hs : Sec s) (n : Int) (h : Heap) : ag T 11 [.agg (s.map u8), i64 n] h = some (.agg ((atS s n).map u8), h) :=
  call_agg rfl t11 rfl rfl rfl (args1 (dg_of hs.len) _ rfl) (at_ok s hs n)
theorem hash_ok (s : List Int) (hs : Sec s) : prun T F20 [.agg (s.map u8)] = some (.agg ((kSum s).map u8)) := by
    refine WP_eq (prun_wp ?_)
    have hd := dg_of hs.len
    have q1 := hd.len
    have q2 := hd.one
    have hsum := call_sum_ms s hs.by_ hs.len 0 true [.cells (s.map u8), Z32] rfl
    have hdr := dg_of (kSum_len s)
    have r1 := hdr.len
    have r2 := hdr.one
    have r3 := hdr.cl
    have r4 := hdr.st
    have r5 := hdr.tk
    have r6 := hdr.sl
    have r7 := hdr.sp
    generalize (kSum s).map u8 = Z at hsum r1 r2 r3 r4 r5 r6 r7 ⊢
    generalize s.map u8 = D at hsum q1 q2 ⊢
    first | have hb := hb | have hb := trivial
    repeat' (first | (simp -implicitDefEqProofs (disch := omega) only [hb, F20, z32_eq, q1, q2, n32, setEls, elFits, stripEl, List.replicate_succ, List.replicate_zero, hsum, r1, r2, r3, r5, r6, r7, wC, initE, aop, Nat.reduceEqDiff, ↓reduceIte, Nat.reduceAdd, finish, resOf, tupOf, AM.freeze, freeze1, freezeL, closed, nam, namL, if_true, if_false, deref, boxAt, exAt, ldCells, oneL, oneCell, Nat.reduceLeDiff, evL, adopt, rigid, rigidL, trim, Int.reduceEq, Int.reduceMod, Int.reduceDiv, if_pos, if_neg, asI, forall_const, implies_true, chkD, chkO, chkW, effB, reB, vEq, beq_self_eq_true, Nat.reduceSub, Nat.reduceLT, Int.reduceSub, Int.reduceAdd, Int.reduceMul, Int.reduceLT, Int.reduceLE, Int.reduceToNat, optI, aslice, cutSl, cutMs, cutStr, cutOwn, cellsOf, one, elCells, lenOf, beqV, beqVL, strip, stripO, convS]) | ((first | rw [WP_condK] | rw [WP_opsG] | rw [WP_quiG] | rw [WP_dG]); refine And.intro (fun hb => ?_) (fun hb => ?_) <;> (first | have hd := dq1 hb | have hd := dq2 hb | have hd := dq3 hb | have hd := dq4 hb | skip)))
    first | have hb := hb | have hb := trivial
    repeat' (first | (simp -implicitDefEqProofs (disch := omega) only [hb, Z32, q1, q2, r1, r2, r3, r5, r6, r7, wC, initE, aop, Nat.reduceEqDiff, ↓reduceIte, Nat.reduceAdd, finish, resOf, tupOf, AM.freeze, freeze1, freezeL, closed, nam, namL, if_true, if_false, deref, boxAt, exAt, ldCells, oneL, oneCell, Nat.reduceLeDiff, evL, adopt, rigid, rigidL, trim, Int.reduceEq, Int.reduceMod, Int.reduceDiv, if_pos, if_neg, asI, forall_const, implies_true, chkD, chkO, chkW, effB, reB, vEq, beq_self_eq_true, Nat.reduceSub, Nat.reduceLT, Int.reduceSub, Int.reduceAdd, Int.reduceMul, Int.reduceLT, Int.reduceLE, Int.reduceToNat, optI, aslice, cutSl, cutMs, cutStr, cutOwn, cellsOf, one, elCells, lenOf, beqV, beqVL, strip, stripO, convS]) | ((first | rw [WP_condK] | rw [WP_opsG] | rw [WP_quiG] | rw [WP_dG]); refine And.intro (fun hb => ?_) (fun hb => ?_) <;> (first | have hd := dq1 hb | have hd := dq2 hb | have hd := dq3 hb | have hd := dq4 hb | skip)))
    rw [r4]
    exact ⟨r3, rfl⟩
theorem call_hash (s : List Int) (hs : Sec s) (h : Heap) : ag T 20 [.agg (s.map u8)] h = some (.agg ((kSum s).map u8), h) :=
  call_agg rfl t20 rfl rfl rfl (args1 (dg_of hs.len) _ rfl) (hash_ok s hs)
def pointS (s : List Int) (n : Int) : List Int := if inB n then kSum (atS s n) else zS
theorem sec_point (s : List Int) (n : Int) : Sec (pointS s n) := by
  unfold pointS
  split
  · exact sec_sum _
  · exact sec_zero
theorem point_ok (s : List Int) (hs : Sec s) (n : Int) : prun T F21 [.agg (s.map u8), i64 n] = some (.agg ((pointS s n).map u8)) := by
  refine WP_eq (prun_wp ?_)
  have hi := call_is n
  have hd := dg_of hs.len
  have q1 := hd.len
  have q2 := hd.one
  have q5 := hd.tk
  cases hb : inB n with
  | false =>
    rw [hb] at hi
    have hr : pointS s n = zS := by unfold pointS; rw [hb]; rfl
    rw [hr]
    have hz := dg_of sec_zero.len
    have r1 := hz.len
    have r2 := hz.one
    have r3 := hz.cl
    have r4 := hz.st
    have r5 := hz.tk
    have r6 := hz.sl
    have r7 := hz.sp
    generalize hZ : zS.map u8 = Z at r1 r2 r3 r4 r5 r6 r7 ⊢
    have hza := zagg_eq
    rw [hZ] at hza
    generalize s.map u8 = D at q1 q2 q5 ⊢
    first | have hb := hb | have hb := trivial
    repeat' (first | (simp -implicitDefEqProofs (disch := omega) only [hb, F21, hi, q1, q2, hza, r1, r2, r3, r5, r6, r7, wC, initE, aop, Nat.reduceEqDiff, ↓reduceIte, Nat.reduceAdd, finish, resOf, tupOf, AM.freeze, freeze1, freezeL, closed, nam, namL, if_true, if_false, deref, boxAt, exAt, ldCells, oneL, oneCell, Nat.reduceLeDiff, evL, adopt, rigid, rigidL, trim, Int.reduceEq, Int.reduceMod, Int.reduceDiv, if_pos, if_neg, asI, forall_const, implies_true, chkD, chkO, chkW, effB, reB, vEq, beq_self_eq_true, Nat.reduceSub, Nat.reduceLT, Int.reduceSub, Int.reduceAdd, Int.reduceMul, Int.reduceLT, Int.reduceLE, Int.reduceToNat, optI, aslice, cutSl, cutMs, cutStr, cutOwn, cellsOf, one, elCells, lenOf, beqV, beqVL, strip, stripO, convS]) | ((first | rw [WP_condK] | rw [WP_opsG] | rw [WP_quiG] | rw [WP_dG]); refine And.intro (fun hb => ?_) (fun hb => ?_) <;> (first | have hd := dq1 hb | have hd := dq2 hb | have hd := dq3 hb | have hd := dq4 hb | skip)))
    rw [r4]
    exact ⟨r3, rfl⟩
  | true =>
    rw [hb] at hi
    have hr : pointS s n = kSum (atS s n) := by unfold pointS; rw [hb]; rfl
    rw [hr]
    have hat := call_at s hs n
    have hha := call_hash (atS s n) (sec_at hs n)
    have hdr := dg_of (kSum_len (atS s n))
    have r1 := hdr.len
    have r2 := hdr.one
    have r3 := hdr.cl
    have r4 := hdr.st
    have r5 := hdr.tk
    have r6 := hdr.sl
    have r7 := hdr.sp
    generalize (kSum (atS s n)).map u8 = Z at hha r1 r2 r3 r4 r5 r6 r7 ⊢
    generalize (atS s n).map u8 = Y at hat hha
    generalize s.map u8 = D at hat q1 q2 q5 ⊢
    first | have hb := hb | have hb := trivial
    repeat' (first | (simp -implicitDefEqProofs (disch := omega) only [hb, F21, hi, hat, hha, q1, q2, q5, r1, r2, r3, r5, r6, r7, wC, initE, aop, Nat.reduceEqDiff, ↓reduceIte, Nat.reduceAdd, finish, resOf, tupOf, AM.freeze, freeze1, freezeL, closed, nam, namL, if_true, if_false, deref, boxAt, exAt, ldCells, oneL, oneCell, Nat.reduceLeDiff, evL, adopt, rigid, rigidL, trim, Int.reduceEq, Int.reduceMod, Int.reduceDiv, if_pos, if_neg, asI, forall_const, implies_true, chkD, chkO, chkW, effB, reB, vEq, beq_self_eq_true, Nat.reduceSub, Nat.reduceLT, Int.reduceSub, Int.reduceAdd, Int.reduceMul, Int.reduceLT, Int.reduceLE, Int.reduceToNat, optI, aslice, cutSl, cutMs, cutStr, cutOwn, cellsOf, one, elCells, lenOf, beqV, beqVL, strip, stripO, convS]) | ((first | rw [WP_condK] | rw [WP_opsG] | rw [WP_quiG] | rw [WP_dG]); refine And.intro (fun hb => ?_) (fun hb => ?_) <;> (first | have hd := dq1 hb | have hd := dq2 hb | have hd := dq3 hb | have hd := dq4 hb | skip)))
    rw [r4]
    exact ⟨r3, rfl⟩
theorem call_point (s : List Int) (hs : Sec s) (n : Int) (h : Heap) : ag T 21 [.agg (s.map u8), i64 n] h = some (.agg ((pointS s n).map u8), h) :=
  call_agg rfl t21 rfl rfl rfl (args1 (dg_of hs.len) _ rfl) (point_ok s hs n)
theorem make_ok (s : List Int) (hs : Sec s) (n m : Int) : prun T F10 [.agg (s.map u8), i64 n, i64 m] = some (.tup [.agg ((makeS s n m).map u8), i64 (makeE n m)]) := by
  refine WP_eq (prun_wp ?_)
  have hi := call_is n
  have hj := call_is m
  have hd := dg_of hs.len
  have q1 := hd.len
  have q2 := hd.one
  have q5 := hd.tk
  have hz := dg_of sec_zero.len
  have r1 := hz.len
  have r2 := hz.one
  have r3 := hz.cl
  have r4 := hz.st
  have r5 := hz.tk
  have r6 := hz.sl
  have r7 := hz.sp
  have hza := zagg_eq
  cases hb : inB n with
  | false =>
    rw [hb] at hi
    have hr : makeS s n m = zS := by unfold makeS okM; rw [hb]; rfl
    have he : makeE n m = 1 := by unfold makeE okM; rw [hb]; rfl
    rw [hr, he]
    generalize hZ : zS.map u8 = Z at r1 r2 r3 r4 r5 r6 r7 ⊢
    rw [hZ] at hza
    generalize s.map u8 = D at q1 q2 q5 ⊢
    first | have hb := hb | have hb := trivial
    repeat' (first | (simp -implicitDefEqProofs (disch := omega) only [hb, F10, hi, q1, q2, hza, r1, r2, r3, r5, r6, r7, wC, initE, aop, Nat.reduceEqDiff, ↓reduceIte, Nat.reduceAdd, finish, resOf, tupOf, AM.freeze, freeze1, freezeL, closed, nam, namL, if_true, if_false, deref, boxAt, exAt, ldCells, oneL, oneCell, Nat.reduceLeDiff, evL, adopt, rigid, rigidL, trim, Int.reduceEq, Int.reduceMod, Int.reduceDiv, if_pos, if_neg, asI, forall_const, implies_true, chkD, chkO, chkW, effB, reB, vEq, beq_self_eq_true, Nat.reduceSub, Nat.reduceLT, Int.reduceSub, Int.reduceAdd, Int.reduceMul, Int.reduceLT, Int.reduceLE, Int.reduceToNat, optI, aslice, cutSl, cutMs, cutStr, cutOwn, cellsOf, one, elCells, lenOf, beqV, beqVL, strip, stripO, convS]) | ((first | rw [WP_condK] | rw [WP_opsG] | rw [WP_quiG] | rw [WP_dG]); refine And.intro (fun hb => ?_) (fun hb => ?_) <;> (first | have hd := dq1 hb | have hd := dq2 hb | have hd := dq3 hb | have hd := dq4 hb | skip)))
    rw [r4]
    exact ⟨r3, rfl⟩
  | true =>
    rw [hb] at hi
    cases hb2 : inB m with
    | false =>
      rw [hb2] at hj
      have hr : makeS s n m = zS := by unfold makeS okM; rw [hb, hb2]; rfl
      have he : makeE n m = 1 := by unfold makeE okM; rw [hb, hb2]; rfl
      rw [hr, he]
      generalize hZ : zS.map u8 = Z at r1 r2 r3 r4 r5 r6 r7 ⊢
      rw [hZ] at hza
      generalize s.map u8 = D at q1 q2 q5 ⊢
      first | have hb := hb | have hb := trivial
      repeat' (first | (simp -implicitDefEqProofs (disch := omega) only [hb, F10, hi, hj, q1, q2, hza, r1, r2, r3, r5, r6, r7, wC, initE, aop, Nat.reduceEqDiff, ↓reduceIte, Nat.reduceAdd, finish, resOf, tupOf, AM.freeze, freeze1, freezeL, closed, nam, namL, if_true, if_false, deref, boxAt, exAt, ldCells, oneL, oneCell, Nat.reduceLeDiff, evL, adopt, rigid, rigidL, trim, Int.reduceEq, Int.reduceMod, Int.reduceDiv, if_pos, if_neg, asI, forall_const, implies_true, chkD, chkO, chkW, effB, reB, vEq, beq_self_eq_true, Nat.reduceSub, Nat.reduceLT, Int.reduceSub, Int.reduceAdd, Int.reduceMul, Int.reduceLT, Int.reduceLE, Int.reduceToNat, optI, aslice, cutSl, cutMs, cutStr, cutOwn, cellsOf, one, elCells, lenOf, beqV, beqVL, strip, stripO, convS]) | ((first | rw [WP_condK] | rw [WP_opsG] | rw [WP_quiG] | rw [WP_dG]); refine And.intro (fun hb => ?_) (fun hb => ?_) <;> (first | have hd := dq1 hb | have hd := dq2 hb | have hd := dq3 hb | have hd := dq4 hb | skip)))
      rw [r4]
      exact ⟨r3, rfl⟩
    | true =>
      rw [hb2] at hj
      obtain ⟨e1, e2⟩ := in_nat hb
      obtain ⟨f1, f2⟩ := in_nat hb2
      have hx := call_index n.toNat e2
      have hy := call_index m.toNat f2
      rw [← e1] at hx
      rw [← f1] at hy
      have hle := lowS_le (4095 - n.toNat)
      have hok : okM n m = decide ((4095 - n.toNat) / 2 ^ lowS (4095 - n.toNat) = (4095 - m.toNat) / 2 ^ lowS (4095 - n.toNat)) := by unfold okM; rw [hb, hb2]; rfl
      have hw := call_walk s hs (4095 - m.toNat) (lowS (4095 - n.toNat)) (by omega) hle
      have s1 := shrU (4095 - n.toNat) _ hle
      have s2 := shrU (4095 - m.toNat) _ hle
      have hsw := sec_walk hs (4095 - m.toNat) (lowS (4095 - n.toNat))
      by_cases heq : (4095 - n.toNat) / 2 ^ lowS (4095 - n.toNat) = (4095 - m.toNat) / 2 ^ lowS (4095 - n.toNat)
      · have hr : makeS s n m = kWalk s (4095 - m.toNat) (lowS (4095 - n.toNat)) := by unfold makeS; rw [hok, if_pos (decide_eq_true heq)]
        have he : makeE n m = 0 := by unfold makeE; rw [hok, if_pos (decide_eq_true heq)]
        rw [hr, he]
        rw [← heq] at s2
        clear r1 r2 r3 r4 r5 r6 r7 hr he hok hza
        have hdr := dg_of hsw.len
        have r1 := hdr.len
        have r2 := hdr.one
        have r3 := hdr.cl
        have r4 := hdr.st
        have r5 := hdr.tk
        have r6 := hdr.sl
        have r7 := hdr.sp
        generalize (kWalk s (4095 - m.toNat) (lowS (4095 - n.toNat))).map u8 = Z at hw r1 r2 r3 r4 r5 r6 r7 ⊢
        generalize (4095 - n.toNat) / 2 ^ lowS (4095 - n.toNat) = a at s1 s2
        generalize lowS (4095 - n.toNat) = k at hx hw s1 s2
        generalize 4095 - m.toNat = y at hy hw s2
        generalize 4095 - n.toNat = x at hx s1
        generalize s.map u8 = D at hw q1 q2 q5 ⊢
        first | have hb := hb | have hb := trivial
        repeat' (first | (simp -implicitDefEqProofs (disch := omega) only [hb, F10, hi, hj, hx, hy, hw, s1, s2, q1, q2, q5, r1, r2, r3, r5, r6, r7, wC, initE, aop, Nat.reduceEqDiff, ↓reduceIte, Nat.reduceAdd, finish, resOf, tupOf, AM.freeze, freeze1, freezeL, closed, nam, namL, if_true, if_false, deref, boxAt, exAt, ldCells, oneL, oneCell, Nat.reduceLeDiff, evL, adopt, rigid, rigidL, trim, Int.reduceEq, Int.reduceMod, Int.reduceDiv, if_pos, if_neg, asI, forall_const, implies_true, chkD, chkO, chkW, effB, reB, vEq, beq_self_eq_true, Nat.reduceSub, Nat.reduceLT, Int.reduceSub, Int.reduceAdd, Int.reduceMul, Int.reduceLT, Int.reduceLE, Int.reduceToNat, optI, aslice, cutSl, cutMs, cutStr, cutOwn, cellsOf, one, elCells, lenOf, beqV, beqVL, strip, stripO, convS]) | ((first | rw [WP_condK] | rw [WP_opsG] | rw [WP_quiG] | rw [WP_dG]); refine And.intro (fun hb => ?_) (fun hb => ?_) <;> (first | have hd := dq1 hb | have hd := dq2 hb | have hd := dq3 hb | have hd := dq4 hb | skip)))
        rw [r4]
        exact ⟨r3, rfl⟩
      · have hr : makeS s n m = zS := by unfold makeS; rw [hok, if_neg (by simpa using heq)]
        have he : makeE n m = 1 := by unfold makeE; rw [hok, if_neg (by simpa using heq)]
        rw [hr, he]
        have hne : ¬ (((4095 - n.toNat) / 2 ^ lowS (4095 - n.toNat) : Nat) : Int) = (((4095 - m.toNat) / 2 ^ lowS (4095 - n.toNat) : Nat) : Int) := by omega
        generalize hZ : zS.map u8 = Z at r1 r2 r3 r4 r5 r6 r7 ⊢
        rw [hZ] at hza
        clear hw hsw hok hr he heq
        generalize (4095 - n.toNat) / 2 ^ lowS (4095 - n.toNat) = a at s1 hne
        generalize (4095 - m.toNat) / 2 ^ lowS (4095 - n.toNat) = b at s2 hne
        generalize lowS (4095 - n.toNat) = k at hx s1 s2
        generalize 4095 - m.toNat = y at hy s2
        generalize 4095 - n.toNat = x at hx s1
        generalize s.map u8 = D at q1 q2 q5 ⊢
        first | have hb := hb | have hb := trivial
        repeat' (first | (simp -implicitDefEqProofs (disch := omega) only [hb, F10, hi, hj, hx, hy, s1, s2, hne, q1, q2, q5, hza, r1, r2, r3, r5, r6, r7, wC, initE, aop, Nat.reduceEqDiff, ↓reduceIte, Nat.reduceAdd, finish, resOf, tupOf, AM.freeze, freeze1, freezeL, closed, nam, namL, if_true, if_false, deref, boxAt, exAt, ldCells, oneL, oneCell, Nat.reduceLeDiff, evL, adopt, rigid, rigidL, trim, Int.reduceEq, Int.reduceMod, Int.reduceDiv, if_pos, if_neg, asI, forall_const, implies_true, chkD, chkO, chkW, effB, reB, vEq, beq_self_eq_true, Nat.reduceSub, Nat.reduceLT, Int.reduceSub, Int.reduceAdd, Int.reduceMul, Int.reduceLT, Int.reduceLE, Int.reduceToNat, optI, aslice, cutSl, cutMs, cutStr, cutOwn, cellsOf, one, elCells, lenOf, beqV, beqVL, strip, stripO, convS]) | ((first | rw [WP_condK] | rw [WP_opsG] | rw [WP_quiG] | rw [WP_dG]); refine And.intro (fun hb => ?_) (fun hb => ?_) <;> (first | have hd := dq1 hb | have hd := dq2 hb | have hd := dq3 hb | have hd := dq4 hb | skip)))
        rw [r4]
        exact ⟨r3, rfl⟩
theorem call_make (s : List Int) (hs : Sec s) (n m : Int) (h : Heap) : ag T 10 [.agg (s.map u8), i64 n, i64 m] h = some (.tup [.agg ((makeS s n m).map u8), i64 (makeE n m)], h) := by
  have h1 := call_pure (T := T) (h := h) (args := [.agg (s.map u8), i64 n, i64 m]) rfl t10 rfl rfl (args1 (dg_of hs.len) _ rfl) (make_ok s hs n m)
  exact h1
end Go.Proofs.YtkihcmlmcgokhaaDoor.AM

/- layer 05: the document's At and Make. -/
namespace Go.Proofs.YtkihcmlmcgokhaaDoor.AM
open Go
set_option maxRecDepth 100000
set_option maxHeartbeats 4000000
set_option linter.unusedVariables false
set_option linter.unusedSimpArgs false
theorem rat_ok (s : List Int) (hs : Sec s) (n : Int) : prun T F13 [.agg (s.map u8), i64 n] = some (.agg ((atS s n).map u8)) := by
  refine WP_eq (prun_wp ?_)
  have hd := dg_of hs.len
  have q1 := hd.len
  have q2 := hd.one
  have q5 := hd.tk
  have hz := dg_of sec_zero.len
  have hza := zagg_eq
  have miss : inB n = false → atS s n = zS := fun hb => by unfold atS; rw [hb]; rfl
  by_cases h0 : n < 0
  · rw [miss (by simp [inB]; omega)]
    have r1 := hz.len
    have r2 := hz.one
    have r3 := hz.cl
    have r4 := hz.st
    have r5 := hz.tk
    have r6 := hz.sl
    have r7 := hz.sp
    generalize hZ : zS.map u8 = Z at r1 r2 r3 r4 r5 r6 r7 ⊢
    rw [hZ] at hza
    generalize s.map u8 = D at q1 q2 q5 ⊢
    first | have hb := hb | have hb := trivial
    repeat' (first | (simp -implicitDefEqProofs (disch := omega) only [hb, F13, h0, q1, q2, hza, r1, r2, r3, r5, r6, r7, wC, initE, aop, Nat.reduceEqDiff, ↓reduceIte, Nat.reduceAdd, finish, resOf, tupOf, AM.freeze, freeze1, freezeL, closed, nam, namL, if_true, if_false, deref, boxAt, exAt, ldCells, oneL, oneCell, Nat.reduceLeDiff, evL, adopt, rigid, rigidL, trim, Int.reduceEq, Int.reduceMod, Int.reduceDiv, if_pos, if_neg, asI, forall_const, implies_true, chkD, chkO, chkW, effB, reB, vEq, beq_self_eq_true, Nat.reduceSub, Nat.reduceLT, Int.reduceSub, Int.reduceAdd, Int.reduceMul, Int.reduceLT, Int.reduceLE, Int.reduceToNat, optI, aslice, cutSl, cutMs, cutStr, cutOwn, cellsOf, one, elCells, lenOf, beqV, beqVL, strip, stripO, convS]) | ((first | rw [WP_condK] | rw [WP_opsG] | rw [WP_quiG] | rw [WP_dG]); refine And.intro (fun hb => ?_) (fun hb => ?_) <;> (first | have hd := dq1 hb | have hd := dq2 hb | have hd := dq3 hb | have hd := dq4 hb | skip)))
    rw [r4]
    exact ⟨r3, rfl⟩
  by_cases h1 : 4095 < n
  · rw [miss (by simp [inB]; omega)]
    have r1 := hz.len
    have r2 := hz.one
    have r3 := hz.cl
    have r4 := hz.st
    have r5 := hz.tk
    have r6 := hz.sl
    have r7 := hz.sp
    generalize hZ : zS.map u8 = Z at r1 r2 r3 r4 r5 r6 r7 ⊢
    rw [hZ] at hza
    generalize s.map u8 = D at q1 q2 q5 ⊢
    first | have hb := hb | have hb := trivial
    repeat' (first | (simp -implicitDefEqProofs (disch := omega) only [hb, F13, h0, h1, q1, q2, hza, r1, r2, r3, r5, r6, r7, wC, initE, aop, Nat.reduceEqDiff, ↓reduceIte, Nat.reduceAdd, finish, resOf, tupOf, AM.freeze, freeze1, freezeL, closed, nam, namL, if_true, if_false, deref, boxAt, exAt, ldCells, oneL, oneCell, Nat.reduceLeDiff, evL, adopt, rigid, rigidL, trim, Int.reduceEq, Int.reduceMod, Int.reduceDiv, if_pos, if_neg, asI, forall_const, implies_true, chkD, chkO, chkW, effB, reB, vEq, beq_self_eq_true, Nat.reduceSub, Nat.reduceLT, Int.reduceSub, Int.reduceAdd, Int.reduceMul, Int.reduceLT, Int.reduceLE, Int.reduceToNat, optI, aslice, cutSl, cutMs, cutStr, cutOwn, cellsOf, one, elCells, lenOf, beqV, beqVL, strip, stripO, convS]) | ((first | rw [WP_condK] | rw [WP_opsG] | rw [WP_quiG] | rw [WP_dG]); refine And.intro (fun hb => ?_) (fun hb => ?_) <;> (first | have hd := dq1 hb | have hd := dq2 hb | have hd := dq3 hb | have hd := dq4 hb | skip)))
    rw [r4]
    exact ⟨r3, rfl⟩
  · have hb : inB n = true := by simp [inB]; omega
    have hr : atS s n = kWalk s (4095 - n.toNat) 12 := by unfold atS; rw [hb]; rfl
    rw [hr]
    have hsub : (4095 : Int) - n = ((4095 - n.toNat : Nat) : Int) := by omega
    have hw := call_rwalk s hs (4095 - n.toNat) 12 (by omega) (by omega)
    rw [show ((12 : Nat) : Int) = 12 from rfl] at hw
    have hdr := dg_of (sec_walk hs (4095 - n.toNat) 12).len
    have r1 := hdr.len
    have r2 := hdr.one
    have r3 := hdr.cl
    have r4 := hdr.st
    have r5 := hdr.tk
    have r6 := hdr.sl
    have r7 := hdr.sp
    generalize (kWalk s (4095 - n.toNat) 12).map u8 = Z at hw r1 r2 r3 r4 r5 r6 r7 ⊢
    generalize 4095 - n.toNat = y at hw hsub
    generalize s.map u8 = D at hw q1 q2 q5 ⊢
    first | have hb := hb | have hb := trivial
    repeat' (first | (simp -implicitDefEqProofs (disch := omega) only [hb, F13, h0, h1, hsub, hw, q1, q2, q5, r1, r2, r3, r5, r6, r7, wC, initE, aop, Nat.reduceEqDiff, ↓reduceIte, Nat.reduceAdd, finish, resOf, tupOf, AM.freeze, freeze1, freezeL, closed, nam, namL, if_true, if_false, deref, boxAt, exAt, ldCells, oneL, oneCell, Nat.reduceLeDiff, evL, adopt, rigid, rigidL, trim, Int.reduceEq, Int.reduceMod, Int.reduceDiv, if_pos, if_neg, asI, forall_const, implies_true, chkD, chkO, chkW, effB, reB, vEq, beq_self_eq_true, Nat.reduceSub, Nat.reduceLT, Int.reduceSub, Int.reduceAdd, Int.reduceMul, Int.reduceLT, Int.reduceLE, Int.reduceToNat, optI, aslice, cutSl, cutMs, cutStr, cutOwn, cellsOf, one, elCells, lenOf, beqV, beqVL, strip, stripO, convS]) | ((first | rw [WP_condK] | rw [WP_opsG] | rw [WP_quiG] | rw [WP_dG]); refine And.intro (fun hb => ?_) (fun hb => ?_) <;> (first | have hd := dq1 hb | have hd := dq2 hb | have hd := dq3 hb | have hd := dq4 hb | skip)))
    rw [r4]
    exact ⟨r3, rfl⟩
theorem call_rat (s : List Int) (hs : Sec s) (n : Int) (h : Heap) : ag T 13 [.agg (s.map u8), i64 n] h = some (.agg ((atS s n).map u8), h) :=
  call_agg rfl t13 rfl rfl rfl (args1 (dg_of hs.len) _ rfl) (rat_ok s hs n)
theorem kbeq : ∀ l : List Int, beqVL (l.map u8) (l.map u8) = true
  | [] => rfl
  | x :: l => by simp only [List.map_cons, beqVL, beqV, vEq, beq_self_eq_true, Bool.true_and, kbeq l]
theorem rmake_ok (s : List Int) (hs : Sec s) (n m : Int) : prun T F18 [.agg (s.map u8), i64 n, i64 m] = some (.tup [.agg ((makeS s n m).map u8), i64 (makeE n m)]) := by
  refine WP_eq (prun_wp ?_)
  have hd := dg_of hs.len
  have q1 := hd.len
  have q2 := hd.one
  have q5 := hd.tk
  have hz := dg_of sec_zero.len
  have hza := zagg_eq
  have miss : okM n m = false → makeS s n m = zS ∧ makeE n m = 1 := fun hb => ⟨by unfold makeS; rw [hb]; rfl, by unfold makeE; rw [hb]; rfl⟩
  by_cases h0 : n < 0
  · obtain ⟨hr, he⟩ := miss (by simp [okM, inB]; omega)
    rw [hr, he]
    have r1 := hz.len
    have r2 := hz.one
    have r3 := hz.cl
    have r4 := hz.st
    have r5 := hz.tk
    have r6 := hz.sl
    have r7 := hz.sp
    generalize hZ : zS.map u8 = Z at r1 r2 r3 r4 r5 r6 r7 ⊢
    rw [hZ] at hza
    generalize s.map u8 = D at q1 q2 q5 ⊢
    first | have hb := hb | have hb := trivial
    repeat' (first | (simp -implicitDefEqProofs (disch := omega) only [hb, F18, h0, q1, q2, hza, r1, r2, r3, r5, r6, r7, wC, initE, aop, Nat.reduceEqDiff, ↓reduceIte, Nat.reduceAdd, finish, resOf, tupOf, AM.freeze, freeze1, freezeL, closed, nam, namL, if_true, if_false, deref, boxAt, exAt, ldCells, oneL, oneCell, Nat.reduceLeDiff, evL, adopt, rigid, rigidL, trim, Int.reduceEq, Int.reduceMod, Int.reduceDiv, if_pos, if_neg, asI, forall_const, implies_true, chkD, chkO, chkW, effB, reB, vEq, beq_self_eq_true, Nat.reduceSub, Nat.reduceLT, Int.reduceSub, Int.reduceAdd, Int.reduceMul, Int.reduceLT, Int.reduceLE, Int.reduceToNat, optI, aslice, cutSl, cutMs, cutStr, cutOwn, cellsOf, one, elCells, lenOf, beqV, beqVL, strip, stripO, convS]) | ((first | rw [WP_condK] | rw [WP_opsG] | rw [WP_quiG] | rw [WP_dG]); refine And.intro (fun hb => ?_) (fun hb => ?_) <;> (first | have hd := dq1 hb | have hd := dq2 hb | have hd := dq3 hb | have hd := dq4 hb | skip)))
    rw [r4]
    exact ⟨r3, rfl⟩
  by_cases h1 : 4095 < n
  · obtain ⟨hr, he⟩ := miss (by simp [okM, inB]; omega)
    rw [hr, he]
    have r1 := hz.len
    have r2 := hz.one
    have r3 := hz.cl
    have r4 := hz.st
    have r5 := hz.tk
    have r6 := hz.sl
    have r7 := hz.sp
    generalize hZ : zS.map u8 = Z at r1 r2 r3 r4 r5 r6 r7 ⊢
    rw [hZ] at hza
    generalize s.map u8 = D at q1 q2 q5 ⊢
    first | have hb := hb | have hb := trivial
    repeat' (first | (simp -implicitDefEqProofs (disch := omega) only [hb, F18, h0, h1, q1, q2, hza, r1, r2, r3, r5, r6, r7, wC, initE, aop, Nat.reduceEqDiff, ↓reduceIte, Nat.reduceAdd, finish, resOf, tupOf, AM.freeze, freeze1, freezeL, closed, nam, namL, if_true, if_false, deref, boxAt, exAt, ldCells, oneL, oneCell, Nat.reduceLeDiff, evL, adopt, rigid, rigidL, trim, Int.reduceEq, Int.reduceMod, Int.reduceDiv, if_pos, if_neg, asI, forall_const, implies_true, chkD, chkO, chkW, effB, reB, vEq, beq_self_eq_true, Nat.reduceSub, Nat.reduceLT, Int.reduceSub, Int.reduceAdd, Int.reduceMul, Int.reduceLT, Int.reduceLE, Int.reduceToNat, optI, aslice, cutSl, cutMs, cutStr, cutOwn, cellsOf, one, elCells, lenOf, beqV, beqVL, strip, stripO, convS]) | ((first | rw [WP_condK] | rw [WP_opsG] | rw [WP_quiG] | rw [WP_dG]); refine And.intro (fun hb => ?_) (fun hb => ?_) <;> (first | have hd := dq1 hb | have hd := dq2 hb | have hd := dq3 hb | have hd := dq4 hb | skip)))
    rw [r4]
    exact ⟨r3, rfl⟩
  by_cases h2 : m < 0
  · obtain ⟨hr, he⟩ := miss (by simp [okM, inB]; omega)
    rw [hr, he]
    have r1 := hz.len
    have r2 := hz.one
    have r3 := hz.cl
    have r4 := hz.st
    have r5 := hz.tk
    have r6 := hz.sl
    have r7 := hz.sp
    generalize hZ : zS.map u8 = Z at r1 r2 r3 r4 r5 r6 r7 ⊢
    rw [hZ] at hza
    generalize s.map u8 = D at q1 q2 q5 ⊢
    first | have hb := hb | have hb := trivial
    repeat' (first | (simp -implicitDefEqProofs (disch := omega) only [hb, F18, h0, h1, h2, q1, q2, hza, r1, r2, r3, r5, r6, r7, wC, initE, aop, Nat.reduceEqDiff, ↓reduceIte, Nat.reduceAdd, finish, resOf, tupOf, AM.freeze, freeze1, freezeL, closed, nam, namL, if_true, if_false, deref, boxAt, exAt, ldCells, oneL, oneCell, Nat.reduceLeDiff, evL, adopt, rigid, rigidL, trim, Int.reduceEq, Int.reduceMod, Int.reduceDiv, if_pos, if_neg, asI, forall_const, implies_true, chkD, chkO, chkW, effB, reB, vEq, beq_self_eq_true, Nat.reduceSub, Nat.reduceLT, Int.reduceSub, Int.reduceAdd, Int.reduceMul, Int.reduceLT, Int.reduceLE, Int.reduceToNat, optI, aslice, cutSl, cutMs, cutStr, cutOwn, cellsOf, one, elCells, lenOf, beqV, beqVL, strip, stripO, convS]) | ((first | rw [WP_condK] | rw [WP_opsG] | rw [WP_quiG] | rw [WP_dG]); refine And.intro (fun hb => ?_) (fun hb => ?_) <;> (first | have hd := dq1 hb | have hd := dq2 hb | have hd := dq3 hb | have hd := dq4 hb | skip)))
    rw [r4]
    exact ⟨r3, rfl⟩
  by_cases h3 : 4095 < m
  · obtain ⟨hr, he⟩ := miss (by simp [okM, inB]; omega)
    rw [hr, he]
    have r1 := hz.len
    have r2 := hz.one
    have r3 := hz.cl
    have r4 := hz.st
    have r5 := hz.tk
    have r6 := hz.sl
    have r7 := hz.sp
    generalize hZ : zS.map u8 = Z at r1 r2 r3 r4 r5 r6 r7 ⊢
    rw [hZ] at hza
    generalize s.map u8 = D at q1 q2 q5 ⊢
    first | have hb := hb | have hb := trivial
    repeat' (first | (simp -implicitDefEqProofs (disch := omega) only [hb, F18, h0, h1, h2, h3, q1, q2, hza, r1, r2, r3, r5, r6, r7, wC, initE, aop, Nat.reduceEqDiff, ↓reduceIte, Nat.reduceAdd, finish, resOf, tupOf, AM.freeze, freeze1, freezeL, closed, nam, namL, if_true, if_false, deref, boxAt, exAt, ldCells, oneL, oneCell, Nat.reduceLeDiff, evL, adopt, rigid, rigidL, trim, Int.reduceEq, Int.reduceMod, Int.reduceDiv, if_pos, if_neg, asI, forall_const, implies_true, chkD, chkO, chkW, effB, reB, vEq, beq_self_eq_true, Nat.reduceSub, Nat.reduceLT, Int.reduceSub, Int.reduceAdd, Int.reduceMul, Int.reduceLT, Int.reduceLE, Int.reduceToNat, optI, aslice, cutSl, cutMs, cutStr, cutOwn, cellsOf, one, elCells, lenOf, beqV, beqVL, strip, stripO, convS]) | ((first | rw [WP_condK] | rw [WP_opsG] | rw [WP_quiG] | rw [WP_dG]); refine And.intro (fun hb => ?_) (fun hb => ?_) <;> (first | have hd := dq1 hb | have hd := dq2 hb | have hd := dq3 hb | have hd := dq4 hb | skip)))
    rw [r4]
    exact ⟨r3, rfl⟩
  have hin : inB n = true := by simp [inB]; omega
  have hin2 : inB m = true := by simp [inB]; omega
  have e1 : n = (n.toNat : Int) := by omega
  have e2 : m = (m.toNat : Int) := by omega
  have hm := call_makes n.toNat m.toNat (by omega) (by omega)
  rw [← e1, ← e2] at hm
  have hok : okM n m = makesB n.toNat m.toNat := by unfold okM; rw [hin, hin2]; rfl
  cases hb : makesB n.toNat m.toNat with
  | false =>
    obtain ⟨hr, he⟩ := miss (by rw [hok, hb])
    rw [hr, he]
    rw [hb] at hm
    have r1 := hz.len
    have r2 := hz.one
    have r3 := hz.cl
    have r4 := hz.st
    have r5 := hz.tk
    have r6 := hz.sl
    have r7 := hz.sp
    generalize hZ : zS.map u8 = Z at r1 r2 r3 r4 r5 r6 r7 ⊢
    rw [hZ] at hza
    generalize s.map u8 = D at q1 q2 q5 ⊢
    first | have hb := hb | have hb := trivial
    repeat' (first | (simp -implicitDefEqProofs (disch := omega) only [hb, F18, h0, h1, h2, h3, hm, q1, q2, hza, r1, r2, r3, r5, r6, r7, wC, initE, aop, Nat.reduceEqDiff, ↓reduceIte, Nat.reduceAdd, finish, resOf, tupOf, AM.freeze, freeze1, freezeL, closed, nam, namL, if_true, if_false, deref, boxAt, exAt, ldCells, oneL, oneCell, Nat.reduceLeDiff, evL, adopt, rigid, rigidL, trim, Int.reduceEq, Int.reduceMod, Int.reduceDiv, if_pos, if_neg, asI, forall_const, implies_true, chkD, chkO, chkW, effB, reB, vEq, beq_self_eq_true, Nat.reduceSub, Nat.reduceLT, Int.reduceSub, Int.reduceAdd, Int.reduceMul, Int.reduceLT, Int.reduceLE, Int.reduceToNat, optI, aslice, cutSl, cutMs, cutStr, cutOwn, cellsOf, one, elCells, lenOf, beqV, beqVL, strip, stripO, convS]) | ((first | rw [WP_condK] | rw [WP_opsG] | rw [WP_quiG] | rw [WP_dG]); refine And.intro (fun hb => ?_) (fun hb => ?_) <;> (first | have hd := dq1 hb | have hd := dq2 hb | have hd := dq3 hb | have hd := dq4 hb | skip)))
    rw [r4]
    exact ⟨r3, rfl⟩
  | true =>
    rw [hb] at hm
    have hr : makeS s n m = kWalk s (4095 - m.toNat) (lowS (4095 - n.toNat)) := by unfold makeS; rw [hok, hb]; rfl
    have he : makeE n m = 0 := by unfold makeE; rw [hok, hb]; rfl
    rw [hr, he]
    have s1 : (4095 : Int) - n = ((4095 - n.toNat : Nat) : Int) := by omega
    have s2 : (4095 : Int) - m = ((4095 - m.toNat : Nat) : Int) := by omega
    have hl := call_low (4095 - n.toNat) (by omega)
    have hle := lowS_le (4095 - n.toNat)
    have hw := call_rwalk s hs (4095 - m.toNat) (lowS (4095 - n.toNat)) (by omega) hle
    have hdr := dg_of (sec_walk hs (4095 - m.toNat) (lowS (4095 - n.toNat))).len
    have r1 := hdr.len
    have r2 := hdr.one
    have r3 := hdr.cl
    have r4 := hdr.st
    have r5 := hdr.tk
    have r6 := hdr.sl
    have r7 := hdr.sp
    generalize (kWalk s (4095 - m.toNat) (lowS (4095 - n.toNat))).map u8 = Z at hw r1 r2 r3 r4 r5 r6 r7 ⊢
    generalize lowS (4095 - n.toNat) = k at hl hw
    generalize 4095 - m.toNat = y at hw s2
    generalize 4095 - n.toNat = x at hl s1
    have hbq := kbeq s
    generalize s.map u8 = D at hw q1 q2 q5 hbq ⊢
    first | have hb := hb | have hb := trivial
    repeat' (first | (simp -implicitDefEqProofs (disch := omega) only [hb, F18, h0, h1, h2, h3, hm, s1, s2, hl, hw, q1, q2, q5, hbq, r1, r2, r3, r5, r6, r7, wC, initE, aop, Nat.reduceEqDiff, ↓reduceIte, Nat.reduceAdd, finish, resOf, tupOf, AM.freeze, freeze1, freezeL, closed, nam, namL, if_true, if_false, deref, boxAt, exAt, ldCells, oneL, oneCell, Nat.reduceLeDiff, evL, adopt, rigid, rigidL, trim, Int.reduceEq, Int.reduceMod, Int.reduceDiv, if_pos, if_neg, asI, forall_const, implies_true, chkD, chkO, chkW, effB, reB, vEq, beq_self_eq_true, Nat.reduceSub, Nat.reduceLT, Int.reduceSub, Int.reduceAdd, Int.reduceMul, Int.reduceLT, Int.reduceLE, Int.reduceToNat, optI, aslice, cutSl, cutMs, cutStr, cutOwn, cellsOf, one, elCells, lenOf, beqV, beqVL, strip, stripO, convS]) | ((first | rw [WP_condK] | rw [WP_opsG] | rw [WP_quiG] | rw [WP_dG]); refine And.intro (fun hb => ?_) (fun hb => ?_) <;> (first | have hd := dq1 hb | have hd := dq2 hb | have hd := dq3 hb | have hd := dq4 hb | skip)))
    rw [r4]
    exact ⟨r3, rfl⟩
theorem call_rmake (s : List Int) (hs : Sec s) (n m : Int) (h : Heap) : ag T 18 [.agg (s.map u8), i64 n, i64 m] h = some (.tup [.agg ((makeS s n m).map u8), i64 (makeE n m)], h) :=
  call_pure (T := T) (h := h) (args := [.agg (s.map u8), i64 n, i64 m]) rfl t18 rfl rfl (args1 (dg_of hs.len) _ rfl) (rmake_ok s hs n m)
end Go.Proofs.YtkihcmlmcgokhaaDoor.AM

/- layer 05: what must come of every program. -/
namespace Go.Proofs.YtkihcmlmcgokhaaDoor.AM
open Go
set_option maxRecDepth 100000
theorem lives_k : ag T 9 [] [] = some (.sc (.bool true), []) := ag_of_sums (n := 100) (by kernel_rfl)
end Go.Proofs.YtkihcmlmcgokhaaDoor.AM

/- layer 05: SecretsAt, SecretsMakes, SecretsNobody. -/
namespace Go.Proofs.YtkihcmlmcgokhaaDoor.AM
open Go
set_option maxRecDepth 100000
set_option maxHeartbeats 4000000
set_option linter.unusedVariables false
set_option linter.unusedSimpArgs false
theorem call_lives (h : Heap) : ag T 9 [] h = some (.bool true, h) := k_any rfl t9 rfl rfl rfl rfl lives_k h
theorem keq : ∀ a b : List Int, a.length = b.length → eqCells (a.map u8) (b.map u8) = some (decide (a = b))
  | [], [], _ => rfl
  | [], _ :: _, h => by simp at h
  | _ :: _, [], h => by simp at h
  | x :: a, y :: b, h => by
    have ih := keq a b (by simpa using h)
    simp only [List.map_cons, eqCells, if_true, ih, Option.map_some, Option.some.injEq]
    rw [Bool.eq_iff_iff]
    simp
theorem keq_same (a : List Int) : eqCells (a.map u8) (a.map u8) = some true := by rw [keq a a rfl]; simp
theorem secretsAt_ok (s : List Int) (hs : Sec s) (n m : Int) : prun T F5 [.agg (s.map u8), i64 n, i64 m] = some (.bool true) := by
  refine WP_eq (prun_wp ?_)
  have hd := dg_of hs.len
  have q1 := hd.len
  have q2 := hd.one
  have q5 := hd.tk
  have hqb := kbeq s
  have hmk := call_make s hs n m
  have hrm := call_rmake s hs n m
  have hat := call_at s hs n
  have hra := call_rat s hs n
  have hha := call_hash (atS s n) (sec_at hs n)
  have hpt := call_point s hs n
  have hlv := call_lives
  have hdm := dg_of (sec_make hs n m).len
  have hdp := dg_of (sec_point s n).len
  have hda := dg_of (sec_at hs n).len
  have em := keq_same (makeS s n m)
  have ea := keq_same (atS s n)
  have ep := keq_same (pointS s n)
  have bm := kbeq (makeS s n m)
  have bp := kbeq (pointS s n)
  have hz := dg_of sec_zero.len
  have hza := zagg_eq
  by_cases hin : 0 ≤ n ∧ n ≤ 4095
  · obtain ⟨h0, h1⟩ := hin
    have hpp : pointS s n = kSum (atS s n) := by unfold pointS; rw [if_pos (by simp [inB, h0, h1])]
    rw [← hpp] at hha
    have m1 := hdm.len
    have m2 := hdm.one
    have m3 := hdm.cl
    have m4 := hdm.st
    have m5 := hdm.tk
    have m6 := hdm.sl
    have m7 := hdm.sp
    have p1 := hdp.len
    have p2 := hdp.one
    have p3 := hdp.cl
    have p4 := hdp.st
    have p5 := hdp.tk
    have p6 := hdp.sl
    have p7 := hdp.sp
    have a1 := hda.len
    have a2 := hda.one
    have a3 := hda.cl
    have a4 := hda.st
    have a5 := hda.tk
    have a6 := hda.sl
    have a7 := hda.sp
    generalize (makeS s n m).map u8 = M at hmk hrm em bm m1 m2 m3 m4 m5 m6 m7 ⊢
    generalize (pointS s n).map u8 = P at hha hpt ep bp p1 p2 p3 p4 p5 p6 p7 ⊢
    generalize (atS s n).map u8 = A at hat hra hha ea a1 a2 a3 a4 a5 a6 a7 ⊢
    generalize hZ : zS.map u8 = Z at hza
    have hdz : Dg Z := by rw [← hZ]; exact dg_of sec_zero.len
    have z1 := hdz.len
    have z2 := hdz.one
    have z3 := hdz.cl
    have z4 := hdz.st
    have z5 := hdz.tk
    have z6 := hdz.sl
    have z7 := hdz.sp
    have hsp2 : splice Z 0 P = P := splice_all (by rw [z1, p1])
    generalize s.map u8 = D at q1 q2 q5 hqb hmk hrm hat hra hpt ⊢
    first | have hb := hb | have hb := trivial
    repeat' (first | (simp -implicitDefEqProofs (disch := omega) only [hb, F5, h0, h1, hqb, hmk, hrm, hat, hra, hha, hpt, hlv, em, ea, ep, bm, bp, q1, q2, q5, hza, m1, m2, m3, m5, m6, m7, p1, p2, p3, p5, p6, p7, a1, a2, a3, a5, a6, a7, z1, z2, z3, z5, z6, z7, hsp2, wC, initE, aop, Nat.reduceEqDiff, ↓reduceIte, Nat.reduceAdd, finish, resOf, tupOf, AM.freeze, freeze1, freezeL, closed, nam, namL, if_true, if_false, deref, boxAt, exAt, ldCells, oneL, oneCell, Nat.reduceLeDiff, evL, adopt, rigid, rigidL, trim, Int.reduceEq, Int.reduceMod, Int.reduceDiv, if_pos, if_neg, asI, forall_const, implies_true, chkD, chkO, chkW, effB, reB, vEq, beq_self_eq_true, Nat.reduceSub, Nat.reduceLT, Int.reduceSub, Int.reduceAdd, Int.reduceMul, Int.reduceLT, Int.reduceLE, Int.reduceToNat, optI, aslice, cutSl, cutMs, cutStr, cutOwn, cellsOf, one, elCells, lenOf, beqV, beqVL, strip, stripO, convS]) | ((first | rw [WP_condK] | rw [WP_opsG] | rw [WP_quiG] | rw [WP_dG]); refine And.intro (fun hb => ?_) (fun hb => ?_) <;> (first | have hd := dq1 hb | have hd := dq2 hb | have hd := dq3 hb | have hd := dq4 hb | skip)))
    all_goals done
  · have hpp : pointS s n = zS := by unfold pointS; rw [if_neg (by simp [inB]; omega)]
    rw [hpp] at hpt hdp ep bp
    by_cases h0 : 0 ≤ n
    · have h1 : ¬ n ≤ 4095 := by omega
      have m1 := hdm.len
      have m2 := hdm.one
      have m3 := hdm.cl
      have m4 := hdm.st
      have m5 := hdm.tk
      have m6 := hdm.sl
      have m7 := hdm.sp
      have p1 := hdp.len
      have p2 := hdp.one
      have p3 := hdp.cl
      have p4 := hdp.st
      have p5 := hdp.tk
      have p6 := hdp.sl
      have p7 := hdp.sp
      have a1 := hda.len
      have a2 := hda.one
      have a3 := hda.cl
      have a4 := hda.st
      have a5 := hda.tk
      have a6 := hda.sl
      have a7 := hda.sp
      generalize (makeS s n m).map u8 = M at hmk hrm em bm m1 m2 m3 m4 m5 m6 m7 ⊢
      generalize (atS s n).map u8 = A at hat hra ea a1 a2 a3 a4 a5 a6 a7 ⊢
      generalize zS.map u8 = Z at hza hpt ep bp p1 p2 p3 p4 p5 p6 p7 ⊢
      generalize s.map u8 = D at q1 q2 q5 hqb hmk hrm hat hra hpt ⊢
      first | have hb := hb | have hb := trivial
      repeat' (first | (simp -implicitDefEqProofs (disch := omega) only [hb, F5, h0, h1, hqb, hmk, hrm, hat, hra, hpt, hlv, em, ea, ep, bm, bp, q1, q2, q5, hza, m1, m2, m3, m5, m6, m7, p1, p2, p3, p5, p6, p7, a1, a2, a3, a5, a6, a7, wC, initE, aop, Nat.reduceEqDiff, ↓reduceIte, Nat.reduceAdd, finish, resOf, tupOf, AM.freeze, freeze1, freezeL, closed, nam, namL, if_true, if_false, deref, boxAt, exAt, ldCells, oneL, oneCell, Nat.reduceLeDiff, evL, adopt, rigid, rigidL, trim, Int.reduceEq, Int.reduceMod, Int.reduceDiv, if_pos, if_neg, asI, forall_const, implies_true, chkD, chkO, chkW, effB, reB, vEq, beq_self_eq_true, Nat.reduceSub, Nat.reduceLT, Int.reduceSub, Int.reduceAdd, Int.reduceMul, Int.reduceLT, Int.reduceLE, Int.reduceToNat, optI, aslice, cutSl, cutMs, cutStr, cutOwn, cellsOf, one, elCells, lenOf, beqV, beqVL, strip, stripO, convS]) | ((first | rw [WP_condK] | rw [WP_opsG] | rw [WP_quiG] | rw [WP_dG]); refine And.intro (fun hb => ?_) (fun hb => ?_) <;> (first | have hd := dq1 hb | have hd := dq2 hb | have hd := dq3 hb | have hd := dq4 hb | skip)))
      all_goals done
    · skip
      have m1 := hdm.len
      have m2 := hdm.one
      have m3 := hdm.cl
      have m4 := hdm.st
      have m5 := hdm.tk
      have m6 := hdm.sl
      have m7 := hdm.sp
      have p1 := hdp.len
      have p2 := hdp.one
      have p3 := hdp.cl
      have p4 := hdp.st
      have p5 := hdp.tk
      have p6 := hdp.sl
      have p7 := hdp.sp
      have a1 := hda.len
      have a2 := hda.one
      have a3 := hda.cl
      have a4 := hda.st
      have a5 := hda.tk
      have a6 := hda.sl
      have a7 := hda.sp
      generalize (makeS s n m).map u8 = M at hmk hrm em bm m1 m2 m3 m4 m5 m6 m7 ⊢
      generalize (atS s n).map u8 = A at hat hra ea a1 a2 a3 a4 a5 a6 a7 ⊢
      generalize zS.map u8 = Z at hza hpt ep bp p1 p2 p3 p4 p5 p6 p7 ⊢
      generalize s.map u8 = D at q1 q2 q5 hqb hmk hrm hat hra hpt ⊢
      first | have hb := hb | have hb := trivial
      repeat' (first | (simp -implicitDefEqProofs (disch := omega) only [hb, F5, h0, hqb, hmk, hrm, hat, hra, hpt, hlv, em, ea, ep, bm, bp, q1, q2, q5, hza, m1, m2, m3, m5, m6, m7, p1, p2, p3, p5, p6, p7, a1, a2, a3, a5, a6, a7, wC, initE, aop, Nat.reduceEqDiff, ↓reduceIte, Nat.reduceAdd, finish, resOf, tupOf, AM.freeze, freeze1, freezeL, closed, nam, namL, if_true, if_false, deref, boxAt, exAt, ldCells, oneL, oneCell, Nat.reduceLeDiff, evL, adopt, rigid, rigidL, trim, Int.reduceEq, Int.reduceMod, Int.reduceDiv, if_pos, if_neg, asI, forall_const, implies_true, chkD, chkO, chkW, effB, reB, vEq, beq_self_eq_true, Nat.reduceSub, Nat.reduceLT, Int.reduceSub, Int.reduceAdd, Int.reduceMul, Int.reduceLT, Int.reduceLE, Int.reduceToNat, optI, aslice, cutSl, cutMs, cutStr, cutOwn, cellsOf, one, elCells, lenOf, beqV, beqVL, strip, stripO, convS]) | ((first | rw [WP_condK] | rw [WP_opsG] | rw [WP_quiG] | rw [WP_dG]); refine And.intro (fun hb => ?_) (fun hb => ?_) <;> (first | have hd := dq1 hb | have hd := dq2 hb | have hd := dq3 hb | have hd := dq4 hb | skip)))
      all_goals done
end Go.Proofs.YtkihcmlmcgokhaaDoor.AM

/- layer 05: SecretsMakes, SecretsNobody. -/
namespace Go.Proofs.YtkihcmlmcgokhaaDoor.AM
open Go
set_option maxRecDepth 100000
set_option maxHeartbeats 4000000
set_option linter.unusedVariables false
set_option linter.unusedSimpArgs false
theorem make_of_at (s : List Int) (n m : Int) (hn : inB n = true) (hm : inB m = true) (hk : makesB n.toNat m.toNat = true) : makeS (atS s n) n m = atS s m := by
  have h1 : okM n m = true := by unfold okM; rw [hn, hm, hk]; rfl
  unfold makeS atS
  rw [if_pos h1, if_pos hn, if_pos hm]
  simp only [makesB, decide_eq_true_eq] at hk
  exact (walk_comp s (4095 - n.toNat) (4095 - m.toNat) _ (lowS_mod _) hk.symm 12 (lowS_le _)).symm
theorem make_of_last (s : List Int) (m : Int) (hm : inB m = true) : okM 4095 m = true ∧ makeS s 4095 m = atS s m := by
  have hl : lowS (4095 - (4095 : Int).toNat) = 12 := by decide
  obtain ⟨e1, e2⟩ := in_nat hm
  have h1 : okM 4095 m = true := by
    unfold okM
    rw [hm, show inB 4095 = true from by decide]
    simp only [makesB, hl, Bool.true_and, decide_eq_true_eq]
    show (4095 - (4095 : Int).toNat) / 4096 = (4095 - m.toNat) / 4096
    rw [show (4095 : Int).toNat = 4095 from rfl]
    omega
  refine ⟨h1, ?_⟩
  unfold makeS atS
  rw [if_pos h1, if_pos hm, hl]
theorem secretsMakes_ok (s : List Int) (hs : Sec s) (n m : Int) : prun T F3 [.agg (s.map u8), i64 n, i64 m] = some (.bool true) := by
  refine WP_eq (prun_wp ?_)
  have hd := dg_of hs.len
  have q1 := hd.len
  have q2 := hd.one
  have q5 := hd.tk
  have hqb := kbeq s
  have hlv := call_lives
  by_cases h0 : n < 0
  · first | have hb := hb | have hb := trivial
    repeat' (first | (simp -implicitDefEqProofs (disch := omega) only [hb, F3, hlv, q1, q2, h0, wC, initE, aop, Nat.reduceEqDiff, ↓reduceIte, Nat.reduceAdd, finish, resOf, tupOf, AM.freeze, freeze1, freezeL, closed, nam, namL, if_true, if_false, deref, boxAt, exAt, ldCells, oneL, oneCell, Nat.reduceLeDiff, evL, adopt, rigid, rigidL, trim, Int.reduceEq, Int.reduceMod, Int.reduceDiv, if_pos, if_neg, asI, forall_const, implies_true, chkD, chkO, chkW, effB, reB, vEq, beq_self_eq_true, Nat.reduceSub, Nat.reduceLT, Int.reduceSub, Int.reduceAdd, Int.reduceMul, Int.reduceLT, Int.reduceLE, Int.reduceToNat, optI, aslice, cutSl, cutMs, cutStr, cutOwn, cellsOf, one, elCells, lenOf, beqV, beqVL, strip, stripO, convS]) | ((first | rw [WP_condK] | rw [WP_opsG] | rw [WP_quiG] | rw [WP_dG]); refine And.intro (fun hb => ?_) (fun hb => ?_) <;> (first | have hd := dq1 hb | have hd := dq2 hb | have hd := dq3 hb | have hd := dq4 hb | skip)))
  by_cases h1 : 4095 < n
  · first | have hb := hb | have hb := trivial
    repeat' (first | (simp -implicitDefEqProofs (disch := omega) only [hb, F3, hlv, q1, q2, h0, h1, wC, initE, aop, Nat.reduceEqDiff, ↓reduceIte, Nat.reduceAdd, finish, resOf, tupOf, AM.freeze, freeze1, freezeL, closed, nam, namL, if_true, if_false, deref, boxAt, exAt, ldCells, oneL, oneCell, Nat.reduceLeDiff, evL, adopt, rigid, rigidL, trim, Int.reduceEq, Int.reduceMod, Int.reduceDiv, if_pos, if_neg, asI, forall_const, implies_true, chkD, chkO, chkW, effB, reB, vEq, beq_self_eq_true, Nat.reduceSub, Nat.reduceLT, Int.reduceSub, Int.reduceAdd, Int.reduceMul, Int.reduceLT, Int.reduceLE, Int.reduceToNat, optI, aslice, cutSl, cutMs, cutStr, cutOwn, cellsOf, one, elCells, lenOf, beqV, beqVL, strip, stripO, convS]) | ((first | rw [WP_condK] | rw [WP_opsG] | rw [WP_quiG] | rw [WP_dG]); refine And.intro (fun hb => ?_) (fun hb => ?_) <;> (first | have hd := dq1 hb | have hd := dq2 hb | have hd := dq3 hb | have hd := dq4 hb | skip)))
  by_cases h2 : m < 0
  · first | have hb := hb | have hb := trivial
    repeat' (first | (simp -implicitDefEqProofs (disch := omega) only [hb, F3, hlv, q1, q2, h0, h1, h2, wC, initE, aop, Nat.reduceEqDiff, ↓reduceIte, Nat.reduceAdd, finish, resOf, tupOf, AM.freeze, freeze1, freezeL, closed, nam, namL, if_true, if_false, deref, boxAt, exAt, ldCells, oneL, oneCell, Nat.reduceLeDiff, evL, adopt, rigid, rigidL, trim, Int.reduceEq, Int.reduceMod, Int.reduceDiv, if_pos, if_neg, asI, forall_const, implies_true, chkD, chkO, chkW, effB, reB, vEq, beq_self_eq_true, Nat.reduceSub, Nat.reduceLT, Int.reduceSub, Int.reduceAdd, Int.reduceMul, Int.reduceLT, Int.reduceLE, Int.reduceToNat, optI, aslice, cutSl, cutMs, cutStr, cutOwn, cellsOf, one, elCells, lenOf, beqV, beqVL, strip, stripO, convS]) | ((first | rw [WP_condK] | rw [WP_opsG] | rw [WP_quiG] | rw [WP_dG]); refine And.intro (fun hb => ?_) (fun hb => ?_) <;> (first | have hd := dq1 hb | have hd := dq2 hb | have hd := dq3 hb | have hd := dq4 hb | skip)))
  by_cases h3 : 4095 < m
  · first | have hb := hb | have hb := trivial
    repeat' (first | (simp -implicitDefEqProofs (disch := omega) only [hb, F3, hlv, q1, q2, h0, h1, h2, h3, wC, initE, aop, Nat.reduceEqDiff, ↓reduceIte, Nat.reduceAdd, finish, resOf, tupOf, AM.freeze, freeze1, freezeL, closed, nam, namL, if_true, if_false, deref, boxAt, exAt, ldCells, oneL, oneCell, Nat.reduceLeDiff, evL, adopt, rigid, rigidL, trim, Int.reduceEq, Int.reduceMod, Int.reduceDiv, if_pos, if_neg, asI, forall_const, implies_true, chkD, chkO, chkW, effB, reB, vEq, beq_self_eq_true, Nat.reduceSub, Nat.reduceLT, Int.reduceSub, Int.reduceAdd, Int.reduceMul, Int.reduceLT, Int.reduceLE, Int.reduceToNat, optI, aslice, cutSl, cutMs, cutStr, cutOwn, cellsOf, one, elCells, lenOf, beqV, beqVL, strip, stripO, convS]) | ((first | rw [WP_condK] | rw [WP_opsG] | rw [WP_quiG] | rw [WP_dG]); refine And.intro (fun hb => ?_) (fun hb => ?_) <;> (first | have hd := dq1 hb | have hd := dq2 hb | have hd := dq3 hb | have hd := dq4 hb | skip)))
  have hin : inB n = true := by simp [inB]; omega
  have hin2 : inB m = true := by simp [inB]; omega
  have e1 : n = (n.toNat : Int) := by omega
  have e2 : m = (m.toNat : Int) := by omega
  have hmk0 := call_makes n.toNat m.toNat (by omega) (by omega)
  rw [← e1, ← e2] at hmk0
  have hat := call_at s hs n
  have hra := call_rat s hs m
  have hmk := call_make (atS s n) (sec_at hs n) n m
  have hml := call_make s hs 4095 m
  obtain ⟨hl1, hl2⟩ := make_of_last s m hin2
  rw [hl2, show makeE 4095 m = 0 by unfold makeE; rw [if_pos hl1]] at hml
  have ha := sec_at hs m
  cases hb : makesB n.toNat m.toNat with
  | false =>
    rw [hb] at hmk0
    have hno : okM n m = false := by unfold okM; rw [hb]; simp
    have hr : makeS (atS s n) n m = zS := by unfold makeS; rw [hno]; rfl
    have he : makeE n m = 1 := by unfold makeE; rw [hno]; rfl
    rw [hr, he] at hmk
    have hza := zagg_eq
    have ez := keq_same zS
    have hdz := dg_of sec_zero.len
    have z1 := hdz.len
    have z2 := hdz.one
    have z3 := hdz.cl
    have z4 := hdz.st
    have z5 := hdz.tk
    have z6 := hdz.sl
    have z7 := hdz.sp
    generalize (atS s n).map u8 = A at hat hmk
    generalize zS.map u8 = Z at hza hmk ez z1 z2 z3 z4 z5 z6 z7
    generalize s.map u8 = D at q1 q2 q5 hqb hat ⊢
    first | have hb := hb | have hb := trivial
    repeat' (first | (simp -implicitDefEqProofs (disch := omega) only [hb, F3, hlv, q1, q2, q5, hqb, h0, h1, h2, h3, hmk0, hat, hmk, hza, ez, z1, z2, z3, z5, z6, z7, wC, initE, aop, Nat.reduceEqDiff, ↓reduceIte, Nat.reduceAdd, finish, resOf, tupOf, AM.freeze, freeze1, freezeL, closed, nam, namL, if_true, if_false, deref, boxAt, exAt, ldCells, oneL, oneCell, Nat.reduceLeDiff, evL, adopt, rigid, rigidL, trim, Int.reduceEq, Int.reduceMod, Int.reduceDiv, if_pos, if_neg, asI, forall_const, implies_true, chkD, chkO, chkW, effB, reB, vEq, beq_self_eq_true, Nat.reduceSub, Nat.reduceLT, Int.reduceSub, Int.reduceAdd, Int.reduceMul, Int.reduceLT, Int.reduceLE, Int.reduceToNat, optI, aslice, cutSl, cutMs, cutStr, cutOwn, cellsOf, one, elCells, lenOf, beqV, beqVL, strip, stripO, convS]) | ((first | rw [WP_condK] | rw [WP_opsG] | rw [WP_quiG] | rw [WP_dG]); refine And.intro (fun hb => ?_) (fun hb => ?_) <;> (first | have hd := dq1 hb | have hd := dq2 hb | have hd := dq3 hb | have hd := dq4 hb | skip)))
    all_goals done
  | true =>
    rw [hb] at hmk0
    have hok : okM n m = true := by unfold okM; rw [hin, hin2, hb]; rfl
    rw [make_of_at s n m hin hin2 hb, show makeE n m = 0 by unfold makeE; rw [if_pos hok]] at hmk
    have ea := keq_same (atS s m)
    have hba := kbeq (atS s m)
    have hdz := dg_of ha.len
    have z1 := hdz.len
    have z2 := hdz.one
    have z3 := hdz.cl
    have z4 := hdz.st
    have z5 := hdz.tk
    have z6 := hdz.sl
    have z7 := hdz.sp
    generalize (atS s m).map u8 = Z at hra hmk hml ea hba z1 z2 z3 z4 z5 z6 z7
    generalize (atS s n).map u8 = A at hat hmk
    generalize s.map u8 = D at q1 q2 q5 hqb hat hra hml ⊢
    first | have hb := hb | have hb := trivial
    repeat' (first | (simp -implicitDefEqProofs (disch := omega) only [hb, F3, hlv, q1, q2, q5, hqb, h0, h1, h2, h3, hmk0, hat, hra, hmk, hml, ea, hba, z1, z2, z3, z5, z6, z7, wC, initE, aop, Nat.reduceEqDiff, ↓reduceIte, Nat.reduceAdd, finish, resOf, tupOf, AM.freeze, freeze1, freezeL, closed, nam, namL, if_true, if_false, deref, boxAt, exAt, ldCells, oneL, oneCell, Nat.reduceLeDiff, evL, adopt, rigid, rigidL, trim, Int.reduceEq, Int.reduceMod, Int.reduceDiv, if_pos, if_neg, asI, forall_const, implies_true, chkD, chkO, chkW, effB, reB, vEq, beq_self_eq_true, Nat.reduceSub, Nat.reduceLT, Int.reduceSub, Int.reduceAdd, Int.reduceMul, Int.reduceLT, Int.reduceLE, Int.reduceToNat, optI, aslice, cutSl, cutMs, cutStr, cutOwn, cellsOf, one, elCells, lenOf, beqV, beqVL, strip, stripO, convS]) | ((first | rw [WP_condK] | rw [WP_opsG] | rw [WP_quiG] | rw [WP_dG]); refine And.intro (fun hb => ?_) (fun hb => ?_) <;> (first | have hd := dq1 hb | have hd := dq2 hb | have hd := dq3 hb | have hd := dq4 hb | skip)))
    all_goals done
/-! ### nobody's shelf -/
abbrev nilP : AV := .sc (.pointer none)
theorem nget (n : Int) (h : Heap) : ag T 17 [nilP, i64 n] h = some (.tup [.agg (zS.map u8), .bool false], h ++ [.cells (zS.map u8)]) := by
  refine WP_eq (k_wp rfl t17 rfl rfl ?_)
  have hza := zagg_eq
  have hdz := dg_of sec_zero.len
  have z1 := hdz.len
  have z2 := hdz.one
  have z3 := hdz.cl
  have z4 := hdz.st
  have z5 := hdz.tk
  have z6 := hdz.sl
  have z7 := hdz.sp
  generalize hZ : zS.map u8 = Z at hza z1 z2 z3 z4 z5 z6 z7 ⊢
  first | have hb := hb | have hb := trivial
  repeat' (first | (simp -implicitDefEqProofs (disch := omega) only [hb, F17, isNil, hza, z1, z2, z3, z5, z6, z7, wC, initE, aop, Nat.reduceEqDiff, ↓reduceIte, Nat.reduceAdd, finish, resOf, tupOf, AM.freeze, freeze1, freezeL, closed, nam, namL, if_true, if_false, deref, boxAt, exAt, ldCells, oneL, oneCell, Nat.reduceLeDiff, evL, adopt, rigid, rigidL, trim, Int.reduceEq, Int.reduceMod, Int.reduceDiv, if_pos, if_neg, asI, forall_const, implies_true, chkD, chkO, chkW, effB, reB, vEq, beq_self_eq_true, Nat.reduceSub, Nat.reduceLT, Int.reduceSub, Int.reduceAdd, Int.reduceMul, Int.reduceLT, Int.reduceLE, Int.reduceToNat, optI, aslice, cutSl, cutMs, cutStr, cutOwn, cellsOf, one, elCells, lenOf, beqV, beqVL, strip, stripO, convS]) | ((first | rw [WP_condK] | rw [WP_opsG] | rw [WP_quiG] | rw [WP_dG]); refine And.intro (fun hb => ?_) (fun hb => ?_) <;> (first | have hd := dq1 hb | have hd := dq2 hb | have hd := dq3 hb | have hd := dq4 hb | skip)))
  all_goals done
theorem nput (s : List Int) (hs : Sec s) (h : Heap) : ∃ g, ag T 15 [nilP, .agg (s.map u8)] h = some (i64 6, h ++ g) := by
  refine ⟨[.cells (s.map u8)], WP_eq (k_wp rfl t15 rfl rfl ?_)⟩
  have q2 := oneL_u8 s
  first | have hb := hb | have hb := trivial
  repeat' (first | (simp -implicitDefEqProofs (disch := omega) only [hb, F15, isNil, q2, wC, initE, aop, Nat.reduceEqDiff, ↓reduceIte, Nat.reduceAdd, finish, resOf, tupOf, AM.freeze, freeze1, freezeL, closed, nam, namL, if_true, if_false, deref, boxAt, exAt, ldCells, oneL, oneCell, Nat.reduceLeDiff, evL, adopt, rigid, rigidL, trim, Int.reduceEq, Int.reduceMod, Int.reduceDiv, if_pos, if_neg, asI, forall_const, implies_true, chkD, chkO, chkW, effB, reB, vEq, beq_self_eq_true, Nat.reduceSub, Nat.reduceLT, Int.reduceSub, Int.reduceAdd, Int.reduceMul, Int.reduceLT, Int.reduceLE, Int.reduceToNat, optI, aslice, cutSl, cutMs, cutStr, cutOwn, cellsOf, one, elCells, lenOf, beqV, beqVL, strip, stripO, convS]) | ((first | rw [WP_condK] | rw [WP_opsG] | rw [WP_quiG] | rw [WP_dG]); refine And.intro (fun hb => ?_) (fun hb => ?_) <;> (first | have hd := dq1 hb | have hd := dq2 hb | have hd := dq3 hb | have hd := dq4 hb | skip)))
theorem nlen (h : Heap) : ag T 19 [nilP] h = some (i64 0, h) := by
  refine WP_eq (k_wp rfl t19 rfl rfl ?_)
  first | have hb := hb | have hb := trivial
  repeat' (first | (simp -implicitDefEqProofs (disch := omega) only [hb, F19, isNil, wC, initE, aop, Nat.reduceEqDiff, ↓reduceIte, Nat.reduceAdd, finish, resOf, tupOf, AM.freeze, freeze1, freezeL, closed, nam, namL, if_true, if_false, deref, boxAt, exAt, ldCells, oneL, oneCell, Nat.reduceLeDiff, evL, adopt, rigid, rigidL, trim, Int.reduceEq, Int.reduceMod, Int.reduceDiv, if_pos, if_neg, asI, forall_const, implies_true, chkD, chkO, chkW, effB, reB, vEq, beq_self_eq_true, Nat.reduceSub, Nat.reduceLT, Int.reduceSub, Int.reduceAdd, Int.reduceMul, Int.reduceLT, Int.reduceLE, Int.reduceToNat, optI, aslice, cutSl, cutMs, cutStr, cutOwn, cellsOf, one, elCells, lenOf, beqV, beqVL, strip, stripO, convS]) | ((first | rw [WP_condK] | rw [WP_opsG] | rw [WP_quiG] | rw [WP_dG]); refine And.intro (fun hb => ?_) (fun hb => ?_) <;> (first | have hd := dq1 hb | have hd := dq2 hb | have hd := dq3 hb | have hd := dq4 hb | skip)))
theorem nkept (h : Heap) : ag T 16 [nilP] h = some (i64 0, h) := by
  refine WP_eq (k_wp rfl t16 rfl rfl ?_)
  first | have hb := hb | have hb := trivial
  repeat' (first | (simp -implicitDefEqProofs (disch := omega) only [hb, F16, isNil, wC, initE, aop, Nat.reduceEqDiff, ↓reduceIte, Nat.reduceAdd, finish, resOf, tupOf, AM.freeze, freeze1, freezeL, closed, nam, namL, if_true, if_false, deref, boxAt, exAt, ldCells, oneL, oneCell, Nat.reduceLeDiff, evL, adopt, rigid, rigidL, trim, Int.reduceEq, Int.reduceMod, Int.reduceDiv, if_pos, if_neg, asI, forall_const, implies_true, chkD, chkO, chkW, effB, reB, vEq, beq_self_eq_true, Nat.reduceSub, Nat.reduceLT, Int.reduceSub, Int.reduceAdd, Int.reduceMul, Int.reduceLT, Int.reduceLE, Int.reduceToNat, optI, aslice, cutSl, cutMs, cutStr, cutOwn, cellsOf, one, elCells, lenOf, beqV, beqVL, strip, stripO, convS]) | ((first | rw [WP_condK] | rw [WP_opsG] | rw [WP_quiG] | rw [WP_dG]); refine And.intro (fun hb => ?_) (fun hb => ?_) <;> (first | have hd := dq1 hb | have hd := dq2 hb | have hd := dq3 hb | have hd := dq4 hb | skip)))
theorem nfork (h : Heap) : ag T 24 [nilP] h = some (nilP, h) := by
  refine WP_eq (k_wp rfl t24 rfl rfl ?_)
  first | have hb := hb | have hb := trivial
  repeat' (first | (simp -implicitDefEqProofs (disch := omega) only [hb, F24, isNil, wC, initE, aop, Nat.reduceEqDiff, ↓reduceIte, Nat.reduceAdd, finish, resOf, tupOf, AM.freeze, freeze1, freezeL, closed, nam, namL, if_true, if_false, deref, boxAt, exAt, ldCells, oneL, oneCell, Nat.reduceLeDiff, evL, adopt, rigid, rigidL, trim, Int.reduceEq, Int.reduceMod, Int.reduceDiv, if_pos, if_neg, asI, forall_const, implies_true, chkD, chkO, chkW, effB, reB, vEq, beq_self_eq_true, Nat.reduceSub, Nat.reduceLT, Int.reduceSub, Int.reduceAdd, Int.reduceMul, Int.reduceLT, Int.reduceLE, Int.reduceToNat, optI, aslice, cutSl, cutMs, cutStr, cutOwn, cellsOf, one, elCells, lenOf, beqV, beqVL, strip, stripO, convS]) | ((first | rw [WP_condK] | rw [WP_opsG] | rw [WP_quiG] | rw [WP_dG]); refine And.intro (fun hb => ?_) (fun hb => ?_) <;> (first | have hd := dq1 hb | have hd := dq2 hb | have hd := dq3 hb | have hd := dq4 hb | skip)))
theorem secretsNobody_ok (s : List Int) (hs : Sec s) (n : Int) : prun T F7 [.agg (s.map u8), i64 n] = some (.bool true) := by
  refine WP_eq (prun_wp ?_)
  have hd := dg_of hs.len
  have q1 := hd.len
  have q2 := hd.one
  have q5 := hd.tk
  have hlv := call_lives
  have g1 := nget n
  obtain ⟨g, g2⟩ := nput s hs [.cells (s.map u8), .cells (zS.map u8), .cells (zS.map u8)]
  have g3 := nlen
  have g4 := nkept
  have g5 := nfork
  have ez := keq_same zS
  have hza := zagg_eq
  have hdz := dg_of sec_zero.len
  have z1 := hdz.len
  have z2 := hdz.one
  have z3 := hdz.cl
  have z4 := hdz.st
  have z5 := hdz.tk
  have z6 := hdz.sl
  have z7 := hdz.sp
  generalize hZ : zS.map u8 = Z at hza ez g1 g2 z1 z2 z3 z4 z5 z6 z7 ⊢
  generalize s.map u8 = D at q1 q2 q5 g2 ⊢
  first | have hb := hb | have hb := trivial
  repeat' (first | (simp -implicitDefEqProofs (disch := omega) only [hb, F7, hlv, q1, q2, q5, g1, g2, g3, g4, g5, ez, hza, isNil, z1, z2, z3, z5, z6, z7, wC, initE, aop, Nat.reduceEqDiff, ↓reduceIte, Nat.reduceAdd, finish, resOf, tupOf, AM.freeze, freeze1, freezeL, closed, nam, namL, if_true, if_false, deref, boxAt, exAt, ldCells, oneL, oneCell, Nat.reduceLeDiff, evL, adopt, rigid, rigidL, trim, Int.reduceEq, Int.reduceMod, Int.reduceDiv, if_pos, if_neg, asI, forall_const, implies_true, chkD, chkO, chkW, effB, reB, vEq, beq_self_eq_true, Nat.reduceSub, Nat.reduceLT, Int.reduceSub, Int.reduceAdd, Int.reduceMul, Int.reduceLT, Int.reduceLE, Int.reduceToNat, optI, aslice, cutSl, cutMs, cutStr, cutOwn, cellsOf, one, elCells, lenOf, beqV, beqVL, strip, stripO, convS]) | ((first | rw [WP_condK] | rw [WP_opsG] | rw [WP_quiG] | rw [WP_dG]); refine And.intro (fun hb => ?_) (fun hb => ?_) <;> (first | have hd := dq1 hb | have hd := dq2 hb | have hd := dq3 hb | have hd := dq4 hb | skip)))
  all_goals done
end Go.Proofs.YtkihcmlmcgokhaaDoor.AM
