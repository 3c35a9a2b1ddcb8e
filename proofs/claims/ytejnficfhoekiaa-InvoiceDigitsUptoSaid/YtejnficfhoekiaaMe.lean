import Derived.Test.YtejnficfhoekiaaMd
/- A run with pure contracts in the place of functions that have them is a run of the machine. -/
namespace Go.Proofs.Ytejnficfhoekiaa.AM
open Go
set_option linter.unusedVariables false
theorem aexec_ax {T : Tab} {C : Cl} (hc : CLe C (Cω T)) (n : Nat) : ∀ (c : AC) (e : Env) (h : Heap), ole (aexec C n c e h) (ax T c e h)
  | .skip, e, h => by rw [ax_skip]; exact ole.refl _
  | .reg ops, e, h => by rw [ax_reg]; exact (aops_le hc _ _ _).map
  | .regQ ops, e, h => by rw [ax_regQ]; exact (aopsQ_le hc _ _ _).map
  | .regD ops st, e, h => by rw [ax_regD]; exact (runD_le hc _ _ _ _).bind fun r => chkR_le hc e ops st r
  | .seq a b, e, h => by
    rw [ax_seq]
    simp only [aexec]
    refine (aexec_ax hc n a e h).bind fun p => ?_
    obtain ⟨x, e', h'⟩ := p
    cases x
    · exact aexec_ax hc n b _ _
    · exact ole.refl _
    · exact ole.refl _
  | .cond c a b, e, h => by
    rw [ax_condK]
    simp only [aexec]
    split
    · rename_i hv; rw [hv]; exact aexec_ax hc n a e h
    · rename_i hv; rw [hv]; exact aexec_ax hc n b e h
    · exact fun r hr => by cases hr
  | .block id b, e, h => by rw [ax_block]; exact (aexec_ax hc n b e h).map
  | .loop keep gc b, e, h => by
    rw [ax_loop]
    simp only [aexec]
    have : ∀ (k m : Nat) (e : Env) (h : Heap), ole (aloop (aexec C n b) keep gc m k e h) (axl T keep gc b m e h) := by
      intro k m
      induction k with
      | zero => exact fun e h r hr => by simp [aloop] at hr
      | succ k ih =>
        intro e h
        rw [axl_eq]
        simp only [aloop]
        refine (ole.refl _).bind fun p => (aexec_ax hc n b _ _).bind fun q => ?_
        obtain ⟨x, e', h'⟩ := q
        cases x
        · exact ih _ _
        · exact ole.refl _
        · exact ole.refl _
    exact this _ _ _ _
  | .exit id, e, h => by rw [ax_exit]; exact ole.refl _
  | .scope b, e, h => by rw [ax_scope]; exact aexec_ax hc n b e h
  | .ret, e, h => by rw [ax_ret]; exact ole.refl _
/-- contracts in the place of functions -/
def Over (T : Tab) (x : Nat → Option (List AV → Option AV)) : Tab := ⟨fun f => (x f).or (T.ext f), T.fn, T.nat⟩
theorem over_le {T : Tab} {x : Nat → Option (List AV → Option AV)} (hp : ∀ f g, x f = some g → T.pure f = true ∧ ∀ args h, ole (pcall g args h) (ag T f args h)) : ∀ n, CLe ⟨gcall (Over T x) n, (Over T x).pure⟩ (Cω T) := by
  have hpure : (Over T x).pure = T.pure := by
    funext f
    cases hx : x f with
    | none => simp only [Tab.pure, Over, hx, Option.none_or]
    | some g =>
      rw [(hp f g hx).1]
      simp only [Tab.pure, Over, hx, Option.some_or, Option.isSome_some, Bool.true_or]
  intro n
  induction n with
  | zero => exact ⟨hpure, fun f args h r hr => by simp [gcall] at hr⟩
  | succ n ih =>
    refine ⟨hpure, fun f args h => ?_⟩
    simp only [gcall]
    cases hx : x f with
    | some g =>
      simp only [Over, hx, Option.some_or]
      exact (hp f g hx).2 args h
    | none =>
      simp only [Over, hx, Option.none_or]
      cases hx2 : T.ext f with
      | some g => simp only []; rw [ag_ext hx2]; exact ole.refl _
      | none =>
        simp only []
        cases hf : T.fn f with
        | none =>
          simp only []
          cases hn : T.nat f with
          | none => exact fun r hr => by simp at hr
          | some g => rw [ag_nat hx2 hf hn]; exact ole.refl _
        | some F =>
          simp only []
          split
          · rename_i hl
            cases hpu : F.pure with
            | true =>
              simp only [if_true]
              rw [ag_pure hx2 hf hpu args hl]
              refine pcall_le (fun a => ?_) args h
              unfold prun
              exact ((aexec_ax ih n F.body _ _).bind fun _ => ole.refl _).bind fun _ => ole.refl _
            | false =>
              simp only [Bool.false_eq_true, if_false]
              rw [ag_gen hx2 hf hpu args hl]
              exact (aexec_ax ih n F.body _ _).bind fun _ => ole.refl _
          · exact fun r hr => by simp at hr
theorem ag_of_over {T : Tab} {x : Nat → Option (List AV → Option AV)} (hp : ∀ f g, x f = some g → T.pure f = true ∧ ∀ args h, ole (pcall g args h) (ag T f args h)) {n f : Nat} {args : List AV} {h : Heap} {r : AV × Heap} (hr : gcall (Over T x) n f args h = some r) : ag T f args h = some r :=
  (over_le hp n).call f args h r hr
end Go.Proofs.Ytejnficfhoekiaa.AM

/- The rounds of the digest, as the machine runs them: by the kernel, over words that are not known. -/
namespace Go.Proofs.Ytejnficfhoekiaa.AM
open Go
set_option maxRecDepth 100000
set_option linter.unusedVariables false
set_option linter.unusedSimpArgs false
/-- operations on words, as the machine has them -/
def oI (op : BinOp) (a b : Int) : Int := match abin op (.int .u64 a) (.int .u64 b) with | some (.int _ n) => n | _ => 0
def uI (a : Int) : Int := match aun .xor (.int .u64 a) with | some (.int _ n) => n | _ => 0
def ni (l : List Int) (i : Nat) : Int := l.getD i 0
def iRl (n : Nat) (w : Int) : Int := oI .or (oI .shl w n) (oI .shr w (64 - n : Nat))
def iCols (s : List Int) : List Int := k5.map fun x => oI .xor (oI .xor (oI .xor (oI .xor (ni s x) (ni s (x + 5))) (ni s (x + 10))) (ni s (x + 15))) (ni s (x + 20))
def iSums (c : List Int) : List Int := k5.map fun x => oI .xor (ni c ((x + 4) % 5)) (iRl 1 (ni c ((x + 1) % 5)))
def iTurned (s d : List Int) : List Int := k25.map fun j => iRl (nn kBy (nn kFrom j)) (oI .xor (ni s (nn kFrom j)) (ni d (nn kFrom j % 5)))
def iRows (b : List Int) : List Int := k25.map fun j => oI .xor (ni b j) (oI .andNot (ni b (5 * (j / 5) + (j + 2) % 5)) (ni b (5 * (j / 5) + (j + 1) % 5)))
def iRowsR (b : List Int) : List Int := k25.map fun j => oI .xor (ni b j) (oI .and (uI (ni b (5 * (j / 5) + (j + 1) % 5))) (ni b (5 * (j / 5) + (j + 2) % 5)))
def iHead (c : Int) : List Int → List Int
  | [] => []
  | x :: l => oI .xor x c :: l
def iRound (s : List Int) (c : Int) : List Int := iHead c (iRows (iTurned s (iSums (iCols s))))
def iRoundR (s : List Int) (c : Int) : List Int := iHead c (iRowsR (iTurned s (iSums (iCols s))))
abbrev vI (l : List Int) : List AV := l.map fun n => .int .u64 n
def spgT : List AV := (kBy.map fun n => .int .i64 (n : Nat)) ++ ((kTo.map fun n => .int .i64 (n : Nat)) ++ (kCon.map fun n => .int .u64 (n : Nat)))
/-- a sponge's cells: its words, its tables, its rate and place -/
def spgC (s : List AV) (r a : Int) : List AV := s ++ (spgT ++ [.int .i64 r, .int .i64 a])
def tabC : List AV := (kBy.map fun n => .int .i64 (n : Nat)) ++ (kCon.map fun n => .int .u64 (n : Nat))
/-- 32 empty bytes -/
def Z32 : AObj := .cells (List.replicate 32 (.int .u8 0))
theorem mix_k (c r a s0 s1 s2 s3 s4 s5 s6 s7 s8 s9 s10 s11 s12 s13 s14 s15 s16 s17 s18 s19 s20 s21 s22 s23 s24 : Int) :
    (gcall T 60 67 [.ptr 2 0, .ptr 2 25, .ptr 2 50, .int .u64 c] [Z32, Z32, .cells (spgC (vI [s0, s1, s2, s3, s4, s5, s6, s7, s8, s9, s10, s11, s12, s13, s14, s15, s16, s17, s18, s19, s20, s21, s22, s23, s24]) r a)]).map (fun p => (p.1, p.2.take 3)) =
      some (.tup [], [Z32, Z32, .cells (spgC (vI (iRound [s0, s1, s2, s3, s4, s5, s6, s7, s8, s9, s10, s11, s12, s13, s14, s15, s16, s17, s18, s19, s20, s21, s22, s23, s24] c)) r a)]) := by kernel_rfl
/-! ### words -/
abbrev wI (l : List Wd) : List Int := l.map fun w => (w.toNat : Int)
theorem ofInt_nat (a : Wd) : BitVec.ofInt 64 (a.toNat : Int) = a := by
  rw [BitVec.ofInt_natCast, BitVec.ofNat_toNat, BitVec.setWidth_eq]
theorem wrap_nat (a : Wd) : IntKind.u64.wrap (a.toNat : Int) = a.toNat := by
  rw [IntKind.wrap_u64]
  have := a.isLt
  omega
theorem oI_xor (a b : Wd) : oI .xor a.toNat b.toNat = ((a ^^^ b).toNat : Int) := by
  show IntKind.u64.wrap ((BitVec.ofInt 64 (a.toNat : Int) ^^^ BitVec.ofInt 64 (b.toNat : Int)).toNat : Int) = _
  rw [ofInt_nat, ofInt_nat, wrap_nat]
theorem oI_or (a b : Wd) : oI .or a.toNat b.toNat = ((a ||| b).toNat : Int) := by
  show IntKind.u64.wrap ((BitVec.ofInt 64 (a.toNat : Int) ||| BitVec.ofInt 64 (b.toNat : Int)).toNat : Int) = _
  rw [ofInt_nat, ofInt_nat, wrap_nat]
theorem oI_and (a b : Wd) : oI .and a.toNat b.toNat = ((a &&& b).toNat : Int) := by
  show IntKind.u64.wrap ((BitVec.ofInt 64 (a.toNat : Int) &&& BitVec.ofInt 64 (b.toNat : Int)).toNat : Int) = _
  rw [ofInt_nat, ofInt_nat, wrap_nat]
theorem oI_andNot (a b : Wd) : oI .andNot a.toNat b.toNat = ((a &&& ~~~b).toNat : Int) := by
  show IntKind.u64.wrap ((BitVec.ofInt 64 (a.toNat : Int) &&& ~~~BitVec.ofInt 64 (b.toNat : Int)).toNat : Int) = _
  rw [ofInt_nat, ofInt_nat, wrap_nat]
theorem uI_not (a : Wd) : uI a.toNat = ((~~~a).toNat : Int) := by
  show IntKind.u64.wrap ((BitVec.ofInt 64 (18446744073709551615 : Int) ^^^ BitVec.ofInt 64 (a.toNat : Int)).toNat : Int) = _
  rw [ofInt_nat, wrap_nat, show BitVec.ofInt 64 (18446744073709551615 : Int) = BitVec.allOnes 64 from by kernel_rfl, BitVec.allOnes_xor]
theorem oI_shl (a : Wd) (n : Nat) (hn : n ≤ 64) : oI .shl a.toNat (n : Nat) = ((a <<< n).toNat : Int) := by
  have h0 : ¬ ((n : Int) < 0) := by omega
  show (match (if (n : Int) < 0 then none else some (Value.int .u64 (IntKind.u64.wrap ((a.toNat : Int) * 2 ^ min (n : Int).toNat 64)))) with | some (.int _ m) => m | _ => (0 : Int)) = _
  rw [if_neg h0]
  show IntKind.u64.wrap ((a.toNat : Int) * 2 ^ min (n : Int).toNat 64) = _
  have h1 : ((a.toNat * 2 ^ n : Nat) : Int) = (a.toNat : Int) * 2 ^ n := by rw [Int.natCast_mul, Int.natCast_pow]; rfl
  rw [Int.toNat_natCast, Nat.min_eq_left hn, IntKind.wrap_u64, BitVec.toNat_shiftLeft, Nat.shiftLeft_eq, ← h1]
  generalize a.toNat * 2 ^ n = x
  show (x : Int) % 18446744073709551616 = ((x % 18446744073709551616 : Nat) : Int)
  omega
theorem oI_shr (a : Wd) (n : Nat) (hn : n ≤ 64) : oI .shr a.toNat (n : Nat) = ((a >>> n).toNat : Int) := by
  have h0 : ¬ ((n : Int) < 0) := by omega
  show (match (if (n : Int) < 0 then none else some (Value.int .u64 ((a.toNat : Int).fdiv (2 ^ min (n : Int).toNat 64)))) with | some (.int _ m) => m | _ => (0 : Int)) = _
  rw [if_neg h0]
  show (a.toNat : Int).fdiv (2 ^ min (n : Int).toNat 64) = _
  rw [Int.toNat_natCast, Nat.min_eq_left hn, BitVec.toNat_ushiftRight, Nat.shiftRight_eq_div_pow, Int.fdiv_eq_ediv_of_nonneg _ (Int.le_of_lt (Int.pow_pos (by decide)))]
  norm_cast
theorem ni_w (s : List Wd) (i : Nat) : ni (wI s) i = ((nw s i).toNat : Int) := by
  simp only [ni, nw, wI, List.getD_eq_getElem?_getD, List.getElem?_map]
  cases s[i]? <;> rfl
theorem iRl_w (n : Nat) (hn : n ≤ 64) (w : Wd) : iRl n w.toNat = ((rl n w).toNat : Int) := by
  rw [iRl, oI_shl _ _ hn, oI_shr _ _ (by omega), oI_or]; rfl
theorem iCols_w (s : List Wd) : iCols (wI s) = wI (kCols s) := by
  simp only [iCols, kCols, ni_w, oI_xor, List.map_map, Function.comp_def]
theorem iSums_w (s : List Wd) : iSums (wI s) = wI (kSums s) := by
  simp only [iSums, kSums, ni_w, iRl_w 1 (by decide), oI_xor, List.map_map, Function.comp_def]
theorem by_le : ∀ x, nn kBy x ≤ 64 := by
  intro x
  unfold nn
  rw [List.getD_eq_getElem?_getD]
  cases h : kBy[x]? with
  | none => simp
  | some v =>
    have := List.mem_of_getElem? h
    have hall : ∀ v ∈ kBy, v ≤ 64 := by decide
    exact hall v this
theorem iTurned_w (s d : List Wd) : iTurned (wI s) (wI d) = wI (kTurned s d) := by
  simp only [iTurned, kTurned, ni_w, oI_xor, List.map_map, Function.comp_def]
  apply List.map_congr_left
  intro x _
  exact iRl_w _ (by_le _) _
theorem iRows_w (s : List Wd) : iRows (wI s) = wI (kRows s) := by
  simp only [iRows, kRows, ni_w, oI_xor, oI_andNot, List.map_map, Function.comp_def]
theorem iRowsR_w (s : List Wd) : iRowsR (wI s) = wI (kRows s) := by
  simp only [iRowsR, kRows, ni_w, uI_not, oI_xor, oI_and, List.map_map, Function.comp_def]
  apply List.map_congr_left
  intro x _
  rw [BitVec.and_comm]
theorem iHead_w (c : Wd) : ∀ s : List Wd, iHead c.toNat (wI s) = wI (kHead c s)
  | [] => rfl
  | x :: l => by simp only [iHead, kHead, wI, List.map_cons, oI_xor]
theorem iRound_w (s : List Wd) (c : Wd) : iRound (wI s) c.toNat = wI (kRound s c) := by
  simp only [iRound, kRound, iCols_w, iSums_w, iTurned_w, iRows_w, iHead_w]
theorem iRoundR_w (s : List Wd) (c : Wd) : iRoundR (wI s) c.toNat = wI (kRound s c) := by
  simp only [iRoundR, kRound, iCols_w, iSums_w, iTurned_w, iRowsR_w, iHead_w]
end Go.Proofs.Ytejnficfhoekiaa.AM

/- The digest, as the machine runs it: all rounds, bytes in, bytes out. -/
namespace Go.Proofs.Ytejnficfhoekiaa.AM
open Go
set_option maxRecDepth 100000
set_option maxHeartbeats 4000000
set_option linter.unusedVariables false
set_option linter.unusedSimpArgs false
theorem k_wp {f : Nat} {F : AFn} {args : List AV} {h : Heap} {Q : AV × Heap → Prop} (hx : T.ext f = none) (hf : T.fn f = some F) (hp : F.pure = false) (hl : args.length = F.np) (hw : WP (BQ (fin F.res) Q) (ax T F.body (initE 0 args) h)) : WP Q (ag T f args h) := by
  rw [ag_gen hx hf hp args hl, WP_bind]
  exact hw
abbrev wv (l : List Wd) : List AV := vI (wI l)
theorem words25 {s : List Wd} (h : s.length = 25) : s = k25.map (nw s) := by
  apply List.ext_getElem?
  intro i
  by_cases hi : i < 25
  · have h1 : s[i]? = some (nw s i) := by
      rw [nw, List.getD_eq_getElem?_getD, List.getElem?_eq_getElem (by omega)]; rfl
    rw [h1, List.getElem?_map]
    have h2 : k25[i]? = some i := by
      have : ∀ i, i < 25 → k25[i]? = some i := by decide
      exact this i hi
    rw [h2]; rfl
  · rw [List.getElem?_eq_none (by omega), List.getElem?_eq_none (by simp [k25]; omega)]
theorem call_mix (s : List Wd) (hs : s.length = 25) (c : Wd) (r a : Int) : ∃ g, ag T 67 [.ptr 2 0, .ptr 2 25, .ptr 2 50, .int .u64 c.toNat] [Z32, Z32, .cells (spgC (wv s) r a)] = some (.tup [], [Z32, Z32, .cells (spgC (wv (kRound s c)) r a)] ++ g) := by
  have hk := mix_k c.toNat r a (nw s 0).toNat (nw s 1).toNat (nw s 2).toNat (nw s 3).toNat (nw s 4).toNat (nw s 5).toNat (nw s 6).toNat (nw s 7).toNat (nw s 8).toNat (nw s 9).toNat (nw s 10).toNat (nw s 11).toNat (nw s 12).toNat (nw s 13).toNat (nw s 14).toNat (nw s 15).toNat (nw s 16).toNat (nw s 17).toNat (nw s 18).toNat (nw s 19).toNat (nw s 20).toNat (nw s 21).toNat (nw s 22).toNat (nw s 23).toNat (nw s 24).toNat
  have hw : ([((nw s 0).toNat : Int), (nw s 1).toNat, (nw s 2).toNat, (nw s 3).toNat, (nw s 4).toNat, (nw s 5).toNat, (nw s 6).toNat, (nw s 7).toNat, (nw s 8).toNat, (nw s 9).toNat, (nw s 10).toNat, (nw s 11).toNat, (nw s 12).toNat, (nw s 13).toNat, (nw s 14).toNat, (nw s 15).toNat, (nw s 16).toNat, (nw s 17).toNat, (nw s 18).toNat, (nw s 19).toNat, (nw s 20).toNat, (nw s 21).toNat, (nw s 22).toNat, (nw s 23).toNat, (nw s 24).toNat] : List Int) = wI s := by
    conv => rhs; rw [words25 hs]
    rfl
  rw [hw, iRound_w, Option.map_eq_some_iff] at hk
  obtain ⟨⟨v, h'⟩, hg, he⟩ := hk
  simp only [Prod.mk.injEq] at he
  obtain ⟨rfl, he⟩ := he
  refine ⟨h'.drop 3, ?_⟩
  rw [← he, List.take_append_drop]
  exact ag_of_gcall hg
theorem spg_len (s : List AV) (r a : Int) : (spgC s r a).length = s.length + 76 := by simp [spgC, spgT, kBy, kTo, kCon]
theorem spg_drop {s : List AV} (hs : s.length = 25) (r a : Int) (n : Nat) : (spgC s r a).drop (25 + n) = (spgT ++ [AV.int .i64 r, AV.int .i64 a]).drop n := by
  rw [spgC, List.drop_append, List.drop_of_length_le (by omega), List.nil_append]; congr 1; omega
def conC : List AV := kCon.map fun n => .int .u64 (n : Nat)
theorem spg_con {s : List AV} (hs : s.length = 25) (r a : Int) : ldCells (some 24) ((spgC s r a).drop 75) = some (.agg conC) := by
  rw [spg_drop hs r a 50]; rfl
theorem spg_rate {s : List AV} (hs : s.length = 25) (r a : Int) : (spgC s r a)[99]? = some (.int .i64 r) := by
  have := spg_drop hs r a 74
  have h2 := congrArg (·[0]?) this
  simp only [List.getElem?_drop, Nat.add_zero] at h2
  exact h2.trans rfl
theorem spg_at {s : List AV} (hs : s.length = 25) (r a : Int) : (spgC s r a)[100]? = some (.int .i64 a) := by
  have := spg_drop hs r a 75
  have h2 := congrArg (·[0]?) this
  simp only [List.getElem?_drop, Nat.add_zero] at h2
  exact h2.trans rfl
theorem spg_setAt {s : List AV} (hs : s.length = 25) (r a b : Int) : (spgC s r a).set 100 (.int .i64 b) = spgC s r b := by
  rw [spgC, List.set_append_right _ _ (by omega), hs]; rfl
theorem spg_set {s : List AV} (hs : s.length = 25) (r a : Int) (i : Nat) (hi : i < 25) (x : AV) : (spgC s r a).set i x = spgC (s.set i x) r a := by
  rw [spgC, List.set_append_left _ _ (by omega)]; rfl
theorem wv_len (s : List Wd) : (wv s).length = s.length := by simp [vI, wI]
theorem wv_below (p : Nat → Bool) : ∀ s : List Wd, namL p (wv s) = true
  | [] => rfl
  | w :: s => wv_below p s
theorem namL_app (p : Nat → Bool) : ∀ (a b : List AV), namL p (a ++ b) = (namL p a && namL p b)
  | [], b => by simp [namL]
  | x :: a, b => by simp only [List.cons_append, namL, namL_app p a b, Bool.and_assoc]
theorem spg_below (p : Nat → Bool) (s : List Wd) (r a : Int) : namL p (spgC (wv s) r a) = true := by
  rw [spgC, namL_app, namL_app, wv_below]; rfl
def kFold (n : Nat) (s : List Wd) : List Wd := ((kCon.take n).map (BitVec.ofNat 64)).foldl kRound s
theorem kFold_length {s : List Wd} (hs : s.length = 25) (n : Nat) : (kFold n s).length = 25 := kFold_len _ s hs
theorem kFold_succ (s : List Wd) (i : Nat) (hi : i < 24) : kFold (i + 1) s = kRound (kFold i s) (BitVec.ofNat 64 (nn kCon i)) := by
  have h1 : kCon.take (i + 1) = kCon.take i ++ [nn kCon i] := by
    have : ∀ i, i < 24 → kCon.take (i + 1) = kCon.take i ++ [nn kCon i] := by decide
    exact this i hi
  rw [kFold, h1, List.map_append, List.foldl_append]; rfl
theorem con_get (i : Nat) (hi : i < 24) : conC[i]? = some (.int .u64 ((BitVec.ofNat 64 (nn kCon i)).toNat : Int)) := by
  have h1 : ∀ i, i < 24 → kCon[i]? = some (BitVec.ofNat 64 (nn kCon i)).toNat := by decide
  rw [conC, List.getElem?_map, h1 i hi]; rfl
theorem all_ok (s : List Wd) (hs : s.length = 25) (r a : Int) : ag T 63 [.ptr 2 0] [Z32, Z32, .cells (spgC (wv s) r a)] = some (.tup [], [Z32, Z32, .cells (spgC (wv (kPerm s)) r 0)]) := by
  refine WP_eq (k_wp rfl t63 rfl rfl ?_)
  have h75 := spg_con (by rw [wv_len, hs] : (wv s).length = 25) r a
  first | have hb := hb | have hb := trivial
  repeat' (first | (simp -implicitDefEqProofs (disch := omega) only [hb, F63, h75, wC, initE, aop, Nat.reduceEqDiff, ↓reduceIte, Nat.reduceAdd, finish, resOf, tupOf, AM.freeze, freeze1, freezeL, closed, nam, namL, if_true, if_false, deref, boxAt, exAt, oneL, oneCell, Nat.reduceLeDiff, evL, adopt, rigid, rigidL, trim, Int.reduceEq, Int.reduceMod, Int.reduceDiv, if_pos, if_neg, asI, forall_const, implies_true, chkD, chkO, chkW, effB, reB, vEq, beq_self_eq_true, Nat.reduceSub, Nat.reduceLT, Int.reduceSub, Int.reduceAdd, Int.reduceMul, Int.reduceLT, Int.reduceLE, Int.reduceToNat, optI, aslice, cutSl, cutMs, cutStr, cutOwn, cellsOf, one, elCells, lenOf, beqV, beqVL, strip, stripO, convS]) | ((first | rw [WP_condK] | rw [WP_opsG] | rw [WP_quiG] | rw [WP_dG]); refine And.intro (fun hb => ?_) (fun hb => ?_) <;> (first | have hd := dq1 hb | have hd := dq2 hb | have hd := dq3 hb | have hd := dq4 hb | skip)))
  refine WP_loop (I := fun n e h => ∃ i g, i ≤ 24 ∧ n = 24 - i ∧ getE e 0 = .ptr 2 0 ∧ getE e 7 = .agg conC ∧ getE e 8 = i64 i ∧ h = [Z32, Z32, .cells (spgC (wv (kFold i s)) r a)] ++ g) ?_ 24 _ _ ⟨0, [], by omega, rfl, rfl, rfl, rfl, rfl⟩
  rintro n e h ⟨i, g, hi, rfl, h0, h7, h8, rfl⟩
  have hl := kFold_length hs i
  rw [trim_take (by simp only [List.all_cons, List.all_nil, h0, h7, h8]; rfl) (by simp only [List.cons_append, List.nil_append, List.length_cons, List.length_nil, List.take_succ_cons, List.take_zero, List.all_cons, List.all_nil, belowO, belowL, spg_below, Bool.and_true]; rfl)]
  by_cases h24 : i < 24
  · obtain ⟨g2, hm⟩ := call_mix (kFold i s) hl (BitVec.ofNat 64 (nn kCon i)) r a
    have hc := con_get i h24
    first | have hb := hb | have hb := trivial
    repeat' (first | (simp -implicitDefEqProofs (disch := omega) only [hb, L63_0, h0, h7, h8, h24, hc, hm, wC, initE, aop, Nat.reduceEqDiff, ↓reduceIte, Nat.reduceAdd, finish, resOf, tupOf, AM.freeze, freeze1, freezeL, closed, nam, namL, if_true, if_false, deref, boxAt, exAt, ldCells, oneL, oneCell, Nat.reduceLeDiff, evL, adopt, rigid, rigidL, trim, Int.reduceEq, Int.reduceMod, Int.reduceDiv, if_pos, if_neg, asI, forall_const, implies_true, chkD, chkO, chkW, effB, reB, vEq, beq_self_eq_true, Nat.reduceSub, Nat.reduceLT, Int.reduceSub, Int.reduceAdd, Int.reduceMul, Int.reduceLT, Int.reduceLE, Int.reduceToNat, optI, aslice, cutSl, cutMs, cutStr, cutOwn, cellsOf, one, elCells, lenOf, beqV, beqVL, strip, stripO, convS]) | ((first | rw [WP_condK] | rw [WP_opsG] | rw [WP_quiG] | rw [WP_dG]); refine And.intro (fun hb => ?_) (fun hb => ?_) <;> (first | have hd := dq1 hb | have hd := dq2 hb | have hd := dq3 hb | have hd := dq4 hb | skip)))
    exact ⟨23 - i, by omega, i + 1, g2, by omega, by omega, rfl, by rw [kFold_succ _ _ h24]⟩
  · obtain rfl : i = 24 := by omega
    have hn : (spgC (wv (kFold 24 s)) r a).length = 101 := by rw [spg_len, wv_len, hl]
    have hst := spg_setAt (by rw [wv_len, hl] : (wv (kFold 24 s)).length = 25) r a 0
    first | have hb := hb | have hb := trivial
    repeat' (first | (simp -implicitDefEqProofs (disch := omega) only [hb, L63_0, h0, h7, h8, hn, hst, wC, initE, aop, Nat.reduceEqDiff, ↓reduceIte, Nat.reduceAdd, finish, resOf, tupOf, AM.freeze, freeze1, freezeL, closed, nam, namL, if_true, if_false, deref, boxAt, exAt, ldCells, oneL, oneCell, Nat.reduceLeDiff, evL, adopt, rigid, rigidL, trim, Int.reduceEq, Int.reduceMod, Int.reduceDiv, if_pos, if_neg, asI, forall_const, implies_true, chkD, chkO, chkW, effB, reB, vEq, beq_self_eq_true, Nat.reduceSub, Nat.reduceLT, Int.reduceSub, Int.reduceAdd, Int.reduceMul, Int.reduceLT, Int.reduceLE, Int.reduceToNat, optI, aslice, cutSl, cutMs, cutStr, cutOwn, cellsOf, one, elCells, lenOf, beqV, beqVL, strip, stripO, convS]) | ((first | rw [WP_condK] | rw [WP_opsG] | rw [WP_quiG] | rw [WP_dG]); refine And.intro (fun hb => ?_) (fun hb => ?_) <;> (first | have hd := dq1 hb | have hd := dq2 hb | have hd := dq3 hb | have hd := dq4 hb | skip)))
    rfl
/-- a byte into a place -/
theorem wv_set (s : List Wd) (i : Nat) (w : Wd) : (wv s).set i (.int .u64 w.toNat) = wv (s.set i w) := by
  simp only [wv, vI, wI, List.map_set]
theorem wv_get {s : List Wd} {i : Nat} (hi : i < s.length) : (wv s)[i]? = some (.int .u64 (nw s i).toNat) := by
  simp only [wv, vI, wI, List.getElem?_map, nw, List.getD_eq_getElem?_getD, List.getElem?_eq_getElem hi, Option.map_some, Option.getD_some]
theorem spg_get {s : List Wd} (hs : s.length = 25) (r a : Int) {i : Nat} (hi : i < 25) : (spgC (wv s) r a)[i]? = some (.int .u64 (nw s i).toNat) := by
  rw [spgC, List.getElem?_append_left (by rw [wv_len]; omega), wv_get (by omega)]
theorem bin_xorW (a b : Wd) : abin .xor (.int .u64 a.toNat) (.int .u64 b.toNat) = some (.int .u64 (a ^^^ b).toNat) := by
  have := oI_xor a b
  show some (Value.int .u64 (oI .xor a.toNat b.toNat)) = _
  rw [this]
theorem bin_shlW (k : IntKind) (x : Int) (n : Nat) (hn : n ≤ 64) (h0 : 0 ≤ x) (h1 : x ≤ 255) : abin .shl (.int .u64 x) (.int k (n : Nat)) = some (.int .u64 (BitVec.ofInt 64 x <<< n).toNat) := by
  have hx : x = ((BitVec.ofInt 64 x).toNat : Int) := by rw [BitVec.toNat_ofInt]; omega
  have hn0 : ¬ ((n : Int) < 0) := by omega
  have := oI_shl (BitVec.ofInt 64 x) n hn
  rw [← hx] at this
  have e : abin .shl (.int .u64 x) (.int k (n : Nat)) = some (.int .u64 (oI .shl x n)) := by
    simp only [oI, abin, ashift, if_neg hn0]
  rw [e, this]
theorem bin_shrW (k : IntKind) (w : Wd) (n : Nat) (hn : n ≤ 64) : abin .shr (.int .u64 w.toNat) (.int k (n : Nat)) = some (.int .u64 (w >>> n).toNat) := by
  have hn0 : ¬ ((n : Int) < 0) := by omega
  have e : abin .shr (.int .u64 w.toNat) (.int k (n : Nat)) = some (.int .u64 (oI .shr w.toNat n)) := by
    simp only [oI, abin, ashift, if_neg hn0]
  rw [e, oI_shr _ _ hn]
theorem add_ok (s : List Wd) (hs : s.length = 25) (r a : Int) (i : Nat) (hi : i < 200) (b : Int) (h0 : 0 ≤ b) (h1 : b ≤ 255) : ag T 62 [.ptr 2 0, i64 i, u8 b] [Z32, Z32, .cells (spgC (wv s) r a)] = some (.tup [], [Z32, Z32, .cells (spgC (wv (kAdd s i b)) r a)]) := by
  refine WP_eq (k_wp rfl t62 rfl rfl ?_)
  have hq : ((i : Int).tdiv 8) = ((i / 8 : Nat) : Int) := by rw [Int.tdiv_eq_ediv_of_nonneg (by omega)]; omega
  have hm : ((i : Int).tmod 8) = ((i % 8 : Nat) : Int) := by rw [Int.tmod_eq_emod_of_nonneg (by omega)]; omega
  have h8 : (8 : Int) * ((i % 8 : Nat) : Int) = ((8 * (i % 8) : Nat) : Int) := by omega
  have hg := spg_get hs r a (i := i / 8) (by omega)
  have hsh := bin_shlW .i64 b (8 * (i % 8)) (by omega) h0 h1
  have hx := bin_xorW (nw s (i / 8)) (BitVec.ofInt 64 b <<< (8 * (i % 8)))
  have hw : IntKind.u64.wrap b = b := by rw [IntKind.wrap_u64]; omega
  have hset := spg_set (by rw [wv_len, hs] : (wv s).length = 25) r a (i / 8) (by omega) (.int .u64 ((nw s (i / 8)) ^^^ (BitVec.ofInt 64 b <<< (8 * (i % 8)))).toNat)
  rw [wv_set] at hset
  have hn : (spgC (wv s) r a).length = 101 := by rw [spg_len, wv_len, hs]
  first | have hb := hb | have hb := trivial
  repeat' (first | (simp -implicitDefEqProofs (disch := omega) only [hb, F62, hq, hm, h8, hg, hsh, hx, hw, hset, hn, wC, initE, aop, Nat.reduceEqDiff, ↓reduceIte, Nat.reduceAdd, finish, resOf, tupOf, AM.freeze, freeze1, freezeL, closed, nam, namL, if_true, if_false, deref, boxAt, exAt, ldCells, oneL, oneCell, Nat.reduceLeDiff, evL, adopt, rigid, rigidL, trim, Int.reduceEq, Int.reduceMod, Int.reduceDiv, if_pos, if_neg, asI, forall_const, implies_true, chkD, chkO, chkW, effB, reB, vEq, beq_self_eq_true, Nat.reduceSub, Nat.reduceLT, Int.reduceSub, Int.reduceAdd, Int.reduceMul, Int.reduceLT, Int.reduceLE, Int.reduceToNat, optI, aslice, cutSl, cutMs, cutStr, cutOwn, cellsOf, one, elCells, lenOf, beqV, beqVL, strip, stripO, convS]) | ((first | rw [WP_condK] | rw [WP_opsG] | rw [WP_quiG] | rw [WP_dG]); refine And.intro (fun hb => ?_) (fun hb => ?_) <;> (first | have hd := dq1 hb | have hd := dq2 hb | have hd := dq3 hb | have hd := dq4 hb | skip)))
  rfl
end Go.Proofs.Ytejnficfhoekiaa.AM

/- The digest, as the machine runs it: what is taken in. -/
namespace Go.Proofs.Ytejnficfhoekiaa.AM
open Go
set_option maxRecDepth 100000
set_option maxHeartbeats 4000000
set_option linter.unusedVariables false
set_option linter.unusedSimpArgs false
structure KS (p : List Wd × Nat) : Prop where
  len : p.1.length = 25
  lt : p.2 < 136
theorem KS.step {p : List Wd × Nat} (h : KS p) (b : Int) : KS (kStep 136 p b) := by
  unfold kStep
  split
  · exact ⟨kPerm_len (kAdd_len h.len _ _), by show (0 : Nat) < 136; omega⟩
  · have := h.lt
    exact ⟨kAdd_len h.len _ _, by show p.2 + 1 < 136; omega⟩
theorem KS.fold : ∀ (l : List Int) {p : List Wd × Nat}, KS p → KS (l.foldl (kStep 136) p)
  | [], p, h => h
  | b :: l, p, h => KS.fold l (h.step b)
theorem fold_snoc (l : List Int) (p : List Wd × Nat) {j : Nat} (hj : j < l.length) : (l.take (j + 1)).foldl (kStep 136) p = kStep 136 ((l.take j).foldl (kStep 136) p) l[j] := by
  rw [List.take_succ_eq_append_getElem hj, List.foldl_append]; rfl
def spH (p : List Wd × Nat) : Heap := [Z32, Z32, .cells (spgC (wv p.1) 136 p.2)]
theorem spH_below (p : List Wd × Nat) : ((spH p).take 3).all (belowO 3) = true := by
  simp only [spH, List.take_succ_cons, List.take_zero, List.all_cons, List.all_nil, belowO, belowL, spg_below, Bool.and_true]; rfl
theorem below_of (m : Nat) {x : AV} (h : closed x = true) : below m x = true := closed_below' m x h
theorem take_in (l : List Int) (hl : Bytes l) (hn : l.length ≤ 140737488351232) (p0 : List Wd × Nat) (hp : KS p0) (o : AOwn) (pv : AV) (en k i : Int) (keep : List Nat) (hkeep : keep = [0, 2, 10, 11, 12, 16, 17, 18]) (hcl : closed pv = true) (hcx : closed (.slice o none (l.map u8)) = true)
    (Q : Res → Prop) (e : Env) (h : Heap) (h0 : getE e 0 = .ptr 2 0) (h2 : getE e 2 = u8 en) (h10 : getE e 10 = pv) (h11 : getE e 11 = i64 k) (h12 : getE e 12 = i64 i) (h16 : getE e 16 = .slice o none (l.map u8)) (h17 : getE e 17 = i64 l.length) (h18 : getE e 18 = i64 0) (hh : h = spH p0)
    (hq : ∀ e', getE e' 0 = .ptr 2 0 → getE e' 2 = u8 en → getE e' 10 = pv → getE e' 11 = i64 k → getE e' 12 = i64 i → Q (.exit 2, e', spH (l.foldl (kStep 136) p0))) :
    WP Q (axl T keep true L52_0 3 e h) := by
  subst hkeep
  refine WP_loop (I := fun n e h => ∃ j, j ≤ l.length ∧ n = l.length - j ∧ getE e 0 = .ptr 2 0 ∧ getE e 2 = u8 en ∧ getE e 10 = pv ∧ getE e 11 = i64 k ∧ getE e 12 = i64 i ∧ getE e 16 = .slice o none (l.map u8) ∧ getE e 17 = i64 l.length ∧ getE e 18 = i64 j ∧ h = spH ((l.take j).foldl (kStep 136) p0)) ?_ l.length _ _ ⟨0, by omega, rfl, h0, h2, h10, h11, h12, h16, h17, h18, hh⟩
  rintro n e h ⟨j, hj, rfl, h0, h2, h10, h11, h12, h16, h17, h18, rfl⟩
  have b10 := below_of 3 hcl
  have b16 := below_of 3 hcx
  rw [trim_take (by simp only [List.all_cons, List.all_nil, h0, h2, h10, h11, h12, h16, h17, h18, b10, b16]; rfl) (spH_below _)]
  have hks := KS.fold (l.take j) hp
  by_cases hjl : j < l.length
  · have hfs := fold_snoc l p0 hjl
    generalize (l.take j).foldl (kStep 136) p0 = p at hks hfs ⊢
    obtain ⟨s, a⟩ := p
    have hs : s.length = 25 := hks.len
    have ha : a < 136 := hks.lt
    have hb := hl _ (List.getElem_mem hjl)
    have hgu := get_u8 hjl
    have hadd := add_ok s hs 136 a a (by omega) l[j] hb.1 hb.2
    have hs1 : (wv (kAdd s a l[j])).length = 25 := by rw [wv_len, kAdd_len hs]
    have f1 := spg_at (by rw [wv_len, hs] : (wv s).length = 25) 136 a
    have f2 := spg_at hs1 136 a
    have f3 := spg_setAt hs1 136 a ((a + 1 : Nat) : Int)
    have f4 := spg_at hs1 136 ((a + 1 : Nat) : Int)
    have f5 := spg_rate hs1 136 ((a + 1 : Nat) : Int)
    have f6 : (spgC (wv (kAdd s a l[j])) 136 a).length = 101 := by rw [spg_len, hs1]
    have hall := all_ok (kAdd s a l[j]) (kAdd_len hs _ _) 136 ((a + 1 : Nat) : Int)
    by_cases hr : a + 1 = 136
    · have hri : ((a + 1 : Nat) : Int) = 136 := by omega
      rw [hri] at f3 f4 f5 hall
      first | have hb := hb | have hb := trivial
      repeat' (first | (simp -implicitDefEqProofs (disch := omega) only [hb, L52_0, spH, h0, h2, h10, h11, h12, h16, h17, h18, hgu, hadd, f1, f2, f3, f4, f5, f6, hall, hri, wC, initE, aop, Nat.reduceEqDiff, ↓reduceIte, Nat.reduceAdd, finish, resOf, tupOf, AM.freeze, freeze1, freezeL, closed, nam, namL, if_true, if_false, deref, boxAt, exAt, ldCells, oneL, oneCell, Nat.reduceLeDiff, evL, adopt, rigid, rigidL, trim, Int.reduceEq, Int.reduceMod, Int.reduceDiv, if_pos, if_neg, asI, forall_const, implies_true, chkD, chkO, chkW, effB, reB, vEq, beq_self_eq_true, Nat.reduceSub, Nat.reduceLT, Int.reduceSub, Int.reduceAdd, Int.reduceMul, Int.reduceLT, Int.reduceLE, Int.reduceToNat, optI, aslice, cutSl, cutMs, cutStr, cutOwn, cellsOf, one, elCells, lenOf, beqV, beqVL, strip, stripO, convS]) | ((first | rw [WP_condK] | rw [WP_opsG] | rw [WP_quiG] | rw [WP_dG]); refine And.intro (fun hb => ?_) (fun hb => ?_) <;> (first | have hd := dq1 hb | have hd := dq2 hb | have hd := dq3 hb | have hd := dq4 hb | skip)))
      refine ⟨l.length - (j + 1), by omega, j + 1, by omega, rfl, rfl, ?_⟩
      rw [hfs]
      simp only [kStep, if_pos hr]
      rfl
    · have hri : ¬ ((a + 1 : Nat) : Int) = 136 := by omega
      first | have hb := hb | have hb := trivial
      repeat' (first | (simp -implicitDefEqProofs (disch := omega) only [hb, L52_0, spH, h0, h2, h10, h11, h12, h16, h17, h18, hgu, hadd, f1, f2, f3, f4, f5, f6, hall, hri, wC, initE, aop, Nat.reduceEqDiff, ↓reduceIte, Nat.reduceAdd, finish, resOf, tupOf, AM.freeze, freeze1, freezeL, closed, nam, namL, if_true, if_false, deref, boxAt, exAt, ldCells, oneL, oneCell, Nat.reduceLeDiff, evL, adopt, rigid, rigidL, trim, Int.reduceEq, Int.reduceMod, Int.reduceDiv, if_pos, if_neg, asI, forall_const, implies_true, chkD, chkO, chkW, effB, reB, vEq, beq_self_eq_true, Nat.reduceSub, Nat.reduceLT, Int.reduceSub, Int.reduceAdd, Int.reduceMul, Int.reduceLT, Int.reduceLE, Int.reduceToNat, optI, aslice, cutSl, cutMs, cutStr, cutOwn, cellsOf, one, elCells, lenOf, beqV, beqVL, strip, stripO, convS]) | ((first | rw [WP_condK] | rw [WP_opsG] | rw [WP_quiG] | rw [WP_dG]); refine And.intro (fun hb => ?_) (fun hb => ?_) <;> (first | have hd := dq1 hb | have hd := dq2 hb | have hd := dq3 hb | have hd := dq4 hb | skip)))
      refine ⟨l.length - (j + 1), by omega, j + 1, by omega, rfl, rfl, ?_⟩
      rw [hfs]
      simp only [kStep, if_neg hr]
  · obtain rfl : j = l.length := by omega
    first | have hb := hb | have hb := trivial
    repeat' (first | (simp -implicitDefEqProofs (disch := omega) only [hb, L52_0, h0, h2, h10, h11, h12, h16, h17, h18, wC, initE, aop, Nat.reduceEqDiff, ↓reduceIte, Nat.reduceAdd, finish, resOf, tupOf, AM.freeze, freeze1, freezeL, closed, nam, namL, if_true, if_false, deref, boxAt, exAt, ldCells, oneL, oneCell, Nat.reduceLeDiff, evL, adopt, rigid, rigidL, trim, Int.reduceEq, Int.reduceMod, Int.reduceDiv, if_pos, if_neg, asI, forall_const, implies_true, chkD, chkO, chkW, effB, reB, vEq, beq_self_eq_true, Nat.reduceSub, Nat.reduceLT, Int.reduceSub, Int.reduceAdd, Int.reduceMul, Int.reduceLT, Int.reduceLE, Int.reduceToNat, optI, aslice, cutSl, cutMs, cutStr, cutOwn, cellsOf, one, elCells, lenOf, beqV, beqVL, strip, stripO, convS]) | ((first | rw [WP_condK] | rw [WP_opsG] | rw [WP_quiG] | rw [WP_dG]); refine And.intro (fun hb => ?_) (fun hb => ?_) <;> (first | have hd := dq1 hb | have hd := dq2 hb | have hd := dq3 hb | have hd := dq4 hb | skip)))
    rw [List.take_length, show List.take 3 (spH (l.foldl (kStep 136) p0)) = spH (l.foldl (kStep 136) p0) from rfl]
    exact hq _ rfl rfl rfl rfl rfl
end Go.Proofs.Ytejnficfhoekiaa.AM

/- The digest, as the machine runs it: all parts, bytes out, the whole. -/
namespace Go.Proofs.Ytejnficfhoekiaa.AM
open Go
set_option maxRecDepth 100000
set_option maxHeartbeats 4000000
set_option linter.unusedVariables false
set_option linter.unusedSimpArgs false
theorem k_roll {keep : List Nat} {gc : Bool} {b : AC} {m : Nat} {e : Env} {h : Heap} {Q : Res → Prop} (hw : WP (fun p => WP (LQ (fun _ e h => WP Q (axl T keep gc b m e h)) Q 1) (ax T b p.1 p.2)) (trim keep gc m e h)) : WP Q (axl T keep gc b m e h) := by
  rw [axl_eq, WP_bind]
  refine WP_mono hw fun p hp => ?_
  rw [BQ_eq, WP_bind]
  refine WP_mono hp fun r hr => ?_
  obtain ⟨x, e', h'⟩ := r
  cases x with
  | normal => rw [BQ_eq, nextR_normal]; rw [LQ_normal] at hr; obtain ⟨_, _, hr⟩ := hr; exact hr
  | exit i => exact hr
  | ret => exact hr
/-- one part: bytes, or nothing at all -/
structure PartR (x : AV) (l : List Int) : Prop where
  bytes : Bytes l
  len : l.length ≤ 140737488351232
  cl : closed x = true
  is : (∃ o, x = .slice o none (l.map u8)) ∨ (x = .nil ∧ l = [])
theorem PartR.lenOf {x : AV} {l : List Int} (h : PartR x l) : lenOf x = some l.length := by
  rcases h.is with ⟨o, rfl⟩ | ⟨rfl, rfl⟩
  · simp [AM.lenOf]
  · rfl
theorem spH_len (p : List Wd × Nat) : (spH p).length = 3 := rfl
theorem spH_take (p : List Wd × Nat) : (spH p).take 3 = spH p := rfl
theorem take_part (x : AV) (l : List Int) (hx : PartR x l) (p0 : List Wd × Nat) (hp : KS p0) (pv : AV) (en k i : Int) (keep : List Nat) (hkeep : keep = [0, 2, 10, 11, 12, 16, 17, 18]) (hcl : closed pv = true)
    (Q : Res → Prop) (e : Env) (h : Heap) (h0 : getE e 0 = .ptr 2 0) (h2 : getE e 2 = u8 en) (h10 : getE e 10 = pv) (h11 : getE e 11 = i64 k) (h12 : getE e 12 = i64 i) (h16 : getE e 16 = x) (h17 : getE e 17 = i64 l.length) (h18 : getE e 18 = i64 0) (hh : h = spH p0)
    (hq : ∀ e', getE e' 0 = .ptr 2 0 → getE e' 2 = u8 en → getE e' 10 = pv → getE e' 11 = i64 k → getE e' 12 = i64 i → Q (.exit 2, e', spH (l.foldl (kStep 136) p0))) :
    WP Q (axl T keep true L52_0 3 e h) := by
  rcases hx.is with ⟨o, rfl⟩ | ⟨rfl, rfl⟩
  · exact take_in l hx.bytes hx.len p0 hp o pv en k i keep hkeep hcl hx.cl Q e h h0 h2 h10 h11 h12 h16 h17 h18 hh hq
  · subst hkeep
    subst hh
    refine k_roll ?_
    have b10 := below_of 3 hcl
    rw [trim_take (by simp only [List.all_cons, List.all_nil, h0, h2, h10, h11, h12, h16, h17, h18, b10]; rfl) (spH_below _)]
    first | have hb := hb | have hb := trivial
    repeat' (first | (simp -implicitDefEqProofs (disch := omega) only [hb, L52_0, h0, h2, h10, h11, h12, h16, h17, h18, spH_take, wC, initE, aop, Nat.reduceEqDiff, ↓reduceIte, Nat.reduceAdd, finish, resOf, tupOf, AM.freeze, freeze1, freezeL, closed, nam, namL, if_true, if_false, deref, boxAt, exAt, ldCells, oneL, oneCell, Nat.reduceLeDiff, evL, adopt, rigid, rigidL, trim, Int.reduceEq, Int.reduceMod, Int.reduceDiv, if_pos, if_neg, asI, forall_const, implies_true, chkD, chkO, chkW, effB, reB, vEq, beq_self_eq_true, Nat.reduceSub, Nat.reduceLT, Int.reduceSub, Int.reduceAdd, Int.reduceMul, Int.reduceLT, Int.reduceLE, Int.reduceToNat, optI, aslice, cutSl, cutMs, cutStr, cutOwn, cellsOf, one, elCells, lenOf, beqV, beqVL, strip, stripO, convS]) | ((first | rw [WP_condK] | rw [WP_opsG] | rw [WP_quiG] | rw [WP_dG]); refine And.intro (fun hb => ?_) (fun hb => ?_) <;> (first | have hd := dq1 hb | have hd := dq2 hb | have hd := dq3 hb | have hd := dq4 hb | skip)))
    exact hq _ rfl rfl rfl rfl rfl
/-- all parts -/
structure PartsR (xs : List AV) (ls : List (List Int)) : Prop where
  len : ls.length = xs.length
  at_ : ∀ (i : Nat) (hi : i < xs.length) (hj : i < ls.length), PartR xs[i] ls[i]
theorem flat_snoc (ls : List (List Int)) (p : List Wd × Nat) {j : Nat} (hj : j < ls.length) : (ls.take (j + 1)).flatten.foldl (kStep 136) p = ls[j].foldl (kStep 136) ((ls.take j).flatten.foldl (kStep 136) p) := by
  rw [List.take_succ_eq_append_getElem hj, List.flatten_append, List.foldl_append]; simp
theorem take_all (xs : List AV) (ls : List (List Int)) (hx : PartsR xs ls) (p0 : List Wd × Nat) (hp : KS p0) (po : AOwn) (en : Int) (keep : List Nat) (hkeep : keep = [0, 2, 10, 11, 12]) (hcl : closed (.slice po none xs) = true) (hn : xs.length ≤ 140737488351232)
    (Q : Res → Prop) (e : Env) (h : Heap) (h0 : getE e 0 = .ptr 2 0) (h2 : getE e 2 = u8 en) (h10 : getE e 10 = .slice po none xs) (h11 : getE e 11 = i64 xs.length) (h12 : getE e 12 = i64 0) (hh : h = spH p0)
    (hq : ∀ e', getE e' 0 = .ptr 2 0 → getE e' 2 = u8 en → Q (.exit 0, e', spH (ls.flatten.foldl (kStep 136) p0))) :
    WP Q (axl T keep true L52_1 3 e h) := by
  subst hkeep
  refine WP_loop (I := fun n e h => ∃ j, j ≤ xs.length ∧ n = xs.length - j ∧ getE e 0 = .ptr 2 0 ∧ getE e 2 = u8 en ∧ getE e 10 = .slice po none xs ∧ getE e 11 = i64 xs.length ∧ getE e 12 = i64 j ∧ h = spH ((ls.take j).flatten.foldl (kStep 136) p0)) ?_ xs.length _ _ ⟨0, by omega, rfl, h0, h2, h10, h11, h12, hh⟩
  rintro n e h ⟨j, hj, rfl, h0, h2, h10, h11, h12, rfl⟩
  have b10 := below_of 3 hcl
  rw [trim_take (by simp only [List.all_cons, List.all_nil, h0, h2, h10, h11, h12, b10]; rfl) (spH_below _)]
  have hks := KS.fold (ls.take j).flatten hp
  by_cases hjl : j < xs.length
  · have hjl' : j < ls.length := by rw [hx.len]; exact hjl
    have hfs := flat_snoc ls p0 hjl'
    have hpart := hx.at_ j hjl hjl'
    have hln := hpart.lenOf
    have hg := get_lt hjl
    have hec : elCells xs[j] = [xs[j]] := by rcases hpart.is with ⟨o, ho⟩ | ⟨ho, _⟩ <;> rw [ho] <;> rfl
    have hll := hpart.len
    generalize (ls.take j).flatten.foldl (kStep 136) p0 = p at hks hfs ⊢
    first | have hb := hb | have hb := trivial
    repeat' (first | (simp -implicitDefEqProofs (disch := omega) only [hb, L52_1, spH_take, spH_len, h0, h2, h10, h11, h12, hg, hec, hln, wC, initE, aop, Nat.reduceEqDiff, ↓reduceIte, Nat.reduceAdd, finish, resOf, tupOf, AM.freeze, freeze1, freezeL, closed, nam, namL, if_true, if_false, deref, boxAt, exAt, ldCells, oneL, oneCell, Nat.reduceLeDiff, evL, adopt, rigid, rigidL, trim, Int.reduceEq, Int.reduceMod, Int.reduceDiv, if_pos, if_neg, asI, forall_const, implies_true, chkD, chkO, chkW, effB, reB, vEq, beq_self_eq_true, Nat.reduceSub, Nat.reduceLT, Int.reduceSub, Int.reduceAdd, Int.reduceMul, Int.reduceLT, Int.reduceLE, Int.reduceToNat, optI, aslice, cutSl, cutMs, cutStr, cutOwn, cellsOf, one, beqV, beqVL, strip, stripO, convS]) | ((first | rw [WP_condK] | rw [WP_opsG] | rw [WP_quiG] | rw [WP_dG]); refine And.intro (fun hb => ?_) (fun hb => ?_) <;> (first | have hd := dq1 hb | have hd := dq2 hb | have hd := dq3 hb | have hd := dq4 hb | skip)))
    refine take_part xs[j] ls[j] hpart p hks (.slice po none xs) en xs.length j _ rfl hcl _ _ _ rfl rfl rfl rfl rfl rfl rfl rfl rfl ?_
    intro e' g0 g2 g10 g11 g12
    first | have hb := hb | have hb := trivial
    repeat' (first | (simp -implicitDefEqProofs (disch := omega) only [hb, g0, g2, g10, g11, g12, wC, initE, aop, Nat.reduceEqDiff, ↓reduceIte, Nat.reduceAdd, finish, resOf, tupOf, AM.freeze, freeze1, freezeL, closed, nam, namL, if_true, if_false, deref, boxAt, exAt, ldCells, oneL, oneCell, Nat.reduceLeDiff, evL, adopt, rigid, rigidL, trim, Int.reduceEq, Int.reduceMod, Int.reduceDiv, if_pos, if_neg, asI, forall_const, implies_true, chkD, chkO, chkW, effB, reB, vEq, beq_self_eq_true, Nat.reduceSub, Nat.reduceLT, Int.reduceSub, Int.reduceAdd, Int.reduceMul, Int.reduceLT, Int.reduceLE, Int.reduceToNat, optI, aslice, cutSl, cutMs, cutStr, cutOwn, cellsOf, one, elCells, lenOf, beqV, beqVL, strip, stripO, convS]) | ((first | rw [WP_condK] | rw [WP_opsG] | rw [WP_quiG] | rw [WP_dG]); refine And.intro (fun hb => ?_) (fun hb => ?_) <;> (first | have hd := dq1 hb | have hd := dq2 hb | have hd := dq3 hb | have hd := dq4 hb | skip)))
    exact ⟨xs.length - (j + 1), by omega, j + 1, by omega, rfl, rfl, by rw [hfs]⟩
  · obtain rfl : j = xs.length := by omega
    first | have hb := hb | have hb := trivial
    repeat' (first | (simp -implicitDefEqProofs (disch := omega) only [hb, L52_1, spH_take, h0, h2, h10, h11, h12, wC, initE, aop, Nat.reduceEqDiff, ↓reduceIte, Nat.reduceAdd, finish, resOf, tupOf, AM.freeze, freeze1, freezeL, closed, nam, namL, if_true, if_false, deref, boxAt, exAt, ldCells, oneL, oneCell, Nat.reduceLeDiff, evL, adopt, rigid, rigidL, trim, Int.reduceEq, Int.reduceMod, Int.reduceDiv, if_pos, if_neg, asI, forall_const, implies_true, chkD, chkO, chkW, effB, reB, vEq, beq_self_eq_true, Nat.reduceSub, Nat.reduceLT, Int.reduceSub, Int.reduceAdd, Int.reduceMul, Int.reduceLT, Int.reduceLE, Int.reduceToNat, optI, aslice, cutSl, cutMs, cutStr, cutOwn, cellsOf, one, elCells, lenOf, beqV, beqVL, strip, stripO, convS]) | ((first | rw [WP_condK] | rw [WP_opsG] | rw [WP_quiG] | rw [WP_dG]); refine And.intro (fun hb => ?_) (fun hb => ?_) <;> (first | have hd := dq1 hb | have hd := dq2 hb | have hd := dq3 hb | have hd := dq4 hb | skip)))
    rw [show List.take xs.length ls = ls by rw [← hx.len]; exact List.take_length]
    exact hq _ rfl rfl
theorem take_ok (xs : List AV) (ls : List (List Int)) (hx : PartsR xs ls) (p0 : List Wd × Nat) (hp : KS p0) (po : AOwn) (hcl : closed (.slice po none xs) = true) (hn : xs.length ≤ 140737488351232) : ag T 52 [.ptr 2 0, .slice po none xs, u8 6] (spH p0) = some (.tup [], spH (kEnd (ls.flatten.foldl (kStep 136) p0), 0)) := by
  refine WP_eq (k_wp rfl t52 rfl rfl ?_)
  first | have hb := hb | have hb := trivial
  repeat' (first | (simp -implicitDefEqProofs (disch := omega) only [hb, F52, spH_len, wC, initE, aop, Nat.reduceEqDiff, ↓reduceIte, Nat.reduceAdd, finish, resOf, tupOf, AM.freeze, freeze1, freezeL, closed, nam, namL, if_true, if_false, deref, boxAt, exAt, ldCells, oneL, oneCell, Nat.reduceLeDiff, evL, adopt, rigid, rigidL, trim, Int.reduceEq, Int.reduceMod, Int.reduceDiv, if_pos, if_neg, asI, forall_const, implies_true, chkD, chkO, chkW, effB, reB, vEq, beq_self_eq_true, Nat.reduceSub, Nat.reduceLT, Int.reduceSub, Int.reduceAdd, Int.reduceMul, Int.reduceLT, Int.reduceLE, Int.reduceToNat, optI, aslice, cutSl, cutMs, cutStr, cutOwn, cellsOf, one, elCells, lenOf, beqV, beqVL, strip, stripO, convS]) | ((first | rw [WP_condK] | rw [WP_opsG] | rw [WP_quiG] | rw [WP_dG]); refine And.intro (fun hb => ?_) (fun hb => ?_) <;> (first | have hd := dq1 hb | have hd := dq2 hb | have hd := dq3 hb | have hd := dq4 hb | skip)))
  refine take_all xs ls hx p0 hp po 6 _ rfl hcl hn _ _ _ rfl rfl rfl rfl rfl rfl ?_
  intro e' g0 g2
  have hks := KS.fold ls.flatten hp
  generalize ls.flatten.foldl (kStep 136) p0 = p at hks ⊢
  obtain ⟨s, a⟩ := p
  have hs : s.length = 25 := hks.len
  have ha : a < 136 := hks.lt
  have hs1 : (wv (kAdd s a 6)).length = 25 := by rw [wv_len, kAdd_len hs]
  have f1 := spg_at (by rw [wv_len, hs] : (wv s).length = 25) 136 a
  have f2 := spg_rate hs1 136 a
  have h1 := add_ok s hs 136 a a (by omega) 6 (by decide) (by decide)
  have h2 := add_ok (kAdd s a 6) (kAdd_len hs _ _) 136 a 135 (by omega) 128 (by decide) (by decide)
  have hall := all_ok (kAdd (kAdd s a 6) 135 128) (kAdd_len (kAdd_len hs _ _) _ _) 136 a
  rw [show ((135 : Nat) : Int) = 135 from rfl] at h2
  first | have hb := hb | have hb := trivial
  repeat' (first | (simp -implicitDefEqProofs (disch := omega) only [hb, g0, g2, spH, f1, f2, h1, h2, hall, wC, initE, aop, Nat.reduceEqDiff, ↓reduceIte, Nat.reduceAdd, finish, resOf, tupOf, AM.freeze, freeze1, freezeL, closed, nam, namL, if_true, if_false, deref, boxAt, exAt, ldCells, oneL, oneCell, Nat.reduceLeDiff, evL, adopt, rigid, rigidL, trim, Int.reduceEq, Int.reduceMod, Int.reduceDiv, if_pos, if_neg, asI, forall_const, implies_true, chkD, chkO, chkW, effB, reB, vEq, beq_self_eq_true, Nat.reduceSub, Nat.reduceLT, Int.reduceSub, Int.reduceAdd, Int.reduceMul, Int.reduceLT, Int.reduceLE, Int.reduceToNat, optI, aslice, cutSl, cutMs, cutStr, cutOwn, cellsOf, one, elCells, lenOf, beqV, beqVL, strip, stripO, convS]) | ((first | rw [WP_condK] | rw [WP_opsG] | rw [WP_quiG] | rw [WP_dG]); refine And.intro (fun hb => ?_) (fun hb => ?_) <;> (first | have hd := dq1 hb | have hd := dq2 hb | have hd := dq3 hb | have hd := dq4 hb | skip)))
  rfl
end Go.Proofs.Ytejnficfhoekiaa.AM

/- The digest: keccak.Sum is it. -/
namespace Go.Proofs.Ytejnficfhoekiaa.AM
open Go
set_option maxRecDepth 100000
set_option maxHeartbeats 4000000
set_option linter.unusedVariables false
set_option linter.unusedSimpArgs false
def kZero : List Wd := List.replicate 25 0#64
theorem start_k : gcall T 200 51 [i64 136] [Z32, Z32] = some (.ptr 2 0, spH (kZero, 0)) := by kernel_rfl
theorem start_ok : ag T 51 [i64 136] [Z32, Z32] = some (.ptr 2 0, spH (kZero, 0)) := ag_of_gcall start_k
def outI (s : List Int) : List AV := k32.map fun i => .int .u8 (IntKind.u8.wrap (oI .shr (ni s (i / 8)) (8 * (i % 8) : Nat)))
theorem let_k (s0 s1 s2 s3 s4 s5 s6 s7 s8 s9 s10 s11 s12 s13 s14 s15 s16 s17 s18 s19 s20 s21 s22 s23 s24 : Int) :
    gcall T 60 53 [.ptr 2 0, .ms 1 0 none 32] [Z32, Z32, .cells (spgC (vI [s0, s1, s2, s3, s4, s5, s6, s7, s8, s9, s10, s11, s12, s13, s14, s15, s16, s17, s18, s19, s20, s21, s22, s23, s24]) 136 0)] =
      some (.tup [], [Z32, .cells (outI [s0, s1, s2, s3, s4, s5, s6, s7, s8, s9, s10, s11, s12, s13, s14, s15, s16, s17, s18, s19, s20, s21, s22, s23, s24]), .cells (spgC (vI [s0, s1, s2, s3, s4, s5, s6, s7, s8, s9, s10, s11, s12, s13, s14, s15, s16, s17, s18, s19, s20, s21, s22, s23, s24]) 136 32)]) := by kernel_rfl
theorem words_wI {s : List Wd} (hs : s.length = 25) : ([((nw s 0).toNat : Int), (nw s 1).toNat, (nw s 2).toNat, (nw s 3).toNat, (nw s 4).toNat, (nw s 5).toNat, (nw s 6).toNat, (nw s 7).toNat, (nw s 8).toNat, (nw s 9).toNat, (nw s 10).toNat, (nw s 11).toNat, (nw s 12).toNat, (nw s 13).toNat, (nw s 14).toNat, (nw s 15).toNat, (nw s 16).toNat, (nw s 17).toNat, (nw s 18).toNat, (nw s 19).toNat, (nw s 20).toNat, (nw s 21).toNat, (nw s 22).toNat, (nw s 23).toNat, (nw s 24).toNat] : List Int) = wI s := by
  conv => rhs; rw [words25 hs]
  rfl
theorem outI_w (s : List Wd) : outI (wI s) = (k32.map (kByte s)).map u8 := by
  rw [outI, List.map_map]
  apply List.map_congr_left
  intro i _
  simp only [Function.comp, ni_w, kByte]
  rw [oI_shr _ _ (by omega), w_u8]
  congr 2
theorem let_ok (s : List Wd) (hs : s.length = 25) : ag T 53 [.ptr 2 0, .ms 1 0 none 32] (spH (s, 0)) = some (.tup [], [Z32, .cells ((k32.map (kByte s)).map u8), .cells (spgC (wv s) 136 32)]) := by
  have hk := let_k (nw s 0).toNat (nw s 1).toNat (nw s 2).toNat (nw s 3).toNat (nw s 4).toNat (nw s 5).toNat (nw s 6).toNat (nw s 7).toNat (nw s 8).toNat (nw s 9).toNat (nw s 10).toNat (nw s 11).toNat (nw s 12).toNat (nw s 13).toNat (nw s 14).toNat (nw s 15).toNat (nw s 16).toNat (nw s 17).toNat (nw s 18).toNat (nw s 19).toNat (nw s 20).toNat (nw s 21).toNat (nw s 22).toNat (nw s 23).toNat (nw s 24).toNat
  rw [words_wI hs, outI_w] at hk
  exact ag_of_gcall hk
theorem z32_eq : AObj.box true [.int .u8 0, .int .u8 0, .int .u8 0, .int .u8 0, .int .u8 0, .int .u8 0, .int .u8 0, .int .u8 0, .int .u8 0, .int .u8 0, .int .u8 0, .int .u8 0, .int .u8 0, .int .u8 0, .int .u8 0, .int .u8 0, .int .u8 0, .int .u8 0, .int .u8 0, .int .u8 0, .int .u8 0, .int .u8 0, .int .u8 0, .int .u8 0, .int .u8 0, .int .u8 0, .int .u8 0, .int .u8 0, .int .u8 0, .int .u8 0, .int .u8 0, .int .u8 0] = Z32 := rfl
theorem spH_1 (p : List Wd × Nat) : (spH p)[1]? = some (AObj.box true (List.replicate 32 (.int .u8 0))) := rfl
theorem n32 : (((32 : Nat) : Int) - 0).toNat = 32 := rfl
theorem splice_all {xs cs : List AV} (h : xs.length = cs.length) : splice cs 0 xs = xs := by
  match xs, h with
  | [], h => rw [splice_nil]; exact List.eq_nil_of_length_eq_zero h.symm
  | [x], h =>
    match cs, h with
    | [c], _ => rfl
  | x :: y :: r, h => rw [splice_more, List.drop_of_length_le (by simp at h; omega)]; simp
theorem oneL_u8 : ∀ l : List Int, oneL (l.map u8) = true
  | [] => rfl
  | x :: l => by simp only [List.map_cons, oneL, one, oneCell, oneL_u8 l, Bool.and_self]
theorem kTake_eq (l : List Int) : kTake l = l.foldl (kStep 136) (kZero, 0) := rfl
theorem kzero_ks : KS (kZero, 0) := ⟨rfl, by show (0 : Nat) < 136; omega⟩
theorem kEnd_len {p : List Wd × Nat} (h : KS p) : (kEnd p).length = 25 := kPerm_len (kAdd_len (kAdd_len h.len _ _) _ _)
theorem sum_ok (xs : List AV) (ls : List (List Int)) (hx : PartsR xs ls) (po : AOwn) (hcl : closed (.slice po none xs) = true) (hn : xs.length ≤ 140737488351232) : prun T F36 [.slice po none xs] = some (.agg ((kSum ls.flatten).map u8)) := by
  refine WP_eq (prun_wp ?_)
  have h1 := start_ok
  have h2 := take_ok xs ls hx (kZero, 0) kzero_ks po hcl hn
  rw [← kTake_eq] at h2
  have h3 := let_ok (kEnd (kTake ls.flatten)) (kEnd_len (KS.fold _ kzero_ks))
  have hL : ((kSum ls.flatten).map u8).length = 32 := by rw [List.length_map, kSum_len]
  have hc := u8_closed (kSum ls.flatten)
  rw [show k32.map (kByte (kEnd (kTake ls.flatten))) = kSum ls.flatten from rfl] at h3
  have h1L := oneL_u8 (kSum ls.flatten)
  have hst : ((kSum ls.flatten).map u8).map strip = (kSum ls.flatten).map u8 := by rw [List.map_map]; rfl
  generalize (kSum ls.flatten).map u8 = D at h3 hL hc h1L hst ⊢
  have hT : List.take 32 D = D := List.take_of_length_le (by omega)
  have hsp : splice (List.replicate 32 (AV.int .u8 0)) 0 D = D := splice_all (by rw [hL]; rfl)
  first | have hb := hb | have hb := trivial
  repeat' (first | (simp -implicitDefEqProofs (disch := omega) only [hb, F36, z32_eq, h1, h2, h3, hL, hc, spH_1, n32, hT, h1L, wC, initE, aop, Nat.reduceEqDiff, ↓reduceIte, Nat.reduceAdd, finish, resOf, tupOf, AM.freeze, freeze1, freezeL, closed, nam, namL, if_true, if_false, deref, boxAt, exAt, ldCells, oneL, oneCell, Nat.reduceLeDiff, evL, adopt, rigid, rigidL, trim, Int.reduceEq, Int.reduceMod, Int.reduceDiv, if_pos, if_neg, asI, forall_const, implies_true, chkD, chkO, chkW, effB, reB, vEq, beq_self_eq_true, Nat.reduceSub, Nat.reduceLT, Int.reduceSub, Int.reduceAdd, Int.reduceMul, Int.reduceLT, Int.reduceLE, Int.reduceToNat, optI, aslice, cutSl, cutMs, cutStr, cutOwn, cellsOf, one, elCells, lenOf, beqV, beqVL, strip, stripO, convS]) | ((first | rw [WP_condK] | rw [WP_opsG] | rw [WP_quiG] | rw [WP_dG]); refine And.intro (fun hb => ?_) (fun hb => ?_) <;> (first | have hd := dq1 hb | have hd := dq2 hb | have hd := dq3 hb | have hd := dq4 hb | skip)))
  first | have hb := hb | have hb := trivial
  repeat' (first | (simp -implicitDefEqProofs (disch := omega) only [hb, Z32, hL, hc, hT, h1L, hsp, wC, initE, aop, Nat.reduceEqDiff, ↓reduceIte, Nat.reduceAdd, finish, resOf, tupOf, AM.freeze, freeze1, freezeL, closed, nam, namL, if_true, if_false, deref, boxAt, exAt, ldCells, oneL, oneCell, Nat.reduceLeDiff, evL, adopt, rigid, rigidL, trim, Int.reduceEq, Int.reduceMod, Int.reduceDiv, if_pos, if_neg, asI, forall_const, implies_true, chkD, chkO, chkW, effB, reB, vEq, beq_self_eq_true, Nat.reduceSub, Nat.reduceLT, Int.reduceSub, Int.reduceAdd, Int.reduceMul, Int.reduceLT, Int.reduceLE, Int.reduceToNat, optI, aslice, cutSl, cutMs, cutStr, cutOwn, cellsOf, one, elCells, lenOf, beqV, beqVL, strip, stripO, convS]) | ((first | rw [WP_condK] | rw [WP_opsG] | rw [WP_quiG] | rw [WP_dG]); refine And.intro (fun hb => ?_) (fun hb => ?_) <;> (first | have hd := dq1 hb | have hd := dq2 hb | have hd := dq3 hb | have hd := dq4 hb | skip)))
  rw [hst]
  exact ⟨hc, rfl⟩
end Go.Proofs.Ytejnficfhoekiaa.AM

/- The document's digest: its rounds. -/
namespace Go.Proofs.Ytejnficfhoekiaa.AM
open Go
set_option maxRecDepth 100000
set_option maxHeartbeats 4000000
set_option linter.unusedVariables false
set_option linter.unusedSimpArgs false
/-- what a function that makes all for itself gives, by a run -/
theorem prun_of_gcall {f n : Nat} {F : AFn} {args : List AV} {cs : List AV} (hx : T.ext f = none) (hf : T.fn f = some F) (hp : F.pure = true) (hl : args.length = F.np) (hm : args.map strip = args) (hc : closedL args = true) (hr : gcall T n f args [] = some (.agg cs, [])) : prun T F args = some (.agg cs) := by
  have h1 := ag_of_gcall hr
  rw [ag_pure hx hf hp args hl] at h1
  simp only [pcall, prep, hm, if_pos hc, Option.bind_some, Bool.false_eq_true, if_false, Option.bind_eq_some_iff] at h1
  obtain ⟨v, h2, h3⟩ := h1
  rw [h2]
  unfold adopt at h3
  split at h3
  · cases h3
  · cases h3
  · cases h3; rfl
def RoundK (n : Nat) : Prop := ∀ (s0 s1 s2 s3 s4 s5 s6 s7 s8 s9 s10 s11 s12 s13 s14 s15 s16 s17 s18 s19 s20 s21 s22 s23 s24 : Int), gcall T 60 68 [.ref tabC, .agg (vI [s0, s1, s2, s3, s4, s5, s6, s7, s8, s9, s10, s11, s12, s13, s14, s15, s16, s17, s18, s19, s20, s21, s22, s23, s24]), i64 n] [] = some (.agg (vI (iRoundR [s0, s1, s2, s3, s4, s5, s6, s7, s8, s9, s10, s11, s12, s13, s14, s15, s16, s17, s18, s19, s20, s21, s22, s23, s24] (nn kCon n))), [])
theorem round_k0 : RoundK 0 := fun s0 s1 s2 s3 s4 s5 s6 s7 s8 s9 s10 s11 s12 s13 s14 s15 s16 s17 s18 s19 s20 s21 s22 s23 s24 => by kernel_rfl
theorem round_k1 : RoundK 1 := fun s0 s1 s2 s3 s4 s5 s6 s7 s8 s9 s10 s11 s12 s13 s14 s15 s16 s17 s18 s19 s20 s21 s22 s23 s24 => by kernel_rfl
theorem round_k2 : RoundK 2 := fun s0 s1 s2 s3 s4 s5 s6 s7 s8 s9 s10 s11 s12 s13 s14 s15 s16 s17 s18 s19 s20 s21 s22 s23 s24 => by kernel_rfl
theorem round_k3 : RoundK 3 := fun s0 s1 s2 s3 s4 s5 s6 s7 s8 s9 s10 s11 s12 s13 s14 s15 s16 s17 s18 s19 s20 s21 s22 s23 s24 => by kernel_rfl
theorem round_k4 : RoundK 4 := fun s0 s1 s2 s3 s4 s5 s6 s7 s8 s9 s10 s11 s12 s13 s14 s15 s16 s17 s18 s19 s20 s21 s22 s23 s24 => by kernel_rfl
theorem round_k5 : RoundK 5 := fun s0 s1 s2 s3 s4 s5 s6 s7 s8 s9 s10 s11 s12 s13 s14 s15 s16 s17 s18 s19 s20 s21 s22 s23 s24 => by kernel_rfl
theorem round_k6 : RoundK 6 := fun s0 s1 s2 s3 s4 s5 s6 s7 s8 s9 s10 s11 s12 s13 s14 s15 s16 s17 s18 s19 s20 s21 s22 s23 s24 => by kernel_rfl
theorem round_k7 : RoundK 7 := fun s0 s1 s2 s3 s4 s5 s6 s7 s8 s9 s10 s11 s12 s13 s14 s15 s16 s17 s18 s19 s20 s21 s22 s23 s24 => by kernel_rfl
theorem round_k8 : RoundK 8 := fun s0 s1 s2 s3 s4 s5 s6 s7 s8 s9 s10 s11 s12 s13 s14 s15 s16 s17 s18 s19 s20 s21 s22 s23 s24 => by kernel_rfl
theorem round_k9 : RoundK 9 := fun s0 s1 s2 s3 s4 s5 s6 s7 s8 s9 s10 s11 s12 s13 s14 s15 s16 s17 s18 s19 s20 s21 s22 s23 s24 => by kernel_rfl
theorem round_k10 : RoundK 10 := fun s0 s1 s2 s3 s4 s5 s6 s7 s8 s9 s10 s11 s12 s13 s14 s15 s16 s17 s18 s19 s20 s21 s22 s23 s24 => by kernel_rfl
theorem round_k11 : RoundK 11 := fun s0 s1 s2 s3 s4 s5 s6 s7 s8 s9 s10 s11 s12 s13 s14 s15 s16 s17 s18 s19 s20 s21 s22 s23 s24 => by kernel_rfl
theorem round_k12 : RoundK 12 := fun s0 s1 s2 s3 s4 s5 s6 s7 s8 s9 s10 s11 s12 s13 s14 s15 s16 s17 s18 s19 s20 s21 s22 s23 s24 => by kernel_rfl
theorem round_k13 : RoundK 13 := fun s0 s1 s2 s3 s4 s5 s6 s7 s8 s9 s10 s11 s12 s13 s14 s15 s16 s17 s18 s19 s20 s21 s22 s23 s24 => by kernel_rfl
theorem round_k14 : RoundK 14 := fun s0 s1 s2 s3 s4 s5 s6 s7 s8 s9 s10 s11 s12 s13 s14 s15 s16 s17 s18 s19 s20 s21 s22 s23 s24 => by kernel_rfl
theorem round_k15 : RoundK 15 := fun s0 s1 s2 s3 s4 s5 s6 s7 s8 s9 s10 s11 s12 s13 s14 s15 s16 s17 s18 s19 s20 s21 s22 s23 s24 => by kernel_rfl
theorem round_k16 : RoundK 16 := fun s0 s1 s2 s3 s4 s5 s6 s7 s8 s9 s10 s11 s12 s13 s14 s15 s16 s17 s18 s19 s20 s21 s22 s23 s24 => by kernel_rfl
theorem round_k17 : RoundK 17 := fun s0 s1 s2 s3 s4 s5 s6 s7 s8 s9 s10 s11 s12 s13 s14 s15 s16 s17 s18 s19 s20 s21 s22 s23 s24 => by kernel_rfl
theorem round_k18 : RoundK 18 := fun s0 s1 s2 s3 s4 s5 s6 s7 s8 s9 s10 s11 s12 s13 s14 s15 s16 s17 s18 s19 s20 s21 s22 s23 s24 => by kernel_rfl
theorem round_k19 : RoundK 19 := fun s0 s1 s2 s3 s4 s5 s6 s7 s8 s9 s10 s11 s12 s13 s14 s15 s16 s17 s18 s19 s20 s21 s22 s23 s24 => by kernel_rfl
theorem round_k20 : RoundK 20 := fun s0 s1 s2 s3 s4 s5 s6 s7 s8 s9 s10 s11 s12 s13 s14 s15 s16 s17 s18 s19 s20 s21 s22 s23 s24 => by kernel_rfl
theorem round_k21 : RoundK 21 := fun s0 s1 s2 s3 s4 s5 s6 s7 s8 s9 s10 s11 s12 s13 s14 s15 s16 s17 s18 s19 s20 s21 s22 s23 s24 => by kernel_rfl
theorem round_k22 : RoundK 22 := fun s0 s1 s2 s3 s4 s5 s6 s7 s8 s9 s10 s11 s12 s13 s14 s15 s16 s17 s18 s19 s20 s21 s22 s23 s24 => by kernel_rfl
theorem round_k23 : RoundK 23 := fun s0 s1 s2 s3 s4 s5 s6 s7 s8 s9 s10 s11 s12 s13 s14 s15 s16 s17 s18 s19 s20 s21 s22 s23 s24 => by kernel_rfl
theorem round_k (s0 s1 s2 s3 s4 s5 s6 s7 s8 s9 s10 s11 s12 s13 s14 s15 s16 s17 s18 s19 s20 s21 s22 s23 s24 : Int) : ∀ n : Nat, n < 24 → gcall T 60 68 [.ref tabC, .agg (vI [s0, s1, s2, s3, s4, s5, s6, s7, s8, s9, s10, s11, s12, s13, s14, s15, s16, s17, s18, s19, s20, s21, s22, s23, s24]), i64 n] [] = some (.agg (vI (iRoundR [s0, s1, s2, s3, s4, s5, s6, s7, s8, s9, s10, s11, s12, s13, s14, s15, s16, s17, s18, s19, s20, s21, s22, s23, s24] (nn kCon n))), [])
  | 0, _ => round_k0 s0 s1 s2 s3 s4 s5 s6 s7 s8 s9 s10 s11 s12 s13 s14 s15 s16 s17 s18 s19 s20 s21 s22 s23 s24
  | 1, _ => round_k1 s0 s1 s2 s3 s4 s5 s6 s7 s8 s9 s10 s11 s12 s13 s14 s15 s16 s17 s18 s19 s20 s21 s22 s23 s24
  | 2, _ => round_k2 s0 s1 s2 s3 s4 s5 s6 s7 s8 s9 s10 s11 s12 s13 s14 s15 s16 s17 s18 s19 s20 s21 s22 s23 s24
  | 3, _ => round_k3 s0 s1 s2 s3 s4 s5 s6 s7 s8 s9 s10 s11 s12 s13 s14 s15 s16 s17 s18 s19 s20 s21 s22 s23 s24
  | 4, _ => round_k4 s0 s1 s2 s3 s4 s5 s6 s7 s8 s9 s10 s11 s12 s13 s14 s15 s16 s17 s18 s19 s20 s21 s22 s23 s24
  | 5, _ => round_k5 s0 s1 s2 s3 s4 s5 s6 s7 s8 s9 s10 s11 s12 s13 s14 s15 s16 s17 s18 s19 s20 s21 s22 s23 s24
  | 6, _ => round_k6 s0 s1 s2 s3 s4 s5 s6 s7 s8 s9 s10 s11 s12 s13 s14 s15 s16 s17 s18 s19 s20 s21 s22 s23 s24
  | 7, _ => round_k7 s0 s1 s2 s3 s4 s5 s6 s7 s8 s9 s10 s11 s12 s13 s14 s15 s16 s17 s18 s19 s20 s21 s22 s23 s24
  | 8, _ => round_k8 s0 s1 s2 s3 s4 s5 s6 s7 s8 s9 s10 s11 s12 s13 s14 s15 s16 s17 s18 s19 s20 s21 s22 s23 s24
  | 9, _ => round_k9 s0 s1 s2 s3 s4 s5 s6 s7 s8 s9 s10 s11 s12 s13 s14 s15 s16 s17 s18 s19 s20 s21 s22 s23 s24
  | 10, _ => round_k10 s0 s1 s2 s3 s4 s5 s6 s7 s8 s9 s10 s11 s12 s13 s14 s15 s16 s17 s18 s19 s20 s21 s22 s23 s24
  | 11, _ => round_k11 s0 s1 s2 s3 s4 s5 s6 s7 s8 s9 s10 s11 s12 s13 s14 s15 s16 s17 s18 s19 s20 s21 s22 s23 s24
  | 12, _ => round_k12 s0 s1 s2 s3 s4 s5 s6 s7 s8 s9 s10 s11 s12 s13 s14 s15 s16 s17 s18 s19 s20 s21 s22 s23 s24
  | 13, _ => round_k13 s0 s1 s2 s3 s4 s5 s6 s7 s8 s9 s10 s11 s12 s13 s14 s15 s16 s17 s18 s19 s20 s21 s22 s23 s24
  | 14, _ => round_k14 s0 s1 s2 s3 s4 s5 s6 s7 s8 s9 s10 s11 s12 s13 s14 s15 s16 s17 s18 s19 s20 s21 s22 s23 s24
  | 15, _ => round_k15 s0 s1 s2 s3 s4 s5 s6 s7 s8 s9 s10 s11 s12 s13 s14 s15 s16 s17 s18 s19 s20 s21 s22 s23 s24
  | 16, _ => round_k16 s0 s1 s2 s3 s4 s5 s6 s7 s8 s9 s10 s11 s12 s13 s14 s15 s16 s17 s18 s19 s20 s21 s22 s23 s24
  | 17, _ => round_k17 s0 s1 s2 s3 s4 s5 s6 s7 s8 s9 s10 s11 s12 s13 s14 s15 s16 s17 s18 s19 s20 s21 s22 s23 s24
  | 18, _ => round_k18 s0 s1 s2 s3 s4 s5 s6 s7 s8 s9 s10 s11 s12 s13 s14 s15 s16 s17 s18 s19 s20 s21 s22 s23 s24
  | 19, _ => round_k19 s0 s1 s2 s3 s4 s5 s6 s7 s8 s9 s10 s11 s12 s13 s14 s15 s16 s17 s18 s19 s20 s21 s22 s23 s24
  | 20, _ => round_k20 s0 s1 s2 s3 s4 s5 s6 s7 s8 s9 s10 s11 s12 s13 s14 s15 s16 s17 s18 s19 s20 s21 s22 s23 s24
  | 21, _ => round_k21 s0 s1 s2 s3 s4 s5 s6 s7 s8 s9 s10 s11 s12 s13 s14 s15 s16 s17 s18 s19 s20 s21 s22 s23 s24
  | 22, _ => round_k22 s0 s1 s2 s3 s4 s5 s6 s7 s8 s9 s10 s11 s12 s13 s14 s15 s16 s17 s18 s19 s20 s21 s22 s23 s24
  | 23, _ => round_k23 s0 s1 s2 s3 s4 s5 s6 s7 s8 s9 s10 s11 s12 s13 s14 s15 s16 s17 s18 s19 s20 s21 s22 s23 s24
  | n + 24, h => by omega
theorem vI_cl (p : Nat → Bool) : ∀ l : List Int, namL p (vI l) = true
  | [] => rfl
  | x :: l => vI_cl p l
theorem vI_strip (l : List Int) : (vI l).map strip = vI l := by rw [vI, List.map_map]; rfl
theorem vI_rigid : ∀ l : List Int, rigidL (vI l) = true
  | [] => rfl
  | x :: l => vI_rigid l
theorem vI_one : ∀ l : List Int, oneL (vI l) = true
  | [] => rfl
  | x :: l => vI_one l
theorem tab_cl : closedL tabC = true := by kernel_rfl
theorem con_lt (n : Nat) (hn : n < 24) : ((BitVec.ofNat 64 (nn kCon n)).toNat : Int) = (nn kCon n : Nat) := by
  have : ∀ n, n < 24 → (BitVec.ofNat 64 (nn kCon n)).toNat = nn kCon n := by decide
  rw [this n hn]
theorem round_ok (s : List Wd) (hs : s.length = 25) (n : Nat) (hn : n < 24) : prun T F68 [.ref tabC, .agg (wv s), i64 n] = some (.agg (wv (kRound s (BitVec.ofNat 64 (nn kCon n))))) := by
  have hk := round_k (nw s 0).toNat (nw s 1).toNat (nw s 2).toNat (nw s 3).toNat (nw s 4).toNat (nw s 5).toNat (nw s 6).toNat (nw s 7).toNat (nw s 8).toNat (nw s 9).toNat (nw s 10).toNat (nw s 11).toNat (nw s 12).toNat (nw s 13).toNat (nw s 14).toNat (nw s 15).toNat (nw s 16).toNat (nw s 17).toNat (nw s 18).toNat (nw s 19).toNat (nw s 20).toNat (nw s 21).toNat (nw s 22).toNat (nw s 23).toNat (nw s 24).toNat n hn
  rw [words_wI hs, ← con_lt n hn, iRoundR_w] at hk
  refine prun_of_gcall rfl t68 rfl rfl ?_ ?_ hk
  · simp [strip]
  · have h1 := tab_cl
    have h2 := vI_cl (fun _ => false) (wI s)
    simp only [closedL, namL, nam, Bool.and_true] at h1 h2 ⊢
    rw [h1, h2]; rfl
theorem rounds_ok (s : List Wd) (hs : s.length = 25) : prun T F65 [.ref tabC, .agg (wv s)] = some (.agg (wv (kPerm s))) := by
  refine WP_eq (prun_wp ?_)
  have h1L := vI_one (wI s)
  have hl : (wv s).length = 25 := by rw [wv_len, hs]
  have htk := tab_cl
  first | have hb := hb | have hb := trivial
  repeat' (first | (simp -implicitDefEqProofs (disch := omega) only [hb, F65, hl, h1L, wC, initE, aop, Nat.reduceEqDiff, ↓reduceIte, Nat.reduceAdd, finish, resOf, tupOf, AM.freeze, freeze1, freezeL, closed, nam, namL, if_true, if_false, deref, boxAt, exAt, ldCells, oneL, oneCell, Nat.reduceLeDiff, evL, adopt, rigid, rigidL, trim, Int.reduceEq, Int.reduceMod, Int.reduceDiv, if_pos, if_neg, asI, forall_const, implies_true, chkD, chkO, chkW, effB, reB, vEq, beq_self_eq_true, Nat.reduceSub, Nat.reduceLT, Int.reduceSub, Int.reduceAdd, Int.reduceMul, Int.reduceLT, Int.reduceLE, Int.reduceToNat, optI, aslice, cutSl, cutMs, cutStr, cutOwn, cellsOf, one, elCells, lenOf, beqV, beqVL, strip, stripO, convS]) | ((first | rw [WP_condK] | rw [WP_opsG] | rw [WP_quiG] | rw [WP_dG]); refine And.intro (fun hb => ?_) (fun hb => ?_) <;> (first | have hd := dq1 hb | have hd := dq2 hb | have hd := dq3 hb | have hd := dq4 hb | skip)))
  refine WP_loop (I := fun n e h => ∃ (i : Nat) (x : AObj), i ≤ 24 ∧ n = 24 - i ∧ getE e 0 = .ref tabC ∧ getE e 3 = .ptr 0 0 ∧ getE e 4 = .ptr 1 0 ∧ getE e 5 = i64 i ∧ h = [.cells (wv (kFold i s)), .cells (List.replicate 25 (.int .u64 0))]) ?_ 24 _ _ ⟨0, .cells [], by omega, rfl, rfl, rfl, rfl, rfl, rfl⟩
  rintro n e h ⟨i, x, hi, rfl, h0, h3, h4, h5, rfl⟩
  have hk := kFold_length hs i
  have hkl : (wv (kFold i s)).length = 25 := by rw [wv_len, hk]
  rw [trim_same' (by simp)]
  by_cases h24 : i < 24
  · have hcall := call_agg (T := T) (h := [.cells (wv (kFold i s)), .cells (List.replicate 25 (.int .u64 0))]) rfl t68 rfl rfl (args := [.ref tabC, .agg (wv (kFold i s)), i64 i]) (by simp [strip]) (by
      have h2 := vI_cl (fun _ => false) (wI (kFold i s))
      simp only [closedL, namL, nam, Bool.and_true] at htk h2 ⊢
      rw [htk, h2]; rfl) (round_ok (kFold i s) hk i h24)
    have hT : List.take 25 (wv (kFold i s)) = wv (kFold i s) := List.take_of_length_le (by omega)
    have hl2 : (wv (kRound (kFold i s) (BitVec.ofNat 64 (nn kCon i)))).length = 25 := by rw [wv_len, kRound_len]
    have h1 := vI_one (wI (kRound (kFold i s) (BitVec.ofNat 64 (nn kCon i))))
    have hsp : splice (wv (kFold i s)) 0 (wv (kRound (kFold i s) (BitVec.ofNat 64 (nn kCon i)))) = wv (kRound (kFold i s) (BitVec.ofNat 64 (nn kCon i))) := splice_all (by rw [hl2, hkl])
    first | have hb := hb | have hb := trivial
    repeat' (first | (simp -implicitDefEqProofs (disch := omega) only [hb, L65_0, h0, h3, h4, h5, hkl, hT, hcall, hl2, h1, hsp, wC, initE, aop, Nat.reduceEqDiff, ↓reduceIte, Nat.reduceAdd, finish, resOf, tupOf, AM.freeze, freeze1, freezeL, closed, nam, namL, if_true, if_false, deref, boxAt, exAt, ldCells, oneL, oneCell, Nat.reduceLeDiff, evL, adopt, rigid, rigidL, trim, Int.reduceEq, Int.reduceMod, Int.reduceDiv, if_pos, if_neg, asI, forall_const, implies_true, chkD, chkO, chkW, effB, reB, vEq, beq_self_eq_true, Nat.reduceSub, Nat.reduceLT, Int.reduceSub, Int.reduceAdd, Int.reduceMul, Int.reduceLT, Int.reduceLE, Int.reduceToNat, optI, aslice, cutSl, cutMs, cutStr, cutOwn, cellsOf, one, elCells, lenOf, beqV, beqVL, strip, stripO, convS]) | ((first | rw [WP_condK] | rw [WP_opsG] | rw [WP_quiG] | rw [WP_dG]); refine And.intro (fun hb => ?_) (fun hb => ?_) <;> (first | have hd := dq1 hb | have hd := dq2 hb | have hd := dq3 hb | have hd := dq4 hb | skip)))
    exact ⟨23 - i, by omega, i + 1, .cells [], by omega, by omega, rfl, by rw [kFold_succ _ _ h24]⟩
  · obtain rfl : i = 24 := by omega
    first | have hb := hb | have hb := trivial
    repeat' (first | (simp -implicitDefEqProofs (disch := omega) only [hb, L65_0, h0, h3, h4, h5, hkl, wC, initE, aop, Nat.reduceEqDiff, ↓reduceIte, Nat.reduceAdd, finish, resOf, tupOf, AM.freeze, freeze1, freezeL, closed, nam, namL, if_true, if_false, deref, boxAt, exAt, ldCells, oneL, oneCell, Nat.reduceLeDiff, evL, adopt, rigid, rigidL, trim, Int.reduceEq, Int.reduceMod, Int.reduceDiv, if_pos, if_neg, asI, forall_const, implies_true, chkD, chkO, chkW, effB, reB, vEq, beq_self_eq_true, Nat.reduceSub, Nat.reduceLT, Int.reduceSub, Int.reduceAdd, Int.reduceMul, Int.reduceLT, Int.reduceLE, Int.reduceToNat, optI, aslice, cutSl, cutMs, cutStr, cutOwn, cellsOf, one, elCells, lenOf, beqV, beqVL, strip, stripO, convS]) | ((first | rw [WP_condK] | rw [WP_opsG] | rw [WP_quiG] | rw [WP_dG]); refine And.intro (fun hb => ?_) (fun hb => ?_) <;> (first | have hd := dq1 hb | have hd := dq2 hb | have hd := dq3 hb | have hd := dq4 hb | skip)))
    have hT : List.take 25 (wv (kFold 24 s)) = wv (kFold 24 s) := List.take_of_length_le (by omega)
    have hsp : splice (List.replicate 25 (AV.int .u64 0)) 0 (wv (kFold 24 s)) = wv (kFold 24 s) := splice_all (by rw [hkl]; rfl)
    have hst := vI_strip (wI (kFold 24 s))
    rw [hT, hsp, hT, hst]
    exact ⟨⟨hkl, vI_one _⟩, by omega, vI_cl _ _, rfl⟩
end Go.Proofs.Ytejnficfhoekiaa.AM

/- The document's digest: what is taken in. -/
namespace Go.Proofs.Ytejnficfhoekiaa.AM
open Go
set_option maxRecDepth 100000
set_option maxHeartbeats 4000000
set_option linter.unusedVariables false
set_option linter.unusedSimpArgs false
theorem fzL_vI (h : Heap) : ∀ l : List Int, fzL h (vI l) = some (vI l)
  | [] => rfl
  | x :: l => by simp only [vI, List.map_cons, fzL, fz, Option.bind_some] at *; rw [fzL_vI h l]; rfl
theorem call_rounds (s : List Wd) (hs : s.length = 25) (h : Heap) (id : Nat) (hid : h[id]? = some (.cells tabC)) : ag T 65 [.ptr id 0, .agg (wv s)] h = some (.agg (wv (kPerm s)), h) := by
  rw [ag_pure rfl t65 rfl _ rfl]
  have hb : boxAt h id = some tabC := by simp [boxAt, hid]
  have hp : prep h [.ptr id 0, .agg (wv s)] = some ([.ref tabC, .agg (wv s)], true) := by
    have h1 : closedL ([AV.ptr id 0, .agg (wv s)].map strip) = false := rfl
    have h2 : closedL ([AV.ptr id 0, .agg (wv s)].map stripEl) = false := rfl
    unfold prep
    rw [h1, h2]
    simp only [Bool.false_eq_true, if_false, fzL, fz, hb, Option.bind_some, List.drop_zero, tab_cl, if_true, fzL_vI, Option.map_some]
  simp only [pcall, hp, Option.bind_some, rounds_ok s hs, if_true, rigid, vI_rigid]
theorem all_k : gcall T 200 64 [] [] = some (.agg tabC, []) := by kernel_rfl
theorem call_All (h : Heap) : ag T 64 [] h = some (.agg tabC, h) := by
  have hp := prun_of_gcall rfl t64 rfl rfl rfl rfl all_k
  exact call_agg rfl t64 rfl rfl rfl rfl hp
/-! ### what is padded, and folded -/
def kPad (l : List Int) : List Int := l ++ (6 :: List.replicate (135 - l.length % 136) 0)
def kPadL (l : List Int) : List Int := (kPad l).set ((kPad l).length - 1) (if l.length % 136 = 135 then 134 else 128)
theorem kPad_len (l : List Int) : (kPad l).length = (l.length / 136 + 1) * 136 := by
  simp only [kPad, List.length_append, List.length_cons, List.length_replicate]
  omega
theorem kAdd_zero {s : List Wd} (a : Nat) (ha : a / 8 < s.length) : kAdd s a 0 = s := by
  rw [kAdd]
  have h0 : (BitVec.ofInt 64 0 <<< (8 * (a % 8))) = (0#64) := by
    rw [show BitVec.ofInt 64 0 = 0#64 from rfl]; simp
  rw [h0, BitVec.xor_zero, nw, List.getD_eq_getElem?_getD, List.getElem?_eq_getElem ha]
  simp
theorem kAdd_twice (s : List Wd) (a : Nat) (ha : a / 8 < s.length) (x y z : Int) (hz : BitVec.ofInt 64 x ^^^ BitVec.ofInt 64 y = BitVec.ofInt 64 z) : kAdd (kAdd s a x) a y = kAdd s a z := by
  simp only [kAdd, List.set_set]
  congr 1
  have h1 : nw (s.set (a / 8) (nw s (a / 8) ^^^ BitVec.ofInt 64 x <<< (8 * (a % 8)))) (a / 8) = nw s (a / 8) ^^^ BitVec.ofInt 64 x <<< (8 * (a % 8)) := by
    rw [nw, List.getD_eq_getElem?_getD, List.getElem?_set_self ha]; rfl
  rw [h1, BitVec.xor_assoc, ← hz]
  congr 1
  exact (BitVec.shiftLeft_xor_distrib _ _ _).symm
theorem kStep_hit (s : List Wd) (a : Nat) (b : Int) (h : a + 1 = 136) : kStep 136 (s, a) b = (kPerm (kAdd s a b), 0) := by unfold kStep; rw [if_pos h]
theorem kStep_miss (s : List Wd) (a : Nat) (b : Int) (h : ¬ a + 1 = 136) : kStep 136 (s, a) b = (kAdd s a b, a + 1) := by unfold kStep; rw [if_neg h]
theorem fold_zeros (s : List Wd) (hs : s.length = 25) : ∀ (z a : Nat), a + z ≤ 135 → (List.replicate z (0 : Int)).foldl (kStep 136) (s, a) = (s, a + z)
  | 0, a, _ => rfl
  | z + 1, a, h => by
    rw [List.replicate_succ, List.foldl_cons]
    have h1 : kStep 136 (s, a) 0 = (s, a + 1) := by rw [kStep_miss _ _ _ (by omega), kAdd_zero a (by omega)]
    rw [h1, fold_zeros s hs z (a + 1) (by omega)]
    congr 1; omega
theorem fold_at : ∀ (l : List Int) (s : List Wd) (a : Nat), a < 136 → (l.foldl (kStep 136) (s, a)).2 = (a + l.length) % 136
  | [], s, a, h => by simp; omega
  | b :: l, s, a, h => by
    rw [List.foldl_cons]
    by_cases h1 : a + 1 = 136
    · rw [kStep_hit _ _ _ h1, fold_at l _ 0 (by omega), List.length_cons]; omega
    · rw [kStep_miss _ _ _ h1, fold_at l _ (a + 1) (by omega), List.length_cons]; congr 1; omega
theorem kPadL_fold (l : List Int) : (kPadL l).foldl (kStep 136) (kZero, 0) = (kEnd (kTake l), 0) := by
  have hk := KS.fold l kzero_ks
  have ha := fold_at l kZero 0 (by omega)
  have hle := kPad_len l
  have e : kPadL l = l ++ (if l.length % 136 = 135 then [134] else 6 :: (List.replicate (134 - l.length % 136) 0 ++ [128])) := by
    unfold kPadL
    have hpl : (kPad l).length - 1 = l.length + (135 - l.length % 136) := by
      simp only [kPad, List.length_append, List.length_cons, List.length_replicate]; omega
    rw [hpl, kPad, List.set_append_right _ _ (by omega), show l.length + (135 - l.length % 136) - l.length = 135 - l.length % 136 by omega]
    congr 1
    split
    · rename_i h; rw [h]; rfl
    · rename_i h
      have : 135 - l.length % 136 = (134 - l.length % 136) + 1 := by omega
      rw [this, List.set_cons_succ, List.replicate_succ', List.set_append_right _ _ (by simp)]
      simp
  rw [e, List.foldl_append, kTake]
  rw [show (List.replicate 25 (0#64)) = kZero from rfl] at *
  generalize l.foldl (kStep 136) (kZero, 0) = p at hk ha ⊢
  obtain ⟨s, a⟩ := p
  have hs : s.length = 25 := hk.len
  have ha' : a < 136 := hk.lt
  simp only [Nat.zero_add] at ha
  split
  · rename_i h
    have : a = 135 := by omega
    subst this
    show kStep 136 (s, 135) 134 = _
    rw [kStep_hit _ _ _ rfl, kEnd, kAdd_twice s 135 (by omega) 6 128 134 (by decide)]
  · rename_i h
    have hne : a ≠ 135 := by omega
    rw [List.foldl_cons, List.foldl_append]
    have h1 : kStep 136 (s, a) 6 = (kAdd s a 6, a + 1) := kStep_miss _ _ _ (by omega)
    rw [h1, fold_zeros _ (kAdd_len hs _ _) _ _ (by omega), show a + 1 + (134 - l.length % 136) = 135 by omega]
    show kStep 136 (kAdd s a 6, 135) 128 = _
    rw [kStep_hit _ _ _ rfl, kEnd]
/-- bytes into places, one after the other -/
def kAdds (s : List Wd) (a : Nat) : List Int → List Wd
  | [] => s
  | b :: l => kAdds (kAdd s a b) (a + 1) l
theorem kAdds_len : ∀ (l : List Int) {s : List Wd} (a : Nat), s.length = 25 → (kAdds s a l).length = 25
  | [], s, a, h => h
  | b :: l, s, a, h => kAdds_len l _ (kAdd_len h _ _)
theorem kAdds_snoc : ∀ (l : List Int) (s : List Wd) (a : Nat) (b : Int), kAdds s a (l ++ [b]) = kAdd (kAdds s a l) (a + l.length) b
  | [], s, a, b => rfl
  | c :: l, s, a, b => by
    rw [List.cons_append, kAdds, kAdds_snoc l, kAdds, List.length_cons]; congr 1; omega
theorem fold_block : ∀ (l : List Int) (s : List Wd) (a : Nat), a + l.length = 136 → 0 < l.length → l.foldl (kStep 136) (s, a) = (kPerm (kAdds s a l), 0)
  | [], s, a, h, h0 => by simp at h0
  | [b], s, a, h, h0 => by
    have : a = 135 := by simpa using h
    subst this
    rfl
  | b :: c :: l, s, a, h, h0 => by
    rw [List.foldl_cons]
    rw [kStep_miss _ _ _ (by simp only [List.length_cons] at h; omega), fold_block (c :: l) _ (a + 1) (by simp only [List.length_cons] at h ⊢; omega) (by simp)]
    rfl
end Go.Proofs.Ytejnficfhoekiaa.AM

/- The document's digest: the message, padded. -/
namespace Go.Proofs.Ytejnficfhoekiaa.AM
open Go
set_option maxRecDepth 100000
set_option maxHeartbeats 4000000
set_option linter.unusedVariables false
set_option linter.unusedSimpArgs false
theorem flatC (l : List Int) : ((l.map u8).map elCells).flatten = l.map u8 := by
  induction l with
  | nil => rfl
  | cons x l ih => simp only [List.map_cons, List.flatten_cons, ih]; rfl
theorem kfits {n : Nat} (h : n ≤ 140737488355328) : fitsB n 1 = true := by simp [fitsB]; omega
/-- the noughts behind -/
theorem pad_ok (b : List Int) (hn : b.length ≤ 140737488353000) (o8 : AV) (m : Nat) (keep : List Nat) (hkeep : keep = [0, 1, 9]) (z0 : Nat) (hz0 : z0 = 0)
    (Q : Res → Prop) (e : Env) (pre : Heap) (h : Heap) (h0 : getE e 0 = i64 32) (h1 : getE e 1 = i64 136) (h9 : getE e 9 = .ms pre.length 0 none (b.length + 1)) (hh : h = pre ++ [.vec ((b ++ [6]).map u8)])
    (hq : ∀ e' pre', getE e' 0 = i64 32 → getE e' 1 = i64 136 → getE e' 9 = .ms pre'.length 0 none (kPad b).length → Q (.exit 0, e', pre' ++ [.vec ((kPad b).map u8)])) :
    WP Q (axl T keep false L54_4 m e h) := by
  subst hkeep
  refine WP_loop (I := fun n e h => ∃ (z : Nat) (pre : Heap), z ≤ 135 - b.length % 136 ∧ n = 135 - b.length % 136 - z ∧ getE e 0 = i64 32 ∧ getE e 1 = i64 136 ∧ getE e 9 = .ms pre.length 0 none (b.length + 1 + z) ∧ h = pre ++ [.vec ((b ++ 6 :: List.replicate z 0).map u8)]) ?_ _ _ _ ⟨0, pre, by omega, rfl, h0, h1, h9, hh⟩
  rintro n e h ⟨z, pre, hz, rfl, h0, h1, h9, rfl⟩
  rw [trim_off]
  have hrem : (((b.length + 1 + z : Nat) : Int).tmod 136) = (((b.length + 1 + z) % 136 : Nat) : Int) := by rw [Int.tmod_eq_emod_of_nonneg (by omega)]; omega
  have hcl : ((b ++ 6 :: List.replicate z 0).map u8).length = b.length + 1 + z := by simp; omega
  have hf := kfits (n := b.length + 1 + z + 1) (by omega)
  by_cases hz1 : z < 135 - b.length % 136
  · have hne : ¬ (((b.length + 1 + z) % 136 : Nat) : Int) = 0 := by omega
    first | have hb := hb | have hb := trivial
    repeat' (first | (simp -implicitDefEqProofs (disch := omega) only [hb, L54_4, h0, h1, h9, hrem, hne, appV, setEls, elemsOf, hcl, hf, stripEl, elFits, List.replicate_succ, List.replicate_zero, wC, initE, aop, Nat.reduceEqDiff, ↓reduceIte, Nat.reduceAdd, finish, resOf, tupOf, AM.freeze, freeze1, freezeL, closed, nam, namL, if_true, if_false, deref, boxAt, exAt, ldCells, oneL, oneCell, Nat.reduceLeDiff, evL, adopt, rigid, rigidL, trim, Int.reduceEq, Int.reduceMod, Int.reduceDiv, if_pos, if_neg, asI, forall_const, implies_true, chkD, chkO, chkW, effB, reB, vEq, beq_self_eq_true, Nat.reduceSub, Nat.reduceLT, Int.reduceSub, Int.reduceAdd, Int.reduceMul, Int.reduceLT, Int.reduceLE, Int.reduceToNat, optI, aslice, cutSl, cutMs, cutStr, cutOwn, cellsOf, one, elCells, lenOf, beqV, beqVL, strip, stripO, convS]) | ((first | rw [WP_condK] | rw [WP_opsG] | rw [WP_quiG] | rw [WP_dG]); refine And.intro (fun hb => ?_) (fun hb => ?_) <;> (first | have hd := dq1 hb | have hd := dq2 hb | have hd := dq3 hb | have hd := dq4 hb | skip)))
    refine ⟨135 - b.length % 136 - (z + 1), by omega, z + 1, pre ++ [.row none 1], by omega, rfl, by simp only [List.length_append, List.length_cons, List.length_nil]; rfl, ?_⟩
    congr 2
    simp only [List.flatten_cons, List.flatten_nil, List.append_nil, List.replicate_succ', List.map_append, List.map_cons, List.append_assoc, List.map_replicate, List.map_nil, List.cons_append]
  · have hne : (((b.length + 1 + z) % 136 : Nat) : Int) = 0 := by omega
    first | have hb := hb | have hb := trivial
    repeat' (first | (simp -implicitDefEqProofs (disch := omega) only [hb, L54_4, h0, h1, h9, hrem, hne, wC, initE, aop, Nat.reduceEqDiff, ↓reduceIte, Nat.reduceAdd, finish, resOf, tupOf, AM.freeze, freeze1, freezeL, closed, nam, namL, if_true, if_false, deref, boxAt, exAt, ldCells, oneL, oneCell, Nat.reduceLeDiff, evL, adopt, rigid, rigidL, trim, Int.reduceEq, Int.reduceMod, Int.reduceDiv, if_pos, if_neg, asI, forall_const, implies_true, chkD, chkO, chkW, effB, reB, vEq, beq_self_eq_true, Nat.reduceSub, Nat.reduceLT, Int.reduceSub, Int.reduceAdd, Int.reduceMul, Int.reduceLT, Int.reduceLE, Int.reduceToNat, optI, aslice, cutSl, cutMs, cutStr, cutOwn, cellsOf, one, elCells, lenOf, beqV, beqVL, strip, stripO, convS]) | ((first | rw [WP_condK] | rw [WP_opsG] | rw [WP_quiG] | rw [WP_dG]); refine And.intro (fun hb => ?_) (fun hb => ?_) <;> (first | have hd := dq1 hb | have hd := dq2 hb | have hd := dq3 hb | have hd := dq4 hb | skip)))
    have hz2 : z = 135 - b.length % 136 := by omega
    subst hz2
    refine hq _ pre rfl rfl ?_
    show AV.ms pre.length 0 none (b.length + 1 + (135 - b.length % 136)) = _
    rw [show b.length + 1 + (135 - b.length % 136) = (kPad b).length by simp only [kPad, List.length_append, List.length_cons, List.length_replicate]; omega]
/-- a block's bytes -/
theorem blk_ok (s0 : List Wd) (hs : s0.length = 25) (M : List Int) (hM : Bytes M) (k : Nat) (hk : 136 * k + 136 ≤ M.length) (hML : M.length ≤ 140737488355328) (id m : Nat) (keep : List Nat) (hkeep : keep = [0, 1, 9, 10, 11, 12, 13])
    (Q : Res → Prop) (e : Env) (pre h : Heap) (hid : pre.length = id) (h0 : getE e 0 = i64 32) (h1 : getE e 1 = i64 136) (h9 : getE e 9 = .ms id 0 none M.length) (h10 : getE e 10 = .ptr (id + 1) 0) (h11 : getE e 11 = .ptr (id + 2) 0) (h12 : getE e 12 = i64 (136 * k : Nat)) (h13 : getE e 13 = i64 0)
    (hh : h = pre ++ [.vec (M.map u8), .cells tabC, .cells (wv s0)])
    (hq : ∀ e', getE e' 0 = i64 32 → getE e' 1 = i64 136 → getE e' 9 = .ms id 0 none M.length → getE e' 10 = .ptr (id + 1) 0 → getE e' 11 = .ptr (id + 2) 0 → getE e' 12 = i64 (136 * k : Nat) → Q (.exit 4, e', pre ++ [.vec (M.map u8), .cells tabC, .cells (wv (kAdds s0 0 ((M.drop (136 * k)).take 136)))])) :
    WP Q (axl T keep false L54_2 m e h) := by
  subst hkeep
  subst hid
  refine WP_loop (I := fun n e h => ∃ (i : Nat), i ≤ 136 ∧ n = 136 - i ∧ getE e 0 = i64 32 ∧ getE e 1 = i64 136 ∧ getE e 9 = .ms pre.length 0 none M.length ∧ getE e 10 = .ptr (pre.length + 1) 0 ∧ getE e 11 = .ptr (pre.length + 2) 0 ∧ getE e 12 = i64 (136 * k : Nat) ∧ getE e 13 = i64 i ∧ h = pre ++ [.vec (M.map u8), .cells tabC, .cells (wv (kAdds s0 0 ((M.drop (136 * k)).take i)))]) ?_ _ _ _ ⟨0, by omega, rfl, h0, h1, h9, h10, h11, h12, h13, hh⟩
  rintro n e h ⟨i, hi, rfl, h0, h1, h9, h10, h11, h12, h13, rfl⟩
  rw [trim_off]
  by_cases hlt : i < 136
  · have hsl : (kAdds s0 0 ((M.drop (136 * k)).take i)).length = 25 := kAdds_len _ _ hs
    have hget : (List.drop (136 * k + i) (M.map u8))[0]? = some (u8 M[136 * k + i]) := by rw [List.getElem?_drop, Nat.add_zero, get_u8]
    have hget2 : (M.map u8)[136 * k + i]? = some (u8 M[136 * k + i]) := get_u8 _
    have hsn : (M.drop (136 * k)).take (i + 1) = (M.drop (136 * k)).take i ++ [M[136 * k + i]] := by
      rw [List.take_succ_eq_append_getElem (by rw [List.length_drop]; omega), List.getElem_drop]
    have hstp : kAdds s0 0 ((M.drop (136 * k)).take (i + 1)) = kAdd (kAdds s0 0 ((M.drop (136 * k)).take i)) i M[136 * k + i] := by
      rw [hsn, kAdds_snoc, List.length_take, List.length_drop, Nat.zero_add, Nat.min_eq_left (by omega)]
    have hby := hM _ (List.getElem_mem (show 136 * k + i < M.length by omega))
    generalize kAdds s0 0 ((M.drop (136 * k)).take i) = s at hsl hstp ⊢
    generalize M[136 * k + i] = b at hget hget2 hstp hby
    have hq : ((i : Int).tdiv 8) = ((i / 8 : Nat) : Int) := by rw [Int.tdiv_eq_ediv_of_nonneg (by omega)]; omega
    have hm : ((i : Int).tmod 8) = ((i % 8 : Nat) : Int) := by rw [Int.tmod_eq_emod_of_nonneg (by omega)]; omega
    have h8 : (8 : Int) * ((i % 8 : Nat) : Int) = ((8 * (i % 8) : Nat) : Int) := by omega
    have hA : ((136 * k : Nat) : Int) + (i : Int) = ((136 * k + i : Nat) : Int) := by omega
    have hg := wv_get (s := s) (i := i / 8) (by omega)
    have hsh := bin_shlW .i64 b (8 * (i % 8)) (by omega) hby.1 hby.2
    have hx := bin_xorW (nw s (i / 8)) (BitVec.ofInt 64 b <<< (8 * (i % 8)))
    have hw : IntKind.u64.wrap b = b := by rw [IntKind.wrap_u64]; omega
    have hset := wv_set s (i / 8) ((nw s (i / 8)) ^^^ (BitVec.ofInt 64 b <<< (8 * (i % 8))))
    have hwl : (wv s).length = 25 := by rw [wv_len, hsl]
    first | have hb := hb | have hb := trivial
    repeat' (first | (simp -implicitDefEqProofs (disch := omega) only [hb, L54_2, h0, h1, h9, h10, h11, h12, h13, hq, hm, h8, hA, hg, hsh, hx, hw, hset, hwl, hget, hget2, wC, initE, aop, Nat.reduceEqDiff, ↓reduceIte, Nat.reduceAdd, finish, resOf, tupOf, AM.freeze, freeze1, freezeL, closed, nam, namL, if_true, if_false, deref, boxAt, exAt, ldCells, oneL, oneCell, Nat.reduceLeDiff, evL, adopt, rigid, rigidL, trim, Int.reduceEq, Int.reduceMod, Int.reduceDiv, if_pos, if_neg, asI, forall_const, implies_true, chkD, chkO, chkW, effB, reB, vEq, beq_self_eq_true, Nat.reduceSub, Nat.reduceLT, Int.reduceSub, Int.reduceAdd, Int.reduceMul, Int.reduceLT, Int.reduceLE, Int.reduceToNat, optI, aslice, cutSl, cutMs, cutStr, cutOwn, cellsOf, one, elCells, lenOf, beqV, beqVL, strip, stripO, convS]) | ((first | rw [WP_condK] | rw [WP_opsG] | rw [WP_quiG] | rw [WP_dG]); refine And.intro (fun hb => ?_) (fun hb => ?_) <;> (first | have hd := dq1 hb | have hd := dq2 hb | have hd := dq3 hb | have hd := dq4 hb | skip)))
    exact ⟨136 - (i + 1), by omega, i + 1, by omega, rfl, rfl, by rw [hstp]; rfl⟩
  · obtain rfl : i = 136 := by omega
    first | have hb := hb | have hb := trivial
    repeat' (first | (simp -implicitDefEqProofs (disch := omega) only [hb, L54_2, h0, h1, h9, h10, h11, h12, h13, wC, initE, aop, Nat.reduceEqDiff, ↓reduceIte, Nat.reduceAdd, finish, resOf, tupOf, AM.freeze, freeze1, freezeL, closed, nam, namL, if_true, if_false, deref, boxAt, exAt, ldCells, oneL, oneCell, Nat.reduceLeDiff, evL, adopt, rigid, rigidL, trim, Int.reduceEq, Int.reduceMod, Int.reduceDiv, if_pos, if_neg, asI, forall_const, implies_true, chkD, chkO, chkW, effB, reB, vEq, beq_self_eq_true, Nat.reduceSub, Nat.reduceLT, Int.reduceSub, Int.reduceAdd, Int.reduceMul, Int.reduceLT, Int.reduceLE, Int.reduceToNat, optI, aslice, cutSl, cutMs, cutStr, cutOwn, cellsOf, one, elCells, lenOf, beqV, beqVL, strip, stripO, convS]) | ((first | rw [WP_condK] | rw [WP_opsG] | rw [WP_quiG] | rw [WP_dG]); refine And.intro (fun hb => ?_) (fun hb => ?_) <;> (first | have hd := dq1 hb | have hd := dq2 hb | have hd := dq3 hb | have hd := dq4 hb | skip)))
    exact hq _ rfl rfl rfl rfl rfl rfl
end Go.Proofs.Ytejnficfhoekiaa.AM

/- The document's digest: all blocks, and what comes out. -/
namespace Go.Proofs.Ytejnficfhoekiaa.AM
open Go
set_option maxRecDepth 100000
set_option maxHeartbeats 4000000
set_option linter.unusedVariables false
set_option linter.unusedSimpArgs false
theorem fold_blk (M : List Int) (p : List Wd × Nat) (k : Nat) (hk : 136 * k + 136 ≤ M.length) (h0 : ((M.take (136 * k)).foldl (kStep 136) p).2 = 0) :
    (M.take (136 * (k + 1))).foldl (kStep 136) p = (kPerm (kAdds ((M.take (136 * k)).foldl (kStep 136) p).1 0 ((M.drop (136 * k)).take 136)), 0) := by
  have e : M.take (136 * (k + 1)) = M.take (136 * k) ++ (M.drop (136 * k)).take 136 := by
    rw [← List.take_add]; congr 1
  rw [e, List.foldl_append]
  generalize (M.take (136 * k)).foldl (kStep 136) p = q at h0 ⊢
  obtain ⟨s, a⟩ := q
  simp only at h0
  subst h0
  rw [fold_block _ s 0 (by simp; omega) (by simp; omega)]
theorem blks_ok (M : List Int) (hM : Bytes M) (B : Nat) (hB : M.length = B * 136) (hML : M.length ≤ 140737488355328) (id m : Nat) (keep : List Nat) (hkeep : keep = [0, 1, 9, 10, 11, 12])
    (Q : Res → Prop) (e : Env) (pre h : Heap) (hid : pre.length = id) (h0 : getE e 0 = i64 32) (h1 : getE e 1 = i64 136) (h9 : getE e 9 = .ms id 0 none M.length) (h10 : getE e 10 = .ptr (id + 1) 0) (h11 : getE e 11 = .ptr (id + 2) 0) (h12 : getE e 12 = i64 0)
    (hh : h = pre ++ [.vec (M.map u8), .cells tabC, .cells (wv kZero)])
    (hq : ∀ e', getE e' 0 = i64 32 → getE e' 1 = i64 136 → getE e' 10 = .ptr (id + 1) 0 → getE e' 11 = .ptr (id + 2) 0 → Q (.exit 2, e', pre ++ [.vec (M.map u8), .cells tabC, .cells (wv (M.foldl (kStep 136) (kZero, 0)).1)])) :
    WP Q (axl T keep false L54_3 m e h) := by
  subst hkeep
  subst hid
  refine WP_loop (I := fun n e h => ∃ (k : Nat), k ≤ B ∧ n = B - k ∧ getE e 0 = i64 32 ∧ getE e 1 = i64 136 ∧ getE e 9 = .ms pre.length 0 none M.length ∧ getE e 10 = .ptr (pre.length + 1) 0 ∧ getE e 11 = .ptr (pre.length + 2) 0 ∧ getE e 12 = i64 (136 * k : Nat) ∧ h = pre ++ [.vec (M.map u8), .cells tabC, .cells (wv ((M.take (136 * k)).foldl (kStep 136) (kZero, 0)).1)]) ?_ B _ _ ⟨0, by omega, rfl, h0, h1, h9, h10, h11, h12, hh⟩
  rintro n e h ⟨k, hk, rfl, h0, h1, h9, h10, h11, h12, rfl⟩
  rw [trim_off]
  have hks := KS.fold (M.take (136 * k)) kzero_ks
  have hat := fold_at (M.take (136 * k)) kZero 0 (by omega)
  rw [List.length_take, Nat.zero_add, Nat.min_eq_left (by omega), Nat.mul_mod_right] at hat
  by_cases hlt : k < B
  · have hfb := fold_blk M (kZero, 0) k (by omega) hat
    have hlen : 136 * k + 136 ≤ M.length := by omega
    have hlt2 : ((136 * k : Nat) : Int) < (M.length : Int) := by omega
    have hA : ((136 * k : Nat) : Int) + 136 = ((136 * (k + 1) : Nat) : Int) := by omega
    generalize (M.take (136 * k)).foldl (kStep 136) (kZero, 0) = p at hks hat hfb ⊢
    have hs := hks.len
    have hs2 : (kAdds p.1 0 ((M.drop (136 * k)).take 136)).length = 25 := kAdds_len _ _ hs
    first | have hb := hb | have hb := trivial
    repeat' (first | (simp -implicitDefEqProofs (disch := omega) only [hb, L54_3, h0, h1, h9, h10, h11, h12, wC, initE, aop, Nat.reduceEqDiff, ↓reduceIte, Nat.reduceAdd, finish, resOf, tupOf, AM.freeze, freeze1, freezeL, closed, nam, namL, if_true, if_false, deref, boxAt, exAt, ldCells, oneL, oneCell, Nat.reduceLeDiff, evL, adopt, rigid, rigidL, trim, Int.reduceEq, Int.reduceMod, Int.reduceDiv, if_pos, if_neg, asI, forall_const, implies_true, chkD, chkO, chkW, effB, reB, vEq, beq_self_eq_true, Nat.reduceSub, Nat.reduceLT, Int.reduceSub, Int.reduceAdd, Int.reduceMul, Int.reduceLT, Int.reduceLE, Int.reduceToNat, optI, aslice, cutSl, cutMs, cutStr, cutOwn, cellsOf, one, elCells, lenOf, beqV, beqVL, strip, stripO, convS]) | ((first | rw [WP_condK] | rw [WP_opsG] | rw [WP_quiG] | rw [WP_dG]); refine And.intro (fun hb => ?_) (fun hb => ?_) <;> (first | have hd := dq1 hb | have hd := dq2 hb | have hd := dq3 hb | have hd := dq4 hb | skip)))
    refine blk_ok p.1 hs M hM k hlen hML pre.length _ _ rfl _ _ pre _ rfl rfl rfl rfl rfl rfl rfl rfl rfl ?_
    intro e' g0 g1 g9 g10 g11 g12
    have hcall := fun h id hid => call_rounds (kAdds p.1 0 ((M.drop (136 * k)).take 136)) hs2 h id hid
    generalize kAdds p.1 0 ((M.drop (136 * k)).take 136) = s at hs2 hcall hfb
    have hwl : (wv s).length = 25 := by rw [wv_len, hs2]
    have hT : List.take 25 (wv s) = wv s := List.take_of_length_le (by omega)
    have hc := hcall (pre ++ [.vec (M.map u8), .cells tabC, .cells (wv s)]) (pre.length + 1) (by rw [get_app]; rfl)
    have hwl2 : (wv (kPerm s)).length = 25 := by rw [wv_len, kPerm_len hs2]
    have ho := vI_one (wI (kPerm s))
    have hsp : splice (wv s) 0 (wv (kPerm s)) = wv (kPerm s) := splice_all (by rw [hwl2, hwl])
    first | have hb := hb | have hb := trivial
    repeat' (first | (simp -implicitDefEqProofs (disch := omega) only [hb, g0, g1, g9, g10, g11, g12, hwl, hT, hc, hwl2, ho, hsp, hA, wC, initE, aop, Nat.reduceEqDiff, ↓reduceIte, Nat.reduceAdd, finish, resOf, tupOf, AM.freeze, freeze1, freezeL, closed, nam, namL, if_true, if_false, deref, boxAt, exAt, ldCells, oneL, oneCell, Nat.reduceLeDiff, evL, adopt, rigid, rigidL, trim, Int.reduceEq, Int.reduceMod, Int.reduceDiv, if_pos, if_neg, asI, forall_const, implies_true, chkD, chkO, chkW, effB, reB, vEq, beq_self_eq_true, Nat.reduceSub, Nat.reduceLT, Int.reduceSub, Int.reduceAdd, Int.reduceMul, Int.reduceLT, Int.reduceLE, Int.reduceToNat, optI, aslice, cutSl, cutMs, cutStr, cutOwn, cellsOf, one, elCells, lenOf, beqV, beqVL, strip, stripO, convS]) | ((first | rw [WP_condK] | rw [WP_opsG] | rw [WP_quiG] | rw [WP_dG]); refine And.intro (fun hb => ?_) (fun hb => ?_) <;> (first | have hd := dq1 hb | have hd := dq2 hb | have hd := dq3 hb | have hd := dq4 hb | skip)))
    exact ⟨B - (k + 1), by omega, k + 1, by omega, rfl, rfl, by rw [hfb]⟩
  · obtain rfl : k = B := by omega
    have hlt2 : ¬ ((136 * k : Nat) : Int) < (M.length : Int) := by omega
    first | have hb := hb | have hb := trivial
    repeat' (first | (simp -implicitDefEqProofs (disch := omega) only [hb, L54_3, h0, h1, h9, h10, h11, h12, wC, initE, aop, Nat.reduceEqDiff, ↓reduceIte, Nat.reduceAdd, finish, resOf, tupOf, AM.freeze, freeze1, freezeL, closed, nam, namL, if_true, if_false, deref, boxAt, exAt, ldCells, oneL, oneCell, Nat.reduceLeDiff, evL, adopt, rigid, rigidL, trim, Int.reduceEq, Int.reduceMod, Int.reduceDiv, if_pos, if_neg, asI, forall_const, implies_true, chkD, chkO, chkW, effB, reB, vEq, beq_self_eq_true, Nat.reduceSub, Nat.reduceLT, Int.reduceSub, Int.reduceAdd, Int.reduceMul, Int.reduceLT, Int.reduceLE, Int.reduceToNat, optI, aslice, cutSl, cutMs, cutStr, cutOwn, cellsOf, one, elCells, lenOf, beqV, beqVL, strip, stripO, convS]) | ((first | rw [WP_condK] | rw [WP_opsG] | rw [WP_quiG] | rw [WP_dG]); refine And.intro (fun hb => ?_) (fun hb => ?_) <;> (first | have hd := dq1 hb | have hd := dq2 hb | have hd := dq3 hb | have hd := dq4 hb | skip)))
    rw [show M.take (136 * k) = M from List.take_of_length_le (by omega)]
    exact hq _ rfl rfl rfl rfl
/-- the bytes that come out -/
theorem out_in (s : List Wd) (hs : s.length = 25) (id r m : Nat) (keep : List Nat) (hkeep : keep = [0, 1, 10, 11, 14, 15]) (tb : Nat)
    (Q : Res → Prop) (e : Env) (pre h : Heap) (hid : pre.length = r) (hsb : pre[id]? = some (.cells (wv s))) (h0 : getE e 0 = i64 32) (h1 : getE e 1 = i64 136) (h10 : getE e 10 = .ptr tb 0) (h11 : getE e 11 = .ptr id 0) (h14 : getE e 14 = .slice (.tok r) none []) (h15 : getE e 15 = i64 0)
    (hh : h = pre ++ [.row none 0])
    (hq : ∀ e', getE e' 0 = i64 32 → getE e' 1 = i64 136 → getE e' 10 = .ptr tb 0 → getE e' 11 = .ptr id 0 → getE e' 14 = .slice (.tok r) none ((k32.map (kByte s)).map u8) → Q (.exit 8, e', pre ++ [.row none 32])) :
    WP Q (axl T keep false L54_0 m e h) := by
  subst hkeep
  subst hid
  refine WP_loop (I := fun n e h => ∃ (i : Nat), i ≤ 32 ∧ n = 32 - i ∧ getE e 0 = i64 32 ∧ getE e 1 = i64 136 ∧ getE e 10 = .ptr tb 0 ∧ getE e 11 = .ptr id 0 ∧ getE e 14 = .slice (.tok pre.length) none (((k32.take i).map (kByte s)).map u8) ∧ getE e 15 = i64 i ∧ h = pre ++ [.row none i]) ?_ 32 _ _ ⟨0, by omega, rfl, h0, h1, h10, h11, h14, h15, hh⟩
  rintro n e h ⟨i, hi, rfl, h0, h1, h10, h11, h14, h15, rfl⟩
  rw [trim_off]
  have hl : (((k32.take i).map (kByte s)).map u8).length = i := by simp [k32]; omega
  have hidl : id < pre.length := (List.getElem?_eq_some_iff.1 hsb).1
  have hgs : (pre ++ [AObj.row none i])[id]? = some (.cells (wv s)) := by rw [get_appl hidl, hsb]
  by_cases hlt : i < 32
  · have hq' : ((i : Int).tdiv 8) = ((i / 8 : Nat) : Int) := by rw [Int.tdiv_eq_ediv_of_nonneg (by omega)]; omega
    have hm : ((i : Int).tmod 8) = ((i % 8 : Nat) : Int) := by rw [Int.tmod_eq_emod_of_nonneg (by omega)]; omega
    have h8 : (8 : Int) * ((i % 8 : Nat) : Int) = ((8 * (i % 8) : Nat) : Int) := by omega
    have hg := wv_get (s := s) (i := i / 8) (by omega)
    have hsh := bin_shrW .i64 (nw s (i / 8)) (8 * (i % 8)) (by omega)
    have hkb : IntKind.u8.wrap ((nw s (i / 8) >>> (8 * (i % 8))).toNat : Int) = kByte s i := by rw [w_u8, kByte]; omega
    have hf := kfits (n := i + 1) (by omega)
    have hk : ((k32.take (i + 1)).map (kByte s)).map u8 = ((k32.take i).map (kByte s)).map u8 ++ [u8 (kByte s i)] := by
      have h1 : k32.take (i + 1) = k32.take i ++ [i] := by
        have : ∀ i, i < 32 → k32.take (i + 1) = k32.take i ++ [i] := by decide
        exact this i hlt
      rw [h1]; simp
    generalize ((k32.take i).map (kByte s)).map u8 = L at hl hk h14
    first | have hb := hb | have hb := trivial
    repeat' (first | (simp -implicitDefEqProofs (disch := omega) only [hb, L54_0, h0, h1, h10, h11, h14, h15, hq', hm, h8, hg, hsh, hkb, hf, hl, hgs, setEls, elemsOf, aappend, stripEl, elFits, List.replicate_succ, List.replicate_zero, wC, initE, aop, Nat.reduceEqDiff, ↓reduceIte, Nat.reduceAdd, finish, resOf, tupOf, AM.freeze, freeze1, freezeL, closed, nam, namL, if_true, if_false, deref, boxAt, exAt, ldCells, oneL, oneCell, Nat.reduceLeDiff, evL, adopt, rigid, rigidL, trim, Int.reduceEq, Int.reduceMod, Int.reduceDiv, if_pos, if_neg, asI, forall_const, implies_true, chkD, chkO, chkW, effB, reB, vEq, beq_self_eq_true, Nat.reduceSub, Nat.reduceLT, Int.reduceSub, Int.reduceAdd, Int.reduceMul, Int.reduceLT, Int.reduceLE, Int.reduceToNat, optI, aslice, cutSl, cutMs, cutStr, cutOwn, cellsOf, one, elCells, lenOf, beqV, beqVL, strip, stripO, convS]) | ((first | rw [WP_condK] | rw [WP_opsG] | rw [WP_quiG] | rw [WP_dG]); refine And.intro (fun hb => ?_) (fun hb => ?_) <;> (first | have hd := dq1 hb | have hd := dq2 hb | have hd := dq3 hb | have hd := dq4 hb | skip)))
    exact ⟨32 - (i + 1), by omega, i + 1, by omega, rfl, by rw [hk], rfl, rfl⟩
  · obtain rfl : i = 32 := by omega
    first | have hb := hb | have hb := trivial
    repeat' (first | (simp -implicitDefEqProofs (disch := omega) only [hb, L54_0, h0, h1, h10, h11, h14, h15, hl, wC, initE, aop, Nat.reduceEqDiff, ↓reduceIte, Nat.reduceAdd, finish, resOf, tupOf, AM.freeze, freeze1, freezeL, closed, nam, namL, if_true, if_false, deref, boxAt, exAt, ldCells, oneL, oneCell, Nat.reduceLeDiff, evL, adopt, rigid, rigidL, trim, Int.reduceEq, Int.reduceMod, Int.reduceDiv, if_pos, if_neg, asI, forall_const, implies_true, chkD, chkO, chkW, effB, reB, vEq, beq_self_eq_true, Nat.reduceSub, Nat.reduceLT, Int.reduceSub, Int.reduceAdd, Int.reduceMul, Int.reduceLT, Int.reduceLE, Int.reduceToNat, optI, aslice, cutSl, cutMs, cutStr, cutOwn, cellsOf, one, elCells, lenOf, beqV, beqVL, strip, stripO, convS]) | ((first | rw [WP_condK] | rw [WP_opsG] | rw [WP_quiG] | rw [WP_dG]); refine And.intro (fun hb => ?_) (fun hb => ?_) <;> (first | have hd := dq1 hb | have hd := dq2 hb | have hd := dq3 hb | have hd := dq4 hb | skip)))
    exact hq _ rfl rfl rfl rfl rfl
end Go.Proofs.Ytejnficfhoekiaa.AM

/- The document's digest, whole. -/
namespace Go.Proofs.Ytejnficfhoekiaa.AM
open Go
set_option maxRecDepth 100000
set_option maxHeartbeats 4000000
set_option linter.unusedVariables false
set_option linter.unusedSimpArgs false
theorem kPadL_bytes {l : List Int} (h : Bytes l) : Bytes (kPadL l) := by
  intro c hc
  unfold kPadL at hc
  rcases List.mem_or_eq_of_mem_set hc with hc | rfl
  · unfold kPad at hc
    rcases List.mem_append.1 hc with hc | hc
    · exact h c hc
    · rcases List.mem_cons.1 hc with rfl | hc
      · omega
      · rw [(List.mem_replicate.1 hc).2]; omega
  · split <;> omega
theorem kPadL_len (l : List Int) : (kPadL l).length = (l.length / 136 + 1) * 136 := by rw [kPadL, List.length_set, kPad_len]
/-- the last byte, and the other one in its place -/
theorem pad_last (l : List Int) : (kPad l)[(kPad l).length - 1]? = some (if l.length % 136 = 135 then 6 else 0) := by
  have hpl : (kPad l).length - 1 = l.length + (135 - l.length % 136) := by
    simp only [kPad, List.length_append, List.length_cons, List.length_replicate]; omega
  rw [hpl, kPad, List.getElem?_append_right (by omega), Nat.add_sub_cancel_left]
  split
  · rename_i h; rw [h]; rfl
  · rename_i h
    have : 135 - l.length % 136 = (134 - l.length % 136) + 1 := by omega
    rw [this, List.getElem?_cons_succ, List.getElem?_replicate, if_pos (by omega)]
theorem xor128 (l : List Int) : abin .xor (.int .u8 (if l.length % 136 = 135 then 6 else 0)) (.int .u8 128) = some (.int .u8 (if l.length % 136 = 135 then 134 else 128)) := by
  split <;> rfl
def tab0 : List AV := [.int .i64 0, .int .i64 0, .int .i64 0, .int .i64 0, .int .i64 0, .int .i64 0, .int .i64 0, .int .i64 0, .int .i64 0, .int .i64 0, .int .i64 0, .int .i64 0, .int .i64 0, .int .i64 0, .int .i64 0, .int .i64 0, .int .i64 0, .int .i64 0, .int .i64 0, .int .i64 0, .int .i64 0, .int .i64 0, .int .i64 0, .int .i64 0, .int .i64 0, .int .u64 0, .int .u64 0, .int .u64 0, .int .u64 0, .int .u64 0, .int .u64 0, .int .u64 0, .int .u64 0, .int .u64 0, .int .u64 0, .int .u64 0, .int .u64 0, .int .u64 0, .int .u64 0, .int .u64 0, .int .u64 0, .int .u64 0, .int .u64 0, .int .u64 0, .int .u64 0, .int .u64 0, .int .u64 0, .int .u64 0, .int .u64 0]
theorem z49_eq : AObj.box true [.int .i64 0, .int .i64 0, .int .i64 0, .int .i64 0, .int .i64 0, .int .i64 0, .int .i64 0, .int .i64 0, .int .i64 0, .int .i64 0, .int .i64 0, .int .i64 0, .int .i64 0, .int .i64 0, .int .i64 0, .int .i64 0, .int .i64 0, .int .i64 0, .int .i64 0, .int .i64 0, .int .i64 0, .int .i64 0, .int .i64 0, .int .i64 0, .int .i64 0, .int .u64 0, .int .u64 0, .int .u64 0, .int .u64 0, .int .u64 0, .int .u64 0, .int .u64 0, .int .u64 0, .int .u64 0, .int .u64 0, .int .u64 0, .int .u64 0, .int .u64 0, .int .u64 0, .int .u64 0, .int .u64 0, .int .u64 0, .int .u64 0, .int .u64 0, .int .u64 0, .int .u64 0, .int .u64 0, .int .u64 0, .int .u64 0] = AObj.box true tab0 := rfl
theorem z25_eq : AObj.box true [.int .u64 0, .int .u64 0, .int .u64 0, .int .u64 0, .int .u64 0, .int .u64 0, .int .u64 0, .int .u64 0, .int .u64 0, .int .u64 0, .int .u64 0, .int .u64 0, .int .u64 0, .int .u64 0, .int .u64 0, .int .u64 0, .int .u64 0, .int .u64 0, .int .u64 0, .int .u64 0, .int .u64 0, .int .u64 0, .int .u64 0, .int .u64 0, .int .u64 0] = AObj.box true (wv kZero) := rfl
theorem out_ok (o : AOwn) (b : List Int) (hb : Bytes b) (hn : b.length ≤ 140737488353000) : prun T F54 [i64 32, i64 136, u8 6, .slice o none (b.map u8)] = some (.slice .fresh none ((kSum b).map u8)) := by
  have hpl := kPad_len b
  have hpos : 0 < (kPad b).length := by rw [hpl]; omega
  have hle : (kPad b).length ≤ 140737488353200 := by rw [hpl]; omega
  have hpd : ∀ (e : Env) (pre : Heap) (h : Heap) (m : Nat) (Q : Res → Prop), getE e 0 = i64 32 → getE e 1 = i64 136 → getE e 9 = .ms pre.length 0 none (b.length + 1) → h = pre ++ [.vec ((b ++ [6]).map u8)] →
    (∀ e' pre', getE e' 0 = i64 32 → getE e' 1 = i64 136 → getE e' 9 = .ms pre'.length 0 none (kPad b).length → Q (.exit 0, e', pre' ++ [.vec ((kPad b).map u8)])) → WP Q (axl T [0, 1, 9] false L54_4 m e h) :=
    fun e pre h m Q g0 g1 g9 hh hq => pad_ok b hn .unk m _ rfl 0 rfl Q e pre h g0 g1 g9 hh hq
  refine WP_eq (prun_wp ?_)
  have hf := kfits (n := b.length) (by omega)
  have hf1 := kfits (n := b.length + 1) (by omega)
  have hfl := flatC b
  have hx := xor128 b
  have hgl : ((kPad b).map u8)[(kPad b).length - 1]? = some (u8 (if b.length % 136 = 135 then 6 else 0)) := by rw [List.getElem?_map, pad_last]; rfl
  have hset : ((kPad b).map u8).set ((kPad b).length - 1) (u8 (if b.length % 136 = 135 then 134 else 128)) = (kPadL b).map u8 := by rw [kPadL, List.map_set]
  have htl : tabC.length = 49 := rfl
  have hto : oneL tabC = true := by kernel_rfl
  have htT : List.take 49 tabC = tabC := rfl
  have hts : splice tab0 0 tabC = tabC := splice_all rfl
  have h0l : tab0.length = 49 := rfl
  have hML := kPadL_len b
  have hPL : (kPadL b).length = (kPad b).length := by rw [hML, hpl]
  have hMB := kPadL_bytes hb
  have hfold := kPadL_fold b
  have hks := KS.fold (kPadL b) kzero_ks
  have hks0 : KS (kTake b) := KS.fold b kzero_ks
  have hcl := u8_closed (kSum b)
  have hl32 : ((kSum b).map u8).length = 32 := by rw [List.length_map, kSum_len]
  by_cases hb0 : b.length = 0
  · obtain rfl := List.eq_nil_of_length_eq_zero hb0
    first | have hb := hb | have hb := trivial
    repeat' (first | (simp -implicitDefEqProofs (disch := omega) only [hb, F54, appV, setEls, elemsOf, stripEl, elFits, List.replicate_succ, List.replicate_zero, hf, hf1, hfl, wC, initE, aop, Nat.reduceEqDiff, ↓reduceIte, Nat.reduceAdd, finish, resOf, tupOf, AM.freeze, freeze1, freezeL, closed, nam, namL, if_true, if_false, deref, boxAt, exAt, ldCells, oneL, oneCell, Nat.reduceLeDiff, evL, adopt, rigid, rigidL, trim, Int.reduceEq, Int.reduceMod, Int.reduceDiv, if_pos, if_neg, asI, forall_const, implies_true, chkD, chkO, chkW, effB, reB, vEq, beq_self_eq_true, Nat.reduceSub, Nat.reduceLT, Int.reduceSub, Int.reduceAdd, Int.reduceMul, Int.reduceLT, Int.reduceLE, Int.reduceToNat, optI, aslice, cutSl, cutMs, cutStr, cutOwn, cellsOf, one, elCells, lenOf, beqV, beqVL, strip, stripO, convS]) | ((first | rw [WP_condK] | rw [WP_opsG] | rw [WP_quiG] | rw [WP_dG]); refine And.intro (fun hb => ?_) (fun hb => ?_) <;> (first | have hd := dq1 hb | have hd := dq2 hb | have hd := dq3 hb | have hd := dq4 hb | skip)))
    refine hpd _ [] _ _ _ rfl rfl rfl rfl ?_
    intro e' pre' g0 g1 g9
    generalize (if ([] : List Int).length % 136 = 135 then (6 : Int) else 0) = x6 at hx hgl
    generalize (if ([] : List Int).length % 136 = 135 then (134 : Int) else 128) = x7 at hx hset
    first | have hb := hb | have hb := trivial
    repeat' (first | (simp -implicitDefEqProofs (disch := omega) only [hb, g0, g1, g9, hgl, hx, hset, call_All, z49_eq, z25_eq, htl, hto, htT, hts, h0l, app_app, wC, initE, aop, Nat.reduceEqDiff, ↓reduceIte, Nat.reduceAdd, finish, resOf, tupOf, AM.freeze, freeze1, freezeL, closed, nam, namL, if_true, if_false, deref, boxAt, exAt, ldCells, oneL, oneCell, Nat.reduceLeDiff, evL, adopt, rigid, rigidL, trim, Int.reduceEq, Int.reduceMod, Int.reduceDiv, if_pos, if_neg, asI, forall_const, implies_true, chkD, chkO, chkW, effB, reB, vEq, beq_self_eq_true, Nat.reduceSub, Nat.reduceLT, Int.reduceSub, Int.reduceAdd, Int.reduceMul, Int.reduceLT, Int.reduceLE, Int.reduceToNat, optI, aslice, cutSl, cutMs, cutStr, cutOwn, cellsOf, one, elCells, lenOf, beqV, beqVL, strip, stripO, convS]) | ((first | rw [WP_condK] | rw [WP_opsG] | rw [WP_quiG] | rw [WP_dG]); refine And.intro (fun hb => ?_) (fun hb => ?_) <;> (first | have hd := dq1 hb | have hd := dq2 hb | have hd := dq3 hb | have hd := dq4 hb | skip)))
    refine blks_ok (kPadL ([] : List Int)) hMB (([] : List Int).length / 136 + 1) hML (by rw [hPL]; omega) pre'.length _ _ rfl _ _ pre' _ rfl g0 g1 (by rw [hPL]; exact g9) rfl rfl rfl rfl ?_
    intro e2 q0 q1 q10 q11
    rw [hfold]
    have hel := kEnd_len hks0
    have hend : k32.map (kByte (kEnd (kTake ([] : List Int)))) = kSum ([] : List Int) := rfl
    generalize kEnd (kTake ([] : List Int)) = s at hel hend ⊢
    first | have hb := hb | have hb := trivial
    repeat' (first | (simp -implicitDefEqProofs (disch := omega) only [hb, q0, q1, q10, q11, app_app, wC, initE, aop, Nat.reduceEqDiff, ↓reduceIte, Nat.reduceAdd, finish, resOf, tupOf, AM.freeze, freeze1, freezeL, closed, nam, namL, if_true, if_false, deref, boxAt, exAt, ldCells, oneL, oneCell, Nat.reduceLeDiff, evL, adopt, rigid, rigidL, trim, Int.reduceEq, Int.reduceMod, Int.reduceDiv, if_pos, if_neg, asI, forall_const, implies_true, chkD, chkO, chkW, effB, reB, vEq, beq_self_eq_true, Nat.reduceSub, Nat.reduceLT, Int.reduceSub, Int.reduceAdd, Int.reduceMul, Int.reduceLT, Int.reduceLE, Int.reduceToNat, optI, aslice, cutSl, cutMs, cutStr, cutOwn, cellsOf, one, elCells, lenOf, beqV, beqVL, strip, stripO, convS]) | ((first | rw [WP_condK] | rw [WP_opsG] | rw [WP_quiG] | rw [WP_dG]); refine And.intro (fun hb => ?_) (fun hb => ?_) <;> (first | have hd := dq1 hb | have hd := dq2 hb | have hd := dq3 hb | have hd := dq4 hb | skip)))
    refine k_roll ?_
    rw [trim_off]
    first | have hb := hb | have hb := trivial
    repeat' (first | (simp -implicitDefEqProofs (disch := omega) only [hb, L54_1, q0, q1, q10, q11, wC, initE, aop, Nat.reduceEqDiff, ↓reduceIte, Nat.reduceAdd, finish, resOf, tupOf, AM.freeze, freeze1, freezeL, closed, nam, namL, if_true, if_false, deref, boxAt, exAt, ldCells, oneL, oneCell, Nat.reduceLeDiff, evL, adopt, rigid, rigidL, trim, Int.reduceEq, Int.reduceMod, Int.reduceDiv, if_pos, if_neg, asI, forall_const, implies_true, chkD, chkO, chkW, effB, reB, vEq, beq_self_eq_true, Nat.reduceSub, Nat.reduceLT, Int.reduceSub, Int.reduceAdd, Int.reduceMul, Int.reduceLT, Int.reduceLE, Int.reduceToNat, optI, aslice, cutSl, cutMs, cutStr, cutOwn, cellsOf, one, elCells, lenOf, beqV, beqVL, strip, stripO, convS]) | ((first | rw [WP_condK] | rw [WP_opsG] | rw [WP_quiG] | rw [WP_dG]); refine And.intro (fun hb => ?_) (fun hb => ?_) <;> (first | have hd := dq1 hb | have hd := dq2 hb | have hd := dq3 hb | have hd := dq4 hb | skip)))
    refine out_in s hel (pre'.length + 2) (pre'.length + 3) _ _ rfl (pre'.length + 1) _ _ (pre' ++ [.vec ((kPadL ([] : List Int)).map u8), .cells tabC, .cells (wv s)]) _ (by simp) (by rw [get_app]; rfl) rfl rfl rfl rfl rfl rfl (by simp) ?_
    intro e3 p0 p1 p10 p11 p14
    rw [hend] at p14
    first | have hb := hb | have hb := trivial
    repeat' (first | (simp -implicitDefEqProofs (disch := omega) only [hb, p0, p1, p10, p11, p14, q0, q1, wC, initE, aop, Nat.reduceEqDiff, ↓reduceIte, Nat.reduceAdd, finish, resOf, tupOf, AM.freeze, freeze1, freezeL, closed, nam, namL, if_true, if_false, deref, boxAt, exAt, ldCells, oneL, oneCell, Nat.reduceLeDiff, evL, adopt, rigid, rigidL, trim, Int.reduceEq, Int.reduceMod, Int.reduceDiv, if_pos, if_neg, asI, forall_const, implies_true, chkD, chkO, chkW, effB, reB, vEq, beq_self_eq_true, Nat.reduceSub, Nat.reduceLT, Int.reduceSub, Int.reduceAdd, Int.reduceMul, Int.reduceLT, Int.reduceLE, Int.reduceToNat, optI, aslice, cutSl, cutMs, cutStr, cutOwn, cellsOf, one, elCells, lenOf, beqV, beqVL, strip, stripO, convS]) | ((first | rw [WP_condK] | rw [WP_opsG] | rw [WP_quiG] | rw [WP_dG]); refine And.intro (fun hb => ?_) (fun hb => ?_) <;> (first | have hd := dq1 hb | have hd := dq2 hb | have hd := dq3 hb | have hd := dq4 hb | skip)))
    refine ⟨0, by omega, ?_⟩
    refine k_roll ?_
    rw [trim_off]
    have hrow : (pre' ++ [AObj.vec ((kPadL ([] : List Int)).map u8), AObj.cells tabC, AObj.cells (wv s)] ++ [AObj.row none 32])[pre'.length + 3]? = some (.row none 32) := by rw [List.append_assoc, get_app]; rfl
    first | have hb := hb | have hb := trivial
    repeat' (first | (simp -implicitDefEqProofs (disch := omega) only [hb, L54_1, p0, p1, p10, p11, p14, hl32, hcl, hrow, wC, initE, aop, Nat.reduceEqDiff, ↓reduceIte, Nat.reduceAdd, finish, resOf, tupOf, AM.freeze, freeze1, freezeL, closed, nam, namL, if_true, if_false, deref, boxAt, exAt, ldCells, oneL, oneCell, Nat.reduceLeDiff, evL, adopt, rigid, rigidL, trim, Int.reduceEq, Int.reduceMod, Int.reduceDiv, if_pos, if_neg, asI, forall_const, implies_true, chkD, chkO, chkW, effB, reB, vEq, beq_self_eq_true, Nat.reduceSub, Nat.reduceLT, Int.reduceSub, Int.reduceAdd, Int.reduceMul, Int.reduceLT, Int.reduceLE, Int.reduceToNat, optI, aslice, cutSl, cutMs, cutStr, cutOwn, cellsOf, one, elCells, lenOf, beqV, beqVL, strip, stripO, convS]) | ((first | rw [WP_condK] | rw [WP_opsG] | rw [WP_quiG] | rw [WP_dG]); refine And.intro (fun hb => ?_) (fun hb => ?_) <;> (first | have hd := dq1 hb | have hd := dq2 hb | have hd := dq3 hb | have hd := dq4 hb | skip)))
  · first | have hb := hb | have hb := trivial
    repeat' (first | (simp -implicitDefEqProofs (disch := omega) only [hb, F54, appV, setEls, elemsOf, stripEl, elFits, List.replicate_succ, List.replicate_zero, hf, hf1, hb0, hfl, wC, initE, aop, Nat.reduceEqDiff, ↓reduceIte, Nat.reduceAdd, finish, resOf, tupOf, AM.freeze, freeze1, freezeL, closed, nam, namL, if_true, if_false, deref, boxAt, exAt, ldCells, oneL, oneCell, Nat.reduceLeDiff, evL, adopt, rigid, rigidL, trim, Int.reduceEq, Int.reduceMod, Int.reduceDiv, if_pos, if_neg, asI, forall_const, implies_true, chkD, chkO, chkW, effB, reB, vEq, beq_self_eq_true, Nat.reduceSub, Nat.reduceLT, Int.reduceSub, Int.reduceAdd, Int.reduceMul, Int.reduceLT, Int.reduceLE, Int.reduceToNat, optI, aslice, cutSl, cutMs, cutStr, cutOwn, cellsOf, one, elCells, lenOf, beqV, beqVL, strip, stripO, convS]) | ((first | rw [WP_condK] | rw [WP_opsG] | rw [WP_quiG] | rw [WP_dG]); refine And.intro (fun hb => ?_) (fun hb => ?_) <;> (first | have hd := dq1 hb | have hd := dq2 hb | have hd := dq3 hb | have hd := dq4 hb | skip)))
    refine hpd _ [.row none 1] _ _ _ rfl rfl rfl (by simp) ?_
    intro e' pre' g0 g1 g9
    generalize (if b.length % 136 = 135 then (6 : Int) else 0) = x6 at hx hgl
    generalize (if b.length % 136 = 135 then (134 : Int) else 128) = x7 at hx hset
    first | have hb := hb | have hb := trivial
    repeat' (first | (simp -implicitDefEqProofs (disch := omega) only [hb, g0, g1, g9, hgl, hx, hset, call_All, z49_eq, z25_eq, htl, hto, htT, hts, h0l, app_app, wC, initE, aop, Nat.reduceEqDiff, ↓reduceIte, Nat.reduceAdd, finish, resOf, tupOf, AM.freeze, freeze1, freezeL, closed, nam, namL, if_true, if_false, deref, boxAt, exAt, ldCells, oneL, oneCell, Nat.reduceLeDiff, evL, adopt, rigid, rigidL, trim, Int.reduceEq, Int.reduceMod, Int.reduceDiv, if_pos, if_neg, asI, forall_const, implies_true, chkD, chkO, chkW, effB, reB, vEq, beq_self_eq_true, Nat.reduceSub, Nat.reduceLT, Int.reduceSub, Int.reduceAdd, Int.reduceMul, Int.reduceLT, Int.reduceLE, Int.reduceToNat, optI, aslice, cutSl, cutMs, cutStr, cutOwn, cellsOf, one, elCells, lenOf, beqV, beqVL, strip, stripO, convS]) | ((first | rw [WP_condK] | rw [WP_opsG] | rw [WP_quiG] | rw [WP_dG]); refine And.intro (fun hb => ?_) (fun hb => ?_) <;> (first | have hd := dq1 hb | have hd := dq2 hb | have hd := dq3 hb | have hd := dq4 hb | skip)))
    refine blks_ok (kPadL b) hMB (b.length / 136 + 1) hML (by rw [hPL]; omega) pre'.length _ _ rfl _ _ pre' _ rfl g0 g1 (by rw [hPL]; exact g9) rfl rfl rfl rfl ?_
    intro e2 q0 q1 q10 q11
    rw [hfold]
    have hel := kEnd_len hks0
    have hend : k32.map (kByte (kEnd (kTake b))) = kSum b := rfl
    generalize kEnd (kTake b) = s at hel hend ⊢
    first | have hb := hb | have hb := trivial
    repeat' (first | (simp -implicitDefEqProofs (disch := omega) only [hb, q0, q1, q10, q11, app_app, wC, initE, aop, Nat.reduceEqDiff, ↓reduceIte, Nat.reduceAdd, finish, resOf, tupOf, AM.freeze, freeze1, freezeL, closed, nam, namL, if_true, if_false, deref, boxAt, exAt, ldCells, oneL, oneCell, Nat.reduceLeDiff, evL, adopt, rigid, rigidL, trim, Int.reduceEq, Int.reduceMod, Int.reduceDiv, if_pos, if_neg, asI, forall_const, implies_true, chkD, chkO, chkW, effB, reB, vEq, beq_self_eq_true, Nat.reduceSub, Nat.reduceLT, Int.reduceSub, Int.reduceAdd, Int.reduceMul, Int.reduceLT, Int.reduceLE, Int.reduceToNat, optI, aslice, cutSl, cutMs, cutStr, cutOwn, cellsOf, one, elCells, lenOf, beqV, beqVL, strip, stripO, convS]) | ((first | rw [WP_condK] | rw [WP_opsG] | rw [WP_quiG] | rw [WP_dG]); refine And.intro (fun hb => ?_) (fun hb => ?_) <;> (first | have hd := dq1 hb | have hd := dq2 hb | have hd := dq3 hb | have hd := dq4 hb | skip)))
    refine k_roll ?_
    rw [trim_off]
    first | have hb := hb | have hb := trivial
    repeat' (first | (simp -implicitDefEqProofs (disch := omega) only [hb, L54_1, q0, q1, q10, q11, wC, initE, aop, Nat.reduceEqDiff, ↓reduceIte, Nat.reduceAdd, finish, resOf, tupOf, AM.freeze, freeze1, freezeL, closed, nam, namL, if_true, if_false, deref, boxAt, exAt, ldCells, oneL, oneCell, Nat.reduceLeDiff, evL, adopt, rigid, rigidL, trim, Int.reduceEq, Int.reduceMod, Int.reduceDiv, if_pos, if_neg, asI, forall_const, implies_true, chkD, chkO, chkW, effB, reB, vEq, beq_self_eq_true, Nat.reduceSub, Nat.reduceLT, Int.reduceSub, Int.reduceAdd, Int.reduceMul, Int.reduceLT, Int.reduceLE, Int.reduceToNat, optI, aslice, cutSl, cutMs, cutStr, cutOwn, cellsOf, one, elCells, lenOf, beqV, beqVL, strip, stripO, convS]) | ((first | rw [WP_condK] | rw [WP_opsG] | rw [WP_quiG] | rw [WP_dG]); refine And.intro (fun hb => ?_) (fun hb => ?_) <;> (first | have hd := dq1 hb | have hd := dq2 hb | have hd := dq3 hb | have hd := dq4 hb | skip)))
    refine out_in s hel (pre'.length + 2) (pre'.length + 3) _ _ rfl (pre'.length + 1) _ _ (pre' ++ [.vec ((kPadL b).map u8), .cells tabC, .cells (wv s)]) _ (by simp) (by rw [get_app]; rfl) rfl rfl rfl rfl rfl rfl (by simp) ?_
    intro e3 p0 p1 p10 p11 p14
    rw [hend] at p14
    first | have hb := hb | have hb := trivial
    repeat' (first | (simp -implicitDefEqProofs (disch := omega) only [hb, p0, p1, p10, p11, p14, q0, q1, wC, initE, aop, Nat.reduceEqDiff, ↓reduceIte, Nat.reduceAdd, finish, resOf, tupOf, AM.freeze, freeze1, freezeL, closed, nam, namL, if_true, if_false, deref, boxAt, exAt, ldCells, oneL, oneCell, Nat.reduceLeDiff, evL, adopt, rigid, rigidL, trim, Int.reduceEq, Int.reduceMod, Int.reduceDiv, if_pos, if_neg, asI, forall_const, implies_true, chkD, chkO, chkW, effB, reB, vEq, beq_self_eq_true, Nat.reduceSub, Nat.reduceLT, Int.reduceSub, Int.reduceAdd, Int.reduceMul, Int.reduceLT, Int.reduceLE, Int.reduceToNat, optI, aslice, cutSl, cutMs, cutStr, cutOwn, cellsOf, one, elCells, lenOf, beqV, beqVL, strip, stripO, convS]) | ((first | rw [WP_condK] | rw [WP_opsG] | rw [WP_quiG] | rw [WP_dG]); refine And.intro (fun hb => ?_) (fun hb => ?_) <;> (first | have hd := dq1 hb | have hd := dq2 hb | have hd := dq3 hb | have hd := dq4 hb | skip)))
    refine ⟨0, by omega, ?_⟩
    refine k_roll ?_
    rw [trim_off]
    have hrow : (pre' ++ [AObj.vec ((kPadL b).map u8), AObj.cells tabC, AObj.cells (wv s)] ++ [AObj.row none 32])[pre'.length + 3]? = some (.row none 32) := by rw [List.append_assoc, get_app]; rfl
    first | have hb := hb | have hb := trivial
    repeat' (first | (simp -implicitDefEqProofs (disch := omega) only [hb, L54_1, p0, p1, p10, p11, p14, hl32, hcl, hrow, wC, initE, aop, Nat.reduceEqDiff, ↓reduceIte, Nat.reduceAdd, finish, resOf, tupOf, AM.freeze, freeze1, freezeL, closed, nam, namL, if_true, if_false, deref, boxAt, exAt, ldCells, oneL, oneCell, Nat.reduceLeDiff, evL, adopt, rigid, rigidL, trim, Int.reduceEq, Int.reduceMod, Int.reduceDiv, if_pos, if_neg, asI, forall_const, implies_true, chkD, chkO, chkW, effB, reB, vEq, beq_self_eq_true, Nat.reduceSub, Nat.reduceLT, Int.reduceSub, Int.reduceAdd, Int.reduceMul, Int.reduceLT, Int.reduceLE, Int.reduceToNat, optI, aslice, cutSl, cutMs, cutStr, cutOwn, cellsOf, one, elCells, lenOf, beqV, beqVL, strip, stripO, convS]) | ((first | rw [WP_condK] | rw [WP_opsG] | rw [WP_quiG] | rw [WP_dG]); refine And.intro (fun hb => ?_) (fun hb => ?_) <;> (first | have hd := dq1 hb | have hd := dq2 hb | have hd := dq3 hb | have hd := dq4 hb | skip)))
/-- a call of Out, at bytes that name nothing -/
theorem call_out (o : AOwn) (b : List Int) (hb : Bytes b) (hn : b.length ≤ 140737488353000) (ho : stripO o = .none ∨ stripO o = .full) (h : Heap) : ag T 54 [i64 32, i64 136, u8 6, .slice o none (b.map u8)] h = some (.slice (.tok h.length) none ((kSum b).map u8), h ++ [.row none 32]) := by
  have hcl := u8_closed b
  have := call_pure (T := T) (h := h) (args := [i64 32, i64 136, u8 6, .slice o none (b.map u8)]) rfl t54 rfl rfl (by
    simp only [List.map_cons, List.map_nil, strip]
    rcases ho with ho | ho <;> rw [ho] <;> simp only [closedL, namL, nam, Bool.true_and, Bool.and_true] at hcl ⊢ <;> exact hcl) (by
    simp only [List.map_cons, List.map_nil, strip]
    exact out_ok _ b hb hn)
  rw [this]
  simp only [AM.adopt, List.length_map, kSum_len]
theorem rsum_ok (o : AOwn) (b : List Int) (hb : Bytes b) (hn : b.length ≤ 140737488353000) (ho : stripO o = .none ∨ stripO o = .full) : prun T F38 [.slice o none (b.map u8)] = some (.agg ((kSum b).map u8)) := by
  refine WP_eq (prun_wp ?_)
  have hcall := call_out o b hb hn ho
  have hS : (kSum b).length = 32 := kSum_len b
  generalize kSum b = S at hcall hS ⊢
  have hc := u8_closed S
  have hst : (S.map u8).map strip = S.map u8 := by rw [List.map_map]; rfl
  have h1 := oneL_u8 S
  first | have hb := hb | have hb := trivial
  repeat' (first | (simp -implicitDefEqProofs (disch := omega) only [hb, F38, hcall, z32_eq, wC, initE, aop, Nat.reduceEqDiff, ↓reduceIte, Nat.reduceAdd, finish, resOf, tupOf, AM.freeze, freeze1, freezeL, closed, nam, namL, if_true, if_false, deref, boxAt, exAt, ldCells, oneL, oneCell, Nat.reduceLeDiff, evL, adopt, rigid, rigidL, trim, Int.reduceEq, Int.reduceMod, Int.reduceDiv, if_pos, if_neg, asI, forall_const, implies_true, chkD, chkO, chkW, effB, reB, vEq, beq_self_eq_true, Nat.reduceSub, Nat.reduceLT, Int.reduceSub, Int.reduceAdd, Int.reduceMul, Int.reduceLT, Int.reduceLE, Int.reduceToNat, optI, aslice, cutSl, cutMs, cutStr, cutOwn, cellsOf, one, elCells, lenOf, beqV, beqVL, strip, stripO, convS]) | ((first | rw [WP_condK] | rw [WP_opsG] | rw [WP_quiG] | rw [WP_dG]); refine And.intro (fun hb => ?_) (fun hb => ?_) <;> (first | have hd := dq1 hb | have hd := dq2 hb | have hd := dq3 hb | have hd := dq4 hb | skip)))
  refine WP_loop (I := fun n e h => ∃ i, i ≤ 32 ∧ n = 32 - i ∧ getE e 2 = .ptr 0 0 ∧ getE e 3 = .ptr 1 0 ∧ getE e 4 = .slice (.tok 2) none (S.map u8) ∧ getE e 5 = i64 i ∧ h = [Z32, .cells ((S.take i).map u8 ++ List.replicate (32 - i) (u8 0)), .row none 32]) ?_ 32 _ _ ⟨0, by omega, rfl, rfl, rfl, rfl, rfl, rfl⟩
  rintro n e h ⟨i, hi, rfl, h2, h3, h4, h5, rfl⟩
  have b4 : below 3 (.slice (.tok 2) none (S.map u8)) = true := by
    have := closed_below' 3 (.slice .none none (S.map u8)) (by simp only [closed, nam, Bool.true_and]; exact hc)
    simp only [below, nam, Bool.true_and] at this ⊢
    rw [this]; rfl
  have bc : namL (fun x => decide (x < 3)) ((S.take i).map u8 ++ List.replicate (32 - i) (u8 0)) = true := by
    rw [namL_app]
    have r1 : namL (fun x => decide (x < 3)) ((S.take i).map u8) = true := namL_imp (fun _ h => by cases h) _ (u8_closed (S.take i))
    have r2 : ∀ k, namL (fun x => decide (x < 3)) (List.replicate k (u8 0)) = true := fun k => by
      induction k with
      | zero => rfl
      | succ k ih => rw [List.replicate_succ]; exact ih
    rw [r1, r2]; rfl
  rw [trim_take (by simp only [List.all_cons, List.all_nil, h2, h3, h4, h5, b4]; rfl) (by simp only [List.take_succ_cons, List.take_zero, List.all_cons, List.all_nil, belowO, belowL, bc, Bool.and_true]; rfl)]
  have hlen : ((S.take i).map u8 ++ List.replicate (32 - i) (u8 0)).length = 32 := by simp; omega
  by_cases hlt : i < 32
  · have hg := get_u8 (l := S) (i := i) (by omega)
    have hset : ((S.take i).map u8 ++ List.replicate (32 - i) (u8 0)).set i (u8 (S[i]'(by omega))) = (S.take (i + 1)).map u8 ++ List.replicate (32 - (i + 1)) (u8 0) := by
      rw [List.set_append_right _ _ (by simp; omega)]
      have e1 : (i - ((S.take i).map u8).length) = 0 := by simp; omega
      rw [e1, List.take_succ_eq_append_getElem (by omega), show 32 - i = (32 - (i + 1)) + 1 by omega, List.replicate_succ, List.set_cons_zero, List.map_append, List.append_assoc]
      rfl
    first | have hb := hb | have hb := trivial
    repeat' (first | (simp -implicitDefEqProofs (disch := omega) only [hb, L38_0, h2, h3, h4, h5, hg, hset, hlen, wC, initE, aop, Nat.reduceEqDiff, ↓reduceIte, Nat.reduceAdd, finish, resOf, tupOf, AM.freeze, freeze1, freezeL, closed, nam, namL, if_true, if_false, deref, boxAt, exAt, ldCells, oneL, oneCell, Nat.reduceLeDiff, evL, adopt, rigid, rigidL, trim, Int.reduceEq, Int.reduceMod, Int.reduceDiv, if_pos, if_neg, asI, forall_const, implies_true, chkD, chkO, chkW, effB, reB, vEq, beq_self_eq_true, Nat.reduceSub, Nat.reduceLT, Int.reduceSub, Int.reduceAdd, Int.reduceMul, Int.reduceLT, Int.reduceLE, Int.reduceToNat, optI, aslice, cutSl, cutMs, cutStr, cutOwn, cellsOf, one, elCells, lenOf, beqV, beqVL, strip, stripO, convS]) | ((first | rw [WP_condK] | rw [WP_opsG] | rw [WP_quiG] | rw [WP_dG]); refine And.intro (fun hb => ?_) (fun hb => ?_) <;> (first | have hd := dq1 hb | have hd := dq2 hb | have hd := dq3 hb | have hd := dq4 hb | skip)))
    exact ⟨32 - (i + 1), by omega, i + 1, by omega, rfl, rfl, rfl⟩
  · obtain rfl : i = 32 := by omega
    have hT : S.take 32 = S := List.take_of_length_le (by omega)
    rw [hT] at hlen ⊢
    rw [show List.replicate (32 - 32) (u8 0) = [] from rfl, List.append_nil] at hlen ⊢
    have hTm : List.take 32 (S.map u8) = S.map u8 := List.take_of_length_le (by omega)
    have hsp : splice (List.replicate 32 (AV.int .u8 0)) 0 (S.map u8) = S.map u8 := splice_all (by rw [hlen]; rfl)
    first | have hb := hb | have hb := trivial
    repeat' (first | (simp -implicitDefEqProofs (disch := omega) only [hb, L38_0, h2, h3, h4, h5, Z32, hTm, hlen, h1, hsp, hc, wC, initE, aop, Nat.reduceEqDiff, ↓reduceIte, Nat.reduceAdd, finish, resOf, tupOf, AM.freeze, freeze1, freezeL, closed, nam, namL, if_true, if_false, deref, boxAt, exAt, ldCells, oneL, oneCell, Nat.reduceLeDiff, evL, adopt, rigid, rigidL, trim, Int.reduceEq, Int.reduceMod, Int.reduceDiv, if_pos, if_neg, asI, forall_const, implies_true, chkD, chkO, chkW, effB, reB, vEq, beq_self_eq_true, Nat.reduceSub, Nat.reduceLT, Int.reduceSub, Int.reduceAdd, Int.reduceMul, Int.reduceLT, Int.reduceLE, Int.reduceToNat, optI, aslice, cutSl, cutMs, cutStr, cutOwn, cellsOf, one, elCells, lenOf, beqV, beqVL, strip, stripO, convS]) | ((first | rw [WP_condK] | rw [WP_opsG] | rw [WP_quiG] | rw [WP_dG]); refine And.intro (fun hb => ?_) (fun hb => ?_) <;> (first | have hd := dq1 hb | have hd := dq2 hb | have hd := dq3 hb | have hd := dq4 hb | skip)))
    rw [hst]
    exact ⟨hc, rfl⟩
end Go.Proofs.Ytejnficfhoekiaa.AM

/- The digests, as they are called; and as contracts that the kernel can reckon. -/
namespace Go.Proofs.Ytejnficfhoekiaa.AM
open Go
set_option maxRecDepth 100000
set_option linter.unusedVariables false
set_option linter.unusedSimpArgs false
/-- a part's bytes -/
def partB : AV → Option (List Int)
  | .slice _ none els => byteEls els
  | .sc (.slice none 0 0) => some []
  | _ => none
def okB (l : List Int) : Bool := l.all (fun c => decide (0 ≤ c) && decide (c ≤ 255)) && decide (l.length ≤ 140737488351232)
def partsB : List AV → Option (List (List Int))
  | [] => some []
  | x :: r => (partB x).bind fun l => if okB l then (partsB r).map (l :: ·) else none
theorem okB_spec {l : List Int} (h : okB l = true) : Bytes l ∧ l.length ≤ 140737488351232 := by
  simp only [okB, Bool.and_eq_true, List.all_eq_true, decide_eq_true_eq] at h
  exact h
theorem byteEls_inv : ∀ {els : List AV} {l : List Int}, byteEls els = some l → els = l.map u8
  | [], l, h => by simp only [byteEls] at h; cases h; rfl
  | x :: r, l, h => by
    unfold byteEls at h
    split at h
    · rename_i heq; cases heq
    · rename_i n r' heq
      cases heq
      rw [Option.map_eq_some_iff] at h
      obtain ⟨l', h1, rfl⟩ := h
      rw [byteEls_inv h1]; rfl
    · cases h
theorem partsB_spec : ∀ {xs : List AV} {ls : List (List Int)}, partsB xs = some ls → closedL xs = true → PartsR xs ls
  | [], ls, h, _ => by simp only [partsB] at h; cases h; exact ⟨rfl, fun i hi => by simp at hi⟩
  | x :: r, ls, h, hc => by
    simp only [partsB, Option.bind_eq_some_iff] at h
    obtain ⟨l, h1, h⟩ := h
    split at h
    · rename_i hok
      rw [Option.map_eq_some_iff] at h
      obtain ⟨ls', h2, rfl⟩ := h
      simp only [closedL, namL, Bool.and_eq_true] at hc
      have ih := partsB_spec h2 hc.2
      obtain ⟨k1, k2⟩ := okB_spec hok
      refine ⟨by simp [ih.len], fun i hi hj => ?_⟩
      cases i with
      | zero =>
        refine ⟨k1, k2, hc.1, ?_⟩
        unfold partB at h1
        split at h1
        · rename_i o els; left; exact ⟨o, by rw [byteEls_inv h1]; rfl⟩
        · cases h1; exact .inr ⟨rfl, rfl⟩
        · cases h1
      | succ i => exact ih.at_ i (by simpa using hi) (by simpa using hj)
    · cases h
/-- the digest, for the kernel -/
def sumN (l : List Int) : AV := .agg (((nSum (l.map Int.toNat)).map Int.ofNat).map u8)
theorem sumN_eq {l : List Int} (h : Bytes l) : sumN l = .agg ((kSum l).map u8) := by
  rw [sumN, kSum_nSum l fun b hb => ⟨(h b hb).1, by have := (h b hb).2; omega⟩]
theorem flatP_bytes {xs : List AV} {ls : List (List Int)} (h : PartsR xs ls) : Bytes ls.flatten := by
  intro c hc
  rw [List.mem_flatten] at hc
  obtain ⟨l, hl, hc⟩ := hc
  obtain ⟨i, hi, rfl⟩ := List.mem_iff_getElem.1 hl
  exact (h.at_ i (by rw [← h.len]; exact hi) hi).bytes c hc
def sumG (els : List AV) : Option AV := if closedL els && decide (els.length ≤ 140737488351232) then (partsB els).map fun ls => sumN ls.flatten else none
def sumX : List AV → Option AV
  | [.slice .none none els] => sumG els
  | [.slice .full none els] => sumG els
  | _ => none
def rsumG (els : List AV) : Option AV := (byteEls els).bind fun l => if okB l then some (sumN l) else none
def rsumX : List AV → Option AV
  | [.slice .none none els] => rsumG els
  | [.slice .full none els] => rsumG els
  | _ => none
theorem sumG_ok {els : List AV} {v : AV} (h : sumG els = some v) (o : AOwn) (ho : o = .none ∨ o = .full) : prun T F36 [.slice o none els] = some v := by
  unfold sumG at h
  split at h
  · rename_i hc
    simp only [Bool.and_eq_true, decide_eq_true_eq] at hc
    rw [Option.map_eq_some_iff] at h
    obtain ⟨ls, h1, rfl⟩ := h
    have hp := partsB_spec h1 hc.1
    rw [sumN_eq (flatP_bytes hp)]
    refine sum_ok els ls hp o ?_ hc.2
    rcases ho with rfl | rfl <;> simp only [closed, nam, Bool.true_and] <;> exact hc.1
  · cases h
theorem rsumG_ok {els : List AV} {v : AV} (h : rsumG els = some v) (o : AOwn) (ho : o = .none ∨ o = .full) : prun T F38 [.slice o none els] = some v := by
  simp only [rsumG, Option.bind_eq_some_iff] at h
  obtain ⟨l, h1, h⟩ := h
  split at h
  · rename_i hok
    cases h
    obtain ⟨k1, k2⟩ := okB_spec hok
    rw [byteEls_inv h1, sumN_eq k1]
    refine rsum_ok o l k1 (by omega) ?_
    rcases ho with rfl | rfl
    · exact .inl rfl
    · exact .inr rfl
  · cases h
theorem sumX_ok {a : List AV} {v : AV} (h : sumX a = some v) : prun T F36 a = some v := by
  unfold sumX at h
  split at h
  · exact sumG_ok h _ (.inl rfl)
  · exact sumG_ok h _ (.inr rfl)
  · cases h
theorem rsumX_ok {a : List AV} {v : AV} (h : rsumX a = some v) : prun T F38 a = some v := by
  unfold rsumX at h
  split at h
  · exact rsumG_ok h _ (.inl rfl)
  · exact rsumG_ok h _ (.inr rfl)
  · cases h
theorem kfzL_len (h : Heap) : ∀ {l r : List AV}, fzL h l = some r → r.length = l.length
  | [], r, hh => by simp only [fzL] at hh; cases hh; rfl
  | x :: l, r, hh => by
    simp only [fzL, Option.bind_eq_some_iff, Option.map_eq_some_iff] at hh
    obtain ⟨y, _, z, h1, rfl⟩ := hh
    simp [kfzL_len h h1]
theorem prep_len {h : Heap} {l r : List AV} {b : Bool} (hh : prep h l = some (r, b)) : r.length = l.length := by
  unfold prep at hh
  split at hh
  · cases hh; simp
  · split at hh
    · cases hh; simp
    · rw [Option.map_eq_some_iff] at hh
      obtain ⟨a, h1, h2⟩ := hh
      cases h2
      exact kfzL_len h h1
theorem pcall_ole {f : Nat} {F : AFn} (hx : T.ext f = none) (hf : T.fn f = some F) (hp : F.pure = true) {g : List AV → Option AV} (hg : ∀ a v, g a = some v → a.length = F.np ∧ prun T F a = some v) (args : List AV) (h : Heap) : ole (pcall g args h) (ag T f args h) := by
  intro r hr
  have hr' := hr
  simp only [pcall, Option.bind_eq_some_iff] at hr
  obtain ⟨⟨a, b⟩, h1, v, h2, _⟩ := hr
  have hl := (hg a v h2).1
  rw [prep_len h1] at hl
  rw [ag_pure hx hf hp args hl]
  exact pcall_le (fun a w hw => (hg a w hw).2) args h r hr'
def sumsX (f : Nat) : Option (List AV → Option AV) := if f = 36 then some sumX else if f = 38 then some rsumX else none
theorem sumX_len {a : List AV} {v : AV} (h : sumX a = some v) : a.length = 1 := by
  unfold sumX at h
  split at h
  · rfl
  · rfl
  · cases h
theorem rsumX_len {a : List AV} {v : AV} (h : rsumX a = some v) : a.length = 1 := by
  unfold rsumX at h
  split at h
  · rfl
  · rfl
  · cases h
theorem sumsX_ok : ∀ f g, sumsX f = some g → T.pure f = true ∧ ∀ args h, ole (pcall g args h) (ag T f args h) := by
  intro f g h
  unfold sumsX at h
  split at h
  · rename_i hf
    cases h
    subst hf
    exact ⟨rfl, pcall_ole rfl t36 rfl fun a v hv => ⟨sumX_len hv, sumX_ok hv⟩⟩
  · split at h
    · rename_i hf
      cases h
      subst hf
      exact ⟨rfl, pcall_ole rfl t38 rfl fun a v hv => ⟨rsumX_len hv, rsumX_ok hv⟩⟩
    · cases h
/-- a run with the digests as contracts -/
theorem ag_of_sums {n f : Nat} {args : List AV} {h : Heap} {r : AV × Heap} (hr : gcall (Over T sumsX) n f args h = some r) : ag T f args h = some r := ag_of_over sumsX_ok hr
end Go.Proofs.Ytejnficfhoekiaa.AM

/- Bits, digits of five bits, in plain Lean. -/
namespace Go.Proofs.Ytejnficfhoekiaa.AM
open Go
set_option linter.unusedVariables false
set_option linter.unusedSimpArgs false
def val (l : List Bool) : Nat := l.foldl (fun x b => 2 * x + b.toNat) 0
def bitsN : Nat → Nat → List Bool
  | 0, _ => []
  | k + 1, x => (x / 2 ^ k % 2 == 1) :: bitsN k x
theorem val_from : ∀ (l : List Bool) (x : Nat), l.foldl (fun x b => 2 * x + b.toNat) x = x * 2 ^ l.length + val l
  | [], x => by simp [val]
  | b :: l, x => by
    unfold val
    rw [List.foldl_cons, List.foldl_cons, val_from l, val_from l (2 * 0 + b.toNat), List.length_cons, Nat.pow_succ, Nat.add_mul, Nat.mul_comm 2 x, Nat.mul_assoc, Nat.mul_comm 2 (2 ^ l.length)]
    simp
    omega
theorem val_append (a b : List Bool) : val (a ++ b) = val a * 2 ^ b.length + val b := by
  show (a ++ b).foldl _ 0 = _
  rw [List.foldl_append, val_from]
  rfl
theorem val_cons (b : Bool) (l : List Bool) : val (b :: l) = b.toNat * 2 ^ l.length + val l := by
  have := val_append [b] l
  rw [List.singleton_append] at this
  rw [this]
  simp [val]
theorem val_lt : ∀ (l : List Bool), val l < 2 ^ l.length
  | [] => by simp [val]
  | b :: l => by
    have := val_lt l
    rw [val_cons, List.length_cons, Nat.pow_succ]
    cases b <;> simp <;> omega
theorem bitsN_len (k x : Nat) : (bitsN k x).length = k := by
  induction k with
  | zero => rfl
  | succ k ih => simp [bitsN, ih]
theorem val_bitsN (k x : Nat) : val (bitsN k x) = x % 2 ^ k := by
  induction k with
  | zero => simp [bitsN, val, Nat.mod_one]
  | succ k ih =>
    rw [bitsN, val_cons, ih, bitsN_len, Nat.pow_succ, Nat.mod_mul]
    rcases Nat.mod_two_eq_zero_or_one (x / 2 ^ k) with h | h <;> rw [h] <;> simp <;> omega
theorem val_inj : ∀ {a b : List Bool}, a.length = b.length → val a = val b → a = b
  | [], [], _, _ => rfl
  | [], _ :: _, h, _ => by simp at h
  | _ :: _, [], h, _ => by simp at h
  | x :: a, y :: b, h, hv => by
    have hl : a.length = b.length := by simpa using h
    rw [val_cons, val_cons, hl] at hv
    have ha := val_lt a
    have hb := val_lt b
    rw [hl] at ha
    have hp : 0 < 2 ^ b.length := Nat.pow_pos (by omega)
    have hxy : x = y := by cases x <;> cases y <;> simp at hv ⊢ <;> omega
    subst hxy
    rw [val_inj hl (by omega)]
theorem bitsN_val (l : List Bool) : bitsN l.length (val l) = l := val_inj (bitsN_len _ _) (by rw [val_bitsN, Nat.mod_eq_of_lt (val_lt l)])
theorem val_take (l : List Bool) (k : Nat) (hk : k ≤ l.length) : val (l.take k) = val l / 2 ^ (l.length - k) := by
  have h := val_append (l.take k) (l.drop k)
  rw [List.take_append_drop, List.length_drop] at h
  have hlt := val_lt (l.drop k)
  rw [List.length_drop] at hlt
  rw [h, Nat.mul_comm, Nat.mul_add_div (Nat.pow_pos (by omega)), Nat.div_eq_of_lt hlt, Nat.add_zero]
theorem val_drop (l : List Bool) (k : Nat) (hk : k ≤ l.length) : val (l.drop k) = val l % 2 ^ (l.length - k) := by
  have h := val_append (l.take k) (l.drop k)
  rw [List.take_append_drop, List.length_drop] at h
  have hlt := val_lt (l.drop k)
  rw [List.length_drop] at hlt
  rw [h, Nat.mul_comm, Nat.mul_add_mod, Nat.mod_eq_of_lt hlt]
theorem val_zeros (n : Nat) : val (List.replicate n false) = 0 := by
  induction n with
  | zero => rfl
  | succ n ih => rw [List.replicate_succ, val_cons, ih]; simp
theorem val_zero : ∀ (l : List Bool), val l = 0 → ∀ b ∈ l, b = false
  | [], _, b, hb => by cases hb
  | x :: l, h, b, hb => by
    rw [val_cons] at h
    have hp : 0 < 2 ^ l.length := Nat.pow_pos (by omega)
    have hx : x = false := by cases x <;> simp at h ⊢
    subst hx
    rcases List.mem_cons.1 hb with rfl | hb
    · rfl
    · exact val_zero l (by simpa using h) b hb
theorem val_step (l : List Bool) (b : Bool) : val (l ++ [b]) = 2 * val l + b.toNat := by
  rw [val_append]; simp [val]; omega
/-- the bits of bytes -/
def bits8 : List Int → List Bool
  | [] => []
  | c :: l => bitsN 8 c.toNat ++ bits8 l
theorem bits8_len : ∀ (l : List Int), (bits8 l).length = 8 * l.length
  | [] => rfl
  | c :: l => by rw [bits8, List.length_append, bitsN_len, bits8_len l, List.length_cons]; omega
theorem bits8_append : ∀ (a b : List Int), bits8 (a ++ b) = bits8 a ++ bits8 b
  | [], b => rfl
  | c :: a, b => by rw [List.cons_append, bits8, bits8, bits8_append a b, List.append_assoc]
/-- the digits of five bits, the last one filled up -/
def five : List Bool → List Nat
  | [] => []
  | a :: b :: c :: d :: e :: r => val [a, b, c, d, e] :: five r
  | [a, b, c, d] => [val [a, b, c, d] * 2]
  | [a, b, c] => [val [a, b, c] * 4]
  | [a, b] => [val [a, b] * 8]
  | [a] => [val [a] * 16]
theorem five_long (l : List Bool) (h : 5 ≤ l.length) : five l = val (l.take 5) :: five (l.drop 5) := by
  match l, h with
  | a :: b :: c :: d :: e :: r, _ => simp [five]
theorem five_short (l : List Bool) (h0 : 0 < l.length) (h : l.length < 5) : five l = [val l * 2 ^ (5 - l.length)] := by
  match l, h0, h with
  | [a], _, _ => rfl
  | [a, b], _, _ => rfl
  | [a, b, c], _, _ => rfl
  | [a, b, c, d], _, _ => rfl
theorem five_lt : ∀ (n : Nat) (l : List Bool), l.length ≤ n → ∀ d ∈ five l, d < 32
  | n, [], _, d, h => by simp [five] at h
  | n, [a], _, d, h => by simp [five] at h; have := val_lt [a]; simp at this; omega
  | n, [a, b], _, d, h => by simp [five] at h; have := val_lt [a, b]; simp at this; omega
  | n, [a, b, c], _, d, h => by simp [five] at h; have := val_lt [a, b, c]; simp at this; omega
  | n, [a, b, c, e], _, d, h => by simp [five] at h; have := val_lt [a, b, c, e]; simp at this; omega
  | 0, a :: b :: c :: f :: e :: r, hn, d, h => by simp at hn
  | n + 1, a :: b :: c :: f :: e :: r, hn, d, h => by
    rw [five] at h
    rcases List.mem_cons.1 h with rfl | h
    · have := val_lt [a, b, c, f, e]; simpa using this
    · exact five_lt n r (by simp at hn; omega) d h
theorem five_len (n : Nat) : ∀ (l : List Bool), l.length ≤ n → 5 * (five l).length < l.length + 5 ∧ l.length ≤ 5 * (five l).length := by
  induction n with
  | zero => intro l h; cases l with | nil => simp [five] | cons _ _ => simp at h
  | succ n ih =>
    intro l h
    by_cases h5 : 5 ≤ l.length
    · rw [five_long l h5]
      have := ih (l.drop 5) (by rw [List.length_drop]; omega)
      rw [List.length_drop] at this
      rw [List.length_cons]
      omega
    · by_cases h0 : 0 < l.length
      · rw [five_short l h0 (by omega)]; simp; omega
      · cases l with | nil => simp [five] | cons _ _ => simp at h0
/-- the bits of digits -/
def bits5 : List Nat → List Bool
  | [] => []
  | d :: l => bitsN 5 d ++ bits5 l
theorem bits5_len : ∀ (l : List Nat), (bits5 l).length = 5 * l.length
  | [] => rfl
  | c :: l => by rw [bits5, List.length_append, bitsN_len, bits5_len l, List.length_cons]; omega
theorem bits5_append : ∀ (a b : List Nat), bits5 (a ++ b) = bits5 a ++ bits5 b
  | [], b => rfl
  | c :: a, b => by rw [List.cons_append, bits5, bits5, bits5_append a b, List.append_assoc]
/-- the bytes of whole eights, and what is left -/
def eight : List Bool → List Int × List Bool
  | a :: b :: c :: d :: e :: f :: g :: h :: r => (((val [a, b, c, d, e, f, g, h] : Nat) : Int) :: (eight r).1, (eight r).2)
  | l => ([], l)
theorem eight_long (l : List Bool) (h : 8 ≤ l.length) : eight l = (((val (l.take 8) : Nat) : Int) :: (eight (l.drop 8)).1, (eight (l.drop 8)).2) := by
  match l, h with
  | a :: b :: c :: d :: e :: f :: g :: i :: r, _ => simp [eight]
theorem eight_short (l : List Bool) (h : l.length < 8) : eight l = ([], l) := by
  match l, h with
  | [], _ => rfl
  | [_], _ => rfl
  | [_, _], _ => rfl
  | [_, _, _], _ => rfl
  | [_, _, _, _], _ => rfl
  | [_, _, _, _, _], _ => rfl
  | [_, _, _, _, _, _], _ => rfl
  | [_, _, _, _, _, _, _], _ => rfl
theorem eight_fine (n : Nat) : ∀ (l : List Bool), l.length ≤ n → bits8 (eight l).1 ++ (eight l).2 = l ∧ (eight l).2.length < 8 ∧ Bytes (eight l).1 := by
  induction n with
  | zero => intro l h; cases l with | nil => exact ⟨rfl, by simp [eight], fun c hc => by simp [eight] at hc⟩ | cons _ _ => simp at h
  | succ n ih =>
    intro l h
    by_cases h8 : 8 ≤ l.length
    · rw [eight_long l h8]
      obtain ⟨h1, h2, h3⟩ := ih (l.drop 8) (by rw [List.length_drop]; omega)
      refine ⟨?_, h2, fun c hc => ?_⟩
      · show bitsN 8 (val (l.take 8) : Int).toNat ++ bits8 _ ++ _ = l
        have hb := bitsN_val (l.take 8)
        rw [List.length_take, Nat.min_eq_left h8] at hb
        rw [Int.toNat_natCast, hb, List.append_assoc, h1, List.take_append_drop]
      · rcases List.mem_cons.1 hc with rfl | hc
        · have := val_lt (l.take 8)
          rw [List.length_take, Nat.min_eq_left h8] at this
          omega
        · exact h3 c hc
    · rw [eight_short l (by omega)]
      exact ⟨rfl, by show l.length < 8; omega, fun c hc => by cases hc⟩
theorem eight_bits8 : ∀ (l : List Int) (r : List Bool), Bytes l → r.length < 8 → eight (bits8 l ++ r) = (l, r)
  | [], r, _, hr => eight_short r hr
  | c :: l, r, hl, hr => by
    have hc := hl c List.mem_cons_self
    have hlen : 8 ≤ (bits8 (c :: l) ++ r).length := by rw [List.length_append, bits8_len, List.length_cons]; omega
    rw [eight_long _ hlen, bits8, List.append_assoc]
    have ht : (bitsN 8 c.toNat ++ (bits8 l ++ r)).take 8 = bitsN 8 c.toNat := by
      have := @List.take_left _ (bitsN 8 c.toNat) (bits8 l ++ r)
      rwa [bitsN_len] at this
    have hd : (bitsN 8 c.toNat ++ (bits8 l ++ r)).drop 8 = bits8 l ++ r := by
      have := @List.drop_left _ (bitsN 8 c.toNat) (bits8 l ++ r)
      rwa [bitsN_len] at this
    rw [ht, hd, eight_bits8 l r (fun x hx => hl x (List.mem_cons_of_mem _ hx)) hr, val_bitsN]
    have : ((c.toNat % 2 ^ 8 : Nat) : Int) = c := by omega
    rw [this]
/-- digits back: the bits that they fill up -/
theorem five_back (n : Nat) : ∀ (l : List Bool), l.length ≤ n → ∃ z, z < 5 ∧ bits5 (five l) = l ++ List.replicate z false ∧ l.length + z = 5 * (five l).length := by
  induction n with
  | zero => intro l h; cases l with | nil => exact ⟨0, by omega, rfl, rfl⟩ | cons _ _ => simp at h
  | succ n ih =>
    intro l h
    by_cases h5 : 5 ≤ l.length
    · obtain ⟨z, hz, hb, hl⟩ := ih (l.drop 5) (by rw [List.length_drop]; omega)
      rw [five_long l h5]
      refine ⟨z, hz, ?_, ?_⟩
      · have hb5 := bitsN_val (l.take 5)
        rw [List.length_take, Nat.min_eq_left h5] at hb5
        rw [bits5, hb5, hb, ← List.append_assoc, List.take_append_drop]
      · rw [List.length_drop] at hl
        rw [List.length_cons]
        omega
    · by_cases h0 : 0 < l.length
      · rw [five_short l h0 (by omega)]
        refine ⟨5 - l.length, by omega, ?_, by simp; omega⟩
        rw [bits5, bits5, List.append_nil]
        have e : val (l ++ List.replicate (5 - l.length) false) = val l * 2 ^ (5 - l.length) := by rw [val_append, val_zeros, List.length_replicate, Nat.add_zero]
        rw [← e]
        have hb := bitsN_val (l ++ List.replicate (5 - l.length) false)
        rwa [List.length_append, List.length_replicate, show l.length + (5 - l.length) = 5 by omega] at hb
      · cases l with | nil => exact ⟨0, by omega, rfl, rfl⟩ | cons _ _ => simp at h0
theorem five_bits5 : ∀ (l : List Nat), (∀ d ∈ l, d < 32) → five (bits5 l) = l
  | [], _ => rfl
  | d :: l, h => by
    have hd := h d List.mem_cons_self
    rw [five_long _ (by rw [bits5_len, List.length_cons]; omega), bits5]
    have ht : (bitsN 5 d ++ bits5 l).take 5 = bitsN 5 d := by
      have := @List.take_left _ (bitsN 5 d) (bits5 l)
      rwa [bitsN_len] at this
    have hdr : (bitsN 5 d ++ bits5 l).drop 5 = bits5 l := by
      have := @List.drop_left _ (bitsN 5 d) (bits5 l)
      rwa [bitsN_len] at this
    rw [ht, hdr, five_bits5 l (fun x hx => h x (List.mem_cons_of_mem _ hx)), val_bitsN, Nat.mod_eq_of_lt (by omega)]
/-- digits to bytes -/
def unS (ds : List Nat) : Option (List Int) := if (eight (bits5 ds)).2.length < 5 ∧ val (eight (bits5 ds)).2 = 0 then some (eight (bits5 ds)).1 else none
theorem unS_five (l : List Int) (hl : Bytes l) : unS (five (bits8 l)) = some l := by
  obtain ⟨z, hz, hb, _⟩ := five_back _ (bits8 l) (Nat.le_refl _)
  unfold unS
  rw [hb, eight_bits8 l _ hl (by rw [List.length_replicate]; omega)]
  rw [if_pos ⟨by rw [List.length_replicate]; omega, val_zeros z⟩]
theorem zeros_of : ∀ (l : List Bool), val l = 0 → l = List.replicate l.length false := fun l h => List.eq_replicate_iff.2 ⟨rfl, val_zero l h⟩
theorem five_pad (n : Nat) : ∀ (l : List Bool) (z : Nat), l.length ≤ n → z < 5 → (l.length + z) % 5 = 0 → five (l ++ List.replicate z false) = five l := by
  induction n with
  | zero =>
    intro l z h hz hm
    cases l with
    | nil => obtain rfl : z = 0 := by simp at hm; omega
             rfl
    | cons _ _ => simp at h
  | succ n ih =>
    intro l z h hz hm
    by_cases h5 : 5 ≤ l.length
    · have hlen : 5 ≤ (l ++ List.replicate z false).length := by rw [List.length_append]; omega
      rw [five_long _ hlen, five_long l h5, List.take_append_of_le_length h5, List.drop_append_of_le_length h5, ih (l.drop 5) z (by rw [List.length_drop]; omega) hz (by rw [List.length_drop]; omega)]
    · by_cases h0 : 0 < l.length
      · have hz5 : l.length + z = 5 := by omega
        rw [five_short l h0 (by omega), five_long _ (by rw [List.length_append, List.length_replicate]; omega)]
        have ht : (l ++ List.replicate z false).take 5 = l ++ List.replicate z false := List.take_of_length_le (by rw [List.length_append, List.length_replicate]; omega)
        have hd : (l ++ List.replicate z false).drop 5 = [] := List.drop_eq_nil_of_le (by rw [List.length_append, List.length_replicate]; omega)
        rw [ht, hd, five, val_append, val_zeros, List.length_replicate, show 5 - l.length = z by omega, Nat.add_zero]
      · cases l with
        | nil => obtain rfl : z = 0 := by simp at hm; omega
                 rfl
        | cons _ _ => simp at h0
theorem five_unS (ds : List Nat) (hd : ∀ d ∈ ds, d < 32) {l : List Int} (h : unS ds = some l) : five (bits8 l) = ds := by
  unfold unS at h
  split at h
  · rename_i hc
    obtain ⟨h1, h2, h3⟩ := eight_fine _ (bits5 ds) (Nat.le_refl _)
    cases h
    rw [zeros_of _ hc.2] at h1
    have hlen : (bits8 (eight (bits5 ds)).1).length + (eight (bits5 ds)).2.length = 5 * ds.length := by
      have := congrArg List.length h1
      rw [List.length_append, List.length_replicate, bits5_len] at this
      exact this
    rw [← five_pad _ _ (eight (bits5 ds)).2.length (Nat.le_refl _) hc.1 (by omega), h1, five_bits5 ds hd]
  · cases h
theorem unS_bytes {ds : List Nat} {l : List Int} (h : unS ds = some l) : Bytes l ∧ 8 * l.length ≤ 5 * ds.length := by
  unfold unS at h
  split at h
  · cases h
    obtain ⟨h1, h2, h3⟩ := eight_fine _ (bits5 ds) (Nat.le_refl _)
    have := congrArg List.length h1
    rw [List.length_append, bits8_len, bits5_len] at this
    exact ⟨h3, by omega⟩
  · cases h
end Go.Proofs.Ytejnficfhoekiaa.AM

/- The thirty two digits; texts. -/
namespace Go.Proofs.Ytejnficfhoekiaa.AM
open Go
set_option linter.unusedVariables false
set_option linter.unusedSimpArgs false
set_option maxRecDepth 100000
def digs : List Int := [113, 112, 122, 114, 121, 57, 120, 56, 103, 102, 50, 116, 118, 100, 119, 48, 115, 51, 106, 110, 53, 52, 107, 104, 99, 101, 54, 109, 117, 97, 55, 108]
def digI (d : Nat) : Int := digs.getD d 0
def digT (ds : List Nat) : List Int := ds.map digI
/-- which digit a byte is; -1: none -/
def dgt (c : Int) : Int := Lib.indexByte (strOfNums digs).data.toList c.toNat.toUInt8
abbrev digB : ByteArray := bs [113, 112, 122, 114, 121, 57, 120, 56, 103, 102, 50, 116, 118, 100, 119, 48, 115, 51, 106, 110, 53, 52, 107, 104, 99, 101, 54, 109, 117, 97, 55, 108]
theorem digB_eq : digB = strOfNums digs := by decide +kernel
theorem st_data (l : List Int) : (strOfNums l).data.toList = l.map fun n => UInt8.ofNat n.toNat := by rw [strOfNums_data]
theorem st_size (l : List Int) : (strOfNums l).size = l.length := by
  show (strOfNums l).data.size = _
  rw [← Array.length_toList, st_data, List.length_map]
theorem u8_nat {c : Int} (h : 0 ≤ c ∧ c ≤ 255) : ((UInt8.ofNat c.toNat).toNat : Int) = c := by
  simp only [UInt8.toNat_ofNat']
  omega
theorem st_get {l : List Int} (hl : Bytes l) {i : Nat} (hi : i < l.length) : ((strOfNums l).data.toList[i]?).map (fun b => AV.int .u8 (b.toNat : Int)) = some (u8 l[i]) := by
  rw [st_data, List.getElem?_map, List.getElem?_eq_getElem hi]
  simp only [Option.map_some, u8_nat (hl _ (List.getElem_mem hi))]
theorem st_els {l : List Int} (hl : Bytes l) : strEls (strOfNums l) = l.map u8 := by
  unfold strEls
  rw [st_data, List.map_map]
  refine List.map_congr_left fun c hc => ?_
  show AV.int .u8 _ = _
  rw [u8_nat (hl c hc)]
theorem st_of (s : ByteArray) : ∃ l, Bytes l ∧ s = strOfNums l := by
  refine ⟨s.data.toList.map fun b => (b.toNat : Int), fun c hc => ?_, ?_⟩
  · obtain ⟨b, _, rfl⟩ := List.mem_map.1 hc
    have := b.toNat_lt
    omega
  · apply ByteArray.ext
    apply Array.toList_inj.1
    rw [st_data, List.map_map]
    conv => lhs; rw [← List.map_id s.data.toList]
    refine List.map_congr_left fun b _ => ?_
    simp
theorem st_eq {a b : List Int} (ha : Bytes a) (hb : Bytes b) : abin .eql (.string (strOfNums a)) (.string (strOfNums b)) = some (.bool (decide (a = b))) := by
  simp only [abin, astr]
  congr 2
  by_cases h : a = b
  · subst h; simp
  · rw [decide_eq_false h, beq_eq_false_iff_ne]
    exact fun hh => h (str_inj ha hb hh)
theorem st_ne {a b : List Int} (ha : Bytes a) (hb : Bytes b) : abin .neq (.string (strOfNums a)) (.string (strOfNums b)) = some (.bool (!decide (a = b))) := by
  have := st_eq ha hb
  simp only [abin, astr, Option.some.injEq, Value.bool.injEq] at this ⊢
  rw [this]
theorem st_add {a b : List Int} (h : a.length + b.length ≤ 9223372036854775807) : abin .add (.string (strOfNums a)) (.string (strOfNums b)) = some (.string (strOfNums (a ++ b))) := by
  simp only [abin, astr, st_size, if_pos h, str_append]
theorem st_cut (l : List Int) (i j : Nat) : (strOfNums l).extract i j = strOfNums ((l.take j).drop i) := by
  apply ByteArray.ext
  apply Array.toList_inj.1
  rw [st_data]
  simp only [ByteArray.data_extract, Array.toList_extract, List.extract_eq_take_drop, st_data]
  rw [List.drop_take]
  simp [List.map_take, List.map_drop]
theorem digs_bytes : Bytes digs := by unfold Bytes; decide +kernel
theorem digI_byte (d : Nat) : 0 ≤ digI d ∧ digI d ≤ 255 := by
  by_cases h : d < digs.length
  · have := digs_bytes _ (List.getElem_mem h)
    unfold digI
    rw [List.getD_eq_getElem?_getD, List.getElem?_eq_getElem h]
    exact this
  · unfold digI
    rw [List.getD_eq_getElem?_getD, List.getElem?_eq_none (by omega)]
    simp
theorem digT_bytes (ds : List Nat) : Bytes (digT ds) := fun c hc => by
  obtain ⟨d, _, rfl⟩ := List.mem_map.1 hc
  exact digI_byte d
theorem get_dig {d : Nat} (h : d < 32) : (digB.data.toList[d]?).map (fun b => AV.int .u8 (b.toNat : Int)) = some (u8 (digI d)) := by
  rw [digB_eq]
  have := st_get digs_bytes (i := d) h
  rw [this]
  unfold digI
  rw [List.getD_eq_getElem?_getD, List.getElem?_eq_getElem h]
  rfl
theorem dgt_all : ∀ c : Fin 256, -1 ≤ dgt (c.val : Int) ∧ dgt (c.val : Int) < 32 ∧ (0 ≤ dgt (c.val : Int) → digI (dgt (c.val : Int)).toNat = c.val) ∧ (List.range 32).foldl (fun (d : Int) k => if digI k = c.val then (k : Int) else d) (-1) = dgt (c.val : Int) := by decide +kernel
theorem dgt_fine {c : Int} (h : 0 ≤ c ∧ c ≤ 255) : -1 ≤ dgt c ∧ dgt c < 32 ∧ (0 ≤ dgt c → digI (dgt c).toNat = c) ∧ (List.range 32).foldl (fun (d : Int) k => if digI k = c then (k : Int) else d) (-1) = dgt c := by
  have := dgt_all ⟨c.toNat, by omega⟩
  simp only [show ((c.toNat : Nat) : Int) = c by omega] at this
  exact this
theorem dgt_dig : ∀ d : Fin 32, dgt (digI d.val) = d.val := by decide +kernel
/-- the digits of a text -/
def undig : List Int → Option (List Nat)
  | [] => some []
  | c :: l => if dgt c < 0 then none else (undig l).map ((dgt c).toNat :: ·)
theorem undig_dig : ∀ (ds : List Nat), (∀ d ∈ ds, d < 32) → undig (digT ds) = some ds
  | [], _ => rfl
  | d :: ds, h => by
    have hd := dgt_dig ⟨d, h d List.mem_cons_self⟩
    simp only at hd
    show undig (digI d :: digT ds) = _
    rw [undig, hd, if_neg (by omega), undig_dig ds (fun x hx => h x (List.mem_cons_of_mem _ hx))]
    simp
theorem dig_undig : ∀ (l : List Int) (ds : List Nat), Bytes l → undig l = some ds → digT ds = l ∧ (∀ d ∈ ds, d < 32) ∧ ds.length = l.length
  | [], ds, _, h => by cases h; exact ⟨rfl, fun d hd => (by cases hd), rfl⟩
  | c :: l, ds, hl, h => by
    have hc := hl c List.mem_cons_self
    obtain ⟨h1, h2, h3, _⟩ := dgt_fine hc
    rw [undig] at h
    split at h
    · cases h
    · obtain ⟨r, hr, rfl⟩ := Option.map_eq_some_iff.1 h
      obtain ⟨g1, g2, g3⟩ := dig_undig l r (fun x hx => hl x (List.mem_cons_of_mem _ hx)) hr
      refine ⟨?_, fun d hd => ?_, by simp [g3]⟩
      · show digI _ :: digT r = _
        rw [h3 (by omega), g1]
      · rcases List.mem_cons.1 hd with rfl | hd
        · omega
        · exact g2 d hd
/-- bytes as a text of digits, and back -/
def digitsS (l : List Int) : List Int := digT (five (bits8 l))
def unS2 (s : List Int) : Option (List Int) := (undig s).bind unS
theorem unS2_digits (l : List Int) (hl : Bytes l) : unS2 (digitsS l) = some l := by
  unfold unS2 digitsS
  rw [undig_dig _ (five_lt _ _ (Nat.le_refl _)), Option.bind_some, unS_five l hl]
theorem digits_unS2 {s l : List Int} (hs : Bytes s) (h : unS2 s = some l) : digitsS l = s := by
  obtain ⟨ds, hd, hu⟩ := Option.bind_eq_some_iff.1 h
  obtain ⟨g1, g2, g3⟩ := dig_undig s ds hs hd
  unfold digitsS
  rw [five_unS ds g2 hu, g1]
theorem unS2_bytes {s l : List Int} (hs : Bytes s) (h : unS2 s = some l) : Bytes l ∧ 8 * l.length ≤ 5 * s.length := by
  obtain ⟨ds, hd, hu⟩ := Option.bind_eq_some_iff.1 h
  obtain ⟨g1, g2, g3⟩ := dig_undig s ds hs hd
  rw [← g3]
  exact unS_bytes hu
theorem digitsS_bytes (l : List Int) : Bytes (digitsS l) := digT_bytes _
theorem digitsS_len (l : List Int) : 5 * (digitsS l).length < 8 * l.length + 5 := by
  have := (five_len _ (bits8 l) (Nat.le_refl _)).1
  rw [bits8_len] at this
  unfold digitsS digT
  rw [List.length_map]
  exact this
end Go.Proofs.Ytejnficfhoekiaa.AM

/- invoice's Digits. -/
namespace Go.Proofs.Ytejnficfhoekiaa.AM
open Go
set_option maxRecDepth 100000
set_option maxHeartbeats 4000000
set_option linter.unusedSimpArgs false
set_option linter.unusedVariables false
theorem shl_1 (n : Nat) (hn : n < 64) : abin .shl (.int .u64 1) (.int .i64 (n : Int)) = some (.int .u64 ((2 ^ n : Nat) : Int)) := by
  have h := shl_c .u64 .i64 1 n (by simp [IntKind.bits]; omega)
  have hp : (2 : Nat) ^ n < 2 ^ 64 := Nat.pow_lt_pow_right (by omega) hn
  have hp0 : 0 < (2 : Nat) ^ n := Nat.pow_pos (by omega)
  rw [h]
  have e : (1 : Int) * 2 ^ n = ((2 ^ n : Nat) : Int) := by rw [Int.one_mul, Int.natCast_pow]; rfl
  rw [e, IntWalk.u64_in _ ⟨by omega, by omega⟩]
theorem shr_n (k : IntKind) (x n : Nat) (hn : n ≤ k.bits) : abin .shr (.int k (x : Int)) (.int .i64 (n : Int)) = some (.int k ((x / 2 ^ n : Nat) : Int)) := by
  rw [shr_c k .i64 x n hn, Int.fdiv_eq_ediv_of_nonneg _ (by exact Int.pow_nonneg (by omega))]
  rw [Int.natCast_ediv, Int.natCast_pow]
  rfl
theorem and_mask (x n : Nat) (hx : x < 2 ^ 64) (hn : n < 64) : abin .and (.int .u64 (x : Int)) (.int .u64 (((2 ^ n : Nat) : Int) - 1)) = some (.int .u64 ((x % 2 ^ n : Nat) : Int)) := by
  simp only [abin, aint, abit, if_true, Option.map_some, Option.some.injEq, Value.int.injEq, true_and]
  have hp : (2 : Nat) ^ n < 2 ^ 64 := Nat.pow_lt_pow_right (by omega) hn
  have hp0 : 0 < (2 : Nat) ^ n := Nat.pow_pos (by omega)
  have e : (BitVec.ofInt IntKind.u64.bits (x : Int) &&& BitVec.ofInt IntKind.u64.bits (((2 ^ n : Nat) : Int) - 1)).toNat = x % 2 ^ n := by
    show (BitVec.ofInt 64 (x : Int) &&& BitVec.ofInt 64 (((2 ^ n : Nat) : Int) - 1)).toNat = _
    rw [BitVec.toNat_and, BitVec.toNat_ofInt, BitVec.toNat_ofInt]
    have e1 : ((x : Int) % (2 ^ 64 : Nat)).toNat = x := by omega
    have e2 : ((((2 ^ n : Nat) : Int) - 1) % (2 ^ 64 : Nat)).toNat = 2 ^ n - 1 := by omega
    rw [e1, e2, Nat.and_two_pow_sub_one_eq_mod]
  have hm : x % 2 ^ n < 2 ^ n := Nat.mod_lt _ hp0
  rw [e, IntKind.wrap_u64]
  omega
theorem and_31 (x : Nat) (hx : x < 2 ^ 64) : abin .and (.int .u64 (x : Int)) (.int .u64 31) = some (.int .u64 ((x % 32 : Nat) : Int)) := and_mask x 5 hx (by omega)
theorem or_low (x c k : Nat) (h : x * 2 ^ k + c < 2 ^ 64) (hc : c < 2 ^ k) : abin .or (.int .u64 ((x * 2 ^ k : Nat) : Int)) (.int .u64 (c : Int)) = some (.int .u64 ((x * 2 ^ k + c : Nat) : Int)) := by
  simp only [abin, aint, abit, if_true, Option.map_some, Option.some.injEq, Value.int.injEq, true_and]
  have e : (BitVec.ofInt IntKind.u64.bits ((x * 2 ^ k : Nat) : Int) ||| BitVec.ofInt IntKind.u64.bits (c : Int)).toNat = x * 2 ^ k + c := by
    show (BitVec.ofInt 64 ((x * 2 ^ k : Nat) : Int) ||| BitVec.ofInt 64 (c : Int)).toNat = _
    rw [BitVec.toNat_or, BitVec.toNat_ofInt, BitVec.toNat_ofInt]
    have e1 : (((x * 2 ^ k : Nat) : Int) % (2 ^ 64 : Nat)).toNat = x <<< k := by
      rw [Nat.shiftLeft_eq]
      omega
    have e2 : ((c : Int) % (2 ^ 64 : Nat)).toNat = c := by omega
    rw [e1, e2, ← Nat.shiftLeft_add_eq_or_of_lt hc, Nat.shiftLeft_eq]
  rw [e, IntKind.wrap_u64]
  omega
theorem shl_n (k2 : IntKind) (x n : Nat) (hn : n < 64) (hx : x * 2 ^ n < 2 ^ 64) : abin .shl (.int .u64 (x : Int)) (.int k2 (n : Int)) = some (.int .u64 ((x * 2 ^ n : Nat) : Int)) := by
  rw [shl_c .u64 k2 x n (by simp [IntKind.bits]; omega)]
  have e : (x : Int) * 2 ^ n = ((x * 2 ^ n : Nat) : Int) := by rw [Int.natCast_mul, Int.natCast_pow]; rfl
  rw [e, IntWalk.u64_in _ ⟨by omega, by omega⟩]
theorem get_dig2 {d : Nat} (h : d < 32) : ∃ w : UInt8, digB.data.toList[d]? = some w ∧ (w.toNat : Int) = digI d := by
  have hg := get_dig h
  obtain ⟨w, hw, he⟩ := Option.map_eq_some_iff.1 hg
  refine ⟨w, hw, ?_⟩
  simpa using he
theorem mod_div (x m : Nat) : x % 2 ^ (m + 5) / 2 ^ m = x / 2 ^ m % 32 := by
  rw [Nat.pow_add, Nat.mod_mul_right_div_self]
theorem digits_ok (b : List Int) (hb : Bytes b) (hn : b.length ≤ 1000000000000) : prun T F12 [.slice .none none (b.map u8)] = some (.sc (.string (strOfNums (digitsS b)))) := by
  refine WP_eq (prun_wp ?_)
  have hq : ((b.length : Int) * 8).tdiv 5 = ((8 * b.length / 5 : Nat) : Int) := by
    rw [Int.tdiv_eq_ediv_of_nonneg (by omega)]; omega
  first | have hb := hb | have hb := trivial
  repeat' (first | (simp -implicitDefEqProofs (disch := omega) only [hb, F12, hq, wC, initE, aop, Nat.reduceEqDiff, ↓reduceIte, Nat.reduceAdd, finish, resOf, tupOf, AM.freeze, freeze1, freezeL, closed, nam, namL, if_true, if_false, deref, boxAt, exAt, ldCells, oneL, oneCell, Nat.reduceLeDiff, evL, adopt, rigid, rigidL, trim, Int.reduceEq, Int.reduceMod, Int.reduceDiv, if_pos, if_neg, asI, forall_const, implies_true, chkD, chkO, chkW, effB, reB, vEq, beq_self_eq_true, Nat.reduceSub, Nat.reduceLT, Int.reduceSub, Int.reduceAdd, Int.reduceMul, Int.reduceLT, Int.reduceLE, Int.reduceToNat, optI, aslice, cutSl, cutMs, cutStr, cutOwn, cellsOf, one, elCells, lenOf, beqV, beqVL, strip, stripO, convS]) | ((first | rw [WP_condK] | rw [WP_opsG] | rw [WP_quiG] | rw [WP_dG]); refine And.intro (fun hb => ?_) (fun hb => ?_) <;> (first | have hd := dq1 hb | have hd := dq2 hb | have hd := dq3 hb | have hd := dq4 hb | skip)))
  refine WP_loop (I := fun k e h => ∃ (j : Nat) (p : List Bool) (out : List Int), k + j = b.length ∧ j ≤ b.length ∧ h = [.row none out.length] ∧ getE e 3 = .slice (.tok 0) none (out.map u8) ∧ getE e 4 = u64 ((val p : Nat) : Int) ∧ getE e 5 = i64 ((p.length : Nat) : Int) ∧ getE e 14 = .slice .none none (b.map u8) ∧ getE e 15 = i64 b.length ∧ getE e 16 = i64 j ∧ p.length < 5 ∧ digitsS b = out ++ digT (five (p ++ bits8 (b.drop j)))) ?_ b.length _ _ ?_
  rotate_left
  · exact ⟨0, [], [], by omega, by omega, rfl, rfl, rfl, rfl, rfl, rfl, rfl, by simp, rfl⟩
  rintro k e h ⟨j, p, out, hk, hj, rfl, h3, h4, h5, h14, h15, h16, hp5, hd⟩
  rw [trim_same' (by simp)]
  have hvp := val_lt p
  have hvp5 : val p < 16 := Nat.lt_of_lt_of_le hvp (Nat.pow_le_pow_right (by omega) (show p.length ≤ 4 by omega))
  by_cases hlt : j < b.length
  · have hg := get_u8 (l := b) (i := j) hlt
    obtain ⟨y0, y1⟩ := bytes_get hb (i := j) hlt
    obtain ⟨c, hc⟩ := Int.eq_ofNat_of_zero_le y0
    have hc255 : c < 256 := by omega
    obtain ⟨q, hq⟩ : ∃ q, q = p ++ bitsN 8 c := ⟨_, rfl⟩
    have hvq : val q = val p * 256 + c := by rw [hq, val_append, val_bitsN, bitsN_len, Nat.mod_eq_of_lt (by omega)]
    have hql : q.length = p.length + 8 := by rw [hq, List.length_append, bitsN_len]
    have hvq64 : val q < 4096 := by omega
    have hdq : digitsS b = out ++ digT (five (q ++ bits8 (b.drop (j + 1)))) := by
      rw [hd, List.drop_eq_getElem_cons hlt, bits8, hc, Int.toNat_natCast, hq, List.append_assoc]
    have e1 : abin .shl (.int .u64 (val p : Int)) (.int .u64 8) = some (.int .u64 ((val p * 2 ^ 8 : Nat) : Int)) := shl_n .u64 (val p) 8 (by omega) (by omega)
    have e2 := or_low (val p) c 8 (by omega) (by omega)
    rw [show val p * 2 ^ 8 + c = val q by omega] at e2
    rw [hc] at hg
    first | have hb := hb | have hb := trivial
    repeat' (first | (simp -implicitDefEqProofs (disch := omega) only [hb, L12_1, h3, h4, h5, h14, h15, h16, hg, e1, e2, wC, initE, aop, Nat.reduceEqDiff, ↓reduceIte, Nat.reduceAdd, finish, resOf, tupOf, AM.freeze, freeze1, freezeL, closed, nam, namL, if_true, if_false, deref, boxAt, exAt, ldCells, oneL, oneCell, Nat.reduceLeDiff, evL, adopt, rigid, rigidL, trim, Int.reduceEq, Int.reduceMod, Int.reduceDiv, if_pos, if_neg, asI, forall_const, implies_true, chkD, chkO, chkW, effB, reB, vEq, beq_self_eq_true, Nat.reduceSub, Nat.reduceLT, Int.reduceSub, Int.reduceAdd, Int.reduceMul, Int.reduceLT, Int.reduceLE, Int.reduceToNat, optI, aslice, cutSl, cutMs, cutStr, cutOwn, cellsOf, one, elCells, lenOf, beqV, beqVL, strip, stripO, convS]) | ((first | rw [WP_condK] | rw [WP_opsG] | rw [WP_quiG] | rw [WP_dG]); refine And.intro (fun hb => ?_) (fun hb => ?_) <;> (first | have hd := dq1 hb | have hd := dq2 hb | have hd := dq3 hb | have hd := dq4 hb | skip)))
    refine WP_loop (I := fun k2 e h => ∃ (n : Nat) (out2 : List Int), k2 = n / 5 ∧ n ≤ q.length ∧ h = [.row none out2.length] ∧ getE e 3 = .slice (.tok 0) none (out2.map u8) ∧ getE e 4 = u64 ((val q : Nat) : Int) ∧ getE e 5 = i64 ((n : Nat) : Int) ∧ getE e 14 = .slice .none none (b.map u8) ∧ getE e 15 = i64 b.length ∧ getE e 16 = i64 j ∧ digitsS b = out2 ++ digT (five (q.drop (q.length - n) ++ bits8 (b.drop (j + 1))))) ?_ (q.length / 5) _ _ ?_
    rotate_left
    · exact ⟨q.length, out, rfl, Nat.le_refl _, rfl, rfl, rfl, by rw [hql]; rfl, rfl, rfl, rfl, by rw [Nat.sub_self, List.drop_zero]; exact hdq⟩
    rintro k2 e h ⟨n, out2, hk2, hnq, rfl, h3, h4, h5, h14, h15, h16, hd2⟩
    rw [trim_same' (by simp)]
    have holen : out2.length ≤ 2 * b.length + 2 := by
      have h1 := congrArg List.length hd2
      rw [List.length_append] at h1
      have h2 := digitsS_len b
      omega
    by_cases hn5 : 5 ≤ n
    · obtain ⟨m, rfl⟩ : ∃ m, n = m + 5 := ⟨n - 5, by omega⟩
      have e1 : abin .shr (.int .u64 (val q : Int)) (.int .i64 (m : Int)) = some (.int .u64 ((val q / 2 ^ m : Nat) : Int)) := shr_n .u64 (val q) m (by simp [IntKind.bits]; omega)
      have hle : val q / 2 ^ m ≤ val q := Nat.div_le_self _ _
      have e2 := and_31 (val q / 2 ^ m) (by omega)
      obtain ⟨w, e3, e5⟩ := get_dig2 (d := val q / 2 ^ m % 32) (by omega)
      have e4 : (((m + 5 : Nat) : Int) - 5) = (m : Int) := by omega
      have ef : fitsB (out2.length + 1) 1 = true := by simp [fitsB]; omega
      first | have hb := hb | have hb := trivial
      repeat' (first | (simp -implicitDefEqProofs (disch := omega) only [hb, L12_0, h3, h4, h5, h14, h15, h16, e1, e2, e3, e5, e4, ef, aappend, elemsOf, setEls, elFits_sc, stripEl_sc, one_int, List.replicate_succ, List.replicate_zero, wC, initE, aop, Nat.reduceEqDiff, ↓reduceIte, Nat.reduceAdd, finish, resOf, tupOf, AM.freeze, freeze1, freezeL, closed, nam, namL, if_true, if_false, deref, boxAt, exAt, ldCells, oneL, oneCell, Nat.reduceLeDiff, evL, adopt, rigid, rigidL, trim, Int.reduceEq, Int.reduceMod, Int.reduceDiv, if_pos, if_neg, asI, forall_const, implies_true, chkD, chkO, chkW, effB, reB, vEq, beq_self_eq_true, Nat.reduceSub, Nat.reduceLT, Int.reduceSub, Int.reduceAdd, Int.reduceMul, Int.reduceLT, Int.reduceLE, Int.reduceToNat, optI, aslice, cutSl, cutMs, cutStr, cutOwn, cellsOf, one, elCells, lenOf, beqV, beqVL, strip, stripO, convS]) | ((first | rw [WP_condK] | rw [WP_opsG] | rw [WP_quiG] | rw [WP_dG]); refine And.intro (fun hb => ?_) (fun hb => ?_) <;> (first | have hd := dq1 hb | have hd := dq2 hb | have hd := dq3 hb | have hd := dq4 hb | skip)))
      refine ⟨m / 5, by omega, m, out2 ++ [digI (val q / 2 ^ m % 32)], rfl, by omega, by simp, by simp, rfl, ?_⟩
      rw [hd2]
      obtain ⟨R, hR⟩ : ∃ R, R = bits8 (b.drop (j + 1)) := ⟨_, rfl⟩
      rw [← hR]
      have hl5 : (q.drop (q.length - (m + 5))).length = m + 5 := by rw [List.length_drop]; omega
      rw [five_long (q.drop (q.length - (m + 5)) ++ R) (by rw [List.length_append]; omega), List.take_append_of_le_length (by omega), List.drop_append_of_le_length (by omega), List.drop_drop, show q.length - (m + 5) + 5 = q.length - m by omega]
      have hv : val ((q.drop (q.length - (m + 5))).take 5) = val q / 2 ^ m % 32 := by
        rw [val_take _ 5 (by omega), hl5, val_drop _ _ (by omega), show q.length - (q.length - (m + 5)) = m + 5 by omega, Nat.add_sub_cancel, mod_div]
      rw [hv]
      simp [digT]
    · have e1 := shl_1 n (by omega)
      have e2 := and_mask (val q) n (by omega) (by omega)
      have hp : (2 : Nat) ^ n < 2 ^ 64 := Nat.pow_lt_pow_right (by omega) (by omega)
      have hp0 : 0 < (2 : Nat) ^ n := Nat.pow_pos (by omega)
      first | have hb := hb | have hb := trivial
      repeat' (first | (simp -implicitDefEqProofs (disch := omega) only [hb, L12_0, h3, h4, h5, h14, h15, h16, e1, e2, wC, initE, aop, Nat.reduceEqDiff, ↓reduceIte, Nat.reduceAdd, finish, resOf, tupOf, AM.freeze, freeze1, freezeL, closed, nam, namL, if_true, if_false, deref, boxAt, exAt, ldCells, oneL, oneCell, Nat.reduceLeDiff, evL, adopt, rigid, rigidL, trim, Int.reduceEq, Int.reduceMod, Int.reduceDiv, if_pos, if_neg, asI, forall_const, implies_true, chkD, chkO, chkW, effB, reB, vEq, beq_self_eq_true, Nat.reduceSub, Nat.reduceLT, Int.reduceSub, Int.reduceAdd, Int.reduceMul, Int.reduceLT, Int.reduceLE, Int.reduceToNat, optI, aslice, cutSl, cutMs, cutStr, cutOwn, cellsOf, one, elCells, lenOf, beqV, beqVL, strip, stripO, convS]) | ((first | rw [WP_condK] | rw [WP_opsG] | rw [WP_quiG] | rw [WP_dG]); refine And.intro (fun hb => ?_) (fun hb => ?_) <;> (first | have hd := dq1 hb | have hd := dq2 hb | have hd := dq3 hb | have hd := dq4 hb | skip)))
      exact ⟨k - 1, by omega, j + 1, q.drop (q.length - n), out2, by omega, by omega, rfl, rfl, by rw [val_drop _ _ (by omega), show q.length - (q.length - n) = n by omega], by rw [List.length_drop, show q.length - (q.length - n) = n by omega], rfl, by rw [List.length_drop]; omega, hd2⟩
  · obtain rfl : j = b.length := by omega
    rw [List.drop_length, bits8, List.append_nil] at hd
    have holen : out.length ≤ 2 * b.length + 2 := by
      have h1 := congrArg List.length hd
      rw [List.length_append] at h1
      have h2 := digitsS_len b
      omega
    by_cases hp0 : 0 < p.length
    · have hpow : val p * 2 ^ (5 - p.length) < 32 := by
        have h2 : val p * 2 ^ (5 - p.length) < 2 ^ p.length * 2 ^ (5 - p.length) := Nat.mul_lt_mul_of_pos_right hvp (Nat.pow_pos (by omega))
        rwa [← Nat.pow_add, show p.length + (5 - p.length) = 5 by omega] at h2
      have e1 := shl_n .i64 (val p) (5 - p.length) (by omega) (by omega)
      rw [show ((5 - p.length : Nat) : Int) = 5 - (p.length : Int) by omega] at e1
      obtain ⟨w, e3, e5⟩ := get_dig2 hpow
      have ef : fitsB (out.length + 1) 1 = true := by simp [fitsB]; omega
      have e6 := byteEls_u8 (out ++ [digI (val p * 2 ^ (5 - p.length))])
      rw [List.map_append, List.map_singleton] at e6
      rw [five_short p hp0 hp5] at hd
      first | have hb := hb | have hb := trivial
      repeat' (first | (simp -implicitDefEqProofs (disch := omega) only [hb, L12_1, h3, h4, h5, h14, h15, h16, e1, e3, e5, ef, aappend, elemsOf, setEls, elFits_sc, stripEl_sc, one_int, List.replicate_succ, List.replicate_zero, convS_slice, e6, wC, initE, aop, Nat.reduceEqDiff, ↓reduceIte, Nat.reduceAdd, finish, resOf, tupOf, AM.freeze, freeze1, freezeL, closed, nam, namL, if_true, if_false, deref, boxAt, exAt, ldCells, oneL, oneCell, Nat.reduceLeDiff, evL, adopt, rigid, rigidL, trim, Int.reduceEq, Int.reduceMod, Int.reduceDiv, if_pos, if_neg, asI, forall_const, implies_true, chkD, chkO, chkW, effB, reB, vEq, beq_self_eq_true, Nat.reduceSub, Nat.reduceLT, Int.reduceSub, Int.reduceAdd, Int.reduceMul, Int.reduceLT, Int.reduceLE, Int.reduceToNat, optI, aslice, cutSl, cutMs, cutStr, cutOwn, cellsOf, one, elCells, lenOf, beqV, beqVL, strip, stripO, convS]) | ((first | rw [WP_condK] | rw [WP_opsG] | rw [WP_quiG] | rw [WP_dG]); refine And.intro (fun hb => ?_) (fun hb => ?_) <;> (first | have hd := dq1 hb | have hd := dq2 hb | have hd := dq3 hb | have hd := dq4 hb | skip)))
      rw [hd]
      rfl
    · have hpn : p = [] := List.length_eq_zero_iff.1 (by omega)
      subst hpn
      have e6 := byteEls_u8 out
      rw [five] at hd
      first | have hb := hb | have hb := trivial
      repeat' (first | (simp -implicitDefEqProofs (disch := omega) only [hb, L12_1, h3, h4, h5, h14, h15, h16, elemsOf, e6, wC, initE, aop, Nat.reduceEqDiff, ↓reduceIte, Nat.reduceAdd, finish, resOf, tupOf, AM.freeze, freeze1, freezeL, closed, nam, namL, if_true, if_false, deref, boxAt, exAt, ldCells, oneL, oneCell, Nat.reduceLeDiff, evL, adopt, rigid, rigidL, trim, Int.reduceEq, Int.reduceMod, Int.reduceDiv, if_pos, if_neg, asI, forall_const, implies_true, chkD, chkO, chkW, effB, reB, vEq, beq_self_eq_true, Nat.reduceSub, Nat.reduceLT, Int.reduceSub, Int.reduceAdd, Int.reduceMul, Int.reduceLT, Int.reduceLE, Int.reduceToNat, optI, aslice, cutSl, cutMs, cutStr, cutOwn, cellsOf, one, elCells, lenOf, beqV, beqVL, strip, stripO, convS]) | ((first | rw [WP_condK] | rw [WP_opsG] | rw [WP_quiG] | rw [WP_dG]); refine And.intro (fun hb => ?_) (fun hb => ?_) <;> (first | have hd := dq1 hb | have hd := dq2 hb | have hd := dq3 hb | have hd := dq4 hb | skip)))
      rw [hd]
      simp [digT]
end Go.Proofs.Ytejnficfhoekiaa.AM

/- the reference's Digits. -/
namespace Go.Proofs.Ytejnficfhoekiaa.AM
open Go
set_option maxRecDepth 100000
set_option maxHeartbeats 4000000
set_option linter.unusedSimpArgs false
set_option linter.unusedVariables false
theorem bitsN_get : ∀ (n x i : Nat), i < n → (bitsN n x)[i]? = some (x / 2 ^ (n - 1 - i) % 2 == 1)
  | 0, _, _, h => by omega
  | n + 1, x, 0, _ => by simp [bitsN]
  | n + 1, x, i + 1, h => by
    rw [bitsN, List.getElem?_cons_succ, bitsN_get n x i (by omega), show n + 1 - 1 - (i + 1) = n - 1 - i by omega]
theorem bits8_get : ∀ (l : List Int) (k : Nat) (h : k / 8 < l.length), (bits8 l)[k]? = some (l[k / 8].toNat / 2 ^ (7 - k % 8) % 2 == 1)
  | [], k, h => by simp at h
  | c :: l, k, h => by
    rw [bits8]
    by_cases hk : k < 8
    · rw [List.getElem?_append_left (by rw [bitsN_len]; exact hk), bitsN_get 8 _ k hk]
      have e : k / 8 = 0 := by omega
      have e2 : k % 8 = k := by omega
      simp [e, e2]
    · have hl : (bitsN 8 c.toNat).length = 8 := bitsN_len _ _
      rw [List.getElem?_append_right (by omega), hl]
      have e : k / 8 = (k - 8) / 8 + 1 := by omega
      have e2 : (k - 8) % 8 = k % 8 := by omega
      have h2 : (k - 8) / 8 < l.length := by rw [List.length_cons] at h; omega
      rw [bits8_get l (k - 8) h2, e2]
      simp [e]
theorem tmod_2 (x : Nat) : (x : Int).tmod 2 = ((x % 2 : Nat) : Int) := by rw [Int.tmod_eq_emod_of_nonneg (by omega)]; omega
theorem rdigits_ok (b : List Int) (hb : Bytes b) (hn : b.length ≤ 1000000000000) : prun T F15 [.slice .none none (b.map u8)] = some (.sc (.string (strOfNums (digitsS b)))) := by
  refine WP_eq (prun_wp ?_)
  have hlb := bits8_len b
  first | have hb := hb | have hb := trivial
  repeat' (first | (simp -implicitDefEqProofs (disch := omega) only [hb, F15, wC, initE, aop, Nat.reduceEqDiff, ↓reduceIte, Nat.reduceAdd, finish, resOf, tupOf, AM.freeze, freeze1, freezeL, closed, nam, namL, if_true, if_false, deref, boxAt, exAt, ldCells, oneL, oneCell, Nat.reduceLeDiff, evL, adopt, rigid, rigidL, trim, Int.reduceEq, Int.reduceMod, Int.reduceDiv, if_pos, if_neg, asI, forall_const, implies_true, chkD, chkO, chkW, effB, reB, vEq, beq_self_eq_true, Nat.reduceSub, Nat.reduceLT, Int.reduceSub, Int.reduceAdd, Int.reduceMul, Int.reduceLT, Int.reduceLE, Int.reduceToNat, optI, aslice, cutSl, cutMs, cutStr, cutOwn, cellsOf, one, elCells, lenOf, beqV, beqVL, strip, stripO, convS]) | ((first | rw [WP_condK] | rw [WP_opsG] | rw [WP_quiG] | rw [WP_dG]); refine And.intro (fun hb => ?_) (fun hb => ?_) <;> (first | have hd := dq1 hb | have hd := dq2 hb | have hd := dq3 hb | have hd := dq4 hb | skip)))
  refine WP_loop (I := fun k e h => ∃ (a : Nat) (out : List Int), k = (8 * b.length + 5 - a) / 5 ∧ a ≤ 8 * b.length + 4 ∧ h = [] ∧ getE e 0 = .slice .none none (b.map u8) ∧ getE e 3 = .str (strOfNums out) ∧ getE e 4 = i64 ((a : Nat) : Int) ∧ digitsS b = out ++ digT (five ((bits8 b).drop a))) ?_ ((8 * b.length + 5) / 5) _ _ ?_
  rotate_left
  · exact ⟨0, [], rfl, by omega, rfl, rfl, rfl, rfl, rfl⟩
  rintro k e h ⟨a, out, hk, ha, rfl, h0, h3, h4, hd⟩
  rw [trim_same' (by simp)]
  have holen : out.length ≤ 2 * b.length + 2 := by
    have h1 := congrArg List.length hd
    rw [List.length_append] at h1
    have h2 := digitsS_len b
    omega
  by_cases hlt : a < 8 * b.length
  · obtain ⟨Z, hZ⟩ : ∃ Z, Z = (bits8 b).drop a ++ List.replicate 5 false := ⟨_, rfl⟩
    have hZl : Z.length = 8 * b.length - a + 5 := by rw [hZ, List.length_append, List.length_drop, hlb, List.length_replicate]
    first | have hb := hb | have hb := trivial
    repeat' (first | (simp -implicitDefEqProofs (disch := omega) only [hb, L15_1, h0, h3, h4, wC, initE, aop, Nat.reduceEqDiff, ↓reduceIte, Nat.reduceAdd, finish, resOf, tupOf, AM.freeze, freeze1, freezeL, closed, nam, namL, if_true, if_false, deref, boxAt, exAt, ldCells, oneL, oneCell, Nat.reduceLeDiff, evL, adopt, rigid, rigidL, trim, Int.reduceEq, Int.reduceMod, Int.reduceDiv, if_pos, if_neg, asI, forall_const, implies_true, chkD, chkO, chkW, effB, reB, vEq, beq_self_eq_true, Nat.reduceSub, Nat.reduceLT, Int.reduceSub, Int.reduceAdd, Int.reduceMul, Int.reduceLT, Int.reduceLE, Int.reduceToNat, optI, aslice, cutSl, cutMs, cutStr, cutOwn, cellsOf, one, elCells, lenOf, beqV, beqVL, strip, stripO, convS]) | ((first | rw [WP_condK] | rw [WP_opsG] | rw [WP_quiG] | rw [WP_dG]); refine And.intro (fun hb => ?_) (fun hb => ?_) <;> (first | have hd := dq1 hb | have hd := dq2 hb | have hd := dq3 hb | have hd := dq4 hb | skip)))
    refine WP_loop (I := fun k2 e h => ∃ (i : Nat), k2 + i = 5 ∧ h = [] ∧ getE e 0 = .slice .none none (b.map u8) ∧ getE e 3 = .str (strOfNums out) ∧ getE e 4 = i64 ((a : Nat) : Int) ∧ getE e 5 = i64 ((val (Z.take i) : Nat) : Int) ∧ getE e 6 = i64 (((a + i : Nat) : Nat) : Int)) ?_ 5 _ _ ?_
    rotate_left
    · exact ⟨0, rfl, rfl, rfl, rfl, rfl, rfl, rfl⟩
    rintro k2 e h ⟨i, hki, rfl, h0, h3, h4, h5, h6⟩
    rw [trim_same' (by simp)]
    have hvi := val_lt (Z.take i)
    rw [List.length_take] at hvi
    have hvi2 : 2 ^ min i Z.length ≤ 2 ^ 5 := Nat.pow_le_pow_right (by omega) (by omega)
    by_cases hi5 : i < 5
    · have hg : Z[i]? = some (Z[i]'(by omega)) := List.getElem?_eq_getElem (by omega)
      have hts : Z.take (i + 1) = Z.take i ++ [Z[i]'(by omega)] := List.take_succ_eq_append_getElem (by omega)
      have hvs : val (Z.take (i + 1)) = 2 * val (Z.take i) + (Z[i]'(by omega)).toNat := by rw [hts, val_step]
      have e1 : ((a + i : Nat) : Int).tdiv 8 = (((a + i) / 8 : Nat) : Int) := by rw [Int.tdiv_eq_ediv_of_nonneg (by omega)]; omega
      have e2 : ((a + i : Nat) : Int).tmod 8 = (((a + i) % 8 : Nat) : Int) := by rw [Int.tmod_eq_emod_of_nonneg (by omega)]; omega
      have e3 : 7 - (((a + i) % 8 : Nat) : Int) = ((7 - (a + i) % 8 : Nat) : Int) := by omega
      by_cases hin : a + i < 8 * b.length
      · have hg2 := get_u8 (l := b) (i := (a + i) / 8) (by omega)
        obtain ⟨y0, y1⟩ := bytes_get hb (i := (a + i) / 8) (by omega)
        obtain ⟨c, hc⟩ := Int.eq_ofNat_of_zero_le y0
        rw [hc] at hg2
        have e4 := shr_n .u8 c (7 - (a + i) % 8) (by simp [IntKind.bits]; omega)
        obtain ⟨x, hx⟩ : ∃ x, c / 2 ^ (7 - (a + i) % 8) = x := ⟨_, rfl⟩
        rw [hx] at e4
        have e5 := tmod_2 x
        have hbit := bits8_get b (a + i) (by omega)
        rw [hc, Int.toNat_natCast, hx] at hbit
        have hzb : Z[i]? = (bits8 b)[a + i]? := by rw [hZ, List.getElem?_append_left (by rw [List.length_drop]; omega), List.getElem?_drop]
        rw [hg, hbit] at hzb
        have hzb2 := Option.some.inj hzb
        first | have hb := hb | have hb := trivial
        repeat' (first | (simp -implicitDefEqProofs (disch := omega) only [hb, L15_0, h0, h3, h4, h5, h6, hg2, e1, e2, e3, e4, e5, wC, initE, aop, Nat.reduceEqDiff, ↓reduceIte, Nat.reduceAdd, finish, resOf, tupOf, AM.freeze, freeze1, freezeL, closed, nam, namL, if_true, if_false, deref, boxAt, exAt, ldCells, oneL, oneCell, Nat.reduceLeDiff, evL, adopt, rigid, rigidL, trim, Int.reduceEq, Int.reduceMod, Int.reduceDiv, if_pos, if_neg, asI, forall_const, implies_true, chkD, chkO, chkW, effB, reB, vEq, beq_self_eq_true, Nat.reduceSub, Nat.reduceLT, Int.reduceSub, Int.reduceAdd, Int.reduceMul, Int.reduceLT, Int.reduceLE, Int.reduceToNat, optI, aslice, cutSl, cutMs, cutStr, cutOwn, cellsOf, one, elCells, lenOf, beqV, beqVL, strip, stripO, convS]) | ((first | rw [WP_condK] | rw [WP_opsG] | rw [WP_quiG] | rw [WP_dG]); refine And.intro (fun hb => ?_) (fun hb => ?_) <;> (first | have hd := dq1 hb | have hd := dq2 hb | have hd := dq3 hb | have hd := dq4 hb | skip)))
        · have hx1 : x % 2 = 1 := by omega
          rw [hx1] at hzb2
          rw [hzb2] at hvs
          exact ⟨k2 - 1, by omega, i + 1, by omega, by rw [hvs]; rfl, rfl⟩
        · have hx1 : x % 2 = 0 := by omega
          rw [hx1] at hzb2
          rw [hzb2] at hvs
          exact ⟨k2 - 1, by omega, i + 1, by omega, by rw [hvs]; rfl, rfl⟩
      · have hzb : Z[i]? = some false := by
          rw [hZ, List.getElem?_append_right (by rw [List.length_drop]; omega), List.getElem?_replicate, if_pos (by rw [List.length_drop]; omega)]
        rw [hg] at hzb
        have hzb2 := Option.some.inj hzb
        rw [hzb2] at hvs
        first | have hb := hb | have hb := trivial
        repeat' (first | (simp -implicitDefEqProofs (disch := omega) only [hb, L15_0, h0, h3, h4, h5, h6, wC, initE, aop, Nat.reduceEqDiff, ↓reduceIte, Nat.reduceAdd, finish, resOf, tupOf, AM.freeze, freeze1, freezeL, closed, nam, namL, if_true, if_false, deref, boxAt, exAt, ldCells, oneL, oneCell, Nat.reduceLeDiff, evL, adopt, rigid, rigidL, trim, Int.reduceEq, Int.reduceMod, Int.reduceDiv, if_pos, if_neg, asI, forall_const, implies_true, chkD, chkO, chkW, effB, reB, vEq, beq_self_eq_true, Nat.reduceSub, Nat.reduceLT, Int.reduceSub, Int.reduceAdd, Int.reduceMul, Int.reduceLT, Int.reduceLE, Int.reduceToNat, optI, aslice, cutSl, cutMs, cutStr, cutOwn, cellsOf, one, elCells, lenOf, beqV, beqVL, strip, stripO, convS]) | ((first | rw [WP_condK] | rw [WP_opsG] | rw [WP_quiG] | rw [WP_dG]); refine And.intro (fun hb => ?_) (fun hb => ?_) <;> (first | have hd := dq1 hb | have hd := dq2 hb | have hd := dq3 hb | have hd := dq4 hb | skip)))
        exact ⟨k2 - 1, by omega, i + 1, by omega, by rw [hvs]; rfl, rfl⟩
    · obtain rfl : i = 5 := by omega
      have hv32 : val (Z.take 5) < 32 := by omega
      obtain ⟨d, hd5⟩ : ∃ d, val (Z.take 5) = d := ⟨_, rfl⟩
      rw [hd5] at h5 hv32
      have hf : five ((bits8 b).drop a) = d :: five ((bits8 b).drop (a + 5)) := by
        by_cases hl5 : 5 ≤ ((bits8 b).drop a).length
        · rw [five_long _ hl5, List.drop_drop, ← hd5, hZ, List.take_append_of_le_length hl5]
        · have hl0 : 0 < ((bits8 b).drop a).length := by rw [List.length_drop]; omega
          have hnil : (bits8 b).drop (a + 5) = [] := List.drop_eq_nil_of_le (by rw [List.length_drop] at hl5; omega)
          rw [five_short _ hl0 (by omega), hnil, five, ← hd5, hZ, List.take_append, List.take_of_length_le (by omega), val_append, List.take_replicate, val_zeros, List.length_replicate, Nat.add_zero, Nat.min_eq_left (by omega)]
      have e1 : digB.extract d (d + 1) = strOfNums [digI d] := by
        rw [digB_eq, st_cut]
        congr 1
        have h32 : d < digs.length := hv32
        rw [List.drop_take, show d + 1 - d = 1 by omega, List.drop_eq_getElem_cons h32, List.take_succ_cons, List.take_zero]
        simp [digI, List.getD_eq_getElem?_getD, List.getElem?_eq_getElem h32]
      have hsz : digB.size = 32 := by decide +kernel
      have e2 := st_add (a := out) (b := [digI d]) (by simp; omega)
      first | have hb := hb | have hb := trivial
      repeat' (first | (simp -implicitDefEqProofs (disch := omega) only [hb, L15_0, h0, h3, h4, h5, h6, e1, e2, hsz, wC, initE, aop, Nat.reduceEqDiff, ↓reduceIte, Nat.reduceAdd, finish, resOf, tupOf, AM.freeze, freeze1, freezeL, closed, nam, namL, if_true, if_false, deref, boxAt, exAt, ldCells, oneL, oneCell, Nat.reduceLeDiff, evL, adopt, rigid, rigidL, trim, Int.reduceEq, Int.reduceMod, Int.reduceDiv, if_pos, if_neg, asI, forall_const, implies_true, chkD, chkO, chkW, effB, reB, vEq, beq_self_eq_true, Nat.reduceSub, Nat.reduceLT, Int.reduceSub, Int.reduceAdd, Int.reduceMul, Int.reduceLT, Int.reduceLE, Int.reduceToNat, optI, aslice, cutSl, cutMs, cutStr, cutOwn, cellsOf, one, elCells, lenOf, beqV, beqVL, strip, stripO, convS]) | ((first | rw [WP_condK] | rw [WP_opsG] | rw [WP_quiG] | rw [WP_dG]); refine And.intro (fun hb => ?_) (fun hb => ?_) <;> (first | have hd := dq1 hb | have hd := dq2 hb | have hd := dq3 hb | have hd := dq4 hb | skip)))
      exact ⟨(8 * b.length + 5 - (a + 5)) / 5, by omega, a + 5, out ++ [digI d], rfl, by omega, rfl, rfl, by rw [hd, hf]; simp [digT]⟩
  · have hf : (bits8 b).drop a = [] := List.drop_eq_nil_of_le (by omega)
    rw [hf, five] at hd
    first | have hb := hb | have hb := trivial
    repeat' (first | (simp -implicitDefEqProofs (disch := omega) only [hb, L15_1, h0, h3, h4, wC, initE, aop, Nat.reduceEqDiff, ↓reduceIte, Nat.reduceAdd, finish, resOf, tupOf, AM.freeze, freeze1, freezeL, closed, nam, namL, if_true, if_false, deref, boxAt, exAt, ldCells, oneL, oneCell, Nat.reduceLeDiff, evL, adopt, rigid, rigidL, trim, Int.reduceEq, Int.reduceMod, Int.reduceDiv, if_pos, if_neg, asI, forall_const, implies_true, chkD, chkO, chkW, effB, reB, vEq, beq_self_eq_true, Nat.reduceSub, Nat.reduceLT, Int.reduceSub, Int.reduceAdd, Int.reduceMul, Int.reduceLT, Int.reduceLE, Int.reduceToNat, optI, aslice, cutSl, cutMs, cutStr, cutOwn, cellsOf, one, elCells, lenOf, beqV, beqVL, strip, stripO, convS]) | ((first | rw [WP_condK] | rw [WP_opsG] | rw [WP_quiG] | rw [WP_dG]); refine And.intro (fun hb => ?_) (fun hb => ?_) <;> (first | have hd := dq1 hb | have hd := dq2 hb | have hd := dq3 hb | have hd := dq4 hb | skip)))
    rw [hd]
    simp [digT]
end Go.Proofs.Ytejnficfhoekiaa.AM

/- invoice's Bytes. -/
namespace Go.Proofs.Ytejnficfhoekiaa.AM
open Go
set_option maxRecDepth 100000
set_option maxHeartbeats 4000000
set_option linter.unusedSimpArgs false
set_option linter.unusedVariables false
def unV : Option (List Int) → AV
  | some l => .tup [.slice .fresh none (l.map u8), i64 0]
  | none => .tup [.nil, i64 10]
theorem undig_none : ∀ {l : List Int} {i : Nat} (h : i < l.length), dgt l[i] < 0 → undig l = none
  | c :: l, 0, _, hd => by rw [undig, if_pos (show dgt c < 0 from hd)]
  | c :: l, i + 1, h, hd => by
    rw [undig]
    split
    · rfl
    · rw [undig_none (l := l) (i := i) (by simpa using h) hd]; rfl
theorem undig_snoc : ∀ {l : List Int} {c : Int} {ds : List Nat}, undig l = some ds → ¬ dgt c < 0 → undig (l ++ [c]) = some (ds ++ [(dgt c).toNat])
  | [], c, ds, h, hc => by cases h; simp [undig, hc]
  | x :: l, c, ds, h, hc => by
    rw [undig] at h
    split at h
    · cases h
    · rename_i hx
      obtain ⟨r, hr, rfl⟩ := Option.map_eq_some_iff.1 h
      rw [List.cons_append, undig, if_neg hx, undig_snoc hr hc]
      rfl
theorem unS2_none {l : List Int} {i : Nat} (h : i < l.length) (hd : dgt l[i] < 0) : unS2 l = none := by unfold unS2; rw [undig_none h hd]; rfl
theorem unS2_end {l : List Int} {ds : List Nat} {out : List Int} {p : List Bool} (h : undig l = some ds) (hb : bits5 ds = bits8 out ++ p) (ho : Bytes out) (hp : p.length < 8) : unS2 l = if p.length < 5 ∧ val p = 0 then some out else none := by
  unfold unS2 unS
  rw [h, Option.bind_some, hb, eight_bits8 out p ho hp]
theorem bits8_snoc (out : List Int) (q : List Bool) (h : 8 ≤ q.length) : bits8 (out ++ [((val (q.take 8) : Nat) : Int)]) ++ q.drop 8 = bits8 out ++ q := by
  have hb := bitsN_val (q.take 8)
  rw [List.length_take, Nat.min_eq_left h] at hb
  rw [bits8_append, bits8, bits8, List.append_nil, Int.toNat_natCast, hb, List.append_assoc, List.take_append_drop]
theorem call_ix (c : Int) (h : Heap) : ag T 29 [.sc (.string digB), u8 c] h = some (i64 (dgt c), h) := by
  refine call_sc rfl t29 rfl rfl rfl rfl ?_
  refine WP_eq (prun_wp ?_)
  have hx : ∀ h, ag T 46 [.sc (.string digB), u8 c] h = some (i64 (dgt c), h) := fun h => by
    rw [ag_ext e46]
    unfold dgt
    rw [← digB_eq]
    rfl
  first | have hb := hb | have hb := trivial
  repeat' (first | (simp -implicitDefEqProofs (disch := omega) only [hb, F29, hx, wC, initE, aop, Nat.reduceEqDiff, ↓reduceIte, Nat.reduceAdd, finish, resOf, tupOf, AM.freeze, freeze1, freezeL, closed, nam, namL, if_true, if_false, deref, boxAt, exAt, ldCells, oneL, oneCell, Nat.reduceLeDiff, evL, adopt, rigid, rigidL, trim, Int.reduceEq, Int.reduceMod, Int.reduceDiv, if_pos, if_neg, asI, forall_const, implies_true, chkD, chkO, chkW, effB, reB, vEq, beq_self_eq_true, Nat.reduceSub, Nat.reduceLT, Int.reduceSub, Int.reduceAdd, Int.reduceMul, Int.reduceLT, Int.reduceLE, Int.reduceToNat, optI, aslice, cutSl, cutMs, cutStr, cutOwn, cellsOf, one, elCells, lenOf, beqV, beqVL, strip, stripO, convS]) | ((first | rw [WP_condK] | rw [WP_opsG] | rw [WP_quiG] | rw [WP_dG]); refine And.intro (fun hb => ?_) (fun hb => ?_) <;> (first | have hd := dq1 hb | have hd := dq2 hb | have hd := dq3 hb | have hd := dq4 hb | skip)))
theorem bytes_ok (s : List Int) (hs : Bytes s) (hn : s.length ≤ 1000000000000) : prun T F13 [.sc (.string (strOfNums s))] = some (unV (unS2 s)) := by
  refine WP_eq (prun_wp ?_)
  have hsz := st_size s
  first | have hb := hb | have hb := trivial
  repeat' (first | (simp -implicitDefEqProofs (disch := omega) only [hb, F13, hsz, wC, initE, aop, Nat.reduceEqDiff, ↓reduceIte, Nat.reduceAdd, finish, resOf, tupOf, AM.freeze, freeze1, freezeL, closed, nam, namL, if_true, if_false, deref, boxAt, exAt, ldCells, oneL, oneCell, Nat.reduceLeDiff, evL, adopt, rigid, rigidL, trim, Int.reduceEq, Int.reduceMod, Int.reduceDiv, if_pos, if_neg, asI, forall_const, implies_true, chkD, chkO, chkW, effB, reB, vEq, beq_self_eq_true, Nat.reduceSub, Nat.reduceLT, Int.reduceSub, Int.reduceAdd, Int.reduceMul, Int.reduceLT, Int.reduceLE, Int.reduceToNat, optI, aslice, cutSl, cutMs, cutStr, cutOwn, cellsOf, one, elCells, lenOf, beqV, beqVL, strip, stripO, convS]) | ((first | rw [WP_condK] | rw [WP_opsG] | rw [WP_quiG] | rw [WP_dG]); refine And.intro (fun hb => ?_) (fun hb => ?_) <;> (first | have hd := dq1 hb | have hd := dq2 hb | have hd := dq3 hb | have hd := dq4 hb | skip)))
  refine WP_loop (I := fun k e h => ∃ (i : Nat) (p : List Bool) (out : List Int) (ds : List Nat), k + i = s.length ∧ i ≤ s.length ∧ h = [.row none out.length] ∧ getE e 0 = .str (strOfNums s) ∧ getE e 4 = .slice (.tok 0) none (out.map u8) ∧ getE e 5 = u64 ((val p : Nat) : Int) ∧ getE e 6 = i64 ((p.length : Nat) : Int) ∧ getE e 10 = i64 s.length ∧ getE e 11 = i64 i ∧ p.length < 8 ∧ Bytes out ∧ undig (s.take i) = some ds ∧ bits5 ds = bits8 out ++ p ∧ out.length ≤ i) ?_ s.length _ _ ?_
  rotate_left
  · exact ⟨0, [], [], [], by omega, by omega, rfl, rfl, rfl, rfl, rfl, rfl, rfl, by simp, (by intro c hc; cases hc), by simp [undig], rfl, by simp⟩
  rintro k e h ⟨i, p, out, ds, hk, hi, rfl, h0, h4, h5, h6, h10, h11, hp8, hob, hud, hbits, hol⟩
  rw [trim_same' (by simp)]
  have hvp := val_lt p
  have hvp7 : val p < 128 := Nat.lt_of_lt_of_le hvp (Nat.pow_le_pow_right (by omega) (show p.length ≤ 7 by omega))
  by_cases hlt : i < s.length
  · obtain ⟨w, e1, e2⟩ : ∃ w : UInt8, (strOfNums s).data.toList[i]? = some w ∧ (w.toNat : Int) = s[i] := by
      have hg := st_get hs hlt
      obtain ⟨w, hw, he⟩ := Option.map_eq_some_iff.1 hg
      exact ⟨w, hw, by simpa using he⟩
    obtain ⟨d1, d2, d3, _⟩ := dgt_fine (bytes_get hs hlt)
    have hcall := fun h => call_ix s[i] h
    by_cases hneg : dgt s[i] < 0
    · first | have hb := hb | have hb := trivial
      repeat' (first | (simp -implicitDefEqProofs (disch := omega) only [hb, L13_0, h0, h4, h5, h6, h10, h11, e1, e2, hcall, p29, hsz, wC, initE, aop, Nat.reduceEqDiff, ↓reduceIte, Nat.reduceAdd, finish, resOf, tupOf, AM.freeze, freeze1, freezeL, closed, nam, namL, if_true, if_false, deref, boxAt, exAt, ldCells, oneL, oneCell, Nat.reduceLeDiff, evL, adopt, rigid, rigidL, trim, Int.reduceEq, Int.reduceMod, Int.reduceDiv, if_pos, if_neg, asI, forall_const, implies_true, chkD, chkO, chkW, effB, reB, vEq, beq_self_eq_true, Nat.reduceSub, Nat.reduceLT, Int.reduceSub, Int.reduceAdd, Int.reduceMul, Int.reduceLT, Int.reduceLE, Int.reduceToNat, optI, aslice, cutSl, cutMs, cutStr, cutOwn, cellsOf, one, elCells, lenOf, beqV, beqVL, strip, stripO, convS]) | ((first | rw [WP_condK] | rw [WP_opsG] | rw [WP_quiG] | rw [WP_dG]); refine And.intro (fun hb => ?_) (fun hb => ?_) <;> (first | have hd := dq1 hb | have hd := dq2 hb | have hd := dq3 hb | have hd := dq4 hb | skip)))
      rw [unS2_none hlt hneg]
      simp [unV]
    · obtain ⟨d, hdd⟩ := Int.eq_ofNat_of_zero_le (show 0 ≤ dgt s[i] by omega)
      have hd32 : d < 32 := by omega
      obtain ⟨q, hq⟩ : ∃ q, q = p ++ bitsN 5 d := ⟨_, rfl⟩
      have hvq : val q = val p * 32 + d := by rw [hq, val_append, val_bitsN, bitsN_len, Nat.mod_eq_of_lt (by omega)]
      have hql : q.length = p.length + 5 := by rw [hq, List.length_append, bitsN_len]
      have hnew : undig (s.take (i + 1)) = some (ds ++ [d]) := by
        rw [List.take_succ_eq_append_getElem hlt, undig_snoc hud hneg, hdd, Int.toNat_natCast]
      have hnb : bits5 (ds ++ [d]) = bits8 out ++ q := by rw [bits5_append, hbits, bits5, bits5, List.append_nil, hq, List.append_assoc]
      have f1 : abin .shl (.int .u64 (val p : Int)) (.int .u64 5) = some (.int .u64 ((val p * 2 ^ 5 : Nat) : Int)) := shl_n .u64 (val p) 5 (by omega) (by omega)
      have f2 := or_low (val p) d 5 (by omega) (by omega)
      rw [show val p * 2 ^ 5 + d = val q by omega] at f2
      by_cases hq8 : 8 ≤ q.length
      · obtain ⟨m, hm⟩ : ∃ m, q.length = m + 8 := ⟨q.length - 8, by omega⟩
        have f3 := shr_n .u64 (val q) m (by simp [IntKind.bits]; omega)
        have f4 := shl_1 m (by omega)
        have f5 := and_mask (val q) m (by omega) (by omega)
        have f6 : (p.length : Int) + 5 - 8 = (m : Int) := by omega
        have hpw : (2 : Nat) ^ m < 2 ^ 64 := Nat.pow_lt_pow_right (by omega) (by omega)
        have hpw0 : 0 < (2 : Nat) ^ m := Nat.pow_pos (by omega)
        have hvt : val (q.take 8) = val q / 2 ^ m := by rw [val_take _ 8 hq8, show q.length - 8 = m by omega]
        have hvt8 : val (q.take 8) < 256 := by
          have := val_lt (q.take 8)
          rwa [List.length_take, Nat.min_eq_left hq8] at this
        obtain ⟨x, hx⟩ : ∃ x, val q / 2 ^ m = x := ⟨_, rfl⟩
        rw [hx] at f3 hvt
        have f7 : IntKind.u8.wrap (x : Int) = (x : Int) := by rw [w_u8]; omega
        have ef : fitsB (out.length + 1) 1 = true := by simp [fitsB]; omega
        first | have hb := hb | have hb := trivial
        repeat' (first | (simp -implicitDefEqProofs (disch := omega) only [hb, L13_0, h0, h4, h5, h6, h10, h11, e1, e2, hcall, p29, hdd, f1, f2, f3, f4, f5, f6, f7, ef, aappend, elemsOf, setEls, elFits_sc, stripEl_sc, one_int, List.replicate_succ, List.replicate_zero, wC, initE, aop, Nat.reduceEqDiff, ↓reduceIte, Nat.reduceAdd, finish, resOf, tupOf, AM.freeze, freeze1, freezeL, closed, nam, namL, if_true, if_false, deref, boxAt, exAt, ldCells, oneL, oneCell, Nat.reduceLeDiff, evL, adopt, rigid, rigidL, trim, Int.reduceEq, Int.reduceMod, Int.reduceDiv, if_pos, if_neg, asI, forall_const, implies_true, chkD, chkO, chkW, effB, reB, vEq, beq_self_eq_true, Nat.reduceSub, Nat.reduceLT, Int.reduceSub, Int.reduceAdd, Int.reduceMul, Int.reduceLT, Int.reduceLE, Int.reduceToNat, optI, aslice, cutSl, cutMs, cutStr, cutOwn, cellsOf, one, elCells, lenOf, beqV, beqVL, strip, stripO, convS]) | ((first | rw [WP_condK] | rw [WP_opsG] | rw [WP_quiG] | rw [WP_dG]); refine And.intro (fun hb => ?_) (fun hb => ?_) <;> (first | have hd := dq1 hb | have hd := dq2 hb | have hd := dq3 hb | have hd := dq4 hb | skip)))
        have hdl : (q.drop 8).length = m := by rw [List.length_drop]; omega
        refine ⟨k - 1, by omega, i + 1, q.drop 8, out ++ [(x : Int)], ds ++ [d], by omega, by omega, by simp, by simp, ?_, by rw [hdl], rfl, by omega, ?_, hnew, ?_, by simp; omega⟩
        · have hdm : val (q.drop 8) = val q % 2 ^ m := by rw [val_drop _ 8 hq8, show q.length - 8 = m by omega]
          rw [hdm]
        · refine bytes_append hob fun c hc => ?_
          rw [List.mem_singleton.1 hc]
          omega
        · rw [hnb, ← bits8_snoc out q hq8, hvt]
      · first | have hb := hb | have hb := trivial
        repeat' (first | (simp -implicitDefEqProofs (disch := omega) only [hb, L13_0, h0, h4, h5, h6, h10, h11, e1, e2, hcall, p29, hdd, f1, f2, wC, initE, aop, Nat.reduceEqDiff, ↓reduceIte, Nat.reduceAdd, finish, resOf, tupOf, AM.freeze, freeze1, freezeL, closed, nam, namL, if_true, if_false, deref, boxAt, exAt, ldCells, oneL, oneCell, Nat.reduceLeDiff, evL, adopt, rigid, rigidL, trim, Int.reduceEq, Int.reduceMod, Int.reduceDiv, if_pos, if_neg, asI, forall_const, implies_true, chkD, chkO, chkW, effB, reB, vEq, beq_self_eq_true, Nat.reduceSub, Nat.reduceLT, Int.reduceSub, Int.reduceAdd, Int.reduceMul, Int.reduceLT, Int.reduceLE, Int.reduceToNat, optI, aslice, cutSl, cutMs, cutStr, cutOwn, cellsOf, one, elCells, lenOf, beqV, beqVL, strip, stripO, convS]) | ((first | rw [WP_condK] | rw [WP_opsG] | rw [WP_quiG] | rw [WP_dG]); refine And.intro (fun hb => ?_) (fun hb => ?_) <;> (first | have hd := dq1 hb | have hd := dq2 hb | have hd := dq3 hb | have hd := dq4 hb | skip)))
        exact ⟨k - 1, by omega, i + 1, q, out, ds ++ [d], by omega, by omega, rfl, rfl, rfl, by rw [hql]; rfl, rfl, by omega, hob, hnew, hnb, by omega⟩
  · obtain rfl : i = s.length := by omega
    rw [List.take_length] at hud
    have hend := unS2_end hud hbits hob hp8
    first | have hb := hb | have hb := trivial
    repeat' (first | (simp -implicitDefEqProofs (disch := omega) only [hb, L13_0, h0, h4, h5, h6, h10, h11, wC, initE, aop, Nat.reduceEqDiff, ↓reduceIte, Nat.reduceAdd, finish, resOf, tupOf, AM.freeze, freeze1, freezeL, closed, nam, namL, if_true, if_false, deref, boxAt, exAt, ldCells, oneL, oneCell, Nat.reduceLeDiff, evL, adopt, rigid, rigidL, trim, Int.reduceEq, Int.reduceMod, Int.reduceDiv, if_pos, if_neg, asI, forall_const, implies_true, chkD, chkO, chkW, effB, reB, vEq, beq_self_eq_true, Nat.reduceSub, Nat.reduceLT, Int.reduceSub, Int.reduceAdd, Int.reduceMul, Int.reduceLT, Int.reduceLE, Int.reduceToNat, optI, aslice, cutSl, cutMs, cutStr, cutOwn, cellsOf, one, elCells, lenOf, beqV, beqVL, strip, stripO, convS]) | ((first | rw [WP_condK] | rw [WP_opsG] | rw [WP_quiG] | rw [WP_dG]); refine And.intro (fun hb => ?_) (fun hb => ?_) <;> (first | have hd := dq1 hb | have hd := dq2 hb | have hd := dq3 hb | have hd := dq4 hb | skip)))
    · rw [hend, if_neg (by omega)]; rfl
    · refine ⟨u8_closed _, ?_⟩
      rw [hend, if_pos ⟨by omega, by simp at hb; omega⟩]; rfl
    · rw [hend, if_neg (by simp at hb; omega)]; rfl
end Go.Proofs.Ytejnficfhoekiaa.AM

/- the reference's Bytes. -/
namespace Go.Proofs.Ytejnficfhoekiaa.AM
open Go
set_option maxRecDepth 100000
set_option maxHeartbeats 4000000
set_option linter.unusedSimpArgs false
set_option linter.unusedVariables false
def bV (b : Bool) : AV := i64 (b.toNat : Nat)
theorem bV_get {l : List Bool} {i : Nat} (h : i < l.length) : (l.map bV)[i]? = some (i64 ((l[i].toNat : Nat) : Int)) := by rw [List.getElem?_map, List.getElem?_eq_getElem h]; rfl
def lastK (c : Int) (k : Nat) : Int := (List.range k).foldl (fun (d : Int) k => if digI k = c then (k : Int) else d) (-1)
theorem lastK_succ (c : Int) (k : Nat) : lastK c (k + 1) = if digI k = c then (k : Int) else lastK c k := by
  unfold lastK
  rw [List.range_succ, List.foldl_append]
  rfl
theorem bV_append (a b : List Bool) : (a ++ b).map bV = a.map bV ++ b.map bV := List.map_append
theorem rbytes_ok (s : List Int) (hs : Bytes s) (hn : s.length ≤ 1000000000000) : prun T F14 [.sc (.string (strOfNums s))] = some (unV (unS2 s)) := by
  refine WP_eq (prun_wp ?_)
  have hsz := st_size s
  first | have hb := hb | have hb := trivial
  repeat' (first | (simp -implicitDefEqProofs (disch := omega) only [hb, F14, hsz, wC, initE, aop, Nat.reduceEqDiff, ↓reduceIte, Nat.reduceAdd, finish, resOf, tupOf, AM.freeze, freeze1, freezeL, closed, nam, namL, if_true, if_false, deref, boxAt, exAt, ldCells, oneL, oneCell, Nat.reduceLeDiff, evL, adopt, rigid, rigidL, trim, Int.reduceEq, Int.reduceMod, Int.reduceDiv, if_pos, if_neg, asI, forall_const, implies_true, chkD, chkO, chkW, effB, reB, vEq, beq_self_eq_true, Nat.reduceSub, Nat.reduceLT, Int.reduceSub, Int.reduceAdd, Int.reduceMul, Int.reduceLT, Int.reduceLE, Int.reduceToNat, optI, aslice, cutSl, cutMs, cutStr, cutOwn, cellsOf, one, elCells, lenOf, beqV, beqVL, strip, stripO, convS]) | ((first | rw [WP_condK] | rw [WP_opsG] | rw [WP_quiG] | rw [WP_dG]); refine And.intro (fun hb => ?_) (fun hb => ?_) <;> (first | have hd := dq1 hb | have hd := dq2 hb | have hd := dq3 hb | have hd := dq4 hb | skip)))
  refine WP_loop (I := fun k e h => ∃ (i : Nat) (ds : List Nat), k + i = s.length ∧ i ≤ s.length ∧ h = [.row none (5 * i)] ∧ getE e 0 = .str (strOfNums s) ∧ getE e 4 = .slice (.tok 0) none ((bits5 ds).map bV) ∧ getE e 5 = i64 i ∧ undig (s.take i) = some ds ∧ ds.length = i) ?_ s.length _ _ ?_
  rotate_left
  · exact ⟨0, [], by omega, by omega, rfl, rfl, rfl, rfl, by simp [undig], rfl⟩
  rintro k e h ⟨i, ds, hk, hi, rfl, h0, h4, h5, hud, hdl⟩
  rw [trim_same' (by simp)]
  by_cases hlt : i < s.length
  · obtain ⟨w, e1, e2⟩ : ∃ w : UInt8, (strOfNums s).data.toList[i]? = some w ∧ (w.toNat : Int) = s[i] := by
      have hg := st_get hs hlt
      obtain ⟨w, hw, he⟩ := Option.map_eq_some_iff.1 hg
      exact ⟨w, hw, by simpa using he⟩
    obtain ⟨d1, d2, d3, d4⟩ := dgt_fine (bytes_get hs hlt)
    change lastK s[i] 32 = dgt s[i] at d4
    first | have hb := hb | have hb := trivial
    repeat' (first | (simp -implicitDefEqProofs (disch := omega) only [hb, L14_5, h0, h4, h5, hsz, wC, initE, aop, Nat.reduceEqDiff, ↓reduceIte, Nat.reduceAdd, finish, resOf, tupOf, AM.freeze, freeze1, freezeL, closed, nam, namL, if_true, if_false, deref, boxAt, exAt, ldCells, oneL, oneCell, Nat.reduceLeDiff, evL, adopt, rigid, rigidL, trim, Int.reduceEq, Int.reduceMod, Int.reduceDiv, if_pos, if_neg, asI, forall_const, implies_true, chkD, chkO, chkW, effB, reB, vEq, beq_self_eq_true, Nat.reduceSub, Nat.reduceLT, Int.reduceSub, Int.reduceAdd, Int.reduceMul, Int.reduceLT, Int.reduceLE, Int.reduceToNat, optI, aslice, cutSl, cutMs, cutStr, cutOwn, cellsOf, one, elCells, lenOf, beqV, beqVL, strip, stripO, convS]) | ((first | rw [WP_condK] | rw [WP_opsG] | rw [WP_quiG] | rw [WP_dG]); refine And.intro (fun hb => ?_) (fun hb => ?_) <;> (first | have hd := dq1 hb | have hd := dq2 hb | have hd := dq3 hb | have hd := dq4 hb | skip)))
    refine WP_loop (I := fun k2 e h => ∃ (j : Nat), k2 + j = 32 ∧ h = [.row none (5 * i)] ∧ getE e 0 = .str (strOfNums s) ∧ getE e 4 = .slice (.tok 0) none ((bits5 ds).map bV) ∧ getE e 5 = i64 i ∧ getE e 6 = i64 (lastK s[i] j) ∧ getE e 7 = i64 j) ?_ 32 _ _ ?_
    rotate_left
    · exact ⟨0, rfl, rfl, rfl, rfl, rfl, rfl, rfl⟩
    rintro k2 e h ⟨j, hkj, rfl, h0, h4, h5, h6, h7⟩
    rw [trim_same' (by simp)]
    by_cases hj : j < 32
    · obtain ⟨u, e3, e4⟩ := get_dig2 (d := j) hj
      have e5 := lastK_succ s[i] j
      by_cases heq : digI j = s[i]
      · have heb : (digI j == s[i]) = true := by simpa using heq
        first | have hb := hb | have hb := trivial
        repeat' (first | (simp -implicitDefEqProofs (disch := omega) only [hb, L14_4, h0, h4, h5, h6, h7, e1, e2, e3, e4, heq, wC, initE, aop, Nat.reduceEqDiff, ↓reduceIte, Nat.reduceAdd, finish, resOf, tupOf, AM.freeze, freeze1, freezeL, closed, nam, namL, if_true, if_false, deref, boxAt, exAt, ldCells, oneL, oneCell, Nat.reduceLeDiff, evL, adopt, rigid, rigidL, trim, Int.reduceEq, Int.reduceMod, Int.reduceDiv, if_pos, if_neg, asI, forall_const, implies_true, chkD, chkO, chkW, effB, reB, vEq, beq_self_eq_true, Nat.reduceSub, Nat.reduceLT, Int.reduceSub, Int.reduceAdd, Int.reduceMul, Int.reduceLT, Int.reduceLE, Int.reduceToNat, optI, aslice, cutSl, cutMs, cutStr, cutOwn, cellsOf, one, elCells, lenOf, beqV, beqVL, strip, stripO, convS]) | ((first | rw [WP_condK] | rw [WP_opsG] | rw [WP_quiG] | rw [WP_dG]); refine And.intro (fun hb => ?_) (fun hb => ?_) <;> (first | have hd := dq1 hb | have hd := dq2 hb | have hd := dq3 hb | have hd := dq4 hb | skip)))
        exact ⟨k2 - 1, by omega, j + 1, by omega, by rw [e5, if_pos heq], rfl⟩
      · first | have hb := hb | have hb := trivial
        repeat' (first | (simp -implicitDefEqProofs (disch := omega) only [hb, L14_4, h0, h4, h5, h6, h7, e1, e2, e3, e4, heq, wC, initE, aop, Nat.reduceEqDiff, ↓reduceIte, Nat.reduceAdd, finish, resOf, tupOf, AM.freeze, freeze1, freezeL, closed, nam, namL, if_true, if_false, deref, boxAt, exAt, ldCells, oneL, oneCell, Nat.reduceLeDiff, evL, adopt, rigid, rigidL, trim, Int.reduceEq, Int.reduceMod, Int.reduceDiv, if_pos, if_neg, asI, forall_const, implies_true, chkD, chkO, chkW, effB, reB, vEq, beq_self_eq_true, Nat.reduceSub, Nat.reduceLT, Int.reduceSub, Int.reduceAdd, Int.reduceMul, Int.reduceLT, Int.reduceLE, Int.reduceToNat, optI, aslice, cutSl, cutMs, cutStr, cutOwn, cellsOf, one, elCells, lenOf, beqV, beqVL, strip, stripO, convS]) | ((first | rw [WP_condK] | rw [WP_opsG] | rw [WP_quiG] | rw [WP_dG]); refine And.intro (fun hb => ?_) (fun hb => ?_) <;> (first | have hd := dq1 hb | have hd := dq2 hb | have hd := dq3 hb | have hd := dq4 hb | skip)))
        exact ⟨k2 - 1, by omega, j + 1, by omega, by rw [e5, if_neg heq], rfl⟩
    · obtain rfl : j = 32 := by omega
      rw [d4] at h6
      by_cases hneg : dgt s[i] < 0
      · first | have hb := hb | have hb := trivial
        repeat' (first | (simp -implicitDefEqProofs (disch := omega) only [hb, L14_4, h0, h4, h5, h6, h7, wC, initE, aop, Nat.reduceEqDiff, ↓reduceIte, Nat.reduceAdd, finish, resOf, tupOf, AM.freeze, freeze1, freezeL, closed, nam, namL, if_true, if_false, deref, boxAt, exAt, ldCells, oneL, oneCell, Nat.reduceLeDiff, evL, adopt, rigid, rigidL, trim, Int.reduceEq, Int.reduceMod, Int.reduceDiv, if_pos, if_neg, asI, forall_const, implies_true, chkD, chkO, chkW, effB, reB, vEq, beq_self_eq_true, Nat.reduceSub, Nat.reduceLT, Int.reduceSub, Int.reduceAdd, Int.reduceMul, Int.reduceLT, Int.reduceLE, Int.reduceToNat, optI, aslice, cutSl, cutMs, cutStr, cutOwn, cellsOf, one, elCells, lenOf, beqV, beqVL, strip, stripO, convS]) | ((first | rw [WP_condK] | rw [WP_opsG] | rw [WP_quiG] | rw [WP_dG]); refine And.intro (fun hb => ?_) (fun hb => ?_) <;> (first | have hd := dq1 hb | have hd := dq2 hb | have hd := dq3 hb | have hd := dq4 hb | skip)))
        rw [unS2_none hlt hneg]
        simp [unV]
      · obtain ⟨d, hdd⟩ := Int.eq_ofNat_of_zero_le (show 0 ≤ dgt s[i] by omega)
        have hd32 : d < 32 := by omega
        rw [hdd] at h6
        have hnew : undig (s.take (i + 1)) = some (ds ++ [d]) := by
          rw [List.take_succ_eq_append_getElem hlt, undig_snoc hud hneg, hdd, Int.toNat_natCast]
        have hl5 := bits5_len ds
        first | have hb := hb | have hb := trivial
        repeat' (first | (simp -implicitDefEqProofs (disch := omega) only [hb, L14_4, h0, h4, h5, h6, h7, wC, initE, aop, Nat.reduceEqDiff, ↓reduceIte, Nat.reduceAdd, finish, resOf, tupOf, AM.freeze, freeze1, freezeL, closed, nam, namL, if_true, if_false, deref, boxAt, exAt, ldCells, oneL, oneCell, Nat.reduceLeDiff, evL, adopt, rigid, rigidL, trim, Int.reduceEq, Int.reduceMod, Int.reduceDiv, if_pos, if_neg, asI, forall_const, implies_true, chkD, chkO, chkW, effB, reB, vEq, beq_self_eq_true, Nat.reduceSub, Nat.reduceLT, Int.reduceSub, Int.reduceAdd, Int.reduceMul, Int.reduceLT, Int.reduceLE, Int.reduceToNat, optI, aslice, cutSl, cutMs, cutStr, cutOwn, cellsOf, one, elCells, lenOf, beqV, beqVL, strip, stripO, convS]) | ((first | rw [WP_condK] | rw [WP_opsG] | rw [WP_quiG] | rw [WP_dG]); refine And.intro (fun hb => ?_) (fun hb => ?_) <;> (first | have hd := dq1 hb | have hd := dq2 hb | have hd := dq3 hb | have hd := dq4 hb | skip)))
        refine WP_loop (I := fun k3 e h => ∃ (j : Nat), k3 + j = 5 ∧ h = [.row none (5 * i + j)] ∧ getE e 0 = .str (strOfNums s) ∧ getE e 4 = .slice (.tok 0) none ((bits5 ds ++ (bitsN 5 d).take j).map bV) ∧ getE e 5 = i64 i ∧ getE e 6 = i64 (d : Int) ∧ getE e 8 = i64 (4 - (j : Int))) ?_ 5 _ _ ?_
        rotate_left
        · exact ⟨0, rfl, rfl, rfl, by rw [List.take_zero, List.append_nil]; rfl, rfl, rfl, rfl⟩
        clear h0 h4 h5 h6 h7
        rintro k3 e h ⟨j, hkj, rfl, h0, h4, h5, h6, h8⟩
        rw [trim_same' (by simp)]
        by_cases hj : j < 5
        · have e3 := shr_n .i64 d (4 - j) (by simp [IntKind.bits]; omega)
          rw [show ((4 - j : Nat) : Int) = 4 - (j : Int) by omega] at e3
          have hbg := bitsN_get 5 d j hj
          obtain ⟨x, hx⟩ : ∃ x, d / 2 ^ (4 - j) = x := ⟨_, rfl⟩
          rw [show 5 - 1 - j = 4 - j by omega, hx] at hbg
          rw [hx] at e3
          have e4 := tmod_2 x
          have htk : (bitsN 5 d).take (j + 1) = (bitsN 5 d).take j ++ [x % 2 == 1] := by
            have hlj : j < (bitsN 5 d).length := by rw [bitsN_len]; exact hj
            rw [List.getElem?_eq_getElem hlj] at hbg
            rw [List.take_succ_eq_append_getElem hlj, Option.some.inj hbg]
          have hxb : ((x % 2 : Nat) : Int) = (((x % 2 == 1).toNat : Nat) : Int) := by
            rcases Nat.mod_two_eq_zero_or_one x with h | h <;> rw [h] <;> rfl
          have hln : ((bits5 ds ++ (bitsN 5 d).take j).map bV).length = 5 * i + j := by
            rw [List.length_map, List.length_append, List.length_take, bitsN_len, hl5, hdl]; omega
          have ef : fitsB (5 * i + j + 1) 8 = true := by simp [fitsB]; omega
          first | have hb := hb | have hb := trivial
          repeat' (first | (simp -implicitDefEqProofs (disch := omega) only [hb, L14_3, h0, h4, h5, h6, h8, e3, e4, ef, hln, aappend, elemsOf, setEls, elFits_sc, stripEl_sc, one_int, List.replicate_succ, List.replicate_zero, wC, initE, aop, Nat.reduceEqDiff, ↓reduceIte, Nat.reduceAdd, finish, resOf, tupOf, AM.freeze, freeze1, freezeL, closed, nam, namL, if_true, if_false, deref, boxAt, exAt, ldCells, oneL, oneCell, Nat.reduceLeDiff, evL, adopt, rigid, rigidL, trim, Int.reduceEq, Int.reduceMod, Int.reduceDiv, if_pos, if_neg, asI, forall_const, implies_true, chkD, chkO, chkW, effB, reB, vEq, beq_self_eq_true, Nat.reduceSub, Nat.reduceLT, Int.reduceSub, Int.reduceAdd, Int.reduceMul, Int.reduceLT, Int.reduceLE, Int.reduceToNat, optI, aslice, cutSl, cutMs, cutStr, cutOwn, cellsOf, one, elCells, lenOf, beqV, beqVL, strip, stripO, convS]) | ((first | rw [WP_condK] | rw [WP_opsG] | rw [WP_quiG] | rw [WP_dG]); refine And.intro (fun hb => ?_) (fun hb => ?_) <;> (first | have hd := dq1 hb | have hd := dq2 hb | have hd := dq3 hb | have hd := dq4 hb | skip)))
          refine ⟨k3 - 1, by omega, j + 1, by omega, rfl, ?_, ?_⟩
          · rw [htk, ← List.append_assoc, bV_append (bits5 ds ++ (bitsN 5 d).take j) [x % 2 == 1], hxb]
            rfl
          · rw [show 4 - ((j + 1 : Nat) : Int) = 4 - (j : Int) - 1 by omega]
        · obtain rfl : j = 5 := by omega
          first | have hb := hb | have hb := trivial
          repeat' (first | (simp -implicitDefEqProofs (disch := omega) only [hb, L14_3, h0, h4, h5, h6, h8, wC, initE, aop, Nat.reduceEqDiff, ↓reduceIte, Nat.reduceAdd, finish, resOf, tupOf, AM.freeze, freeze1, freezeL, closed, nam, namL, if_true, if_false, deref, boxAt, exAt, ldCells, oneL, oneCell, Nat.reduceLeDiff, evL, adopt, rigid, rigidL, trim, Int.reduceEq, Int.reduceMod, Int.reduceDiv, if_pos, if_neg, asI, forall_const, implies_true, chkD, chkO, chkW, effB, reB, vEq, beq_self_eq_true, Nat.reduceSub, Nat.reduceLT, Int.reduceSub, Int.reduceAdd, Int.reduceMul, Int.reduceLT, Int.reduceLE, Int.reduceToNat, optI, aslice, cutSl, cutMs, cutStr, cutOwn, cellsOf, one, elCells, lenOf, beqV, beqVL, strip, stripO, convS]) | ((first | rw [WP_condK] | rw [WP_opsG] | rw [WP_quiG] | rw [WP_dG]); refine And.intro (fun hb => ?_) (fun hb => ?_) <;> (first | have hd := dq1 hb | have hd := dq2 hb | have hd := dq3 hb | have hd := dq4 hb | skip)))
          have hfull : (bitsN 5 d).take 5 = bitsN 5 d := List.take_of_length_le (by rw [bitsN_len]; omega)
          exact ⟨k - 1, by omega, i + 1, ds ++ [d], by omega, by omega, rfl, by rw [hfull, bits5_append, bits5, bits5, List.append_nil], rfl, hnew, by rw [List.length_append, hdl]; rfl⟩
  · obtain rfl : i = s.length := by omega
    rw [List.take_length] at hud
    have hl5 := bits5_len ds
    have hbl : ((bits5 ds).map bV).length = 5 * s.length := by rw [List.length_map, hl5, hdl]
    first | have hb := hb | have hb := trivial
    repeat' (first | (simp -implicitDefEqProofs (disch := omega) only [hb, L14_5, h0, h4, h5, hsz, wC, initE, aop, Nat.reduceEqDiff, ↓reduceIte, Nat.reduceAdd, finish, resOf, tupOf, AM.freeze, freeze1, freezeL, closed, nam, namL, if_true, if_false, deref, boxAt, exAt, ldCells, oneL, oneCell, Nat.reduceLeDiff, evL, adopt, rigid, rigidL, trim, Int.reduceEq, Int.reduceMod, Int.reduceDiv, if_pos, if_neg, asI, forall_const, implies_true, chkD, chkO, chkW, effB, reB, vEq, beq_self_eq_true, Nat.reduceSub, Nat.reduceLT, Int.reduceSub, Int.reduceAdd, Int.reduceMul, Int.reduceLT, Int.reduceLE, Int.reduceToNat, optI, aslice, cutSl, cutMs, cutStr, cutOwn, cellsOf, one, elCells, lenOf, beqV, beqVL, strip, stripO, convS]) | ((first | rw [WP_condK] | rw [WP_opsG] | rw [WP_quiG] | rw [WP_dG]); refine And.intro (fun hb => ?_) (fun hb => ?_) <;> (first | have hd := dq1 hb | have hd := dq2 hb | have hd := dq3 hb | have hd := dq4 hb | skip)))
    refine WP_loop (I := fun k e h => ∃ (B : List Bool) (out : List Int) (o : AOwn), k = B.length ∧ (o = .tok 0 ∨ o = .none) ∧ h = [.row none (5 * s.length), .row none out.length] ∧ getE e 4 = .slice o none (B.map bV) ∧ getE e 9 = .slice (.tok 1) none (out.map u8) ∧ Bytes out ∧ bits5 ds = bits8 out ++ B) ?_ (bits5 ds).length _ _ ?_
    rotate_left
    · exact ⟨bits5 ds, [], .tok 0, rfl, .inl rfl, rfl, rfl, rfl, (by intro c hc; cases hc), rfl⟩
    clear h0 h4 h5
    rintro k e h ⟨B, out, o, rfl, ho, rfl, h4, h9, hob, hbits⟩
    rw [trim_same' (by simp)]
    have hBl : 8 * out.length + B.length = 5 * s.length := by
      have := congrArg List.length hbits
      rw [hl5, List.length_append, bits8_len, hdl] at this
      omega
    have hBm : (B.map bV).length = B.length := List.length_map _
    by_cases h8 : 8 ≤ B.length
    · first | have hb := hb | have hb := trivial
      repeat' (first | (simp -implicitDefEqProofs (disch := omega) only [hb, L14_2, h4, h9, hBm, wC, initE, aop, Nat.reduceEqDiff, ↓reduceIte, Nat.reduceAdd, finish, resOf, tupOf, AM.freeze, freeze1, freezeL, closed, nam, namL, if_true, if_false, deref, boxAt, exAt, ldCells, oneL, oneCell, Nat.reduceLeDiff, evL, adopt, rigid, rigidL, trim, Int.reduceEq, Int.reduceMod, Int.reduceDiv, if_pos, if_neg, asI, forall_const, implies_true, chkD, chkO, chkW, effB, reB, vEq, beq_self_eq_true, Nat.reduceSub, Nat.reduceLT, Int.reduceSub, Int.reduceAdd, Int.reduceMul, Int.reduceLT, Int.reduceLE, Int.reduceToNat, optI, aslice, cutSl, cutMs, cutStr, cutOwn, cellsOf, one, elCells, lenOf, beqV, beqVL, strip, stripO, convS]) | ((first | rw [WP_condK] | rw [WP_opsG] | rw [WP_quiG] | rw [WP_dG]); refine And.intro (fun hb => ?_) (fun hb => ?_) <;> (first | have hd := dq1 hb | have hd := dq2 hb | have hd := dq3 hb | have hd := dq4 hb | skip)))
      refine WP_loop (I := fun k2 e h => ∃ (j : Nat), k2 + j = 8 ∧ h = [.row none (5 * s.length), .row none out.length] ∧ getE e 4 = .slice o none (B.map bV) ∧ getE e 9 = .slice (.tok 1) none (out.map u8) ∧ getE e 10 = i64 ((val (B.take j) : Nat) : Int) ∧ getE e 11 = i64 j) ?_ 8 _ _ ?_
      rotate_left
      · exact ⟨0, rfl, rfl, rfl, rfl, rfl, rfl⟩
      clear h4 h9
      rintro k2 e h ⟨j, hkj, rfl, h4, h9, h10, h11⟩
      rw [trim_same' (by simp)]
      have hvj := val_lt (B.take j)
      rw [List.length_take] at hvj
      have hvj2 : 2 ^ min j B.length ≤ 2 ^ 8 := Nat.pow_le_pow_right (by omega) (by omega)
      by_cases hj : j < 8
      · have e1 := bV_get (l := B) (i := j) (by omega)
        have hvs : val (B.take (j + 1)) = 2 * val (B.take j) + (B[j]'(by omega)).toNat := by rw [List.take_succ_eq_append_getElem (by omega), val_step]
        have hb1 : (B[j]'(by omega)).toNat ≤ 1 := by cases B[j]'(by omega) <;> decide
        first | have hb := hb | have hb := trivial
        repeat' (first | (simp -implicitDefEqProofs (disch := omega) only [hb, L14_1, h4, h9, h10, h11, e1, wC, initE, aop, Nat.reduceEqDiff, ↓reduceIte, Nat.reduceAdd, finish, resOf, tupOf, AM.freeze, freeze1, freezeL, closed, nam, namL, if_true, if_false, deref, boxAt, exAt, ldCells, oneL, oneCell, Nat.reduceLeDiff, evL, adopt, rigid, rigidL, trim, Int.reduceEq, Int.reduceMod, Int.reduceDiv, if_pos, if_neg, asI, forall_const, implies_true, chkD, chkO, chkW, effB, reB, vEq, beq_self_eq_true, Nat.reduceSub, Nat.reduceLT, Int.reduceSub, Int.reduceAdd, Int.reduceMul, Int.reduceLT, Int.reduceLE, Int.reduceToNat, optI, aslice, cutSl, cutMs, cutStr, cutOwn, cellsOf, one, elCells, lenOf, beqV, beqVL, strip, stripO, convS]) | ((first | rw [WP_condK] | rw [WP_opsG] | rw [WP_quiG] | rw [WP_dG]); refine And.intro (fun hb => ?_) (fun hb => ?_) <;> (first | have hd := dq1 hb | have hd := dq2 hb | have hd := dq3 hb | have hd := dq4 hb | skip)))
        exact ⟨k2 - 1, by omega, j + 1, by omega, by rw [hvs]; rfl, rfl⟩
      · obtain rfl : j = 8 := by omega
        have hv8 : val (B.take 8) < 256 := by omega
        have e1 : IntKind.u8.wrap ((val (B.take 8) : Nat) : Int) = ((val (B.take 8) : Nat) : Int) := by rw [w_u8]; omega
        have ef : fitsB (out.length + 1) 1 = true := by simp [fitsB]; omega
        first | have hb := hb | have hb := trivial
        repeat' (first | (simp -implicitDefEqProofs (disch := omega) only [hb, L14_1, h4, h9, h10, h11, e1, ef, hBm, aappend, elemsOf, setEls, elFits_sc, stripEl_sc, one_int, List.replicate_succ, List.replicate_zero, wC, initE, aop, Nat.reduceEqDiff, ↓reduceIte, Nat.reduceAdd, finish, resOf, tupOf, AM.freeze, freeze1, freezeL, closed, nam, namL, if_true, if_false, deref, boxAt, exAt, ldCells, oneL, oneCell, Nat.reduceLeDiff, evL, adopt, rigid, rigidL, trim, Int.reduceEq, Int.reduceMod, Int.reduceDiv, if_pos, if_neg, asI, forall_const, implies_true, chkD, chkO, chkW, effB, reB, vEq, beq_self_eq_true, Nat.reduceSub, Nat.reduceLT, Int.reduceSub, Int.reduceAdd, Int.reduceMul, Int.reduceLT, Int.reduceLE, Int.reduceToNat, optI, aslice, cutSl, cutMs, cutStr, cutOwn, cellsOf, one, elCells, lenOf, beqV, beqVL, strip, stripO, convS]) | ((first | rw [WP_condK] | rw [WP_opsG] | rw [WP_quiG] | rw [WP_dG]); refine And.intro (fun hb => ?_) (fun hb => ?_) <;> (first | have hd := dq1 hb | have hd := dq2 hb | have hd := dq3 hb | have hd := dq4 hb | skip)))
        refine ⟨(B.drop 8).length, by rw [List.length_drop]; omega, B.drop 8, out ++ [((val (B.take 8) : Nat) : Int)], .none, rfl, .inr rfl, by simp, ?_, by simp, ?_, ?_⟩
        · rw [List.map_drop]
          rcases ho with rfl | rfl <;> rfl
        · refine bytes_append hob fun c hc => ?_
          rw [List.mem_singleton.1 hc]
          omega
        · rw [bits8_snoc out B h8, hbits]
    · have hend := unS2_end hud hbits hob (by omega)
      by_cases h5 : 5 ≤ B.length
      · first | have hb := hb | have hb := trivial
        repeat' (first | (simp -implicitDefEqProofs (disch := omega) only [hb, L14_2, h4, h9, hBm, wC, initE, aop, Nat.reduceEqDiff, ↓reduceIte, Nat.reduceAdd, finish, resOf, tupOf, AM.freeze, freeze1, freezeL, closed, nam, namL, if_true, if_false, deref, boxAt, exAt, ldCells, oneL, oneCell, Nat.reduceLeDiff, evL, adopt, rigid, rigidL, trim, Int.reduceEq, Int.reduceMod, Int.reduceDiv, if_pos, if_neg, asI, forall_const, implies_true, chkD, chkO, chkW, effB, reB, vEq, beq_self_eq_true, Nat.reduceSub, Nat.reduceLT, Int.reduceSub, Int.reduceAdd, Int.reduceMul, Int.reduceLT, Int.reduceLE, Int.reduceToNat, optI, aslice, cutSl, cutMs, cutStr, cutOwn, cellsOf, one, elCells, lenOf, beqV, beqVL, strip, stripO, convS]) | ((first | rw [WP_condK] | rw [WP_opsG] | rw [WP_quiG] | rw [WP_dG]); refine And.intro (fun hb => ?_) (fun hb => ?_) <;> (first | have hd := dq1 hb | have hd := dq2 hb | have hd := dq3 hb | have hd := dq4 hb | skip)))
        rw [hend, if_neg (by omega)]; rfl
      · first | have hb := hb | have hb := trivial
        repeat' (first | (simp -implicitDefEqProofs (disch := omega) only [hb, L14_2, h4, h9, hBm, wC, initE, aop, Nat.reduceEqDiff, ↓reduceIte, Nat.reduceAdd, finish, resOf, tupOf, AM.freeze, freeze1, freezeL, closed, nam, namL, if_true, if_false, deref, boxAt, exAt, ldCells, oneL, oneCell, Nat.reduceLeDiff, evL, adopt, rigid, rigidL, trim, Int.reduceEq, Int.reduceMod, Int.reduceDiv, if_pos, if_neg, asI, forall_const, implies_true, chkD, chkO, chkW, effB, reB, vEq, beq_self_eq_true, Nat.reduceSub, Nat.reduceLT, Int.reduceSub, Int.reduceAdd, Int.reduceMul, Int.reduceLT, Int.reduceLE, Int.reduceToNat, optI, aslice, cutSl, cutMs, cutStr, cutOwn, cellsOf, one, elCells, lenOf, beqV, beqVL, strip, stripO, convS]) | ((first | rw [WP_condK] | rw [WP_opsG] | rw [WP_quiG] | rw [WP_dG]); refine And.intro (fun hb => ?_) (fun hb => ?_) <;> (first | have hd := dq1 hb | have hd := dq2 hb | have hd := dq3 hb | have hd := dq4 hb | skip)))
        refine WP_loop (I := fun k2 e h => ∃ (j : Nat), k2 + j = B.length ∧ j ≤ B.length ∧ h = [.row none (5 * s.length), .row none out.length] ∧ getE e 4 = .slice o none (B.map bV) ∧ getE e 9 = .slice (.tok 1) none (out.map u8) ∧ getE e 12 = i64 j ∧ val (B.take j) = 0) ?_ B.length _ _ ?_
        rotate_left
        · exact ⟨0, by omega, by omega, rfl, rfl, rfl, rfl, rfl⟩
        clear h4 h9
        rintro k2 e h ⟨j, hkj, hj, rfl, h4, h9, h12, hv0⟩
        rw [trim_same' (by simp)]
        by_cases hj2 : j < B.length
        · have e1 := bV_get (l := B) (i := j) (by omega)
          have hvs : val (B.take (j + 1)) = 2 * val (B.take j) + (B[j]'(by omega)).toNat := by rw [List.take_succ_eq_append_getElem (by omega), val_step]
          first | have hb := hb | have hb := trivial
          repeat' (first | (simp -implicitDefEqProofs (disch := omega) only [hb, L14_0, h4, h9, h12, e1, hBm, wC, initE, aop, Nat.reduceEqDiff, ↓reduceIte, Nat.reduceAdd, finish, resOf, tupOf, AM.freeze, freeze1, freezeL, closed, nam, namL, if_true, if_false, deref, boxAt, exAt, ldCells, oneL, oneCell, Nat.reduceLeDiff, evL, adopt, rigid, rigidL, trim, Int.reduceEq, Int.reduceMod, Int.reduceDiv, if_pos, if_neg, asI, forall_const, implies_true, chkD, chkO, chkW, effB, reB, vEq, beq_self_eq_true, Nat.reduceSub, Nat.reduceLT, Int.reduceSub, Int.reduceAdd, Int.reduceMul, Int.reduceLT, Int.reduceLE, Int.reduceToNat, optI, aslice, cutSl, cutMs, cutStr, cutOwn, cellsOf, one, elCells, lenOf, beqV, beqVL, strip, stripO, convS]) | ((first | rw [WP_condK] | rw [WP_opsG] | rw [WP_quiG] | rw [WP_dG]); refine And.intro (fun hb => ?_) (fun hb => ?_) <;> (first | have hd := dq1 hb | have hd := dq2 hb | have hd := dq3 hb | have hd := dq4 hb | skip)))
          · rw [hend, if_neg (fun hh => ?_)]
            · rfl
            · have := val_zero B hh.2 _ (List.getElem_mem hj2)
              rw [this] at hb
              simp at hb
          · refine ⟨k2 - 1, by omega, j + 1, by omega, by omega, rfl, ?_⟩
            rw [hvs, hv0]
            have hz : ((B[j]'(by omega)).toNat : Int) = 0 := by simpa using hb
            omega
        · obtain rfl : j = B.length := by omega
          rw [List.take_length] at hv0
          first | have hb := hb | have hb := trivial
          repeat' (first | (simp -implicitDefEqProofs (disch := omega) only [hb, L14_0, h4, h9, h12, hBm, wC, initE, aop, Nat.reduceEqDiff, ↓reduceIte, Nat.reduceAdd, finish, resOf, tupOf, AM.freeze, freeze1, freezeL, closed, nam, namL, if_true, if_false, deref, boxAt, exAt, ldCells, oneL, oneCell, Nat.reduceLeDiff, evL, adopt, rigid, rigidL, trim, Int.reduceEq, Int.reduceMod, Int.reduceDiv, if_pos, if_neg, asI, forall_const, implies_true, chkD, chkO, chkW, effB, reB, vEq, beq_self_eq_true, Nat.reduceSub, Nat.reduceLT, Int.reduceSub, Int.reduceAdd, Int.reduceMul, Int.reduceLT, Int.reduceLE, Int.reduceToNat, optI, aslice, cutSl, cutMs, cutStr, cutOwn, cellsOf, one, elCells, lenOf, beqV, beqVL, strip, stripO, convS]) | ((first | rw [WP_condK] | rw [WP_opsG] | rw [WP_quiG] | rw [WP_dG]); refine And.intro (fun hb => ?_) (fun hb => ?_) <;> (first | have hd := dq1 hb | have hd := dq2 hb | have hd := dq3 hb | have hd := dq4 hb | skip)))
          refine ⟨u8_closed _, ?_⟩
          rw [hend, if_pos ⟨by omega, hv0⟩]; rfl
end Go.Proofs.Ytejnficfhoekiaa.AM

/- what must come of every program: by the kernel, with the digests as contracts. -/
namespace Go.Proofs.Ytejnficfhoekiaa.AM
open Go
set_option maxRecDepth 100000
set_option linter.unusedSimpArgs false
set_option linter.unusedVariables false
/-- a call that gives a plain value gives it wherever it is made -/
theorem k_any {f : Nat} {F : AFn} {args : List AV} {v : Value} (hx : T.ext f = none) (hf : T.fn f = some F) (hp : F.pure = true) (hl : args.length = F.np) (hm : args.map strip = args) (hc : closedL args = true) (hr : ag T f args [] = some (.sc v, [])) (h : Heap) : ag T f args h = some (.sc v, h) := by
  rw [ag_pure hx hf hp args hl] at hr ⊢
  simp only [pcall, prep, hm, if_pos hc, Option.bind_some, Bool.false_eq_true, if_false, Option.bind_eq_some_iff] at hr ⊢
  obtain ⟨w, h1, h2⟩ := hr
  refine ⟨w, h1, ?_⟩
  have h2' := Option.some.inj h2
  have : w = .sc v := by
    unfold adopt at h2'
    split at h2'
    · cases h2'
    · cases h2'
    · cases h2'; rfl
  subst this
  rfl
theorem lives_k : ag T 8 [] [] = some (.sc (.bool true), []) := ag_of_sums (n := 1000) (by kernel_rfl)
theorem call_lives (h : Heap) : ag T 8 [] h = some (.bool true, h) := k_any rfl t8 rfl rfl rfl rfl lives_k h
end Go.Proofs.Ytejnficfhoekiaa.AM

/- The calls of Digits and Bytes; InvoiceDigits' run. -/
namespace Go.Proofs.Ytejnficfhoekiaa.AM
open Go
set_option maxRecDepth 100000
set_option maxHeartbeats 4000000
set_option linter.unusedSimpArgs false
set_option linter.unusedVariables false
theorem call_digits (o : AOwn) (ho : stripO o = .none) (l : List Int) (hl : Bytes l) (hn : l.length ≤ 1000000000000) (h : Heap) : ag T 12 [.slice o none (l.map u8)] h = some (.str (strOfNums (digitsS l)), h) := by
  have hs : ([AV.slice o none (l.map u8)]).map strip = [AV.slice .none none (l.map u8)] := by simp [strip, ho]
  have hc : closedL [AV.slice .none none (l.map u8)] = true := by
    have := u8_closed l
    simp only [closedL, namL, nam, Bool.and_true, Bool.true_and] at this ⊢
    exact this
  exact call_pure (T := T) rfl t12 rfl rfl (by rw [hs]; exact hc) (by rw [hs]; exact digits_ok l hl hn)
theorem call_rdigits (o : AOwn) (ho : stripO o = .none) (l : List Int) (hl : Bytes l) (hn : l.length ≤ 1000000000000) (h : Heap) : ag T 15 [.slice o none (l.map u8)] h = some (.str (strOfNums (digitsS l)), h) := by
  have hs : ([AV.slice o none (l.map u8)]).map strip = [AV.slice .none none (l.map u8)] := by simp [strip, ho]
  have hc : closedL [AV.slice .none none (l.map u8)] = true := by
    have := u8_closed l
    simp only [closedL, namL, nam, Bool.and_true, Bool.true_and] at this ⊢
    exact this
  exact call_pure (T := T) rfl t15 rfl rfl (by rw [hs]; exact hc) (by rw [hs]; exact rdigits_ok l hl hn)
theorem call_bytes (s : List Int) (hs : Bytes s) (hn : s.length ≤ 1000000000000) (h : Heap) : ag T 13 [.str (strOfNums s)] h = some (adopt (unV (unS2 s)) h) :=
  call_pure (T := T) rfl t13 rfl rfl rfl (bytes_ok s hs hn)
theorem call_rbytes (s : List Int) (hs : Bytes s) (hn : s.length ≤ 1000000000000) (h : Heap) : ag T 14 [.str (strOfNums s)] h = some (adopt (unV (unS2 s)) h) :=
  call_pure (T := T) rfl t14 rfl rfl rfl (rbytes_ok s hs hn)
theorem invoiceDigits_of (hlv : ∀ h, ag T 8 [] h = some (.bool true, h)) (b s : List Int) (hbb : Bytes b) (hs : Bytes s) (hbn : b.length ≤ 1048576) (hsn : s.length ≤ 1048576) : ag T 4 [.slice .none none (b.map u8), .str (strOfNums s)] [] = some (.bool true, []) := by
  have hcl : closedL [AV.slice .none none (b.map u8), .str (strOfNums s)] = true := by
    have := u8_closed b
    simp only [closedL, namL, nam, Bool.and_true, Bool.true_and] at this ⊢
    exact this
  refine call_sc rfl t4 rfl rfl rfl hcl ?_
  refine WP_eq (prun_wp ?_)
  have c1 := hlv
  have c2 := fun h => call_digits (.tok 0) rfl b hbb (by omega) h
  have c3 := fun h => call_rdigits .none rfl b hbb (by omega) h
  have hdl := digitsS_len b
  have c4 := fun h => call_bytes (digitsS b) (digitsS_bytes b) (by omega) h
  rw [unS2_digits b hbb] at c4
  have c5 := fun h => call_bytes s hs (by omega) h
  have c6 := fun h => call_rbytes s hs (by omega) h
  have e1 := st_ne (digitsS_bytes b) (digitsS_bytes b)
  have e2 := st_ne hbb hbb
  have ef : fitsB b.length 1 = true := by simp [fitsB]; omega
  have eb := byteEls_u8 b
  have pl := p8
  cases hu : unS2 s with
  | none =>
    rw [hu] at c5 c6
    simp only [unV, adopt] at c4 c5 c6
    have e3 := st_ne (a := []) (b := []) (fun c hc => by cases hc) (fun c hc => by cases hc)
    have eb0 : byteEls [] = some [] := rfl
    first | have hb := hb | have hb := trivial
    repeat' (first | (simp -implicitDefEqProofs (disch := omega) only [hb, F4, c1, c2, c3, c4, c5, c6, e1, e2, e3, ef, eb, eb0, pl, p12, p15, aappend, elemsOf, setEls, List.replicate_zero, convS_slice, convS_nil, wC, initE, aop, Nat.reduceEqDiff, ↓reduceIte, Nat.reduceAdd, finish, resOf, tupOf, AM.freeze, freeze1, freezeL, closed, nam, namL, if_true, if_false, deref, boxAt, exAt, ldCells, oneL, oneCell, Nat.reduceLeDiff, evL, adopt, rigid, rigidL, trim, Int.reduceEq, Int.reduceMod, Int.reduceDiv, if_pos, if_neg, asI, forall_const, implies_true, chkD, chkO, chkW, effB, reB, vEq, beq_self_eq_true, Nat.reduceSub, Nat.reduceLT, Int.reduceSub, Int.reduceAdd, Int.reduceMul, Int.reduceLT, Int.reduceLE, Int.reduceToNat, optI, aslice, cutSl, cutMs, cutStr, cutOwn, cellsOf, one, elCells, lenOf, beqV, beqVL, strip, stripO, convS]) | ((first | rw [WP_condK] | rw [WP_opsG] | rw [WP_quiG] | rw [WP_dG]); refine And.intro (fun hb => ?_) (fun hb => ?_) <;> (first | have hd := dq1 hb | have hd := dq2 hb | have hd := dq3 hb | have hd := dq4 hb | skip)))
  | some l =>
    rw [hu] at c5 c6
    simp only [unV, adopt] at c4 c5 c6
    obtain ⟨hlb, hll⟩ := unS2_bytes hs hu
    have c7 := fun i h => call_digits (.tok i) rfl l hlb (by omega) h
    have e3 := st_ne hlb hlb
    have e4 := st_eq hs hs
    have eb2 := byteEls_u8 l
    rw [digits_unS2 hs hu] at c7
    first | have hb := hb | have hb := trivial
    repeat' (first | (simp -implicitDefEqProofs (disch := omega) only [hb, F4, c1, c2, c3, c4, c5, c6, c7, e1, e2, e3, e4, ef, eb, eb2, pl, p12, p15, aappend, elemsOf, setEls, List.replicate_zero, convS_slice, convS_nil, wC, initE, aop, Nat.reduceEqDiff, ↓reduceIte, Nat.reduceAdd, finish, resOf, tupOf, AM.freeze, freeze1, freezeL, closed, nam, namL, if_true, if_false, deref, boxAt, exAt, ldCells, oneL, oneCell, Nat.reduceLeDiff, evL, adopt, rigid, rigidL, trim, Int.reduceEq, Int.reduceMod, Int.reduceDiv, if_pos, if_neg, asI, forall_const, implies_true, chkD, chkO, chkW, effB, reB, vEq, beq_self_eq_true, Nat.reduceSub, Nat.reduceLT, Int.reduceSub, Int.reduceAdd, Int.reduceMul, Int.reduceLT, Int.reduceLE, Int.reduceToNat, optI, aslice, cutSl, cutMs, cutStr, cutOwn, cellsOf, one, elCells, lenOf, beqV, beqVL, strip, stripO, convS]) | ((first | rw [WP_condK] | rw [WP_opsG] | rw [WP_quiG] | rw [WP_dG]); refine And.intro (fun hb => ?_) (fun hb => ?_) <;> (first | have hd := dq1 hb | have hd := dq2 hb | have hd := dq3 hb | have hd := dq4 hb | skip)))
end Go.Proofs.Ytejnficfhoekiaa.AM

/- bigsize's numbers in the plain machine. -/
namespace Go.Proofs.Ytejnficfhoekiaa.AM
open Go
set_option maxRecDepth 100000
set_option linter.unusedSimpArgs false
set_option linter.unusedVariables false
theorem width_ok (x : Int) : prun T F49 [u64 x] = some (.tup [u8 (firstS x), i64 (widthS x)]) := by
  refine WP_eq (prun_wp ?_)
  first | have hb := hb | have hb := trivial
  repeat' (first | (simp -implicitDefEqProofs (disch := omega) only [hb, F49, wC, initE, aop, Nat.reduceEqDiff, ↓reduceIte, Nat.reduceAdd, finish, resOf, tupOf, AM.freeze, freeze1, freezeL, closed, nam, namL, if_true, if_false, deref, boxAt, exAt, ldCells, oneL, oneCell, Nat.reduceLeDiff, evL, adopt, rigid, rigidL, trim, Int.reduceEq, Int.reduceMod, Int.reduceDiv, if_pos, if_neg, asI, forall_const, implies_true, chkD, chkO, chkW, effB, reB, vEq, beq_self_eq_true, Nat.reduceSub, Nat.reduceLT, Int.reduceSub, Int.reduceAdd, Int.reduceMul, Int.reduceLT, Int.reduceLE, Int.reduceToNat, optI, aslice, cutSl, cutMs, cutStr, cutOwn, cellsOf, one, elCells, lenOf, beqV, beqVL, strip, stripO, convS]) | ((first | rw [WP_condK] | rw [WP_opsG] | rw [WP_quiG] | rw [WP_dG]); refine And.intro (fun hb => ?_) (fun hb => ?_) <;> (first | have hd := dq1 hb | have hd := dq2 hb | have hd := dq3 hb | have hd := dq4 hb | skip)))
  all_goals simp [firstS, widthS, *]
theorem call_width (x : Int) (h : Heap) : ag T 49 [u64 x] h = some (.tup [u8 (firstS x), i64 (widthS x)], h) := call_tup rfl t49 rfl rfl rfl rfl (width_ok x)
theorem size_width (x : Int) : (widthS x : Int) + 1 = sizeS x := by
  unfold widthS sizeS
  repeat' split
  all_goals rfl
theorem size_ok (x : Int) : prun T F34 [u64 x] = some (i64 (sizeS x)) := by
  refine WP_eq (prun_wp ?_)
  have h1 := size_width x
  have h2 := sizeS_le x
  have h3 : ((widthS x + 1 : Nat) : Int) = sizeS x := h1
  simp -implicitDefEqProofs (disch := omega) only [F34, call_width, h3, wC, initE, aop, Nat.reduceEqDiff, ↓reduceIte, Nat.reduceAdd, finish, resOf, tupOf, AM.freeze, freeze1, freezeL, closed, nam, namL, if_true, if_false, deref, boxAt, exAt, ldCells, oneL, oneCell, Nat.reduceLeDiff, evL, adopt, rigid, rigidL, trim, Int.reduceEq, Int.reduceMod, Int.reduceDiv, if_pos, if_neg, asI, forall_const, implies_true, chkD, chkO, chkW, effB, reB, vEq, beq_self_eq_true, Nat.reduceSub, Nat.reduceLT, Int.reduceSub, Int.reduceAdd, Int.reduceMul, Int.reduceLT, Int.reduceLE, Int.reduceToNat, optI, aslice, cutSl, cutMs, cutStr, cutOwn, cellsOf, one, elCells, lenOf, beqV, beqVL, strip, stripO, convS]
theorem call_size (x : Int) (h : Heap) : ag T 34 [u64 x] h = some (i64 (sizeS x), h) := call_sc rfl t34 rfl rfl rfl rfl (size_ok x)
theorem sizeS_pos (x : Int) : 0 < sizeS x := by
  have := size_width x
  omega
theorem fits1 {n : Nat} (h : n ≤ 140737488355328) : fitsB n 1 = true := by simp [fitsB]; omega
theorem tail_snoc (x : Int) (n : Nat) : tailS (n + 1) x = x / 256 ^ n % 256 :: tailS n x := rfl
theorem shr_byte (x : Int) (j : Nat) (hj : j ≤ 8) : abin .shr (.int .u64 x) (.int .i64 (8 * (j : Int))) = some (.int .u64 (x / 256 ^ j)) := by
  have := shr_c .u64 .i64 x (8 * j) (by simp [IntKind.bits]; omega)
  rw [show ((8 * j : Nat) : Int) = 8 * (j : Int) by omega] at this
  rw [this, Int.fdiv_eq_ediv_of_nonneg _ (by exact Int.le_of_lt (Int.pow_pos (by omega)))]
  congr 3
  rw [show (256 : Int) = 2 ^ 8 by decide, ← Int.pow_mul]
/-- Put -/
theorem put_gen (a : AV) (l : List Int) (x : Int) (hx : U64 x) (hn : l.length ≤ 140737488200000) (k1 : ∀ h, ag T 42 [a] h = some (.slice (.tok h.length) none (l.map u8), h ++ [.row none l.length])) : prun T F35 [a, u64 x] = some (.slice .fresh none ((l ++ numS x).map u8)) := by
  obtain ⟨x0, x1⟩ := hx
  have hs0 := sizeS_pos x
  have hs1 := (sizeS_le x).2
  have hc := u8_closed l
  have k2 : ag T 50 [.slice (.tok 0) none (l.map u8), i64 (sizeS x)] [.row none (l.map u8).length] = _ := call_grow rfl nf50 n50 rfl hs0 (by omega) (by simp; omega)
  simp only [List.length_map] at k2
  refine WP_eq (prun_wp ?_)
  first | have hb := hb | have hb := trivial
  repeat' (first | (simp -implicitDefEqProofs (disch := omega) only [hb, F35, k1, k2, call_size, call_width, setEls, elFits, stripEl, List.replicate_succ, List.replicate_zero, elemsOf, aappend, wC, initE, aop, Nat.reduceEqDiff, ↓reduceIte, Nat.reduceAdd, finish, resOf, tupOf, AM.freeze, freeze1, freezeL, closed, nam, namL, if_true, if_false, deref, boxAt, exAt, ldCells, oneL, oneCell, Nat.reduceLeDiff, evL, adopt, rigid, rigidL, trim, Int.reduceEq, Int.reduceMod, Int.reduceDiv, if_pos, if_neg, asI, forall_const, implies_true, chkD, chkO, chkW, effB, reB, vEq, beq_self_eq_true, Nat.reduceSub, Nat.reduceLT, Int.reduceSub, Int.reduceAdd, Int.reduceMul, Int.reduceLT, Int.reduceLE, Int.reduceToNat, optI, aslice, cutSl, cutMs, cutStr, cutOwn, cellsOf, one, elCells, lenOf, beqV, beqVL, strip, stripO, convS]) | ((first | rw [WP_condK] | rw [WP_opsG] | rw [WP_quiG] | rw [WP_dG]); refine And.intro (fun hb => ?_) (fun hb => ?_) <;> (first | have hd := dq1 hb | have hd := dq2 hb | have hd := dq3 hb | have hd := dq4 hb | skip)))
  · have hw : widthS x = 0 := by omega
    have hx : x < 253 := by
      have := size_width x
      rw [hw] at this
      unfold sizeS at this
      split at this
      · assumption
      · split at this
        · omega
        · split at this <;> omega
    have e1 : IntKind.u8.wrap x = x := by rw [w_u8]; omega
    have e2 : numS x = [x] := by unfold numS; rw [if_pos hx]
    rw [e1, e2]
    refine ⟨?_, ?_⟩
    · have := u8_closed (l ++ [x])
      simpa using this
    · simp
  · have hw : ¬ widthS x = 0 := by omega
    have hx : ¬ x < 253 := by
      intro h
      unfold widthS at hw
      rw [if_pos h] at hw
      exact hw rfl
    have e2 := numS_eq x hx
    have hw8 : widthS x ≤ 8 := by have := size_width x; omega
    refine WP_loop (I := fun n e h => ∃ D : List Int, n ≤ 8 ∧ D ++ tailS n x = l ++ numS x ∧ D.length ≤ l.length + 9 ∧ h = [.row none (l.length + 1), .row none D.length] ∧ getE e 1 = u64 x ∧ getE e 5 = .slice (.tok 1) none (D.map u8) ∧ getE e 7 = i64 ((n : Int) - 1)) ?_ (widthS x) _ _ ⟨l ++ [firstS x], hw8, by rw [e2]; simp, by (simp <;> omega), by simp, rfl, by simp [getE], by simp [getE]; rw [IntWalk.i64_in _ ⟨by omega, by omega⟩]⟩
    rintro n e h ⟨D, hn8, hD, hDl, rfl, h1, h5, h7⟩
    rw [trim_same' (by simp)]
    have hDl2 : D.length + n = l.length + (numS x).length := by
      have := congrArg List.length hD
      rw [List.length_append, List.length_append, tailS_len] at this
      exact this
    cases n with
    | zero =>
      have hD' : D = l ++ numS x := by simpa [tailS] using hD
      subst hD'
      have hcl := u8_closed (l ++ numS x)
      first | have hb := hb | have hb := trivial
      repeat' (first | (simp -implicitDefEqProofs (disch := omega) only [hb, L35_0, h1, h5, h7, wC, initE, aop, Nat.reduceEqDiff, ↓reduceIte, Nat.reduceAdd, finish, resOf, tupOf, AM.freeze, freezeL, closed, nam, namL, if_true, if_false, deref, boxAt, exAt, ldCells, oneL, oneCell, Nat.reduceLeDiff, evL, adopt, rigid, rigidL, trim, Int.reduceEq, Int.reduceMod, Int.reduceDiv, if_pos, if_neg, asI, forall_const, implies_true, chkD, chkO, chkW, effB, reB, vEq, beq_self_eq_true, Nat.reduceSub, Nat.reduceLT, Int.reduceSub, Int.reduceAdd, Int.reduceMul, Int.reduceLT, Int.reduceLE, Int.reduceToNat, optI, aslice, cutSl, cutMs, cutStr, cutOwn, cellsOf, one, elCells, lenOf, beqV, beqVL, strip, stripO, convS]) | ((first | rw [WP_condK] | rw [WP_opsG] | rw [WP_quiG] | rw [WP_dG]); refine And.intro (fun hb => ?_) (fun hb => ?_) <;> (first | have hd := dq1 hb | have hd := dq2 hb | have hd := dq3 hb | have hd := dq4 hb | skip)))
      simp only [freeze1, if_pos hcl, WP, if_true]
      simp
    | succ j =>
      have e1 : (((j + 1 : Nat) : Int) - 1) = (j : Int) := by omega
      rw [e1] at h7
      have hsh : abin .shr (.int .u64 x) (.int .i64 (8 * (j : Int))) = some (.int .u64 (x / 256 ^ j)) := shr_byte x j (by omega)
      first | have hb := hb | have hb := trivial
      repeat' (first | (simp -implicitDefEqProofs (disch := omega) only [hb, L35_0, h1, h5, h7, hsh, w_u8, setEls, elFits, stripEl, List.replicate_succ, List.replicate_zero, elemsOf, aappend, wC, initE, aop, Nat.reduceEqDiff, ↓reduceIte, Nat.reduceAdd, finish, resOf, tupOf, AM.freeze, freeze1, freezeL, closed, nam, namL, if_true, if_false, deref, boxAt, exAt, ldCells, oneL, oneCell, Nat.reduceLeDiff, evL, adopt, rigid, rigidL, trim, Int.reduceEq, Int.reduceMod, Int.reduceDiv, if_pos, if_neg, asI, forall_const, implies_true, chkD, chkO, chkW, effB, reB, vEq, beq_self_eq_true, Nat.reduceSub, Nat.reduceLT, Int.reduceSub, Int.reduceAdd, Int.reduceMul, Int.reduceLT, Int.reduceLE, Int.reduceToNat, optI, aslice, cutSl, cutMs, cutStr, cutOwn, cellsOf, one, elCells, lenOf, beqV, beqVL, strip, stripO, convS]) | ((first | rw [WP_condK] | rw [WP_opsG] | rw [WP_quiG] | rw [WP_dG]); refine And.intro (fun hb => ?_) (fun hb => ?_) <;> (first | have hd := dq1 hb | have hd := dq2 hb | have hd := dq3 hb | have hd := dq4 hb | skip)))
      refine ⟨j, by omega, D ++ [x / 256 ^ j % 256], by omega, ?_, ?_, by simp, by simp⟩
      · rw [List.append_assoc, ← hD]
        rfl
      · have := numS_len x
        rw [List.length_append, List.length_cons, List.length_nil]
        omega
theorem u8_len (l : List Int) : (l.map u8).length = l.length := List.length_map ..
theorem call_clone8 (o : AOwn) (l : List Int) (h : Heap) (hn : l.length ≤ 140737488355328) : ag T 42 [.slice o none (l.map u8)] h = some (.slice (.tok h.length) none (l.map u8), h ++ [.row none l.length]) := by
  have := call_clone e42 (o := o) h (u8_closed l) (fits1 (by simp; omega))
  rwa [u8_len] at this
theorem put_ok (o : AOwn) (l : List Int) (x : Int) (hx : U64 x) (hn : l.length ≤ 140737488200000) : prun T F35 [.slice o none (l.map u8), u64 x] = some (.slice .fresh none ((l ++ numS x).map u8)) :=
  put_gen _ l x hx hn fun h => call_clone8 o l h (by omega)
theorem call_put (o : AOwn) (l : List Int) (x : Int) (hx : U64 x) (hn : l.length ≤ 140737488200000) (h : Heap) : ag T 35 [.slice o none (l.map u8), u64 x] h = some (.slice (.tok h.length) none ((l ++ numS x).map u8), h ++ [.row none (l ++ numS x).length]) := by
  have := call_pure (T := T) (f := 35) (args := [.slice o none (l.map u8), u64 x]) (h := h) rfl t35 rfl rfl (by
    have := u8_closed l
    simp only [List.map_cons, List.map_nil, strip, closedL, namL, nam, Bool.and_true] at this ⊢
    rw [this]
    cases o <;> rfl) (put_ok (stripO o) l x hx hn)
  rw [this]
  simp only [Go.Proofs.Ytejnficfhoekiaa.AM.adopt, u8_len]
theorem call_put_nil (x : Int) (hx : U64 x) (h : Heap) : ag T 35 [.nil, u64 x] h = some (.slice (.tok h.length) none ((numS x).map u8), h ++ [.row none (numS x).length]) := by
  have hp := put_gen .nil [] x hx (by simp) fun h => call_clone_nil e42 h
  have := call_pure (T := T) (f := 35) (args := [.nil, u64 x]) (h := h) rfl t35 rfl rfl rfl hp
  rw [this]
  simp only [Go.Proofs.Ytejnficfhoekiaa.AM.adopt, u8_len, List.nil_append]
/-- the reference's number -/
theorem num_ok (x : Int) (hx : U64 x) : ∃ o, (o = .full ∨ o = .fresh) ∧ prun T F37 [u64 x] = some (.slice o none ((numS x).map u8)) := by
  obtain ⟨x0, x1⟩ := hx
  by_cases hx : x < 253
  · refine ⟨.full, .inl rfl, ?_⟩
    have e1 : IntKind.u8.wrap x = x := by rw [w_u8]; omega
    have e2 : numS x = [x] := by unfold numS; rw [if_pos hx]
    rw [e2]
    refine WP_eq (prun_wp ?_)
    first | have hb := hb | have hb := trivial
    repeat' (first | (simp -implicitDefEqProofs (disch := omega) only [hb, F37, e1, setEls, elFits, stripEl, List.replicate_succ, List.replicate_zero, wC, initE, aop, Nat.reduceEqDiff, ↓reduceIte, Nat.reduceAdd, finish, resOf, tupOf, AM.freeze, freeze1, freezeL, closed, nam, namL, if_true, if_false, deref, boxAt, exAt, ldCells, oneL, oneCell, Nat.reduceLeDiff, evL, adopt, rigid, rigidL, trim, Int.reduceEq, Int.reduceMod, Int.reduceDiv, if_pos, if_neg, asI, forall_const, implies_true, chkD, chkO, chkW, effB, reB, vEq, beq_self_eq_true, Nat.reduceSub, Nat.reduceLT, Int.reduceSub, Int.reduceAdd, Int.reduceMul, Int.reduceLT, Int.reduceLE, Int.reduceToNat, optI, aslice, cutSl, cutMs, cutStr, cutOwn, cellsOf, one, elCells, lenOf, beqV, beqVL, strip, stripO, convS]) | ((first | rw [WP_condK] | rw [WP_opsG] | rw [WP_quiG] | rw [WP_dG]); refine And.intro (fun hb => ?_) (fun hb => ?_) <;> (first | have hd := dq1 hb | have hd := dq2 hb | have hd := dq3 hb | have hd := dq4 hb | skip)))
  · refine ⟨.fresh, .inr rfl, ?_⟩
    have e2 := numS_eq x hx
    refine WP_eq (prun_wp ?_)
    first | have hb := hb | have hb := trivial
    repeat' (first | (simp -implicitDefEqProofs (disch := omega) only [hb, F37, setEls, elFits, stripEl, List.replicate_succ, List.replicate_zero, wC, initE, aop, Nat.reduceEqDiff, ↓reduceIte, Nat.reduceAdd, finish, resOf, tupOf, AM.freeze, freeze1, freezeL, closed, nam, namL, if_true, if_false, deref, boxAt, exAt, ldCells, oneL, oneCell, Nat.reduceLeDiff, evL, adopt, rigid, rigidL, trim, Int.reduceEq, Int.reduceMod, Int.reduceDiv, if_pos, if_neg, asI, forall_const, implies_true, chkD, chkO, chkW, effB, reB, vEq, beq_self_eq_true, Nat.reduceSub, Nat.reduceLT, Int.reduceSub, Int.reduceAdd, Int.reduceMul, Int.reduceLT, Int.reduceLE, Int.reduceToNat, optI, aslice, cutSl, cutMs, cutStr, cutOwn, cellsOf, one, elCells, lenOf, beqV, beqVL, strip, stripO, convS]) | ((first | rw [WP_condK] | rw [WP_opsG] | rw [WP_quiG] | rw [WP_dG]); refine And.intro (fun hb => ?_) (fun hb => ?_) <;> (first | have hd := dq1 hb | have hd := dq2 hb | have hd := dq3 hb | have hd := dq4 hb | skip)))
    all_goals
      refine WP_loop (I := fun n e h => ∃ (D : List Int) (o : AOwn), n ≤ 8 ∧ D ++ tailS n x = numS x ∧ D.length + n ≤ 9 ∧ ((o = .full ∧ h = [.row none 0] ∧ 0 < n) ∨ (o = .tok 1 ∧ h = [.row none 0, .row none D.length])) ∧ getE e 0 = u64 x ∧ getE e 4 = .slice o none (D.map u8) ∧ getE e 5 = i64 ((n : Int) - 1)) ?_ (widthS x) _ _ ⟨[firstS x], .full, by simp [widthS, *], by rw [e2]; rfl, by simp [widthS, *], .inl ⟨rfl, rfl, by simp [widthS, *]⟩, rfl, by simp [getE, firstS, *], by simp [getE, widthS, *]⟩
      rintro n e h ⟨D, o, hn8, hD, hDl, ho, h0, h4, h5⟩
      rw [trim_off]
      cases n with
      | zero =>
        have hD' : D = numS x := by simpa [tailS] using hD
        subst hD'
        have hcl := u8_closed (numS x)
        rcases ho with ⟨_, _, hh⟩ | ⟨rfl, rfl⟩
        · omega
        first | have hb := hb | have hb := trivial
        repeat' (first | (simp -implicitDefEqProofs (disch := omega) only [hb, L37_0, h0, h4, h5, wC, initE, aop, Nat.reduceEqDiff, ↓reduceIte, Nat.reduceAdd, finish, resOf, tupOf, AM.freeze, freezeL, closed, nam, namL, if_true, if_false, deref, boxAt, exAt, ldCells, oneL, oneCell, Nat.reduceLeDiff, evL, adopt, rigid, rigidL, trim, Int.reduceEq, Int.reduceMod, Int.reduceDiv, if_pos, if_neg, asI, forall_const, implies_true, chkD, chkO, chkW, effB, reB, vEq, beq_self_eq_true, Nat.reduceSub, Nat.reduceLT, Int.reduceSub, Int.reduceAdd, Int.reduceMul, Int.reduceLT, Int.reduceLE, Int.reduceToNat, optI, aslice, cutSl, cutMs, cutStr, cutOwn, cellsOf, one, elCells, lenOf, beqV, beqVL, strip, stripO, convS]) | ((first | rw [WP_condK] | rw [WP_opsG] | rw [WP_quiG] | rw [WP_dG]); refine And.intro (fun hb => ?_) (fun hb => ?_) <;> (first | have hd := dq1 hb | have hd := dq2 hb | have hd := dq3 hb | have hd := dq4 hb | skip)))
        simp only [freeze1, if_pos hcl, WP, if_true]
        simp
      | succ j =>
        have e1 : (((j + 1 : Nat) : Int) - 1) = (j : Int) := by omega
        rw [e1] at h5
        have hsh : abin .shr (.int .u64 x) (.int .i64 (8 * (j : Int))) = some (.int .u64 (x / 256 ^ j)) := shr_byte x j (by omega)
        rcases ho with ⟨rfl, rfl, _⟩ | ⟨rfl, rfl⟩
        all_goals
          first | have hb := hb | have hb := trivial
          repeat' (first | (simp -implicitDefEqProofs (disch := omega) only [hb, L37_0, h0, h4, h5, hsh, w_u8, setEls, elFits, stripEl, List.replicate_succ, List.replicate_zero, elemsOf, aappend, wC, initE, aop, Nat.reduceEqDiff, ↓reduceIte, Nat.reduceAdd, finish, resOf, tupOf, AM.freeze, freeze1, freezeL, closed, nam, namL, if_true, if_false, deref, boxAt, exAt, ldCells, oneL, oneCell, Nat.reduceLeDiff, evL, adopt, rigid, rigidL, trim, Int.reduceEq, Int.reduceMod, Int.reduceDiv, if_pos, if_neg, asI, forall_const, implies_true, chkD, chkO, chkW, effB, reB, vEq, beq_self_eq_true, Nat.reduceSub, Nat.reduceLT, Int.reduceSub, Int.reduceAdd, Int.reduceMul, Int.reduceLT, Int.reduceLE, Int.reduceToNat, optI, aslice, cutSl, cutMs, cutStr, cutOwn, cellsOf, one, elCells, lenOf, beqV, beqVL, strip, stripO, convS]) | ((first | rw [WP_condK] | rw [WP_opsG] | rw [WP_quiG] | rw [WP_dG]); refine And.intro (fun hb => ?_) (fun hb => ?_) <;> (first | have hd := dq1 hb | have hd := dq2 hb | have hd := dq3 hb | have hd := dq4 hb | skip)))
          refine ⟨j, by omega, D ++ [x / 256 ^ j % 256], .tok 1, by omega, by rw [List.append_assoc, ← hD]; rfl, by rw [List.length_append, List.length_cons, List.length_nil]; omega, .inr ⟨rfl, by simp⟩, by simp⟩
end Go.Proofs.Ytejnficfhoekiaa.AM

/- bigsize's Read, and the reference's. -/
namespace Go.Proofs.Ytejnficfhoekiaa.AM
open Go
set_option maxRecDepth 100000
set_option linter.unusedSimpArgs false
set_option linter.unusedVariables false
def rdT (l : List Int) : AV := .tup [u64 (readS l).1, i64 (readS l).2.1, i64 (readS l).2.2]
theorem be_lt8 {s : List Int} (h : Bytes s) (i : Nat) (hi : i < 8) (hs : s.length ≤ 8) : 0 ≤ be (s.take i) ∧ be (s.take i) * 256 + 255 ≤ 18446744073709551615 := by
  have hb := be_bound (s.take i) (take_bytes h i)
  have hl : (s.take i).length ≤ 7 := by rw [List.length_take]; omega
  have hp : (256 : Int) ^ (s.take i).length ≤ 256 ^ 7 := by
    have z : ((256 ^ (s.take i).length : Nat) : Int) ≤ ((256 ^ 7 : Nat) : Int) := Int.ofNat_le.2 (Nat.pow_le_pow_right (by omega) hl)
    simpa using z
  refine ⟨hb.1, ?_⟩
  have : (256 : Int) ^ 7 = 72057594037927936 := by decide
  omega
theorem be_take_succ {s : List Int} {i : Nat} (hi : i < s.length) : be (s.take (i + 1)) = be (s.take i) * 256 + s[i] := by
  rw [List.take_succ_eq_append_getElem hi, be_snoc]
theorem shl8 (x : Int) (h0 : 0 ≤ x) (h1 : x * 256 + 255 ≤ 18446744073709551615) : abin .shl (.int .u64 x) (.int .u64 8) = some (.int .u64 (x * 256)) := by
  have := shl_c .u64 .u64 x 8 (by simp [IntKind.bits])
  rw [show ((8 : Nat) : Int) = 8 from rfl] at this
  rw [this, show (2 : Int) ^ 8 = 256 by decide, IntWalk.u64_in _ ⟨by omega, by omega⟩]
theorem u8_take (l : List Int) (n : Nat) : (l.map u8).take n = (l.take n).map u8 := List.map_take.symm
theorem u8_drop (l : List Int) (n : Nat) : (l.map u8).drop n = (l.drop n).map u8 := List.map_drop.symm
theorem read_ok (l : List Int) (hl : Bytes l) (hn : l.length ≤ 4611686018427387904) : prun T F40 [.slice .none none (l.map u8)] = some (rdT l) := by
  refine WP_eq (prun_wp ?_)
  cases l with
  | nil =>
    first | have hb := hb | have hb := trivial
    repeat' (first | (simp -implicitDefEqProofs (disch := omega) only [hb, F40, wC, initE, aop, Nat.reduceEqDiff, ↓reduceIte, Nat.reduceAdd, finish, resOf, tupOf, AM.freeze, freeze1, freezeL, closed, nam, namL, if_true, if_false, deref, boxAt, exAt, ldCells, oneL, oneCell, Nat.reduceLeDiff, evL, adopt, rigid, rigidL, trim, Int.reduceEq, Int.reduceMod, Int.reduceDiv, if_pos, if_neg, asI, forall_const, implies_true, chkD, chkO, chkW, effB, reB, vEq, beq_self_eq_true, Nat.reduceSub, Nat.reduceLT, Int.reduceSub, Int.reduceAdd, Int.reduceMul, Int.reduceLT, Int.reduceLE, Int.reduceToNat, optI, aslice, cutSl, cutMs, cutStr, cutOwn, cellsOf, one, elCells, lenOf, beqV, beqVL, strip, stripO, convS]) | ((first | rw [WP_condK] | rw [WP_opsG] | rw [WP_quiG] | rw [WP_dG]); refine And.intro (fun hb => ?_) (fun hb => ?_) <;> (first | have hd := dq1 hb | have hd := dq2 hb | have hd := dq3 hb | have hd := dq4 hb | skip)))
    rfl
  | cons b r =>
    have hb := hl b List.mem_cons_self
    have hr : Bytes r := fun c hc => hl c (List.mem_cons_of_mem _ hc)
    have hlen : (b :: r).length = r.length + 1 := rfl
    rw [hlen] at hn
    by_cases h253 : b < 253
    · first | have hb := hb | have hb := trivial
      repeat' (first | (simp -implicitDefEqProofs (disch := omega) only [hb, F40, wC, initE, aop, Nat.reduceEqDiff, ↓reduceIte, Nat.reduceAdd, finish, resOf, tupOf, AM.freeze, freeze1, freezeL, closed, nam, namL, if_true, if_false, deref, boxAt, exAt, ldCells, oneL, oneCell, Nat.reduceLeDiff, evL, adopt, rigid, rigidL, trim, Int.reduceEq, Int.reduceMod, Int.reduceDiv, if_pos, if_neg, asI, forall_const, implies_true, chkD, chkO, chkW, effB, reB, vEq, beq_self_eq_true, Nat.reduceSub, Nat.reduceLT, Int.reduceSub, Int.reduceAdd, Int.reduceMul, Int.reduceLT, Int.reduceLE, Int.reduceToNat, optI, aslice, cutSl, cutMs, cutStr, cutOwn, cellsOf, one, elCells, lenOf, beqV, beqVL, strip, stripO, convS]) | ((first | rw [WP_condK] | rw [WP_opsG] | rw [WP_quiG] | rw [WP_dG]); refine And.intro (fun hb => ?_) (fun hb => ?_) <;> (first | have hd := dq1 hb | have hd := dq2 hb | have hd := dq3 hb | have hd := dq4 hb | skip)))
      simp [rdT, readS_cons, h253]
    have main : ∀ (n : Nat), wideS b = n → n ≤ 8 → 0 < n → abin .shl (.int .i64 2) (.int .u8 (IntKind.u8.wrap (b - 253))) = some (.int .i64 (n : Int)) → WP (BQ (fin F40.res) (BQ frz fun v => v = rdT (b :: r))) (ax T F40.body (initE 0 [.slice .none none ((b :: r).map u8)]) []) := by
      intro n hw hn8 hn0 hsh
      first | have hb := hb | have hb := trivial
      repeat' (first | (simp -implicitDefEqProofs (disch := omega) only [hb, F40, hsh, wC, initE, aop, Nat.reduceEqDiff, ↓reduceIte, Nat.reduceAdd, finish, resOf, tupOf, AM.freeze, freeze1, freezeL, closed, nam, namL, if_true, if_false, deref, boxAt, exAt, ldCells, oneL, oneCell, Nat.reduceLeDiff, evL, adopt, rigid, rigidL, trim, Int.reduceEq, Int.reduceMod, Int.reduceDiv, if_pos, if_neg, asI, forall_const, implies_true, chkD, chkO, chkW, effB, reB, vEq, beq_self_eq_true, Nat.reduceSub, Nat.reduceLT, Int.reduceSub, Int.reduceAdd, Int.reduceMul, Int.reduceLT, Int.reduceLE, Int.reduceToNat, optI, aslice, cutSl, cutMs, cutStr, cutOwn, cellsOf, one, elCells, lenOf, beqV, beqVL, strip, stripO, convS]) | ((first | rw [WP_condK] | rw [WP_opsG] | rw [WP_quiG] | rw [WP_dG]); refine And.intro (fun hb => ?_) (fun hb => ?_) <;> (first | have hd := dq1 hb | have hd := dq2 hb | have hd := dq3 hb | have hd := dq4 hb | skip)))
      · have h1 : r.length < n := by omega
        rw [rdT, readS_cons, if_neg h253, hw, if_pos h1]
      have hnr : n ≤ r.length := by omega
      obtain ⟨s, hs⟩ : ∃ s, r.take n = s := ⟨_, rfl⟩
      have hsb : Bytes s := hs ▸ take_bytes hr n
      have hsl : s.length = n := by rw [← hs, List.length_take]; omega
      have hmap : List.take n (List.map u8 r) = s.map u8 := by rw [← hs, u8_take]
      have hrd : readS (b :: r) = if sizeS (be s) = n + 1 then (be s, (n : Int) + 1, 0) else (0, 0, 10) := by
        rw [readS_cons, if_neg h253, hw, if_neg (by omega), hs]
      simp only [hmap, u8_len, hsl]
      refine WP_loop (I := fun k e h => ∃ i : Nat, k + i = n ∧ h = [] ∧ getE e 5 = i64 n ∧ getE e 6 = u64 (be (s.take i)) ∧ getE e 32 = .slice .none none (s.map u8) ∧ getE e 33 = i64 n ∧ getE e 34 = i64 i) ?_ n _ _ ⟨0, by omega, rfl, rfl, rfl, rfl, rfl, rfl⟩
      rintro k e h ⟨i, hk, rfl, h5, h6, h32, h33, h34⟩
      rw [trim_same' (by simp)]
      by_cases hlt : i < n
      · have hg := get_u8 (l := s) (i := i) (by omega)
        obtain ⟨y0, y1⟩ := bytes_get hsb (i := i) (by omega)
        obtain ⟨z0, z1⟩ := be_lt8 hsb i (by omega) (by omega)
        have e1 := shl8 (be (s.take i)) z0 z1
        have e2 := or_byte (be (s.take i)) s[i] z0 z1 y0 y1
        have e3 := be_take_succ (s := s) (i := i) (by omega)
        first | have hb := hb | have hb := trivial
        repeat' (first | (simp -implicitDefEqProofs (disch := omega) only [hb, L40_0, h5, h6, h32, h33, h34, hg, e1, e2, wC, initE, aop, Nat.reduceEqDiff, ↓reduceIte, Nat.reduceAdd, finish, resOf, tupOf, AM.freeze, freeze1, freezeL, closed, nam, namL, if_true, if_false, deref, boxAt, exAt, ldCells, oneL, oneCell, Nat.reduceLeDiff, evL, adopt, rigid, rigidL, trim, Int.reduceEq, Int.reduceMod, Int.reduceDiv, if_pos, if_neg, asI, forall_const, implies_true, chkD, chkO, chkW, effB, reB, vEq, beq_self_eq_true, Nat.reduceSub, Nat.reduceLT, Int.reduceSub, Int.reduceAdd, Int.reduceMul, Int.reduceLT, Int.reduceLE, Int.reduceToNat, optI, aslice, cutSl, cutMs, cutStr, cutOwn, cellsOf, one, elCells, lenOf, beqV, beqVL, strip, stripO, convS]) | ((first | rw [WP_condK] | rw [WP_opsG] | rw [WP_quiG] | rw [WP_dG]); refine And.intro (fun hb => ?_) (fun hb => ?_) <;> (first | have hd := dq1 hb | have hd := dq2 hb | have hd := dq3 hb | have hd := dq4 hb | skip)))
        exact ⟨k - 1, by omega, i + 1, by omega, by rw [e3], rfl⟩
      · obtain rfl : i = n := by omega
        have hfull : s.take i = s := List.take_of_length_le (by omega)
        rw [hfull] at h6
        first | have hb := hb | have hb := trivial
        repeat' (first | (simp -implicitDefEqProofs (disch := omega) only [hb, L40_0, h5, h6, h32, h33, h34, call_size, wC, initE, aop, Nat.reduceEqDiff, ↓reduceIte, Nat.reduceAdd, finish, resOf, tupOf, AM.freeze, freeze1, freezeL, closed, nam, namL, if_true, if_false, deref, boxAt, exAt, ldCells, oneL, oneCell, Nat.reduceLeDiff, evL, adopt, rigid, rigidL, trim, Int.reduceEq, Int.reduceMod, Int.reduceDiv, if_pos, if_neg, asI, forall_const, implies_true, chkD, chkO, chkW, effB, reB, vEq, beq_self_eq_true, Nat.reduceSub, Nat.reduceLT, Int.reduceSub, Int.reduceAdd, Int.reduceMul, Int.reduceLT, Int.reduceLE, Int.reduceToNat, optI, aslice, cutSl, cutMs, cutStr, cutOwn, cellsOf, one, elCells, lenOf, beqV, beqVL, strip, stripO, convS]) | ((first | rw [WP_condK] | rw [WP_opsG] | rw [WP_quiG] | rw [WP_dG]); refine And.intro (fun hb => ?_) (fun hb => ?_) <;> (first | have hd := dq1 hb | have hd := dq2 hb | have hd := dq3 hb | have hd := dq4 hb | skip)))
        · have hne : ¬ sizeS (be s) = i + 1 := by simpa using hb
          rw [rdT, hrd, if_neg hne]
        · have he : sizeS (be s) = i + 1 := by simpa using hb
          rw [rdT, hrd, if_pos he]
          rfl
    have hc : b = 253 ∨ b = 254 ∨ b = 255 := by omega
    rcases hc with rfl | rfl | rfl
    · exact main 2 rfl (by omega) (by omega) rfl
    · exact main 4 rfl (by omega) (by omega) rfl
    · exact main 8 rfl (by omega) (by omega) rfl
theorem call_num (x : Int) (hx : U64 x) : ∃ o, (o = .full ∨ o = .fresh) ∧ ∀ h, ag T 37 [u64 x] h = some (Go.Proofs.Ytejnficfhoekiaa.AM.adopt (.slice o none ((numS x).map u8)) h) := by
  obtain ⟨o, ho, hp⟩ := num_ok x hx
  exact ⟨o, ho, fun h => call_pure (T := T) rfl t37 rfl rfl rfl hp⟩
theorem be_u64 {s : List Int} (h : Bytes s) (hs : s.length ≤ 8) : U64 (be s) := by
  have hb := be_bound s h
  have hp : (256 : Int) ^ s.length ≤ 256 ^ 8 := by
    have z : ((256 ^ s.length : Nat) : Int) ≤ ((256 ^ 8 : Nat) : Int) := Int.ofNat_le.2 (Nat.pow_le_pow_right (by omega) hs)
    simpa using z
  have : (256 : Int) ^ 8 = 18446744073709551616 := by decide
  exact ⟨hb.1, by omega⟩
theorem rread_ok (l : List Int) (hl : Bytes l) (hn : l.length ≤ 4611686018427387904) : prun T F47 [.slice .none none (l.map u8)] = some (rdT l) := by
  refine WP_eq (prun_wp ?_)
  cases l with
  | nil =>
    first | have hb := hb | have hb := trivial
    repeat' (first | (simp -implicitDefEqProofs (disch := omega) only [hb, F47, wC, initE, aop, Nat.reduceEqDiff, ↓reduceIte, Nat.reduceAdd, finish, resOf, tupOf, AM.freeze, freeze1, freezeL, closed, nam, namL, if_true, if_false, deref, boxAt, exAt, ldCells, oneL, oneCell, Nat.reduceLeDiff, evL, adopt, rigid, rigidL, trim, Int.reduceEq, Int.reduceMod, Int.reduceDiv, if_pos, if_neg, asI, forall_const, implies_true, chkD, chkO, chkW, effB, reB, vEq, beq_self_eq_true, Nat.reduceSub, Nat.reduceLT, Int.reduceSub, Int.reduceAdd, Int.reduceMul, Int.reduceLT, Int.reduceLE, Int.reduceToNat, optI, aslice, cutSl, cutMs, cutStr, cutOwn, cellsOf, one, elCells, lenOf, beqV, beqVL, strip, stripO, convS]) | ((first | rw [WP_condK] | rw [WP_opsG] | rw [WP_quiG] | rw [WP_dG]); refine And.intro (fun hb => ?_) (fun hb => ?_) <;> (first | have hd := dq1 hb | have hd := dq2 hb | have hd := dq3 hb | have hd := dq4 hb | skip)))
    rfl
  | cons b r =>
    have hb := hl b List.mem_cons_self
    have hr : Bytes r := fun c hc => hl c (List.mem_cons_of_mem _ hc)
    have hlen : (b :: r).length = r.length + 1 := rfl
    rw [hlen] at hn
    by_cases h253 : b < 253
    · first | have hb := hb | have hb := trivial
      repeat' (first | (simp -implicitDefEqProofs (disch := omega) only [hb, F47, wC, initE, aop, Nat.reduceEqDiff, ↓reduceIte, Nat.reduceAdd, finish, resOf, tupOf, AM.freeze, freeze1, freezeL, closed, nam, namL, if_true, if_false, deref, boxAt, exAt, ldCells, oneL, oneCell, Nat.reduceLeDiff, evL, adopt, rigid, rigidL, trim, Int.reduceEq, Int.reduceMod, Int.reduceDiv, if_pos, if_neg, asI, forall_const, implies_true, chkD, chkO, chkW, effB, reB, vEq, beq_self_eq_true, Nat.reduceSub, Nat.reduceLT, Int.reduceSub, Int.reduceAdd, Int.reduceMul, Int.reduceLT, Int.reduceLE, Int.reduceToNat, optI, aslice, cutSl, cutMs, cutStr, cutOwn, cellsOf, one, elCells, lenOf, beqV, beqVL, strip, stripO, convS]) | ((first | rw [WP_condK] | rw [WP_opsG] | rw [WP_quiG] | rw [WP_dG]); refine And.intro (fun hb => ?_) (fun hb => ?_) <;> (first | have hd := dq1 hb | have hd := dq2 hb | have hd := dq3 hb | have hd := dq4 hb | skip)))
      simp [rdT, readS_cons, h253]
    have main : ∀ (n : Nat), wideS b = n → n ≤ 8 → 0 < n → (b = 253 ∧ n = 2 ∨ b = 254 ∧ n = 4 ∨ b = 255 ∧ n = 8) → WP (BQ (fin F47.res) (BQ frz fun v => v = rdT (b :: r))) (ax T F47.body (initE 0 [.slice .none none ((b :: r).map u8)]) []) := by
      intro n hw hn8 hn0 hbn
      have go : ∀ (e : Env), getE e 0 = .slice .none none (u8 b :: r.map u8) → getE e 5 = i64 n → getE e 6 = u64 0 → getE e 7 = i64 1 → n ≤ r.length → ∀ {Q : Res → Prop}, (∀ e', getE e' 0 = .slice .none none (u8 b :: r.map u8) → getE e' 5 = i64 n → getE e' 6 = u64 (be (r.take n)) → Q (.exit 1, e', [])) → WP Q (axl T [0, 5, 6, 7] true L47_0 0 e []) := by
        intro e g0 g5 g6 g7 hnr Q hQ
        refine WP_loop (I := fun k e h => ∃ i : Nat, k + i = n ∧ h = [] ∧ getE e 0 = .slice .none none (u8 b :: r.map u8) ∧ getE e 5 = i64 n ∧ getE e 6 = u64 (be (r.take i)) ∧ getE e 7 = i64 ((i : Int) + 1)) ?_ n _ _ ⟨0, by omega, rfl, g0, g5, g6, g7⟩
        clear g0 g5 g6 g7 e
        rintro k e h ⟨i, hk, rfl, h0, h5, h6, h7⟩
        rw [trim_same' (by simp)]
        by_cases hlt : i < n
        · have hg : (u8 b :: r.map u8)[i + 1]? = some (u8 r[i]) := by rw [List.getElem?_cons_succ]; exact get_u8 (by omega)
          obtain ⟨y0, y1⟩ := bytes_get hr (i := i) (by omega)
          have hbd : 0 ≤ be (r.take i) ∧ be (r.take i) * 256 + 255 ≤ 18446744073709551615 := by
            have hh := be_lt8 (take_bytes hr n) i (by omega) (by rw [List.length_take]; omega)
            rwa [List.take_take, Nat.min_eq_left (by omega)] at hh
          have e3 := be_take_succ (s := r) (i := i) (by omega)
          first | have hb := hb | have hb := trivial
          repeat' (first | (simp -implicitDefEqProofs (disch := omega) only [hb, L47_0, h0, h5, h6, h7, hg, wC, initE, aop, Nat.reduceEqDiff, ↓reduceIte, Nat.reduceAdd, finish, resOf, tupOf, AM.freeze, freeze1, freezeL, closed, nam, namL, if_true, if_false, deref, boxAt, exAt, ldCells, oneL, oneCell, Nat.reduceLeDiff, evL, adopt, rigid, rigidL, trim, Int.reduceEq, Int.reduceMod, Int.reduceDiv, if_pos, if_neg, asI, forall_const, implies_true, chkD, chkO, chkW, effB, reB, vEq, beq_self_eq_true, Nat.reduceSub, Nat.reduceLT, Int.reduceSub, Int.reduceAdd, Int.reduceMul, Int.reduceLT, Int.reduceLE, Int.reduceToNat, optI, aslice, cutSl, cutMs, cutStr, cutOwn, cellsOf, one, elCells, lenOf, beqV, beqVL, strip, stripO, convS]) | ((first | rw [WP_condK] | rw [WP_opsG] | rw [WP_quiG] | rw [WP_dG]); refine And.intro (fun hb => ?_) (fun hb => ?_) <;> (first | have hd := dq1 hb | have hd := dq2 hb | have hd := dq3 hb | have hd := dq4 hb | skip)))
          exact ⟨k - 1, by omega, i + 1, by omega, by rw [e3], rfl⟩
        · obtain rfl : i = n := by omega
          first | have hb := hb | have hb := trivial
          repeat' (first | (simp -implicitDefEqProofs (disch := omega) only [hb, L47_0, h0, h5, h6, h7, wC, initE, aop, Nat.reduceEqDiff, ↓reduceIte, Nat.reduceAdd, finish, resOf, tupOf, AM.freeze, freeze1, freezeL, closed, nam, namL, if_true, if_false, deref, boxAt, exAt, ldCells, oneL, oneCell, Nat.reduceLeDiff, evL, adopt, rigid, rigidL, trim, Int.reduceEq, Int.reduceMod, Int.reduceDiv, if_pos, if_neg, asI, forall_const, implies_true, chkD, chkO, chkW, effB, reB, vEq, beq_self_eq_true, Nat.reduceSub, Nat.reduceLT, Int.reduceSub, Int.reduceAdd, Int.reduceMul, Int.reduceLT, Int.reduceLE, Int.reduceToNat, optI, aslice, cutSl, cutMs, cutStr, cutOwn, cellsOf, one, elCells, lenOf, beqV, beqVL, strip, stripO, convS]) | ((first | rw [WP_condK] | rw [WP_opsG] | rw [WP_quiG] | rw [WP_dG]); refine And.intro (fun hb => ?_) (fun hb => ?_) <;> (first | have hd := dq1 hb | have hd := dq2 hb | have hd := dq3 hb | have hd := dq4 hb | skip)))
          exact hQ _ (by simp [getE, h0]) (by simp [getE, h5]) (by simp [getE, h6])
      have hrd : readS (b :: r) = if r.length < n then (0, 0, 10) else if sizeS (be (r.take n)) = n + 1 then (be (r.take n), (n : Int) + 1, 0) else (0, 0, 10) := by
        rw [readS_cons, if_neg h253, hw]
      have hu := be_u64 (take_bytes hr n) (by rw [List.length_take]; omega)
      obtain ⟨o, ho, hnum⟩ := call_num (be (r.take n)) hu
      have hnl := numS_len (be (r.take n))
      rcases hbn with ⟨rfl, rfl⟩ | ⟨rfl, rfl⟩ | ⟨rfl, rfl⟩
      all_goals
        first | have hb := hb | have hb := trivial
        repeat' (first | (simp -implicitDefEqProofs (disch := omega) only [hb, F47, wC, initE, aop, Nat.reduceEqDiff, ↓reduceIte, Nat.reduceAdd, finish, resOf, tupOf, AM.freeze, freeze1, freezeL, closed, nam, namL, if_true, if_false, deref, boxAt, exAt, ldCells, oneL, oneCell, Nat.reduceLeDiff, evL, adopt, rigid, rigidL, trim, Int.reduceEq, Int.reduceMod, Int.reduceDiv, if_pos, if_neg, asI, forall_const, implies_true, chkD, chkO, chkW, effB, reB, vEq, beq_self_eq_true, Nat.reduceSub, Nat.reduceLT, Int.reduceSub, Int.reduceAdd, Int.reduceMul, Int.reduceLT, Int.reduceLE, Int.reduceToNat, optI, aslice, cutSl, cutMs, cutStr, cutOwn, cellsOf, one, elCells, lenOf, beqV, beqVL, strip, stripO, convS]) | ((first | rw [WP_condK] | rw [WP_opsG] | rw [WP_quiG] | rw [WP_dG]); refine And.intro (fun hb => ?_) (fun hb => ?_) <;> (first | have hd := dq1 hb | have hd := dq2 hb | have hd := dq3 hb | have hd := dq4 hb | skip)))
        · rw [rdT, hrd, if_pos (by omega)]
        · refine go _ rfl rfl rfl rfl (by omega) fun e' g0 g5 g6 => ?_
          rcases ho with rfl | rfl
          all_goals
            first | have hb := hb | have hb := trivial
            repeat' (first | (simp -implicitDefEqProofs (disch := omega) only [hb, g0, g5, g6, hnum, hnl, wC, initE, aop, Nat.reduceEqDiff, ↓reduceIte, Nat.reduceAdd, finish, resOf, tupOf, AM.freeze, freeze1, freezeL, closed, nam, namL, if_true, if_false, deref, boxAt, exAt, ldCells, oneL, oneCell, Nat.reduceLeDiff, evL, adopt, rigid, rigidL, trim, Int.reduceEq, Int.reduceMod, Int.reduceDiv, if_pos, if_neg, asI, forall_const, implies_true, chkD, chkO, chkW, effB, reB, vEq, beq_self_eq_true, Nat.reduceSub, Nat.reduceLT, Int.reduceSub, Int.reduceAdd, Int.reduceMul, Int.reduceLT, Int.reduceLE, Int.reduceToNat, optI, aslice, cutSl, cutMs, cutStr, cutOwn, cellsOf, one, elCells, lenOf, beqV, beqVL, strip, stripO, convS]) | ((first | rw [WP_condK] | rw [WP_opsG] | rw [WP_quiG] | rw [WP_dG]); refine And.intro (fun hb => ?_) (fun hb => ?_) <;> (first | have hd := dq1 hb | have hd := dq2 hb | have hd := dq3 hb | have hd := dq4 hb | skip)))
            · rw [rdT, hrd, if_neg (by omega), if_neg (by simp at hb; omega)]
            · rw [rdT, hrd, if_neg (by omega), if_pos (by simp at hb; omega)]
              rfl
    have hc : b = 253 ∨ b = 254 ∨ b = 255 := by omega
    rcases hc with rfl | rfl | rfl
    · exact main 2 rfl (by omega) (by omega) (by omega)
    · exact main 4 rfl (by omega) (by omega) (by omega)
    · exact main 8 rfl (by omega) (by omega) (by omega)
end Go.Proofs.Ytejnficfhoekiaa.AM
