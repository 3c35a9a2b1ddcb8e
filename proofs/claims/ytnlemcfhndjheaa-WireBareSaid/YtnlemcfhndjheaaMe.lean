import Derived.Test.YtnlemcfhndjheaaMd
/- bigsize's Read, and the reference's. -/
namespace Go.Proofs.Ytnlemcfhndjheaa.AM
open Go
set_option maxRecDepth 100000
set_option linter.unusedSimpArgs false
set_option linter.unusedVariables false
def rdT (l : List Int) : AV := .tup [u64 (readS l).1, i64 (readS l).2.1, i64 (readS l).2.2]
theorem be_lt8 {s : List Int} (h : Bytes s) (i : Nat) (hi : i < 8) (hs : s.length ≤ 8) : 0 ≤ be (s.take i) ∧ be (s.take i) * 256 + 255 ≤ 18446744073709551615 := by
  have hb := be_bound (s.take i) (take_bytes h i)
  have hl : (s.take i).length ≤ 7 := by rw [List.length_take]; omega
  have hp : (256 : Int) ^ (s.take i).length ≤ 256 ^ 7 := by
    have z : ((256 ^ (s.take i).length : Nat) : Int) ≤ ((256 ^ 7 : Nat) : Int) := Int.ofNat_le.2 (Nat.pow_le_pow_right (by omega) hl)
    simpa using z
  refine ⟨hb.1, ?_⟩
  have : (256 : Int) ^ 7 = 72057594037927936 := by decide
  omega
theorem be_take_succ {s : List Int} {i : Nat} (hi : i < s.length) : be (s.take (i + 1)) = be (s.take i) * 256 + s[i] := by
  rw [List.take_succ_eq_append_getElem hi, be_snoc]
theorem shl8 (x : Int) (h0 : 0 ≤ x) (h1 : x * 256 + 255 ≤ 18446744073709551615) : abin .shl (.int .u64 x) (.int .u64 8) = some (.int .u64 (x * 256)) := by
  have := shl_c .u64 .u64 x 8 (by simp [IntKind.bits])
  rw [show ((8 : Nat) : Int) = 8 from rfl] at this
  rw [this, show (2 : Int) ^ 8 = 256 by decide, IntWalk.u64_in _ ⟨by omega, by omega⟩]
theorem u8_take (l : List Int) (n : Nat) : (l.map u8).take n = (l.take n).map u8 := List.map_take.symm
theorem u8_drop (l : List Int) (n : Nat) : (l.map u8).drop n = (l.drop n).map u8 := List.map_drop.symm
theorem read_ok (l : List Int) (hl : Bytes l) (hn : l.length ≤ 4611686018427387904) : prun T F39 [.slice .none none (l.map u8)] = some (rdT l) := by
  refine WP_eq (prun_wp ?_)
  cases l with
  | nil =>
    have hb := trivial
    repeat' (first | (simp -implicitDefEqProofs (disch := omega) only [hb, F39, wC, initE, aop, Nat.reduceEqDiff, ↓reduceIte, Nat.reduceAdd, finish, resOf, tupOf, AM.freeze, freeze1, freezeL, closed, nam, namL, if_true, if_false, deref, boxAt, exAt, ldCells, oneL, oneCell, Nat.reduceLeDiff, evL, adopt, rigid, rigidL, trim, Int.reduceEq, Int.reduceMod, Int.reduceDiv, if_pos, if_neg, asI, forall_const, implies_true, chkD, chkO, chkW, effB, reB, vEq, beq_self_eq_true, Nat.reduceSub, Nat.reduceLT, Int.reduceSub, Int.reduceAdd, Int.reduceMul, Int.reduceLT, Int.reduceLE, Int.reduceToNat, optI, aslice, cutSl, cutMs, cutStr, cutOwn, cellsOf, one, elCells, lenOf, beqV, beqVL, strip, stripO, convS]) | ((first | rw [WP_condK] | rw [WP_opsG] | rw [WP_quiG] | rw [WP_dG]); refine And.intro (fun hb => ?_) (fun hb => ?_) <;> (first | have hd := dq1 hb | have hd := dq2 hb | have hd := dq3 hb | have hd := dq4 hb | skip)))
    rfl
  | cons b r =>
    have hb := hl b List.mem_cons_self
    have hr : Bytes r := fun c hc => hl c (List.mem_cons_of_mem _ hc)
    have hlen : (b :: r).length = r.length + 1 := rfl
    rw [hlen] at hn
    by_cases h253 : b < 253
    · have hb := trivial
      repeat' (first | (simp -implicitDefEqProofs (disch := omega) only [hb, F39, wC, initE, aop, Nat.reduceEqDiff, ↓reduceIte, Nat.reduceAdd, finish, resOf, tupOf, AM.freeze, freeze1, freezeL, closed, nam, namL, if_true, if_false, deref, boxAt, exAt, ldCells, oneL, oneCell, Nat.reduceLeDiff, evL, adopt, rigid, rigidL, trim, Int.reduceEq, Int.reduceMod, Int.reduceDiv, if_pos, if_neg, asI, forall_const, implies_true, chkD, chkO, chkW, effB, reB, vEq, beq_self_eq_true, Nat.reduceSub, Nat.reduceLT, Int.reduceSub, Int.reduceAdd, Int.reduceMul, Int.reduceLT, Int.reduceLE, Int.reduceToNat, optI, aslice, cutSl, cutMs, cutStr, cutOwn, cellsOf, one, elCells, lenOf, beqV, beqVL, strip, stripO, convS]) | ((first | rw [WP_condK] | rw [WP_opsG] | rw [WP_quiG] | rw [WP_dG]); refine And.intro (fun hb => ?_) (fun hb => ?_) <;> (first | have hd := dq1 hb | have hd := dq2 hb | have hd := dq3 hb | have hd := dq4 hb | skip)))
      simp [rdT, readS_cons, h253]
    have main : ∀ (n : Nat), wideS b = n → n ≤ 8 → 0 < n → abin .shl (.int .i64 2) (.int .u8 (IntKind.u8.wrap (b - 253))) = some (.int .i64 (n : Int)) → WP (BQ (fin F39.res) (BQ frz fun v => v = rdT (b :: r))) (ax T F39.body (initE 0 [.slice .none none ((b :: r).map u8)]) []) := by
      intro n hw hn8 hn0 hsh
      have hb := trivial
      repeat' (first | (simp -implicitDefEqProofs (disch := omega) only [hb, F39, hsh, wC, initE, aop, Nat.reduceEqDiff, ↓reduceIte, Nat.reduceAdd, finish, resOf, tupOf, AM.freeze, freeze1, freezeL, closed, nam, namL, if_true, if_false, deref, boxAt, exAt, ldCells, oneL, oneCell, Nat.reduceLeDiff, evL, adopt, rigid, rigidL, trim, Int.reduceEq, Int.reduceMod, Int.reduceDiv, if_pos, if_neg, asI, forall_const, implies_true, chkD, chkO, chkW, effB, reB, vEq, beq_self_eq_true, Nat.reduceSub, Nat.reduceLT, Int.reduceSub, Int.reduceAdd, Int.reduceMul, Int.reduceLT, Int.reduceLE, Int.reduceToNat, optI, aslice, cutSl, cutMs, cutStr, cutOwn, cellsOf, one, elCells, lenOf, beqV, beqVL, strip, stripO, convS]) | ((first | rw [WP_condK] | rw [WP_opsG] | rw [WP_quiG] | rw [WP_dG]); refine And.intro (fun hb => ?_) (fun hb => ?_) <;> (first | have hd := dq1 hb | have hd := dq2 hb | have hd := dq3 hb | have hd := dq4 hb | skip)))
      · have h1 : r.length < n := by omega
        rw [rdT, readS_cons, if_neg h253, hw, if_pos h1]
      have hnr : n ≤ r.length := by omega
      obtain ⟨s, hs⟩ : ∃ s, r.take n = s := ⟨_, rfl⟩
      have hsb : Bytes s := hs ▸ take_bytes hr n
      have hsl : s.length = n := by rw [← hs, List.length_take]; omega
      have hmap : List.take n (List.map u8 r) = s.map u8 := by rw [← hs, u8_take]
      have hrd : readS (b :: r) = if sizeS (be s) = n + 1 then (be s, (n : Int) + 1, 0) else (0, 0, 10) := by
        rw [readS_cons, if_neg h253, hw, if_neg (by omega), hs]
      simp only [hmap, u8_len, hsl]
      refine WP_loop (I := fun k e h => ∃ i : Nat, k + i = n ∧ h = [] ∧ getE e 5 = i64 n ∧ getE e 6 = u64 (be (s.take i)) ∧ getE e 32 = .slice .none none (s.map u8) ∧ getE e 33 = i64 n ∧ getE e 34 = i64 i) ?_ n _ _ ⟨0, by omega, rfl, rfl, rfl, rfl, rfl, rfl⟩
      rintro k e h ⟨i, hk, rfl, h5, h6, h32, h33, h34⟩
      rw [trim_same' (by simp)]
      by_cases hlt : i < n
      · have hg := get_u8 (l := s) (i := i) (by omega)
        obtain ⟨y0, y1⟩ := bytes_get hsb (i := i) (by omega)
        obtain ⟨z0, z1⟩ := be_lt8 hsb i (by omega) (by omega)
        have e1 := shl8 (be (s.take i)) z0 z1
        have e2 := or_byte (be (s.take i)) s[i] z0 z1 y0 y1
        have e3 := be_take_succ (s := s) (i := i) (by omega)
        have hb := trivial
        repeat' (first | (simp -implicitDefEqProofs (disch := omega) only [hb, L39_0, h5, h6, h32, h33, h34, hg, e1, e2, wC, initE, aop, Nat.reduceEqDiff, ↓reduceIte, Nat.reduceAdd, finish, resOf, tupOf, AM.freeze, freeze1, freezeL, closed, nam, namL, if_true, if_false, deref, boxAt, exAt, ldCells, oneL, oneCell, Nat.reduceLeDiff, evL, adopt, rigid, rigidL, trim, Int.reduceEq, Int.reduceMod, Int.reduceDiv, if_pos, if_neg, asI, forall_const, implies_true, chkD, chkO, chkW, effB, reB, vEq, beq_self_eq_true, Nat.reduceSub, Nat.reduceLT, Int.reduceSub, Int.reduceAdd, Int.reduceMul, Int.reduceLT, Int.reduceLE, Int.reduceToNat, optI, aslice, cutSl, cutMs, cutStr, cutOwn, cellsOf, one, elCells, lenOf, beqV, beqVL, strip, stripO, convS]) | ((first | rw [WP_condK] | rw [WP_opsG] | rw [WP_quiG] | rw [WP_dG]); refine And.intro (fun hb => ?_) (fun hb => ?_) <;> (first | have hd := dq1 hb | have hd := dq2 hb | have hd := dq3 hb | have hd := dq4 hb | skip)))
        exact ⟨k - 1, by omega, i + 1, by omega, by rw [e3], rfl⟩
      · obtain rfl : i = n := by omega
        have hfull : s.take i = s := List.take_of_length_le (by omega)
        rw [hfull] at h6
        have hb := trivial
        repeat' (first | (simp -implicitDefEqProofs (disch := omega) only [hb, L39_0, h5, h6, h32, h33, h34, call_size, wC, initE, aop, Nat.reduceEqDiff, ↓reduceIte, Nat.reduceAdd, finish, resOf, tupOf, AM.freeze, freeze1, freezeL, closed, nam, namL, if_true, if_false, deref, boxAt, exAt, ldCells, oneL, oneCell, Nat.reduceLeDiff, evL, adopt, rigid, rigidL, trim, Int.reduceEq, Int.reduceMod, Int.reduceDiv, if_pos, if_neg, asI, forall_const, implies_true, chkD, chkO, chkW, effB, reB, vEq, beq_self_eq_true, Nat.reduceSub, Nat.reduceLT, Int.reduceSub, Int.reduceAdd, Int.reduceMul, Int.reduceLT, Int.reduceLE, Int.reduceToNat, optI, aslice, cutSl, cutMs, cutStr, cutOwn, cellsOf, one, elCells, lenOf, beqV, beqVL, strip, stripO, convS]) | ((first | rw [WP_condK] | rw [WP_opsG] | rw [WP_quiG] | rw [WP_dG]); refine And.intro (fun hb => ?_) (fun hb => ?_) <;> (first | have hd := dq1 hb | have hd := dq2 hb | have hd := dq3 hb | have hd := dq4 hb | skip)))
        · have hne : ¬ sizeS (be s) = i + 1 := by simpa using hb
          rw [rdT, hrd, if_neg hne]
        · have he : sizeS (be s) = i + 1 := by simpa using hb
          rw [rdT, hrd, if_pos he]
          rfl
    have hc : b = 253 ∨ b = 254 ∨ b = 255 := by omega
    rcases hc with rfl | rfl | rfl
    · exact main 2 rfl (by omega) (by omega) rfl
    · exact main 4 rfl (by omega) (by omega) rfl
    · exact main 8 rfl (by omega) (by omega) rfl
theorem call_num (x : Int) (hx : U64 x) : ∃ o, (o = .full ∨ o = .fresh) ∧ ∀ h, ag T 48 [u64 x] h = some (Go.Proofs.Ytnlemcfhndjheaa.AM.adopt (.slice o none ((numS x).map u8)) h) := by
  obtain ⟨o, ho, hp⟩ := num_ok x hx
  exact ⟨o, ho, fun h => call_pure (T := T) rfl t48 rfl rfl rfl hp⟩
theorem be_u64 {s : List Int} (h : Bytes s) (hs : s.length ≤ 8) : U64 (be s) := by
  have hb := be_bound s h
  have hp : (256 : Int) ^ s.length ≤ 256 ^ 8 := by
    have z : ((256 ^ s.length : Nat) : Int) ≤ ((256 ^ 8 : Nat) : Int) := Int.ofNat_le.2 (Nat.pow_le_pow_right (by omega) hs)
    simpa using z
  have : (256 : Int) ^ 8 = 18446744073709551616 := by decide
  exact ⟨hb.1, by omega⟩
theorem rread_ok (l : List Int) (hl : Bytes l) (hn : l.length ≤ 4611686018427387904) : prun T F43 [.slice .none none (l.map u8)] = some (rdT l) := by
  refine WP_eq (prun_wp ?_)
  cases l with
  | nil =>
    have hb := trivial
    repeat' (first | (simp -implicitDefEqProofs (disch := omega) only [hb, F43, wC, initE, aop, Nat.reduceEqDiff, ↓reduceIte, Nat.reduceAdd, finish, resOf, tupOf, AM.freeze, freeze1, freezeL, closed, nam, namL, if_true, if_false, deref, boxAt, exAt, ldCells, oneL, oneCell, Nat.reduceLeDiff, evL, adopt, rigid, rigidL, trim, Int.reduceEq, Int.reduceMod, Int.reduceDiv, if_pos, if_neg, asI, forall_const, implies_true, chkD, chkO, chkW, effB, reB, vEq, beq_self_eq_true, Nat.reduceSub, Nat.reduceLT, Int.reduceSub, Int.reduceAdd, Int.reduceMul, Int.reduceLT, Int.reduceLE, Int.reduceToNat, optI, aslice, cutSl, cutMs, cutStr, cutOwn, cellsOf, one, elCells, lenOf, beqV, beqVL, strip, stripO, convS]) | ((first | rw [WP_condK] | rw [WP_opsG] | rw [WP_quiG] | rw [WP_dG]); refine And.intro (fun hb => ?_) (fun hb => ?_) <;> (first | have hd := dq1 hb | have hd := dq2 hb | have hd := dq3 hb | have hd := dq4 hb | skip)))
    rfl
  | cons b r =>
    have hb := hl b List.mem_cons_self
    have hr : Bytes r := fun c hc => hl c (List.mem_cons_of_mem _ hc)
    have hlen : (b :: r).length = r.length + 1 := rfl
    rw [hlen] at hn
    by_cases h253 : b < 253
    · have hb := trivial
      repeat' (first | (simp -implicitDefEqProofs (disch := omega) only [hb, F43, wC, initE, aop, Nat.reduceEqDiff, ↓reduceIte, Nat.reduceAdd, finish, resOf, tupOf, AM.freeze, freeze1, freezeL, closed, nam, namL, if_true, if_false, deref, boxAt, exAt, ldCells, oneL, oneCell, Nat.reduceLeDiff, evL, adopt, rigid, rigidL, trim, Int.reduceEq, Int.reduceMod, Int.reduceDiv, if_pos, if_neg, asI, forall_const, implies_true, chkD, chkO, chkW, effB, reB, vEq, beq_self_eq_true, Nat.reduceSub, Nat.reduceLT, Int.reduceSub, Int.reduceAdd, Int.reduceMul, Int.reduceLT, Int.reduceLE, Int.reduceToNat, optI, aslice, cutSl, cutMs, cutStr, cutOwn, cellsOf, one, elCells, lenOf, beqV, beqVL, strip, stripO, convS]) | ((first | rw [WP_condK] | rw [WP_opsG] | rw [WP_quiG] | rw [WP_dG]); refine And.intro (fun hb => ?_) (fun hb => ?_) <;> (first | have hd := dq1 hb | have hd := dq2 hb | have hd := dq3 hb | have hd := dq4 hb | skip)))
      simp [rdT, readS_cons, h253]
    have main : ∀ (n : Nat), wideS b = n → n ≤ 8 → 0 < n → (b = 253 ∧ n = 2 ∨ b = 254 ∧ n = 4 ∨ b = 255 ∧ n = 8) → WP (BQ (fin F43.res) (BQ frz fun v => v = rdT (b :: r))) (ax T F43.body (initE 0 [.slice .none none ((b :: r).map u8)]) []) := by
      intro n hw hn8 hn0 hbn
      have go : ∀ (e : Env), getE e 0 = .slice .none none (u8 b :: r.map u8) → getE e 5 = i64 n → getE e 6 = u64 0 → getE e 7 = i64 1 → n ≤ r.length → ∀ {Q : Res → Prop}, (∀ e', getE e' 0 = .slice .none none (u8 b :: r.map u8) → getE e' 5 = i64 n → getE e' 6 = u64 (be (r.take n)) → Q (.exit 1, e', [])) → WP Q (axl T [0, 5, 6, 7] true L43_0 0 e []) := by
        intro e g0 g5 g6 g7 hnr Q hQ
        refine WP_loop (I := fun k e h => ∃ i : Nat, k + i = n ∧ h = [] ∧ getE e 0 = .slice .none none (u8 b :: r.map u8) ∧ getE e 5 = i64 n ∧ getE e 6 = u64 (be (r.take i)) ∧ getE e 7 = i64 ((i : Int) + 1)) ?_ n _ _ ⟨0, by omega, rfl, g0, g5, g6, g7⟩
        clear g0 g5 g6 g7 e
        rintro k e h ⟨i, hk, rfl, h0, h5, h6, h7⟩
        rw [trim_same' (by simp)]
        by_cases hlt : i < n
        · have hg : (u8 b :: r.map u8)[i + 1]? = some (u8 r[i]) := by rw [List.getElem?_cons_succ]; exact get_u8 (by omega)
          obtain ⟨y0, y1⟩ := bytes_get hr (i := i) (by omega)
          have hbd : 0 ≤ be (r.take i) ∧ be (r.take i) * 256 + 255 ≤ 18446744073709551615 := by
            have hh := be_lt8 (take_bytes hr n) i (by omega) (by rw [List.length_take]; omega)
            rwa [List.take_take, Nat.min_eq_left (by omega)] at hh
          have e3 := be_take_succ (s := r) (i := i) (by omega)
          have hb := trivial
          repeat' (first | (simp -implicitDefEqProofs (disch := omega) only [hb, L43_0, h0, h5, h6, h7, hg, wC, initE, aop, Nat.reduceEqDiff, ↓reduceIte, Nat.reduceAdd, finish, resOf, tupOf, AM.freeze, freeze1, freezeL, closed, nam, namL, if_true, if_false, deref, boxAt, exAt, ldCells, oneL, oneCell, Nat.reduceLeDiff, evL, adopt, rigid, rigidL, trim, Int.reduceEq, Int.reduceMod, Int.reduceDiv, if_pos, if_neg, asI, forall_const, implies_true, chkD, chkO, chkW, effB, reB, vEq, beq_self_eq_true, Nat.reduceSub, Nat.reduceLT, Int.reduceSub, Int.reduceAdd, Int.reduceMul, Int.reduceLT, Int.reduceLE, Int.reduceToNat, optI, aslice, cutSl, cutMs, cutStr, cutOwn, cellsOf, one, elCells, lenOf, beqV, beqVL, strip, stripO, convS]) | ((first | rw [WP_condK] | rw [WP_opsG] | rw [WP_quiG] | rw [WP_dG]); refine And.intro (fun hb => ?_) (fun hb => ?_) <;> (first | have hd := dq1 hb | have hd := dq2 hb | have hd := dq3 hb | have hd := dq4 hb | skip)))
          exact ⟨k - 1, by omega, i + 1, by omega, by rw [e3], rfl⟩
        · obtain rfl : i = n := by omega
          have hb := trivial
          repeat' (first | (simp -implicitDefEqProofs (disch := omega) only [hb, L43_0, h0, h5, h6, h7, wC, initE, aop, Nat.reduceEqDiff, ↓reduceIte, Nat.reduceAdd, finish, resOf, tupOf, AM.freeze, freeze1, freezeL, closed, nam, namL, if_true, if_false, deref, boxAt, exAt, ldCells, oneL, oneCell, Nat.reduceLeDiff, evL, adopt, rigid, rigidL, trim, Int.reduceEq, Int.reduceMod, Int.reduceDiv, if_pos, if_neg, asI, forall_const, implies_true, chkD, chkO, chkW, effB, reB, vEq, beq_self_eq_true, Nat.reduceSub, Nat.reduceLT, Int.reduceSub, Int.reduceAdd, Int.reduceMul, Int.reduceLT, Int.reduceLE, Int.reduceToNat, optI, aslice, cutSl, cutMs, cutStr, cutOwn, cellsOf, one, elCells, lenOf, beqV, beqVL, strip, stripO, convS]) | ((first | rw [WP_condK] | rw [WP_opsG] | rw [WP_quiG] | rw [WP_dG]); refine And.intro (fun hb => ?_) (fun hb => ?_) <;> (first | have hd := dq1 hb | have hd := dq2 hb | have hd := dq3 hb | have hd := dq4 hb | skip)))
          exact hQ _ (by simp [getE, h0]) (by simp [getE, h5]) (by simp [getE, h6])
      have hrd : readS (b :: r) = if r.length < n then (0, 0, 10) else if sizeS (be (r.take n)) = n + 1 then (be (r.take n), (n : Int) + 1, 0) else (0, 0, 10) := by
        rw [readS_cons, if_neg h253, hw]
      have hu := be_u64 (take_bytes hr n) (by rw [List.length_take]; omega)
      obtain ⟨o, ho, hnum⟩ := call_num (be (r.take n)) hu
      have hnl := numS_len (be (r.take n))
      rcases hbn with ⟨rfl, rfl⟩ | ⟨rfl, rfl⟩ | ⟨rfl, rfl⟩
      all_goals
        have hb := trivial
        repeat' (first | (simp -implicitDefEqProofs (disch := omega) only [hb, F43, wC, initE, aop, Nat.reduceEqDiff, ↓reduceIte, Nat.reduceAdd, finish, resOf, tupOf, AM.freeze, freeze1, freezeL, closed, nam, namL, if_true, if_false, deref, boxAt, exAt, ldCells, oneL, oneCell, Nat.reduceLeDiff, evL, adopt, rigid, rigidL, trim, Int.reduceEq, Int.reduceMod, Int.reduceDiv, if_pos, if_neg, asI, forall_const, implies_true, chkD, chkO, chkW, effB, reB, vEq, beq_self_eq_true, Nat.reduceSub, Nat.reduceLT, Int.reduceSub, Int.reduceAdd, Int.reduceMul, Int.reduceLT, Int.reduceLE, Int.reduceToNat, optI, aslice, cutSl, cutMs, cutStr, cutOwn, cellsOf, one, elCells, lenOf, beqV, beqVL, strip, stripO, convS]) | ((first | rw [WP_condK] | rw [WP_opsG] | rw [WP_quiG] | rw [WP_dG]); refine And.intro (fun hb => ?_) (fun hb => ?_) <;> (first | have hd := dq1 hb | have hd := dq2 hb | have hd := dq3 hb | have hd := dq4 hb | skip)))
        · rw [rdT, hrd, if_pos (by omega)]
        · refine go _ rfl rfl rfl rfl (by omega) fun e' g0 g5 g6 => ?_
          rcases ho with rfl | rfl
          all_goals
            have hb := trivial
            repeat' (first | (simp -implicitDefEqProofs (disch := omega) only [hb, g0, g5, g6, hnum, hnl, wC, initE, aop, Nat.reduceEqDiff, ↓reduceIte, Nat.reduceAdd, finish, resOf, tupOf, AM.freeze, freeze1, freezeL, closed, nam, namL, if_true, if_false, deref, boxAt, exAt, ldCells, oneL, oneCell, Nat.reduceLeDiff, evL, adopt, rigid, rigidL, trim, Int.reduceEq, Int.reduceMod, Int.reduceDiv, if_pos, if_neg, asI, forall_const, implies_true, chkD, chkO, chkW, effB, reB, vEq, beq_self_eq_true, Nat.reduceSub, Nat.reduceLT, Int.reduceSub, Int.reduceAdd, Int.reduceMul, Int.reduceLT, Int.reduceLE, Int.reduceToNat, optI, aslice, cutSl, cutMs, cutStr, cutOwn, cellsOf, one, elCells, lenOf, beqV, beqVL, strip, stripO, convS]) | ((first | rw [WP_condK] | rw [WP_opsG] | rw [WP_quiG] | rw [WP_dG]); refine And.intro (fun hb => ?_) (fun hb => ?_) <;> (first | have hd := dq1 hb | have hd := dq2 hb | have hd := dq3 hb | have hd := dq4 hb | skip)))
            · rw [rdT, hrd, if_neg (by omega), if_neg (by simp at hb; omega)]
            · rw [rdT, hrd, if_neg (by omega), if_pos (by simp at hb; omega)]
              rfl
    have hc : b = 253 ∨ b = 254 ∨ b = 255 := by omega
    rcases hc with rfl | rfl | rfl
    · exact main 2 rfl (by omega) (by omega) (by omega)
    · exact main 4 rfl (by omega) (by omega) (by omega)
    · exact main 8 rfl (by omega) (by omega) (by omega)
end Go.Proofs.Ytnlemcfhndjheaa.AM

/- bigsize's streams: Encode, and the reference's. -/
namespace Go.Proofs.Ytnlemcfhndjheaa.AM
open Go
set_option maxRecDepth 100000
set_option linter.unusedSimpArgs false
set_option linter.unusedVariables false
/-- a record -/
@[ext] structure Rc where
  t : Int
  v : List Int
  deriving DecidableEq
def Rc.av (r : Rc) : AV := .agg [u64 r.t, .slice .none none (r.v.map u8)]
def Rc.ok (r : Rc) : Prop := U64 r.t ∧ Bytes r.v
def recS (r : Rc) : List Int := numS r.t ++ numS r.v.length ++ r.v
def flatS (l : List Rc) : List Int := l.flatMap recS
def ascB : List Rc → Bool
  | [] => true
  | [_] => true
  | a :: b :: r => decide (a.t < b.t) && ascB (b :: r)
/-- the stream of records -/
def encS (l : List Rc) : List Int × Int := if ascB l = true then (if l.length ≤ 64 ∧ (flatS l).length ≤ 65536 then (flatS l, 0) else ([], 3)) else ([], 11)
theorem rc_closed : ∀ (l : List Rc), closedL (l.map Rc.av) = true
  | [] => rfl
  | r :: l => by
    have h1 := rc_closed l
    have h2 := u8_closed r.v
    simp only [closedL, List.map_cons, namL, Rc.av, nam, Bool.true_and, Bool.and_true] at h1 h2 ⊢
    rw [h1, h2]; rfl
theorem get_rc {l : List Rc} {i : Nat} (h : i < l.length) : (l.map Rc.av)[i]? = some (.agg [u64 l[i].t, .slice .none none (l[i].v.map u8)]) := by rw [List.getElem?_map, List.getElem?_eq_getElem h]; rfl
theorem beqVL_u8 : ∀ (l : List Int), beqVL (l.map u8) (l.map u8) = true
  | [] => rfl
  | x :: l => by simp only [List.map_cons, beqVL, beqVL_u8 l, beqV, vEq, beq_self_eq_true, Bool.and_self]
theorem ascB_at : ∀ {l : List Rc} {i : Nat} (h : i + 1 < l.length), ascB l = true → (l[i]).t < (l[i + 1]).t
  | [], i, h, _ => by simp at h
  | [_], i, h, _ => by simp at h
  | a :: b :: r, 0, h, ha => by simp only [ascB, Bool.and_eq_true, decide_eq_true_eq] at ha; exact ha.1
  | a :: b :: r, i + 1, h, ha => by
    simp only [ascB, Bool.and_eq_true] at ha
    exact ascB_at (l := b :: r) (i := i) (by simpa using h) ha.2
theorem ascB_of : ∀ {l : List Rc}, (∀ i (h : i + 1 < l.length), (l[i]).t < (l[i + 1]).t) → ascB l = true
  | [], _ => rfl
  | [_], _ => rfl
  | a :: b :: r, h => by
    simp only [ascB, Bool.and_eq_true, decide_eq_true_eq]
    exact ⟨h 0 (by simp), ascB_of (l := b :: r) fun i hi => h (i + 1) (by simpa using hi)⟩
theorem recS_len (r : Rc) : ((recS r).length : Int) = sizeS r.t + sizeS r.v.length + r.v.length := by
  have a := numS_len r.t
  have b := numS_len r.v.length
  unfold recS
  rw [List.length_append, List.length_append]
  omega
theorem flatS_take_succ {l : List Rc} {i : Nat} (h : i < l.length) : flatS (l.take (i + 1)) = flatS (l.take i) ++ recS l[i] := by
  unfold flatS
  rw [List.take_succ_eq_append_getElem h, List.flatMap_append, List.flatMap_singleton]
theorem flatS_take_le (l : List Rc) (i : Nat) : (flatS (l.take i)).length ≤ (flatS l).length := by
  have : flatS l = flatS (l.take i) ++ flatS (l.drop i) := by
    unfold flatS
    rw [← List.flatMap_append, List.take_append_drop]
  rw [this, List.length_append]; omega
def IsEnc (v : AV) (p : List Int × Int) : Prop := (p.2 ≠ 0 ∧ v = .tup [.nil, i64 p.2]) ∨ (p.2 = 0 ∧ ((p.1 = [] ∧ v = .tup [.nil, i64 0]) ∨ ∃ o, (o = .fresh ∨ o = .none) ∧ v = .tup [.slice o none (p.1.map u8), i64 0]))
/-- what has been written -/
def Out (v : AV) (D : List Int) : Prop := (v = .nil ∧ D = []) ∨ ∃ o, o ≠ .full ∧ v = .slice o none (D.map u8)
theorem out_put {v : AV} {D : List Int} (h : Out v D) (x : Int) (hx : U64 x) (hn : D.length ≤ 140737488200000) (hp : Heap) : ag T 30 [v, u64 x] hp = some (.slice (.tok hp.length) none ((D ++ numS x).map u8), hp ++ [.row none (D ++ numS x).length]) := by
  rcases h with ⟨rfl, rfl⟩ | ⟨o, ho, rfl⟩
  · rw [call_put_nil x hx hp]; simp
  · exact call_put o D x hx hn hp
theorem gA {α : Type} (h : List α) (a b : α) : (h ++ [a] ++ [b])[h.length]? = some a := by simp
theorem gB1 {α : Type} (h : List α) (a b c : α) : (h ++ [a] ++ [b] ++ [c])[h.length]? = some a := by simp
theorem gB2 {α : Type} (h : List α) (a b c : α) : (h ++ [a] ++ [b] ++ [c])[h.length + 1]? = some b := by simp
theorem gB3 {α : Type} (h : List α) (a b c : α) : (h ++ [a] ++ [b] ++ [c])[h.length + 1 + 1]? = some c := by rw [List.getElem?_append_right (by simp)]; simp
theorem gC1 {α : Type} (h : List α) (a b c d : α) : (h ++ [a] ++ [b] ++ [c] ++ [d])[h.length]? = some a := by simp
theorem gC2 {α : Type} (h : List α) (a b c d : α) : (h ++ [a] ++ [b] ++ [c] ++ [d])[h.length + 1]? = some b := by simp
theorem sB3 {α : Type} (h : List α) (a b c d : α) : (h ++ [a] ++ [b] ++ [c]).set (h.length + 1 + 1) d = h ++ [a] ++ [b] ++ [d] := by
  rw [List.set_append_right _ _ (by simp)]
  simp
theorem flatS_take (l : List Rc) : flatS (l.take l.length) = flatS l := by rw [List.take_length]
theorem ascB_take_succ {l : List Rc} {i : Nat} (h : i + 1 < l.length) (ha : ascB (l.take (i + 1)) = true) (hlt : l[i].t < l[i + 1].t) : ascB (l.take (i + 2)) = true := by
  refine ascB_of fun j hj => ?_
  rw [List.length_take] at hj
  rw [List.getElem_take, List.getElem_take]
  by_cases hji : j = i
  · subst hji; exact hlt
  · have := ascB_at (l := l.take (i + 1)) (i := j) (by rw [List.length_take]; omega) ha
    rwa [List.getElem_take, List.getElem_take] at this
theorem asc_bad {l : List Rc} {i : Nat} (h : i + 1 < l.length) (hle : l[i + 1].t ≤ l[i].t) : ascB l = false := by
  cases hb : ascB l with
  | false => rfl
  | true => have := ascB_at h hb; omega
theorem encS_bad {l : List Rc} (h : ascB l = false) : encS l = ([], 11) := by unfold encS; rw [h]; rfl
theorem encS_long {l : List Rc} (h : ascB l = true) (hl : ¬ (l.length ≤ 64 ∧ (flatS l).length ≤ 65536)) : encS l = ([], 3) := by unfold encS; rw [if_pos h, if_neg hl]
theorem encS_ok {l : List Rc} (h : ascB l = true) (hl : l.length ≤ 64 ∧ (flatS l).length ≤ 65536) : encS l = (flatS l, 0) := by unfold encS; rw [if_pos h, if_pos hl]
theorem isEnc_bad {l : List Rc} (h : ascB l = false) : IsEnc (AV.tup [AV.nil, AV.int IntKind.i64 11]) (encS l) := by
  rw [encS_bad h]; exact .inl ⟨by decide, rfl⟩
theorem isEnc_long {l : List Rc} (h : ascB l = true) (hl : ¬ (l.length ≤ 64 ∧ (flatS l).length ≤ 65536)) : IsEnc (AV.tup [AV.nil, AV.int IntKind.i64 3]) (encS l) := by
  rw [encS_long h hl]; exact .inl ⟨by decide, rfl⟩
theorem isEnc_out {l : List Rc} {v w : AV} {h : Heap} (ha : ascB l = true) (hl : l.length ≤ 64 ∧ (flatS l).length ≤ 65536) (hv : Out v (flatS l)) (hw : freeze h (.tup [v, i64 0]) = some w) : IsEnc w (encS l) := by
  rw [encS_ok ha hl]
  have hc := u8_closed (flatS l)
  rcases hv with ⟨rfl, h0⟩ | ⟨o, ho, rfl⟩
  · cases hw; exact .inr ⟨rfl, .inl ⟨h0, rfl⟩⟩
  · refine .inr ⟨rfl, .inr ?_⟩
    cases o with
    | none =>
      simp only [freeze, freezeL, freeze1, closed, nam, Bool.true_and] at hw
      rw [show namL (fun _ => false) ((flatS l).map u8) = true from hc] at hw
      cases hw; exact ⟨_, .inr rfl, rfl⟩
    | full => exact absurd rfl ho
    | fresh =>
      simp only [freeze, freezeL, freeze1, hc, if_true, closed, nam, Option.bind_some, Option.map_some] at hw
      cases hw; exact ⟨_, .inr rfl, rfl⟩
    | tok i =>
      simp only [freeze, freezeL, freeze1, hc, if_true, closed, nam, Option.map_some] at hw
      split at hw
      · split at hw
        · split at hw
          · cases hw; exact ⟨_, .inl rfl, rfl⟩
          · cases hw; exact ⟨_, .inr rfl, rfl⟩
        · cases hw; exact ⟨_, .inr rfl, rfl⟩
      · cases hw; exact ⟨_, .inr rfl, rfl⟩
theorem out_freeze {l : List Rc} {v : AV} {h : Heap} (ha : ascB l = true) (hl : l.length ≤ 64 ∧ (flatS l).length ≤ 65536) (hv : Out v (flatS l)) : WP (fun v => IsEnc v (encS l)) (freeze h (.tup [v, i64 0])) := by
  have hc := u8_closed (flatS l)
  have : ∃ w, freeze h (.tup [v, i64 0]) = some w := by
    rcases hv with ⟨rfl, h0⟩ | ⟨o, ho, rfl⟩
    · exact ⟨_, rfl⟩
    · cases o with
      | none =>
        simp only [freeze, freezeL, freeze1, closed, nam, Bool.true_and]
        rw [show namL (fun _ => false) ((flatS l).map u8) = true from hc]
        exact ⟨_, rfl⟩
      | full =>
        simp only [freeze, freezeL, freeze1, closed, nam, Bool.true_and]
        rw [show namL (fun _ => false) ((flatS l).map u8) = true from hc]
        exact ⟨_, rfl⟩
      | fresh =>
        simp only [freeze, freezeL, freeze1, hc, if_true, closed, nam, Option.bind_some, Option.map_some]
        exact ⟨_, rfl⟩
      | tok i =>
        simp only [freeze, freezeL, freeze1, hc, if_true, closed, nam, Option.map_some]
        split
        · split
          · split <;> exact ⟨_, rfl⟩
          · exact ⟨_, rfl⟩
        · exact ⟨_, rfl⟩
  obtain ⟨w, hw⟩ := this
  rw [hw]
  exact isEnc_out ha hl hv hw
/-- what may stand for bytes -/
structure Tx (v : AV) (l : List Int) : Prop where
  len : lenOf v = some l.length
  els : ∀ h, elemsOf h none v = some (l.map u8)
  one : Go.Proofs.Ytnlemcfhndjheaa.AM.one v = true
  strip : Go.Proofs.Ytnlemcfhndjheaa.AM.strip v = v
  cl : closed v = true
  cells : cellsOf v = some [v]
  beq : beqV v v = true
  str : ∀ h, convS h v = some (.str (strOfNums l))
theorem tx_nil : Tx .nil [] := ⟨rfl, fun _ => rfl, rfl, rfl, rfl, rfl, rfl, fun _ => rfl⟩
theorem tx_slice (l : List Int) : Tx (.slice .none none (l.map u8)) l := ⟨by simp [lenOf], fun _ => by simp [elemsOf], rfl, rfl, by have := u8_closed l; simp only [closed, nam, Bool.true_and]; exact this, rfl, by simp [beqV, beqVL_u8], fun _ => by simp [convS, elemsOf, byteEls_u8]⟩
theorem tx_full (l : List Int) : Tx (.slice .full none (l.map u8)) l := ⟨by simp [lenOf], fun _ => by simp [elemsOf], rfl, rfl, by have := u8_closed l; simp only [closed, nam, Bool.true_and]; exact this, rfl, by simp [beqV, beqVL_u8], fun _ => by simp [convS, elemsOf, byteEls_u8]⟩
/-- what may stand for records -/
def RecsA (A : List AV) (l : List Rc) : Prop := A.length = l.length ∧ closedL A = true ∧ ∀ i (h : i < l.length), ∃ w, A[i]? = some (.agg [u64 l[i].t, w]) ∧ Tx w l[i].v
theorem recsA_rc (l : List Rc) : RecsA (l.map Rc.av) l := ⟨by simp, rc_closed l, fun i h => ⟨_, get_rc h, tx_slice _⟩⟩
theorem enc_small (A : List AV) (l : List Rc) (hA : RecsA A l) (hok : ∀ r ∈ l, Rc.ok r) (hB : (flatS l).length ≤ 1152921504606846976) (hn : l.length ≤ 140737488351232) : ∃ v, prun T F14 [.slice .none (some 2) A] = some v ∧ IsEnc v (encS l) := by
  suffices h : WP (fun v => IsEnc v (encS l)) (prun T F14 [.slice .none (some 2) A]) by
    obtain ⟨v, h1, h2⟩ := WP_ex h
    exact ⟨v, h1, h2⟩
  have hcl := hA.2.1
  have hAl := hA.1
  refine prun_wp ?_
  simp -implicitDefEqProofs (disch := omega) only [F14, hAl, wC, initE, aop, Nat.reduceEqDiff, ↓reduceIte, Nat.reduceAdd, finish, resOf, tupOf, AM.freeze, freeze1, freezeL, closed, nam, namL, if_true, if_false, deref, boxAt, exAt, ldCells, oneL, oneCell, Nat.reduceLeDiff, evL, adopt, rigid, rigidL, trim, Int.reduceEq, Int.reduceMod, Int.reduceDiv, if_pos, if_neg, asI, forall_const, implies_true, chkD, chkO, chkW, effB, reB, vEq, beq_self_eq_true, Nat.reduceSub, Nat.reduceLT, Int.reduceSub, Int.reduceAdd, Int.reduceMul, Int.reduceLT, Int.reduceLE, Int.reduceToNat, optI, aslice, cutSl, cutMs, cutStr, cutOwn, cellsOf, one, elCells, lenOf, beqV, beqVL, strip, stripO, convS]
  refine WP_loop (I := fun k e h => ∃ i : Nat, k + i = l.length ∧ getE e 0 = .slice .none (some 2) A ∧ getE e 4 = i64 (flatS (l.take i)).length ∧ getE e 10 = .slice .none (some 2) A ∧ getE e 11 = i64 l.length ∧ getE e 12 = i64 i ∧ ascB (l.take i) = true) ?_ l.length _ _ ⟨0, by omega, rfl, rfl, rfl, rfl, rfl, rfl⟩
  rintro k e h ⟨i, hk, h0, h4, h10, h11, h12, hasc⟩
  rw [trim_off]
  by_cases hlt : i < l.length
  · obtain ⟨w, hg, tx⟩ := hA.2.2 i hlt
    have txl := tx.len
    have txe := tx.els
    have txo := tx.one
    have hu := (hok l[i] (List.getElem_mem hlt)).1
    have hsz1 := sizeS_le l[i].t
    have hsz2 := sizeS_le l[i].v.length
    have hfl := flatS_take_succ hlt
    have hrl := recS_len l[i]
    have hle := flatS_take_le l (i + 1)
    have hfl2 : (flatS (l.take (i + 1))).length = (flatS (l.take i)).length + (recS l[i]).length := by rw [hfl, List.length_append]
    have hbv := tx.beq
    by_cases hi0 : i = 0
    · subst hi0
      have hz : flatS (l.take 0) = [] := rfl
      have hz' : (flatS ([] : List Rc)).length = 0 := rfl
      rw [hz] at hfl2
      simp only [List.length_nil] at hfl2
      have hb := trivial
      repeat' (first | (simp -implicitDefEqProofs (disch := omega) only [hb, hAl, txo, L14_1, h0, h4, h10, h11, h12, hg, txl, txe, call_size, p29, hbv, Bool.and_self, hz', wC, wO, initE, aop, Nat.reduceEqDiff, ↓reduceIte, Nat.reduceAdd, finish, resOf, tupOf, AM.freeze, freeze1, freezeL, closed, nam, namL, if_true, if_false, deref, boxAt, exAt, ldCells, oneL, oneCell, Nat.reduceLeDiff, evL, adopt, rigid, rigidL, trim, Int.reduceEq, Int.reduceMod, Int.reduceDiv, if_pos, if_neg, asI, forall_const, implies_true, chkD, chkO, chkW, effB, reB, vEq, beq_self_eq_true, Nat.reduceSub, Nat.reduceLT, Int.reduceSub, Int.reduceAdd, Int.reduceMul, Int.reduceLT, Int.reduceLE, Int.reduceToNat, optI, aslice, cutSl, cutMs, cutStr, cutOwn]) | ((first | rw [WP_condK] | rw [WP_opsG] | rw [WP_quiG] | rw [WP_dG]); refine And.intro (fun hb => ?_) (fun hb => ?_) <;> (first | have hd := dq1 hb | have hd := dq2 hb | have hd := dq3 hb | have hd := dq4 hb | skip)))
      refine ⟨k - 1, by omega, 1, by omega, ?_, rfl, ?_⟩
      · rw [hfl2]
        simp only [Int.natCast_zero, Int.zero_add, Int.natCast_add, hrl]
      · cases l with
        | nil => rfl
        | cons a r => rfl
    · obtain ⟨w', hg', tx'⟩ := hA.2.2 (i - 1) (by omega)
      have hbv' := tx'.beq
      have hb := trivial
      repeat' (first | (simp -implicitDefEqProofs (disch := omega) only [hb, hAl, txo, L14_1, h0, h4, h10, h11, h12, hg, hg', tx'.one, txl, txe, hbv', call_size, p29, hbv, Bool.and_self, wC, wO, initE, aop, Nat.reduceEqDiff, ↓reduceIte, Nat.reduceAdd, finish, resOf, tupOf, AM.freeze, freeze1, freezeL, closed, nam, namL, if_true, if_false, deref, boxAt, exAt, ldCells, oneL, oneCell, Nat.reduceLeDiff, evL, adopt, rigid, rigidL, trim, Int.reduceEq, Int.reduceMod, Int.reduceDiv, if_pos, if_neg, asI, forall_const, implies_true, chkD, chkO, chkW, effB, reB, vEq, beq_self_eq_true, Nat.reduceSub, Nat.reduceLT, Int.reduceSub, Int.reduceAdd, Int.reduceMul, Int.reduceLT, Int.reduceLE, Int.reduceToNat, optI, aslice, cutSl, cutMs, cutStr, cutOwn]) | ((first | rw [WP_condK] | rw [WP_opsG] | rw [WP_quiG] | rw [WP_dG]); refine And.intro (fun hb => ?_) (fun hb => ?_) <;> (first | have hd := dq1 hb | have hd := dq2 hb | have hd := dq3 hb | have hd := dq4 hb | skip)))
      · refine isEnc_bad (asc_bad (i := i - 1) (by omega) ?_)
        simp only [show i - 1 + 1 = i by omega]
        omega
      · refine ⟨k - 1, by omega, i + 1, by omega, ?_, rfl, ?_⟩
        · rw [hfl2]
          simp only [Int.natCast_add, hrl]
        · have := ascB_take_succ (l := l) (i := i - 1) (by omega) (by rw [show i - 1 + 1 = i by omega]; exact hasc) (by simp only [show i - 1 + 1 = i by omega]; omega)
          rwa [show i - 1 + 2 = i + 1 by omega] at this
  · have hi : i = l.length := by omega
    subst hi
    rw [List.take_length] at h4 hasc
    have hb := trivial
    repeat' (first | (simp -implicitDefEqProofs (disch := omega) only [hb, hAl, L14_1, h0, h4, h10, h11, h12, wC, initE, aop, Nat.reduceEqDiff, ↓reduceIte, Nat.reduceAdd, finish, resOf, tupOf, AM.freeze, freeze1, freezeL, closed, nam, namL, if_true, if_false, deref, boxAt, exAt, ldCells, oneL, oneCell, Nat.reduceLeDiff, evL, adopt, rigid, rigidL, trim, Int.reduceEq, Int.reduceMod, Int.reduceDiv, if_pos, if_neg, asI, forall_const, implies_true, chkD, chkO, chkW, effB, reB, vEq, beq_self_eq_true, Nat.reduceSub, Nat.reduceLT, Int.reduceSub, Int.reduceAdd, Int.reduceMul, Int.reduceLT, Int.reduceLE, Int.reduceToNat, optI, aslice, cutSl, cutMs, cutStr, cutOwn, cellsOf, one, elCells, lenOf, beqV, beqVL, strip, stripO, convS]) | ((first | rw [WP_condK] | rw [WP_opsG] | rw [WP_quiG] | rw [WP_dG]); refine And.intro (fun hb => ?_) (fun hb => ?_) <;> (first | have hd := dq1 hb | have hd := dq2 hb | have hd := dq3 hb | have hd := dq4 hb | skip)))
    · exact isEnc_long hasc (by omega)
    · have hl : l.length ≤ 64 ∧ (flatS l).length ≤ 65536 := by omega
      refine WP_loop (I := fun k e h => ∃ i : Nat, k + i = l.length ∧ Out (getE e 7) (flatS (l.take i)) ∧ getE e 53 = .slice .none (some 2) A ∧ getE e 54 = i64 l.length ∧ getE e 55 = i64 i) ?_ l.length _ _ ⟨0, by omega, .inl ⟨rfl, rfl⟩, rfl, rfl, rfl⟩
      rintro k e h ⟨i, hk, h7, h53, h54, h55⟩
      rw [trim_off]
      by_cases hlt : i < l.length
      · obtain ⟨w, hg, tx⟩ := hA.2.2 i hlt
        have txl := tx.len
        have txe := tx.els
        have txo := tx.one
        have hu := (hok l[i] (List.getElem_mem hlt)).1
        have hfl := flatS_take_succ hlt
        have hrl := recS_len l[i]
        have hle := flatS_take_le l (i + 1)
        have hfl2 : (flatS (l.take (i + 1))).length = (flatS (l.take i)).length + (recS l[i]).length := by rw [hfl, List.length_append]
        have hbv := tx.beq
        have hsz1 := sizeS_le l[i].t
        have hsz2 := sizeS_le l[i].v.length
        have ln := numS_len l[i].t
        have ln2 := numS_len l[i].v.length
        have hp1 := out_put h7 l[i].t hu (by omega)
        have hu2 : U64 (l[i].v.length : Int) := by constructor <;> omega
        have hp2 := fun (o : AOwn) (h : Heap) => call_put o (flatS (l.take i) ++ numS l[i].t) l[i].v.length hu2 (by rw [List.length_append]; omega) h
        generalize hv7 : getE e 7 = v7 at *
        have hb := trivial
        repeat' (first | (simp -implicitDefEqProofs (disch := omega) only [hb, hAl, txo, L14_0, h53, h54, h55, hg, txl, txe, hv7, hp1, hp2, p30, hbv, Bool.and_self, gA, gB1, gB2, gB3, gC1, gC2, sB3, u8_len, aappend, wC, wO, initE, aop, Nat.reduceEqDiff, ↓reduceIte, Nat.reduceAdd, finish, resOf, tupOf, AM.freeze, freeze1, freezeL, closed, nam, namL, if_true, if_false, deref, boxAt, exAt, ldCells, oneL, oneCell, Nat.reduceLeDiff, evL, adopt, rigid, rigidL, trim, Int.reduceEq, Int.reduceMod, Int.reduceDiv, if_pos, if_neg, asI, forall_const, implies_true, chkD, chkO, chkW, effB, reB, vEq, beq_self_eq_true, Nat.reduceSub, Nat.reduceLT, Int.reduceSub, Int.reduceAdd, Int.reduceMul, Int.reduceLT, Int.reduceLE, Int.reduceToNat, optI, aslice, cutSl, cutMs, cutStr, cutOwn]) | ((first | rw [WP_condK] | rw [WP_opsG] | rw [WP_quiG] | rw [WP_dG]); refine And.intro (fun hb => ?_) (fun hb => ?_) <;> (first | have hd := dq1 hb | have hd := dq2 hb | have hd := dq3 hb | have hd := dq4 hb | skip)))
        refine ⟨k - 1, by omega, i + 1, by omega, .inr ⟨.tok (List.length h + 1 + 1), by simp, ?_⟩, rfl⟩
        rw [hfl, recS, ← List.append_assoc, ← List.append_assoc, List.map_append (l₂ := l[i].v)]
      · have hi : i = l.length := by omega
        subst hi
        rw [List.take_length] at h7
        generalize hv7 : getE e 7 = v7 at *
        have hb := trivial
        repeat' (first | (simp -implicitDefEqProofs (disch := omega) only [hb, hAl, L14_0, h53, h54, h55, hv7, wC, initE, aop, Nat.reduceEqDiff, ↓reduceIte, Nat.reduceAdd, finish, resOf, tupOf, freezeL, closed, nam, namL, if_true, if_false, deref, boxAt, exAt, ldCells, oneL, oneCell, Nat.reduceLeDiff, evL, adopt, rigid, rigidL, trim, Int.reduceEq, Int.reduceMod, Int.reduceDiv, if_pos, if_neg, asI, forall_const, implies_true, chkD, chkO, chkW, effB, reB, vEq, beq_self_eq_true, Nat.reduceSub, Nat.reduceLT, Int.reduceSub, Int.reduceAdd, Int.reduceMul, Int.reduceLT, Int.reduceLE, Int.reduceToNat, optI, aslice, cutSl, cutMs, cutStr, cutOwn, cellsOf, one, elCells, lenOf, beqV, beqVL, strip, stripO, convS]) | ((first | rw [WP_condK] | rw [WP_opsG] | rw [WP_quiG] | rw [WP_dG]); refine And.intro (fun hb => ?_) (fun hb => ?_) <;> (first | have hd := dq1 hb | have hd := dq2 hb | have hd := dq3 hb | have hd := dq4 hb | skip)))
        exact out_freeze hasc hl h7
    · exact isEnc_long hasc (by omega)
theorem enc_big (A : List AV) (l : List Rc) (hA : RecsA A l) (hok : ∀ r ∈ l, Rc.ok r) (hv : ∀ r ∈ l, r.v.length ≤ 140737488351232) (hn : l.length ≤ 140737488351232) (h64 : 64 < l.length) : ∃ v, prun T F14 [.slice .none (some 2) A] = some v ∧ IsEnc v (encS l) := by
  suffices h : WP (fun v => IsEnc v (encS l)) (prun T F14 [.slice .none (some 2) A]) by
    obtain ⟨v, h1, h2⟩ := WP_ex h
    exact ⟨v, h1, h2⟩
  have hcl := hA.2.1
  have hAl := hA.1
  refine prun_wp ?_
  simp -implicitDefEqProofs (disch := omega) only [F14, hAl, wC, initE, aop, Nat.reduceEqDiff, ↓reduceIte, Nat.reduceAdd, finish, resOf, tupOf, AM.freeze, freeze1, freezeL, closed, nam, namL, if_true, if_false, deref, boxAt, exAt, ldCells, oneL, oneCell, Nat.reduceLeDiff, evL, adopt, rigid, rigidL, trim, Int.reduceEq, Int.reduceMod, Int.reduceDiv, if_pos, if_neg, asI, forall_const, implies_true, chkD, chkO, chkW, effB, reB, vEq, beq_self_eq_true, Nat.reduceSub, Nat.reduceLT, Int.reduceSub, Int.reduceAdd, Int.reduceMul, Int.reduceLT, Int.reduceLE, Int.reduceToNat, optI, aslice, cutSl, cutMs, cutStr, cutOwn, cellsOf, one, elCells, lenOf, beqV, beqVL, strip, stripO, convS]
  refine WP_loop (I := fun k e h => ∃ (i : Nat) (x : Int), k + i = l.length ∧ getE e 0 = .slice .none (some 2) A ∧ getE e 4 = i64 x ∧ getE e 10 = .slice .none (some 2) A ∧ getE e 11 = i64 l.length ∧ getE e 12 = i64 i ∧ ascB (l.take i) = true) ?_ l.length _ _ ⟨0, _, by omega, rfl, rfl, rfl, rfl, rfl, rfl⟩
  rintro k e h ⟨i, x, hk, h0, h4, h10, h11, h12, hasc⟩
  rw [trim_off]
  by_cases hlt : i < l.length
  · obtain ⟨w, hg, tx⟩ := hA.2.2 i hlt
    have txl := tx.len
    have txe := tx.els
    have txo := tx.one
    have hu := (hok l[i] (List.getElem_mem hlt)).1
    have hsz1 := sizeS_le l[i].t
    have hsz2 := sizeS_le l[i].v.length
    have hfl := flatS_take_succ hlt
    have hrl := recS_len l[i]
    have hle := flatS_take_le l (i + 1)
    have hvl := hv l[i] (List.getElem_mem hlt)
    have hbv := tx.beq
    by_cases hi0 : i = 0
    · subst hi0
      have hb := trivial
      repeat' (first | (simp -implicitDefEqProofs (disch := omega) only [hb, hAl, txo, L14_1, h0, h4, h10, h11, h12, hg, txl, txe, call_size, p29, hbv, Bool.and_self, wC, wO, initE, aop, Nat.reduceEqDiff, ↓reduceIte, Nat.reduceAdd, finish, resOf, tupOf, AM.freeze, freeze1, freezeL, closed, nam, namL, if_true, if_false, deref, boxAt, exAt, ldCells, oneL, oneCell, Nat.reduceLeDiff, evL, adopt, rigid, rigidL, trim, Int.reduceEq, Int.reduceMod, Int.reduceDiv, if_pos, if_neg, asI, forall_const, implies_true, chkD, chkO, chkW, effB, reB, vEq, beq_self_eq_true, Nat.reduceSub, Nat.reduceLT, Int.reduceSub, Int.reduceAdd, Int.reduceMul, Int.reduceLT, Int.reduceLE, Int.reduceToNat, optI, aslice, cutSl, cutMs, cutStr, cutOwn]) | ((first | rw [WP_condK] | rw [WP_opsG] | rw [WP_quiG] | rw [WP_dG]); refine And.intro (fun hb => ?_) (fun hb => ?_) <;> (first | have hd := dq1 hb | have hd := dq2 hb | have hd := dq3 hb | have hd := dq4 hb | skip)))
      refine ⟨k - 1, by omega, 1, _, by omega, rfl, rfl, ?_⟩
      cases l with
      | nil => rfl
      | cons a r => rfl
    · obtain ⟨w', hg', tx'⟩ := hA.2.2 (i - 1) (by omega)
      have hbv' := tx'.beq
      have hb := trivial
      repeat' (first | (simp -implicitDefEqProofs (disch := omega) only [hb, hAl, txo, L14_1, h0, h4, h10, h11, h12, hg, hg', tx'.one, txl, txe, hbv', call_size, p29, hbv, Bool.and_self, wC, wO, initE, aop, Nat.reduceEqDiff, ↓reduceIte, Nat.reduceAdd, finish, resOf, tupOf, AM.freeze, freeze1, freezeL, closed, nam, namL, if_true, if_false, deref, boxAt, exAt, ldCells, oneL, oneCell, Nat.reduceLeDiff, evL, adopt, rigid, rigidL, trim, Int.reduceEq, Int.reduceMod, Int.reduceDiv, if_pos, if_neg, asI, forall_const, implies_true, chkD, chkO, chkW, effB, reB, vEq, beq_self_eq_true, Nat.reduceSub, Nat.reduceLT, Int.reduceSub, Int.reduceAdd, Int.reduceMul, Int.reduceLT, Int.reduceLE, Int.reduceToNat, optI, aslice, cutSl, cutMs, cutStr, cutOwn]) | ((first | rw [WP_condK] | rw [WP_opsG] | rw [WP_quiG] | rw [WP_dG]); refine And.intro (fun hb => ?_) (fun hb => ?_) <;> (first | have hd := dq1 hb | have hd := dq2 hb | have hd := dq3 hb | have hd := dq4 hb | skip)))
      · refine isEnc_bad (asc_bad (i := i - 1) (by omega) ?_)
        simp only [show i - 1 + 1 = i by omega]
        omega
      · refine ⟨k - 1, by omega, i + 1, _, by omega, rfl, rfl, ?_⟩
        · have := ascB_take_succ (l := l) (i := i - 1) (by omega) (by rw [show i - 1 + 1 = i by omega]; exact hasc) (by simp only [show i - 1 + 1 = i by omega]; omega)
          rwa [show i - 1 + 2 = i + 1 by omega] at this
  · have hi : i = l.length := by omega
    subst hi
    rw [List.take_length] at hasc
    have hb := trivial
    repeat' (first | (simp -implicitDefEqProofs (disch := omega) only [hb, hAl, L14_1, h0, h4, h10, h11, h12, wC, initE, aop, Nat.reduceEqDiff, ↓reduceIte, Nat.reduceAdd, finish, resOf, tupOf, AM.freeze, freeze1, freezeL, closed, nam, namL, if_true, if_false, deref, boxAt, exAt, ldCells, oneL, oneCell, Nat.reduceLeDiff, evL, adopt, rigid, rigidL, trim, Int.reduceEq, Int.reduceMod, Int.reduceDiv, if_pos, if_neg, asI, forall_const, implies_true, chkD, chkO, chkW, effB, reB, vEq, beq_self_eq_true, Nat.reduceSub, Nat.reduceLT, Int.reduceSub, Int.reduceAdd, Int.reduceMul, Int.reduceLT, Int.reduceLE, Int.reduceToNat, optI, aslice, cutSl, cutMs, cutStr, cutOwn, cellsOf, one, elCells, lenOf, beqV, beqVL, strip, stripO, convS]) | ((first | rw [WP_condK] | rw [WP_opsG] | rw [WP_quiG] | rw [WP_dG]); refine And.intro (fun hb => ?_) (fun hb => ?_) <;> (first | have hd := dq1 hb | have hd := dq2 hb | have hd := dq3 hb | have hd := dq4 hb | skip)))
    exact isEnc_long hasc (by omega)
theorem flatS_bound {l : List Rc} (hv : ∀ r ∈ l, r.v.length ≤ 140737488351232) : (flatS l).length ≤ l.length * 140737488351250 := by
  induction l with
  | nil => simp [flatS]
  | cons r l ih =>
    have h1 := ih fun q hq => hv q (List.mem_cons_of_mem _ hq)
    have h2 := hv r List.mem_cons_self
    have h3 := recS_len r
    have h4 := sizeS_le r.t
    have h5 := sizeS_le r.v.length
    have h6 : flatS (r :: l) = recS r ++ flatS l := by unfold flatS; rw [List.flatMap_cons]
    rw [h6, List.length_append, List.length_cons, Nat.add_mul]
    omega
theorem enc_okA (A : List AV) (l : List Rc) (hA : RecsA A l) (hok : ∀ r ∈ l, Rc.ok r) (hv : ∀ r ∈ l, r.v.length ≤ 140737488351232) (hn : l.length ≤ 140737488351232) : ∃ v, prun T F14 [.slice .none (some 2) A] = some v ∧ IsEnc v (encS l) := by
  by_cases h64 : 64 < l.length
  · exact enc_big A l hA hok hv hn h64
  · have h1 := flatS_bound hv
    have h2 : l.length * 140737488351250 ≤ 64 * 140737488351250 := Nat.mul_le_mul_right _ (by omega)
    exact enc_small A l hA hok (by omega) hn
theorem enc_ok (l : List Rc) (hok : ∀ r ∈ l, Rc.ok r) (hv : ∀ r ∈ l, r.v.length ≤ 140737488351232) (hn : l.length ≤ 140737488351232) : ∃ v, prun T F14 [.slice .none (some 2) (l.map Rc.av)] = some v ∧ IsEnc v (encS l) :=
  enc_okA _ l (recsA_rc l) hok hv hn
end Go.Proofs.Ytnlemcfhndjheaa.AM

/- the reference's Encode. -/
namespace Go.Proofs.Ytnlemcfhndjheaa.AM
open Go
set_option maxRecDepth 100000
set_option linter.unusedSimpArgs false
set_option linter.unusedVariables false
theorem long_take {l : List Rc} {i : Nat} (h : 65536 < (flatS (l.take i)).length) : ¬ (l.length ≤ 64 ∧ (flatS l).length ≤ 65536) := by
  have := flatS_take_le l i
  omega
theorem set_appl {α : Type} {h t : List α} {n : Nat} {x : α} (hn : n < h.length) : (h ++ t).set n x = h.set n x ++ t := List.set_append_left _ _ hn
theorem gs1 {α : Type} {h a : List α} {t : Nat} {x : α} (ht : t < h.length) : (h.set t x ++ a)[t]? = some x := by
  rw [get_appl (by rw [List.length_set]; exact ht), List.getElem?_set_self ht]
theorem gs2 {α : Type} {h a b : List α} {t : Nat} {x : α} (ht : t < h.length) : (h.set t x ++ a ++ b)[t]? = some x := by
  rw [List.append_assoc, gs1 ht]
theorem ss1 {α : Type} {h a : List α} {t : Nat} {x y : α} (ht : t < h.length) : (h.set t x ++ a).set t y = h.set t y ++ a := by
  rw [set_appl (by rw [List.length_set]; exact ht), List.set_set]
theorem ss2 {α : Type} {h a b : List α} {t : Nat} {x y : α} (ht : t < h.length) : (h.set t x ++ a ++ b).set t y = h.set t y ++ a ++ b := by
  rw [List.append_assoc, ss1 ht, List.append_assoc]
theorem renc_okA (A : List AV) (l : List Rc) (hA : RecsA A l) (hok : ∀ r ∈ l, Rc.ok r) (hv : ∀ r ∈ l, r.v.length ≤ 140737488351232) (hn : l.length ≤ 140737488351232) : ∃ v, prun T F28 [.slice .none (some 2) A] = some v ∧ IsEnc v (encS l) := by
  suffices h : WP (fun v => IsEnc v (encS l)) (prun T F28 [.slice .none (some 2) A]) by
    obtain ⟨v, h1, h2⟩ := WP_ex h
    exact ⟨v, h1, h2⟩
  have hcl := hA.2.1
  have hAl := hA.1
  refine prun_wp ?_
  simp -implicitDefEqProofs (disch := omega) only [F28, hAl, wC, initE, aop, Nat.reduceEqDiff, ↓reduceIte, Nat.reduceAdd, finish, resOf, tupOf, AM.freeze, freeze1, freezeL, closed, nam, namL, if_true, if_false, deref, boxAt, exAt, ldCells, oneL, oneCell, Nat.reduceLeDiff, evL, adopt, rigid, rigidL, trim, Int.reduceEq, Int.reduceMod, Int.reduceDiv, if_pos, if_neg, asI, forall_const, implies_true, chkD, chkO, chkW, effB, reB, vEq, beq_self_eq_true, Nat.reduceSub, Nat.reduceLT, Int.reduceSub, Int.reduceAdd, Int.reduceMul, Int.reduceLT, Int.reduceLE, Int.reduceToNat, optI, aslice, cutSl, cutMs, cutStr, cutOwn, cellsOf, one, elCells, lenOf, beqV, beqVL, strip, stripO, convS]
  refine WP_loop (I := fun k e h => ∃ i : Nat, k + i = l.length + 1 ∧ (i ≤ l.length ∨ i = 1) ∧ 1 ≤ i ∧ getE e 0 = .slice .none (some 2) A ∧ getE e 4 = i64 i ∧ ascB (l.take i) = true) ?_ l.length _ _ ⟨1, by omega, .inr rfl, by omega, rfl, rfl, ?_⟩
  · rintro k e h ⟨i, hk, hi1, hi0, h0, h4, hasc⟩
    rw [trim_off]
    by_cases hlt : i < l.length
    · obtain ⟨w, hg, tx⟩ := hA.2.2 i hlt
      have txl := tx.len
      have txe := tx.els
      have txo := tx.one
      obtain ⟨w', hg', tx'⟩ := hA.2.2 (i - 1) (by omega)
      have hbv' := tx'.beq
      have hb := trivial
      repeat' (first | (simp -implicitDefEqProofs (disch := omega) only [hb, hAl, L28_1, h0, h4, hg, hg', wC, initE, aop, Nat.reduceEqDiff, ↓reduceIte, Nat.reduceAdd, finish, resOf, tupOf, AM.freeze, freeze1, freezeL, closed, nam, namL, if_true, if_false, deref, boxAt, exAt, ldCells, oneL, oneCell, Nat.reduceLeDiff, evL, adopt, rigid, rigidL, trim, Int.reduceEq, Int.reduceMod, Int.reduceDiv, if_pos, if_neg, asI, forall_const, implies_true, chkD, chkO, chkW, effB, reB, vEq, beq_self_eq_true, Nat.reduceSub, Nat.reduceLT, Int.reduceSub, Int.reduceAdd, Int.reduceMul, Int.reduceLT, Int.reduceLE, Int.reduceToNat, optI, aslice, cutSl, cutMs, cutStr, cutOwn, cellsOf, one, elCells, lenOf, beqV, beqVL, strip, stripO, convS]) | ((first | rw [WP_condK] | rw [WP_opsG] | rw [WP_quiG] | rw [WP_dG]); refine And.intro (fun hb => ?_) (fun hb => ?_) <;> (first | have hd := dq1 hb | have hd := dq2 hb | have hd := dq3 hb | have hd := dq4 hb | skip)))
      · refine isEnc_bad (asc_bad (i := i - 1) (by omega) ?_)
        simp only [show i - 1 + 1 = i by omega]
        omega
      · refine ⟨k - 1, by omega, i + 1, by omega, by omega, by omega, rfl, ?_⟩
        have := ascB_take_succ (l := l) (i := i - 1) (by omega) (by rw [show i - 1 + 1 = i by omega]; exact hasc) (by simp only [show i - 1 + 1 = i by omega]; omega)
        rwa [show i - 1 + 2 = i + 1 by omega] at this
    · have ht : l.take i = l := List.take_of_length_le (by omega)
      rw [ht] at hasc
      have hb := trivial
      repeat' (first | (simp -implicitDefEqProofs (disch := omega) only [hb, hAl, L28_1, h0, h4, wC, initE, aop, Nat.reduceEqDiff, ↓reduceIte, Nat.reduceAdd, finish, resOf, tupOf, AM.freeze, freeze1, freezeL, closed, nam, namL, if_true, if_false, deref, boxAt, exAt, ldCells, oneL, oneCell, Nat.reduceLeDiff, evL, adopt, rigid, rigidL, trim, Int.reduceEq, Int.reduceMod, Int.reduceDiv, if_pos, if_neg, asI, forall_const, implies_true, chkD, chkO, chkW, effB, reB, vEq, beq_self_eq_true, Nat.reduceSub, Nat.reduceLT, Int.reduceSub, Int.reduceAdd, Int.reduceMul, Int.reduceLT, Int.reduceLE, Int.reduceToNat, optI, aslice, cutSl, cutMs, cutStr, cutOwn, cellsOf, one, elCells, lenOf, beqV, beqVL, strip, stripO, convS]) | ((first | rw [WP_condK] | rw [WP_opsG] | rw [WP_quiG] | rw [WP_dG]); refine And.intro (fun hb => ?_) (fun hb => ?_) <;> (first | have hd := dq1 hb | have hd := dq2 hb | have hd := dq3 hb | have hd := dq4 hb | skip)))
      · exact isEnc_long hasc (by omega)
      · refine WP_loop (I := fun k e h => ∃ i : Nat, k + i = l.length ∧ (flatS (l.take i)).length ≤ 65536 ∧ getE e 0 = .slice .none (some 2) A ∧ (∃ t, getE e 5 = .slice (.tok t) none ((flatS (l.take i)).map u8) ∧ h[t]? = some (.row none (flatS (l.take i)).length)) ∧ getE e 6 = i64 i) ?_ l.length _ _ ⟨0, by omega, Nat.zero_le _, rfl, ⟨_, rfl, ?_⟩, rfl⟩
        · rintro k e h ⟨i, hk, hs, h0, ⟨t, h5, ht5⟩, h6⟩
          rw [trim_off]
          by_cases hlt : i < l.length
          · obtain ⟨w, hg, tx⟩ := hA.2.2 i hlt
            have txl := tx.len
            have txe := tx.els
            have txo := tx.one
            have hu := (hok l[i] (List.getElem_mem hlt)).1
            have hfl := flatS_take_succ hlt
            have hrl := recS_len l[i]
            have hvl := hv l[i] (List.getElem_mem hlt)
            have hfl2 : (flatS (l.take (i + 1))).length = (flatS (l.take i)).length + (recS l[i]).length := by rw [hfl, List.length_append]
            have hbv := tx.beq
            have hsz1 := sizeS_le l[i].t
            have hsz2 := sizeS_le l[i].v.length
            have ln := numS_len l[i].t
            have ln2 := numS_len l[i].v.length
            obtain ⟨o1, ho1, hp1⟩ := call_num l[i].t hu
            have hu2 : U64 (l[i].v.length : Int) := by constructor <;> omega
            obtain ⟨o2, ho2, hp2⟩ := call_num l[i].v.length hu2
            have htl : t < h.length := (List.getElem?_eq_some_iff.1 ht5).1
            have hR : (recS l[i]).length = (numS l[i].t).length + (numS l[i].v.length).length + l[i].v.length := by
              unfold recS; rw [List.length_append, List.length_append]
            rw [hR] at hfl2
            rcases ho1 with rfl | rfl <;> rcases ho2 with rfl | rfl
            all_goals
              simp -implicitDefEqProofs (disch := omega) only [hAl, txo, L28_0, h0, h5, h6, ht5, hg, txl, txe, hp1, hp2, hbv, Bool.and_self, u8_len, aappend, List.getElem?_set_self, List.set_set, get_appl, set_appl, gs1, gs2, ss1, ss2, wC, wO, initE, aop, Nat.reduceEqDiff, ↓reduceIte, Nat.reduceAdd, finish, resOf, tupOf, AM.freeze, freeze1, freezeL, closed, nam, namL, if_true, if_false, deref, boxAt, exAt, ldCells, oneL, oneCell, Nat.reduceLeDiff, evL, adopt, rigid, rigidL, trim, Int.reduceEq, Int.reduceMod, Int.reduceDiv, if_pos, if_neg, asI, forall_const, implies_true, chkD, chkO, chkW, effB, reB, vEq, beq_self_eq_true, Nat.reduceSub, Nat.reduceLT, Int.reduceSub, Int.reduceAdd, Int.reduceMul, Int.reduceLT, Int.reduceLE, Int.reduceToNat, optI, aslice, cutSl, cutMs, cutStr, cutOwn]
              repeat' ((first | rw [WP_condK] | rw [WP_opsG] | rw [WP_quiG] | rw [WP_dG]); refine And.intro (fun hb => ?_) (fun hb => ?_) <;> (first | have hd := dq1 hb | have hd := dq2 hb | have hd := dq3 hb | have hd := dq4 hb | skip) <;> (try simp -implicitDefEqProofs (disch := omega) only [hb, hAl, txo, h0, h5, h6, ht5, hg, txl, txe, hp1, hp2, hbv, Bool.and_self, u8_len, aappend, List.getElem?_set_self, List.set_set, get_appl, set_appl, gs1, gs2, ss1, ss2, wC, wO, initE, aop, Nat.reduceEqDiff, ↓reduceIte, Nat.reduceAdd, finish, resOf, tupOf, AM.freeze, freeze1, freezeL, closed, nam, namL, if_true, if_false, deref, boxAt, exAt, ldCells, oneL, oneCell, Nat.reduceLeDiff, evL, adopt, rigid, rigidL, trim, Int.reduceEq, Int.reduceMod, Int.reduceDiv, if_pos, if_neg, asI, forall_const, implies_true, chkD, chkO, chkW, effB, reB, vEq, beq_self_eq_true, Nat.reduceSub, Nat.reduceLT, Int.reduceSub, Int.reduceAdd, Int.reduceMul, Int.reduceLT, Int.reduceLE, Int.reduceToNat, optI, aslice, cutSl, cutMs, cutStr, cutOwn]))
              all_goals first
              | exact isEnc_long hasc (long_take (i := i + 1) (by rw [hfl2]; omega))
              | refine ⟨k - 1, by omega, i + 1, by omega, by rw [hfl2]; omega, ⟨t, ?_, ?_⟩, rfl⟩
                · rw [hfl, recS, List.map_append, List.map_append, List.map_append]
                  simp only [List.append_assoc]
                · rw [hfl2, ← Nat.add_assoc, ← Nat.add_assoc]
                  first
                  | rw [List.getElem?_set_self htl]
                  | rw [gs1 htl]
                  | rw [gs2 htl]
          · have hi : i = l.length := by omega
            subst hi
            rw [List.take_length] at h5 hs
            have hb := trivial
            repeat' (first | (simp -implicitDefEqProofs (disch := omega) only [hb, hAl, L28_0, h0, h5, h6, wC, initE, aop, Nat.reduceEqDiff, ↓reduceIte, Nat.reduceAdd, finish, resOf, tupOf, freezeL, closed, nam, namL, if_true, if_false, deref, boxAt, exAt, ldCells, oneL, oneCell, Nat.reduceLeDiff, evL, adopt, rigid, rigidL, trim, Int.reduceEq, Int.reduceMod, Int.reduceDiv, if_pos, if_neg, asI, forall_const, implies_true, chkD, chkO, chkW, effB, reB, vEq, beq_self_eq_true, Nat.reduceSub, Nat.reduceLT, Int.reduceSub, Int.reduceAdd, Int.reduceMul, Int.reduceLT, Int.reduceLE, Int.reduceToNat, optI, aslice, cutSl, cutMs, cutStr, cutOwn, cellsOf, one, elCells, lenOf, beqV, beqVL, strip, stripO, convS]) | ((first | rw [WP_condK] | rw [WP_opsG] | rw [WP_quiG] | rw [WP_dG]); refine And.intro (fun hb => ?_) (fun hb => ?_) <;> (first | have hd := dq1 hb | have hd := dq2 hb | have hd := dq3 hb | have hd := dq4 hb | skip)))
            exact out_freeze hasc (by omega) (.inr ⟨.tok t, by simp, rfl⟩)
        · simp
          rfl
  · cases l with
    | nil => rfl
    | cons a r => rfl
theorem renc_ok (l : List Rc) (hok : ∀ r ∈ l, Rc.ok r) (hv : ∀ r ∈ l, r.v.length ≤ 140737488351232) (hn : l.length ≤ 140737488351232) : ∃ v, prun T F28 [.slice .none (some 2) (l.map Rc.av)] = some v ∧ IsEnc v (encS l) :=
  renc_okA _ l (recsA_rc l) hok hv hn
end Go.Proofs.Ytnlemcfhndjheaa.AM

/- bigsize's streams: what is known, the same records. -/
namespace Go.Proofs.Ytnlemcfhndjheaa.AM
open Go
set_option maxRecDepth 100000
set_option linter.unusedSimpArgs false
set_option linter.unusedVariables false
theorem get_map {α β : Type} {f : α → β} {l : List α} {i : Nat} (h : i < l.length) : (l.map f)[i]? = some (f l[i]) := by rw [List.getElem?_map, List.getElem?_eq_getElem h]; rfl
theorem eqs {a b : List Int} (ha : Bytes a) (hb : Bytes b) : abin .eql (.string (strOfNums a)) (.string (strOfNums b)) = some (.bool (decide (a = b))) := by
  by_cases h : a = b
  · subst h; simp [abin, astr]
  · have : ¬ (strOfNums a).toList = (strOfNums b).toList := fun hh => h (str_inj ha hb hh)
    simp [abin, astr, h, this]
theorem neqs {a b : List Int} (ha : Bytes a) (hb : Bytes b) : abin .neq (.string (strOfNums a)) (.string (strOfNums b)) = some (.bool (!decide (a = b))) := by
  by_cases h : a = b
  · subst h; simp [abin, astr]
  · have : ¬ (strOfNums a).toList = (strOfNums b).toList := fun hh => h (str_inj ha hb hh)
    simp [abin, astr, h, this]
theorem mem_take_succ {ks : List Int} {x : Int} {i : Nat} (h : i < ks.length) (hn : x ∉ ks.take i) (hx : ks[i] ≠ x) : x ∉ ks.take (i + 1) := by
  rw [List.take_succ_eq_append_getElem h]
  simp only [List.mem_append, List.mem_singleton, not_or]
  exact ⟨hn, fun hh => hx hh.symm⟩
theorem has_ok (ks : List Int) (x : Int) (hn : ks.length ≤ 140737488351232) : prun T F44 [.slice .none none (ks.map u64), u64 x] = some (.sc (.bool (decide (x ∈ ks)))) := by
  refine WP_eq (prun_wp ?_)
  simp -implicitDefEqProofs (disch := omega) only [F44, wC, initE, aop, Nat.reduceEqDiff, ↓reduceIte, Nat.reduceAdd, finish, resOf, tupOf, AM.freeze, freeze1, freezeL, closed, nam, namL, if_true, if_false, deref, boxAt, exAt, ldCells, oneL, oneCell, Nat.reduceLeDiff, evL, adopt, rigid, rigidL, trim, Int.reduceEq, Int.reduceMod, Int.reduceDiv, if_pos, if_neg, asI, forall_const, implies_true, chkD, chkO, chkW, effB, reB, vEq, beq_self_eq_true, Nat.reduceSub, Nat.reduceLT, Int.reduceSub, Int.reduceAdd, Int.reduceMul, Int.reduceLT, Int.reduceLE, Int.reduceToNat, optI, aslice, cutSl, cutMs, cutStr, cutOwn, cellsOf, one, elCells, lenOf, beqV, beqVL, strip, stripO, convS]
  refine WP_loop (I := fun k e h => ∃ i : Nat, k + i = ks.length ∧ h = [] ∧ getE e 0 = .slice .none none (ks.map u64) ∧ getE e 1 = u64 x ∧ getE e 5 = i64 i ∧ x ∉ ks.take i) ?_ ks.length _ _ ⟨0, by omega, rfl, rfl, rfl, rfl, by simp⟩
  rintro k e h ⟨i, hk, rfl, h0, h1, h5, hm⟩
  rw [trim_same' (by simp)]
  by_cases hlt : i < ks.length
  · have hg := get_map (f := u64) hlt
    have hb := trivial
    repeat' (first | (simp -implicitDefEqProofs (disch := omega) only [hb, L44_0, h0, h1, h5, hg, wC, initE, aop, Nat.reduceEqDiff, ↓reduceIte, Nat.reduceAdd, finish, resOf, tupOf, AM.freeze, freeze1, freezeL, closed, nam, namL, if_true, if_false, deref, boxAt, exAt, ldCells, oneL, oneCell, Nat.reduceLeDiff, evL, adopt, rigid, rigidL, trim, Int.reduceEq, Int.reduceMod, Int.reduceDiv, if_pos, if_neg, asI, forall_const, implies_true, chkD, chkO, chkW, effB, reB, vEq, beq_self_eq_true, Nat.reduceSub, Nat.reduceLT, Int.reduceSub, Int.reduceAdd, Int.reduceMul, Int.reduceLT, Int.reduceLE, Int.reduceToNat, optI, aslice, cutSl, cutMs, cutStr, cutOwn, cellsOf, one, elCells, lenOf, beqV, beqVL, strip, stripO, convS]) | ((first | rw [WP_condK] | rw [WP_opsG] | rw [WP_quiG] | rw [WP_dG]); refine And.intro (fun hb => ?_) (fun hb => ?_) <;> (first | have hd := dq1 hb | have hd := dq2 hb | have hd := dq3 hb | have hd := dq4 hb | skip)))
    · have : x ∈ ks := by rw [← hd]; exact List.getElem_mem _
      simp [this]
    · exact ⟨k - 1, by omega, i + 1, by omega, rfl, mem_take_succ hlt hm hd⟩
  · have hi : i = ks.length := by omega
    subst hi
    rw [List.take_length] at hm
    have hb := trivial
    repeat' (first | (simp -implicitDefEqProofs (disch := omega) only [hb, L44_0, h0, h1, h5, wC, initE, aop, Nat.reduceEqDiff, ↓reduceIte, Nat.reduceAdd, finish, resOf, tupOf, AM.freeze, freeze1, freezeL, closed, nam, namL, if_true, if_false, deref, boxAt, exAt, ldCells, oneL, oneCell, Nat.reduceLeDiff, evL, adopt, rigid, rigidL, trim, Int.reduceEq, Int.reduceMod, Int.reduceDiv, if_pos, if_neg, asI, forall_const, implies_true, chkD, chkO, chkW, effB, reB, vEq, beq_self_eq_true, Nat.reduceSub, Nat.reduceLT, Int.reduceSub, Int.reduceAdd, Int.reduceMul, Int.reduceLT, Int.reduceLE, Int.reduceToNat, optI, aslice, cutSl, cutMs, cutStr, cutOwn, cellsOf, one, elCells, lenOf, beqV, beqVL, strip, stripO, convS]) | ((first | rw [WP_condK] | rw [WP_opsG] | rw [WP_quiG] | rw [WP_dG]); refine And.intro (fun hb => ?_) (fun hb => ?_) <;> (first | have hd := dq1 hb | have hd := dq2 hb | have hd := dq3 hb | have hd := dq4 hb | skip)))
    try simp [hm]
end Go.Proofs.Ytnlemcfhndjheaa.AM

/- bigsize's streams: the reference's Decode. -/
namespace Go.Proofs.Ytnlemcfhndjheaa.AM
open Go
set_option maxRecDepth 100000
set_option maxHeartbeats 4000000
set_option linter.unusedSimpArgs false
set_option linter.unusedVariables false
/-- the last of the records' types stands below -/
def topB (acc : List Rc) (x : Int) : Bool := match acc.getLast? with | none => true | some r => decide (r.t < x)
def decL (ks : List Int) : Nat → List Rc → List Int → List Rc × Int
  | _, acc, [] => (acc, 0)
  | 0, _, _ :: _ => ([], 3)
  | f + 1, acc, b :: s =>
    if (readS (b :: s)).2.2 ≠ 0 then ([], (readS (b :: s)).2.2)
    else if topB acc (readS (b :: s)).1 = false then ([], 11)
    else if (readS ((b :: s).drop (readS (b :: s)).2.1.toNat)).2.2 ≠ 0 then ([], (readS ((b :: s).drop (readS (b :: s)).2.1.toNat)).2.2)
    else if (((b :: s).drop (readS (b :: s)).2.1.toNat).drop (readS ((b :: s).drop (readS (b :: s)).2.1.toNat)).2.1.toNat).length < (readS ((b :: s).drop (readS (b :: s)).2.1.toNat)).1 then ([], 10)
    else if (readS (b :: s)).1 % 2 = 0 ∧ (readS (b :: s)).1 ∉ ks then ([], 12)
    else decL ks f (acc ++ [⟨(readS (b :: s)).1, (((b :: s).drop (readS (b :: s)).2.1.toNat).drop (readS ((b :: s).drop (readS (b :: s)).2.1.toNat)).2.1.toNat).take (readS ((b :: s).drop (readS (b :: s)).2.1.toNat)).1.toNat⟩])
      ((((b :: s).drop (readS (b :: s)).2.1.toNat).drop (readS ((b :: s).drop (readS (b :: s)).2.1.toNat)).2.1.toNat).drop (readS ((b :: s).drop (readS (b :: s)).2.1.toNat)).1.toNat)
def decS (ks : List Int) (b : List Int) : List Rc × Int := if 65536 < b.length then ([], 3) else decL ks 64 [] b
def IsDec (v : AV) (p : List Rc × Int) : Prop := (p.2 ≠ 0 ∧ p.1 = [] ∧ v = .tup [.nil, i64 p.2]) ∨ (p.2 = 0 ∧ ∃ o, (o = .fresh ∨ o = .none) ∧ v = .tup [.slice o (some 2) (p.1.map Rc.av), i64 0])
theorem decL_step (ks : List Int) (f : Nat) (acc : List Rc) (s : List Int) (hs : s ≠ []) (x n e y m g : Int) (s1 s2 : List Int) (h1 : readS s = (x, n, e)) (h2 : s.drop n.toNat = s1) (h3 : readS s1 = (y, m, g)) (h4 : s1.drop m.toNat = s2) : decL ks (f + 1) acc s = (if e ≠ 0 then ([], e) else if topB acc x = false then ([], 11) else if g ≠ 0 then ([], g) else if (s2.length : Int) < y then ([], 10) else if x % 2 = 0 ∧ x ∉ ks then ([], 12) else decL ks f (acc ++ [⟨x, s2.take y.toNat⟩]) (s2.drop y.toNat)) := by
  cases s with
  | nil => exact absurd rfl hs
  | cons b s => simp only [decL, h1, h2, h3, h4]
theorem decL_nil (ks : List Int) (f : Nat) (acc : List Rc) : decL ks f acc [] = (acc, 0) := by cases f <;> rfl
theorem decL_full (ks : List Int) (acc : List Rc) (s : List Int) (hs : s ≠ []) : decL ks 0 acc s = ([], 3) := by
  cases s with
  | nil => exact absurd rfl hs
  | cons b s => rfl
theorem u64_closed (l : List Int) : closedL (l.map u64) = true := by
  induction l with
  | nil => rfl
  | cons x l ih => simpa only [List.map_cons, closedL, namL, nam, Bool.true_and] using ih
theorem call_rread (s : List Int) (hs : Bytes s) (hn : s.length ≤ 65536) (h : Heap) : ag T 43 [.slice .none none (s.map u8)] h = some (rdT s, h) :=
  call_tup rfl t43 rfl rfl rfl (by have := u8_closed s; simp only [closedL, namL, nam, Bool.and_true, Bool.true_and] at this ⊢; exact this) (rread_ok s hs (by omega))
theorem call_has (ks : List Int) (x : Int) (hn : ks.length ≤ 140737488351232) (h : Heap) : ag T 44 [.slice .none none (ks.map u64), u64 x] h = some (.sc (.bool (decide (x ∈ ks))), h) :=
  call_sc rfl t44 rfl rfl rfl (by have := u64_closed ks; simp only [closedL, namL, nam, Bool.and_true, Bool.true_and] at this ⊢; exact this) (has_ok ks x hn)
theorem top_at {acc : List Rc} {x : Int} (h : 0 < acc.length) : topB acc x = decide ((acc[acc.length - 1]).t < x) := by
  unfold topB
  rw [List.getLast?_eq_getElem?, List.getElem?_eq_getElem (by omega)]
theorem dec_freeze {l : List Rc} {t : Nat} {h : Heap} {p : List Rc × Int} (hp : p = (l, 0)) : WP (fun v => IsDec v p) (freeze h (.tup [.slice (.tok t) (some 2) (l.map Rc.av), i64 0])) := by
  subst hp
  have hc := rc_closed l
  simp only [freeze, freezeL, freeze1, hc, if_true, closed, nam, Option.map_some]
  split
  · split
    · split
      · exact .inr ⟨rfl, _, .inl rfl, rfl⟩
      · exact .inr ⟨rfl, _, .inr rfl, rfl⟩
    · exact .inr ⟨rfl, _, .inr rfl, rfl⟩
  · exact .inr ⟨rfl, _, .inr rfl, rfl⟩
theorem isDec_bad {p : List Rc × Int} {e : Int} (he : e ≠ 0) (h : p = ([], e)) : IsDec (.tup [.nil, i64 e]) p := by subst h; exact .inl ⟨he, rfl, rfl⟩
theorem rdec_okK (K : AV) (b ks : List Int) (hK : ∀ x h, ag T 44 [K, u64 x] h = some (.sc (.bool (decide (x ∈ ks))), h)) (hby : Bytes b) (hB : b.length ≤ 140737488351232) : ∃ v, prun T F24 [.slice .none none (b.map u8), K] = some v ∧ IsDec v (decS ks b) := by
  suffices h : WP (fun v => IsDec v (decS ks b)) (prun T F24 [.slice .none none (b.map u8), K]) by
    obtain ⟨v, h1, h2⟩ := WP_ex h
    exact ⟨v, h1, h2⟩
  refine prun_wp ?_
  have hb := trivial
  repeat' (first | (simp -implicitDefEqProofs (disch := omega) only [hb, F24, wC, initE, aop, Nat.reduceEqDiff, ↓reduceIte, Nat.reduceAdd, finish, resOf, tupOf, AM.freeze, freeze1, freezeL, closed, nam, namL, if_true, if_false, deref, boxAt, exAt, ldCells, oneL, oneCell, Nat.reduceLeDiff, evL, adopt, rigid, rigidL, trim, Int.reduceEq, Int.reduceMod, Int.reduceDiv, if_pos, if_neg, asI, forall_const, implies_true, chkD, chkO, chkW, effB, reB, vEq, beq_self_eq_true, Nat.reduceSub, Nat.reduceLT, Int.reduceSub, Int.reduceAdd, Int.reduceMul, Int.reduceLT, Int.reduceLE, Int.reduceToNat, optI, aslice, cutSl, cutMs, cutStr, cutOwn, cellsOf, one, elCells, lenOf, beqV, beqVL, strip, stripO, convS]) | ((first | rw [WP_condK] | rw [WP_opsG] | rw [WP_quiG] | rw [WP_dG]); refine And.intro (fun hb => ?_) (fun hb => ?_) <;> (first | have hd := dq1 hb | have hd := dq2 hb | have hd := dq3 hb | have hd := dq4 hb | skip)))
  · exact isDec_bad (by decide) (by unfold decS; rw [if_pos (by omega)])
  · refine WP_loop (I := fun k e h => ∃ (s : List Int) (acc : List Rc) (t : Nat), k = s.length ∧ s.length ≤ 65536 ∧ Bytes s ∧ acc.length ≤ 64 ∧ getE e 0 = .slice .none none (s.map u8) ∧ getE e 1 = K ∧ getE e 6 = .slice (.tok t) (some 2) (acc.map Rc.av) ∧ h[t]? = some (.row (some 2) acc.length) ∧ decL ks (64 - acc.length) acc s = decS ks b) ?_ b.length _ _ ⟨b, [], _, rfl, by omega, hby, by simp, rfl, rfl, rfl, rfl, ?_⟩
    · rintro k e h ⟨s, acc, t, hk, hsl, hs, hal, h0, h1, h6, ht, hdec⟩
      rw [trim_off]
      have htl : t < h.length := (List.getElem?_eq_some_iff.1 ht).1
      obtain ⟨x, n, e1, hr1⟩ : ∃ x n e1, readS s = (x, n, e1) := ⟨_, _, _, rfl⟩
      have hf1 := readS_fine s hs
      have hc1 := call_rread s hs hsl
      simp only [rdT, hr1] at hf1 hc1
      by_cases hs0 : s = []
      · subst hs0
        rw [decL_nil] at hdec
        have hb := trivial
        repeat' (first | (simp -implicitDefEqProofs (disch := omega) only [hb, L24_0, h0, h1, h6, wC, initE, aop, Nat.reduceEqDiff, ↓reduceIte, Nat.reduceAdd, finish, resOf, tupOf, freezeL, closed, nam, namL, if_true, if_false, deref, boxAt, exAt, ldCells, oneL, oneCell, Nat.reduceLeDiff, evL, adopt, rigid, rigidL, trim, Int.reduceEq, Int.reduceMod, Int.reduceDiv, if_pos, if_neg, asI, forall_const, implies_true, chkD, chkO, chkW, effB, reB, vEq, beq_self_eq_true, Nat.reduceSub, Nat.reduceLT, Int.reduceSub, Int.reduceAdd, Int.reduceMul, Int.reduceLT, Int.reduceLE, Int.reduceToNat, optI, aslice, cutSl, cutMs, cutStr, cutOwn, cellsOf, one, elCells, lenOf, beqV, beqVL, strip, stripO, convS]) | ((first | rw [WP_condK] | rw [WP_opsG] | rw [WP_quiG] | rw [WP_dG]); refine And.intro (fun hb => ?_) (fun hb => ?_) <;> (first | have hd := dq1 hb | have hd := dq2 hb | have hd := dq3 hb | have hd := dq4 hb | skip)))
        exact dec_freeze hdec.symm
      · have hsp : 0 < s.length := List.length_pos_iff.2 hs0
        obtain ⟨s1, hs1⟩ : ∃ s1, s.drop n.toNat = s1 := ⟨_, rfl⟩
        have hsb1 : Bytes s1 := hs1 ▸ drop_bytes hs _
        have hl1 : s1.length = s.length - n.toNat := by rw [← hs1, List.length_drop]
        obtain ⟨y, m, e2, hr2⟩ : ∃ x n e1, readS s1 = (x, n, e1) := ⟨_, _, _, rfl⟩
        have hf2 := readS_fine s1 hsb1
        have hc2 := call_rread s1 hsb1 (by omega)
        simp only [rdT, hr2] at hf2 hc2
        obtain ⟨s2, hs2⟩ : ∃ s2, s1.drop m.toNat = s2 := ⟨_, rfl⟩
        have hsb2 : Bytes s2 := hs2 ▸ drop_bytes hsb1 _
        have hl2 : s2.length = s1.length - m.toNat := by rw [← hs2, List.length_drop]
        have htm : x.tmod 2 = x % 2 := Int.tmod_eq_emod_of_nonneg hf1.1.1
        have hh := fun h => hK x h
        by_cases hfull : acc.length = 64
        · rw [hfull, decL_full ks acc s hs0] at hdec
          have hb := trivial
          repeat' (first | (simp -implicitDefEqProofs (disch := omega) only [hb, L24_0, h0, h1, h6, wC, initE, aop, Nat.reduceEqDiff, ↓reduceIte, Nat.reduceAdd, finish, resOf, tupOf, AM.freeze, freeze1, freezeL, closed, nam, namL, if_true, if_false, deref, boxAt, exAt, ldCells, oneL, oneCell, Nat.reduceLeDiff, evL, adopt, rigid, rigidL, trim, Int.reduceEq, Int.reduceMod, Int.reduceDiv, if_pos, if_neg, asI, forall_const, implies_true, chkD, chkO, chkW, effB, reB, vEq, beq_self_eq_true, Nat.reduceSub, Nat.reduceLT, Int.reduceSub, Int.reduceAdd, Int.reduceMul, Int.reduceLT, Int.reduceLE, Int.reduceToNat, optI, aslice, cutSl, cutMs, cutStr, cutOwn, cellsOf, one, elCells, lenOf, beqV, beqVL, strip, stripO, convS]) | ((first | rw [WP_condK] | rw [WP_opsG] | rw [WP_quiG] | rw [WP_dG]); refine And.intro (fun hb => ?_) (fun hb => ?_) <;> (first | have hd := dq1 hb | have hd := dq2 hb | have hd := dq3 hb | have hd := dq4 hb | skip)))
          exact isDec_bad (by decide) hdec.symm
        · rw [show 64 - acc.length = (64 - (acc.length + 1)) + 1 by omega, decL_step ks _ acc s hs0 x n e1 y m e2 s1 s2 hr1 hs1 hr2 hs2] at hdec
          have hfit : fitsB (List.take y.toNat s2).length 1 = true := fits1 (by rw [List.length_take]; omega)
          by_cases ha0 : acc.length = 0
          · have hTn : (0 : Nat) < 1 → ¬ topB acc x = false := fun _ => by rw [List.length_eq_zero_iff.1 ha0]; simp [topB]
            have hlast : True := trivial
            have hT0 := ha0
            have hb := trivial
            repeat' (first | (simp -implicitDefEqProofs (disch := omega) only [hb, L24_0, h0, h1, h6, ht, hc1, hc2, hh, u8_drop, u8_take, hs1, hs2, p44, u8_len, elemsOf, aappend, setEls, elFits, stripEl, List.replicate_zero, List.replicate_succ, htm, hfit, get_appl, set_appl, hlast, hT0, wC, initE, aop, Nat.reduceEqDiff, ↓reduceIte, Nat.reduceAdd, finish, resOf, tupOf, AM.freeze, freeze1, freezeL, closed, nam, namL, if_true, if_false, deref, boxAt, exAt, ldCells, oneL, oneCell, Nat.reduceLeDiff, evL, adopt, rigid, rigidL, trim, Int.reduceEq, Int.reduceMod, Int.reduceDiv, if_pos, if_neg, asI, forall_const, implies_true, chkD, chkO, chkW, effB, reB, vEq, beq_self_eq_true, Nat.reduceSub, Nat.reduceLT, Int.reduceSub, Int.reduceAdd, Int.reduceMul, Int.reduceLT, Int.reduceLE, Int.reduceToNat, optI, aslice, cutSl, cutMs, cutStr, cutOwn, cellsOf, one, elCells, lenOf, beqV, beqVL, strip, stripO, convS]) | ((first | rw [WP_condK] | rw [WP_opsG] | rw [WP_quiG] | rw [WP_dG]); refine And.intro (fun hb => ?_) (fun hb => ?_) <;> (first | have hd := dq1 hb | have hd := dq2 hb | have hd := dq3 hb | have hd := dq4 hb | skip)))
            all_goals first
            | (rw [if_pos (by omega)] at hdec; exact isDec_bad (by omega) hdec.symm)
            | (rw [if_neg (by omega), if_neg (hTn (by omega)), if_pos (by omega)] at hdec; exact isDec_bad (by omega) hdec.symm)
            | (rw [if_neg (by omega), if_neg (hTn (by omega)), if_neg (by omega), if_pos (by omega)] at hdec; exact isDec_bad (by omega) hdec.symm)
            | (rw [if_neg (by omega), if_neg (hTn (by omega)), if_neg (by omega), if_neg (by omega), if_pos ⟨by omega, by assumption⟩] at hdec; exact isDec_bad (by omega) hdec.symm)
            | (refine ⟨(s2.drop y.toNat).length, by rw [List.length_drop]; omega, s2.drop y.toNat, acc ++ [⟨x, s2.take y.toNat⟩], t, rfl, by rw [List.length_drop]; omega, drop_bytes hsb2 _, by rw [List.length_append, List.length_singleton]; omega, rfl, by rw [List.map_append]; rfl, ?_, ?_⟩
               · rw [gs1 htl, List.length_append, List.length_singleton]
                 try rw [ha0]
               · rw [List.length_append, List.length_singleton]
                 first
                 | (rw [if_neg (by omega), if_neg (hTn (by omega)), if_neg (by omega), if_neg (by omega), if_neg (fun hh => by have := hh.1; omega)] at hdec; exact hdec)
                 | (rw [if_neg (by omega), if_neg (hTn (by omega)), if_neg (by omega), if_neg (by omega), if_neg (fun hh => hh.2 (by assumption))] at hdec; exact hdec))
          · have hT := top_at (acc := acc) (x := x) (by omega)
            have hTn : (acc[acc.length - 1]).t < x → ¬ topB acc x = false := fun hh => by rw [hT, decide_eq_true hh]; decide
            have hlast := get_rc (l := acc) (i := acc.length - 1) (by omega)
            have hT0 : True := trivial
            have hb := trivial
            repeat' (first | (simp -implicitDefEqProofs (disch := omega) only [hb, L24_0, h0, h1, h6, ht, hc1, hc2, hh, u8_drop, u8_take, hs1, hs2, p44, u8_len, elemsOf, aappend, setEls, elFits, stripEl, List.replicate_zero, List.replicate_succ, htm, hfit, get_appl, set_appl, hlast, hT0, wC, initE, aop, Nat.reduceEqDiff, ↓reduceIte, Nat.reduceAdd, finish, resOf, tupOf, AM.freeze, freeze1, freezeL, closed, nam, namL, if_true, if_false, deref, boxAt, exAt, ldCells, oneL, oneCell, Nat.reduceLeDiff, evL, adopt, rigid, rigidL, trim, Int.reduceEq, Int.reduceMod, Int.reduceDiv, if_pos, if_neg, asI, forall_const, implies_true, chkD, chkO, chkW, effB, reB, vEq, beq_self_eq_true, Nat.reduceSub, Nat.reduceLT, Int.reduceSub, Int.reduceAdd, Int.reduceMul, Int.reduceLT, Int.reduceLE, Int.reduceToNat, optI, aslice, cutSl, cutMs, cutStr, cutOwn, cellsOf, one, elCells, lenOf, beqV, beqVL, strip, stripO, convS]) | ((first | rw [WP_condK] | rw [WP_opsG] | rw [WP_quiG] | rw [WP_dG]); refine And.intro (fun hb => ?_) (fun hb => ?_) <;> (first | have hd := dq1 hb | have hd := dq2 hb | have hd := dq3 hb | have hd := dq4 hb | skip)))
            all_goals first
            | (rw [if_pos (by omega)] at hdec; exact isDec_bad (by omega) hdec.symm)
            | (rw [if_neg (by omega), if_pos (by rw [hT]; exact decide_eq_false (by omega))] at hdec; exact isDec_bad (by omega) hdec.symm)
            | (rw [if_neg (by omega), if_neg (hTn (by omega)), if_pos (by omega)] at hdec; exact isDec_bad (by omega) hdec.symm)
            | (rw [if_neg (by omega), if_neg (hTn (by omega)), if_neg (by omega), if_pos (by omega)] at hdec; exact isDec_bad (by omega) hdec.symm)
            | (rw [if_neg (by omega), if_neg (hTn (by omega)), if_neg (by omega), if_neg (by omega), if_pos ⟨by omega, by assumption⟩] at hdec; exact isDec_bad (by omega) hdec.symm)
            | (refine ⟨(s2.drop y.toNat).length, by rw [List.length_drop]; omega, s2.drop y.toNat, acc ++ [⟨x, s2.take y.toNat⟩], t, rfl, by rw [List.length_drop]; omega, drop_bytes hsb2 _, by rw [List.length_append, List.length_singleton]; omega, rfl, by rw [List.map_append]; rfl, ?_, ?_⟩
               · rw [gs1 htl, List.length_append, List.length_singleton]
                 try rw [ha0]
               · rw [List.length_append, List.length_singleton]
                 first
                 | (rw [if_neg (by omega), if_neg (hTn (by omega)), if_neg (by omega), if_neg (by omega), if_neg (fun hh => by have := hh.1; omega)] at hdec; exact hdec)
                 | (rw [if_neg (by omega), if_neg (hTn (by omega)), if_neg (by omega), if_neg (by omega), if_neg (fun hh => hh.2 (by assumption))] at hdec; exact hdec))
    · unfold decS; rw [if_neg (by omega)]; rfl
theorem rdec_ok (b ks : List Int) (hby : Bytes b) (hB : b.length ≤ 140737488351232) (hn : ks.length ≤ 140737488351232) : ∃ v, prun T F24 [.slice .none none (b.map u8), .slice .none none (ks.map u64)] = some v ∧ IsDec v (decS ks b) :=
  rdec_okK _ b ks (fun x h => call_has ks x hn h) hby hB
theorem has_nil (x : Int) (h : Heap) : ag T 44 [.nil, u64 x] h = some (.sc (.bool (decide (x ∈ ([] : List Int)))), h) := by
  refine call_sc rfl t44 rfl rfl rfl rfl (WP_eq (prun_wp ?_))
  simp -implicitDefEqProofs (disch := omega) only [F44, wC, wO, initE, aop, Nat.reduceEqDiff, ↓reduceIte, Nat.reduceAdd, finish, resOf, tupOf, AM.freeze, freeze1, freezeL, closed, nam, namL, if_true, if_false, deref, boxAt, exAt, ldCells, oneL, oneCell, Nat.reduceLeDiff, evL, adopt, rigid, rigidL, trim, Int.reduceEq, Int.reduceMod, Int.reduceDiv, if_pos, if_neg, asI, forall_const, implies_true, chkD, chkO, chkW, effB, reB, vEq, beq_self_eq_true, Nat.reduceSub, Nat.reduceLT, Int.reduceSub, Int.reduceAdd, Int.reduceMul, Int.reduceLT, Int.reduceLE, Int.reduceToNat, optI, aslice, cutSl, cutMs, cutStr, cutOwn]
  refine WP_loop (I := fun k e h => h = [] ∧ getE e 0 = .nil ∧ getE e 5 = i64 0) ?_ 0 _ _ ⟨rfl, rfl, rfl⟩
  rintro k e h ⟨rfl, h0, h5⟩
  rw [trim_same' (by simp)]
  have hb := trivial
  repeat' (first | (simp -implicitDefEqProofs (disch := omega) only [hb, L44_0, h0, h5, wC, wO, initE, aop, Nat.reduceEqDiff, ↓reduceIte, Nat.reduceAdd, finish, resOf, tupOf, AM.freeze, freeze1, freezeL, closed, nam, namL, if_true, if_false, deref, boxAt, exAt, ldCells, oneL, oneCell, Nat.reduceLeDiff, evL, adopt, rigid, rigidL, trim, Int.reduceEq, Int.reduceMod, Int.reduceDiv, if_pos, if_neg, asI, forall_const, implies_true, chkD, chkO, chkW, effB, reB, vEq, beq_self_eq_true, Nat.reduceSub, Nat.reduceLT, Int.reduceSub, Int.reduceAdd, Int.reduceMul, Int.reduceLT, Int.reduceLE, Int.reduceToNat, optI, aslice, cutSl, cutMs, cutStr, cutOwn]) | ((first | rw [WP_condK] | rw [WP_opsG] | rw [WP_quiG] | rw [WP_dG]); refine And.intro (fun hb => ?_) (fun hb => ?_) <;> (first | have hd := dq1 hb | have hd := dq2 hb | have hd := dq3 hb | have hd := dq4 hb | skip)))
  simp
theorem rdec_okN (b : List Int) (hby : Bytes b) (hB : b.length ≤ 140737488351232) : ∃ v, prun T F24 [.slice .none none (b.map u8), .nil] = some v ∧ IsDec v (decS [] b) :=
  rdec_okK _ b [] has_nil hby hB
end Go.Proofs.Ytnlemcfhndjheaa.AM

/- bigsize's streams: Contains; Decode. -/
namespace Go.Proofs.Ytnlemcfhndjheaa.AM
open Go
set_option maxRecDepth 100000
set_option maxHeartbeats 4000000
set_option linter.unusedSimpArgs false
set_option linter.unusedVariables false
theorem WP_roll {T : Tab} {keep : List Nat} {gc : Bool} {b : AC} {m : Nat} {Q : Res → Prop} {e : Env} {h : Heap} (hs : WP (fun p => WP (LQ (fun _ e h => WP Q (axl T keep gc b m e h)) Q 1) (ax T b p.1 p.2)) (trim keep gc m e h)) : WP Q (axl T keep gc b m e h) := by
  rw [axl_eq]
  obtain ⟨p, h1, h2⟩ := WP_ex hs
  rw [h1, Option.bind_some]
  obtain ⟨⟨x, e', h'⟩, h3, h4⟩ := WP_ex h2
  rw [h3, Option.bind_some]
  cases x with
  | normal =>
    rw [nextR_normal]
    obtain ⟨n', hn, hi'⟩ := h4
    exact hi'
  | exit i => exact h4
  | ret => exact h4
theorem index_ok (ks : List Int) (x : Int) (hn : ks.length ≤ 140737488351232) : ∃ j : Int, prun T F52 [.slice .none none (ks.map u64), u64 x] = some (i64 j) ∧ (0 ≤ j ↔ x ∈ ks) := by
  suffices h : WP (fun v => ∃ j : Int, v = i64 j ∧ (0 ≤ j ↔ x ∈ ks)) (prun T F52 [.slice .none none (ks.map u64), u64 x]) by
    obtain ⟨v, h1, j, rfl, h3⟩ := WP_ex h
    exact ⟨j, h1, h3⟩
  refine prun_wp ?_
  simp -implicitDefEqProofs (disch := omega) only [F52, wC, initE, aop, Nat.reduceEqDiff, ↓reduceIte, Nat.reduceAdd, finish, resOf, tupOf, AM.freeze, freeze1, freezeL, closed, nam, namL, if_true, if_false, deref, boxAt, exAt, ldCells, oneL, oneCell, Nat.reduceLeDiff, evL, adopt, rigid, rigidL, trim, Int.reduceEq, Int.reduceMod, Int.reduceDiv, if_pos, if_neg, asI, forall_const, implies_true, chkD, chkO, chkW, effB, reB, vEq, beq_self_eq_true, Nat.reduceSub, Nat.reduceLT, Int.reduceSub, Int.reduceAdd, Int.reduceMul, Int.reduceLT, Int.reduceLE, Int.reduceToNat, optI, aslice, cutSl, cutMs, cutStr, cutOwn, cellsOf, one, elCells, lenOf, beqV, beqVL, strip, stripO, convS]
  refine WP_loop (I := fun k e h => ∃ i : Nat, k + i = ks.length ∧ h = [] ∧ getE e 0 = .slice .none none (ks.map u64) ∧ getE e 1 = u64 x ∧ getE e 7 = i64 ks.length ∧ getE e 8 = i64 i ∧ x ∉ ks.take i) ?_ ks.length _ _ ⟨0, by omega, rfl, rfl, rfl, rfl, rfl, by simp⟩
  rintro k e h ⟨i, hk, rfl, h0, h1, h7, h8, hm⟩
  rw [trim_same' (by simp)]
  by_cases hlt : i < ks.length
  · have hg := get_map (f := u64) hlt
    have hb := trivial
    repeat' (first | (simp -implicitDefEqProofs (disch := omega) only [hb, L52_0, h0, h1, h7, h8, hg, wC, initE, aop, Nat.reduceEqDiff, ↓reduceIte, Nat.reduceAdd, finish, resOf, tupOf, AM.freeze, freeze1, freezeL, closed, nam, namL, if_true, if_false, deref, boxAt, exAt, ldCells, oneL, oneCell, Nat.reduceLeDiff, evL, adopt, rigid, rigidL, trim, Int.reduceEq, Int.reduceMod, Int.reduceDiv, if_pos, if_neg, asI, forall_const, implies_true, chkD, chkO, chkW, effB, reB, vEq, beq_self_eq_true, Nat.reduceSub, Nat.reduceLT, Int.reduceSub, Int.reduceAdd, Int.reduceMul, Int.reduceLT, Int.reduceLE, Int.reduceToNat, optI, aslice, cutSl, cutMs, cutStr, cutOwn, cellsOf, one, elCells, lenOf, beqV, beqVL, strip, stripO, convS]) | ((first | rw [WP_condK] | rw [WP_opsG] | rw [WP_quiG] | rw [WP_dG]); refine And.intro (fun hb => ?_) (fun hb => ?_) <;> (first | have hd := dq1 hb | have hd := dq2 hb | have hd := dq3 hb | have hd := dq4 hb | skip)))
    · exact ⟨i, rfl, by constructor; (· intro _; rw [hd]; exact List.getElem_mem _); (· intro _; omega)⟩
    · exact ⟨k - 1, by omega, i + 1, by omega, rfl, mem_take_succ hlt hm fun hh => hd hh.symm⟩
  · have hi : i = ks.length := by omega
    subst hi
    rw [List.take_length] at hm
    have hb := trivial
    repeat' (first | (simp -implicitDefEqProofs (disch := omega) only [hb, L52_0, h0, h1, h7, h8, wC, initE, aop, Nat.reduceEqDiff, ↓reduceIte, Nat.reduceAdd, finish, resOf, tupOf, AM.freeze, freeze1, freezeL, closed, nam, namL, if_true, if_false, deref, boxAt, exAt, ldCells, oneL, oneCell, Nat.reduceLeDiff, evL, adopt, rigid, rigidL, trim, Int.reduceEq, Int.reduceMod, Int.reduceDiv, if_pos, if_neg, asI, forall_const, implies_true, chkD, chkO, chkW, effB, reB, vEq, beq_self_eq_true, Nat.reduceSub, Nat.reduceLT, Int.reduceSub, Int.reduceAdd, Int.reduceMul, Int.reduceLT, Int.reduceLE, Int.reduceToNat, optI, aslice, cutSl, cutMs, cutStr, cutOwn, cellsOf, one, elCells, lenOf, beqV, beqVL, strip, stripO, convS]) | ((first | rw [WP_condK] | rw [WP_opsG] | rw [WP_quiG] | rw [WP_dG]); refine And.intro (fun hb => ?_) (fun hb => ?_) <;> (first | have hd := dq1 hb | have hd := dq2 hb | have hd := dq3 hb | have hd := dq4 hb | skip)))
    exact ⟨-1, rfl, by constructor; (· intro hh; omega); (· intro hh; exact absurd hh hm)⟩
theorem contains_ok (ks : List Int) (x : Int) (hn : ks.length ≤ 140737488351232) : prun T F40 [.slice .none none (ks.map u64), u64 x] = some (.sc (.bool (decide (x ∈ ks)))) := by
  obtain ⟨j, hj, hj2⟩ := index_ok ks x hn
  have hc : ∀ h, ag T 52 [.slice .none none (ks.map u64), u64 x] h = some (i64 j, h) := fun h => call_sc rfl t52 rfl rfl rfl (by have := u64_closed ks; simp only [closedL, namL, nam, Bool.and_true, Bool.true_and] at this ⊢; exact this) hj
  refine WP_eq (prun_wp ?_)
  have hb := trivial
  repeat' (first | (simp -implicitDefEqProofs (disch := omega) only [hb, F40, hc, wC, initE, aop, Nat.reduceEqDiff, ↓reduceIte, Nat.reduceAdd, finish, resOf, tupOf, AM.freeze, freeze1, freezeL, closed, nam, namL, if_true, if_false, deref, boxAt, exAt, ldCells, oneL, oneCell, Nat.reduceLeDiff, evL, adopt, rigid, rigidL, trim, Int.reduceEq, Int.reduceMod, Int.reduceDiv, if_pos, if_neg, asI, forall_const, implies_true, chkD, chkO, chkW, effB, reB, vEq, beq_self_eq_true, Nat.reduceSub, Nat.reduceLT, Int.reduceSub, Int.reduceAdd, Int.reduceMul, Int.reduceLT, Int.reduceLE, Int.reduceToNat, optI, aslice, cutSl, cutMs, cutStr, cutOwn, cellsOf, one, elCells, lenOf, beqV, beqVL, strip, stripO, convS]) | ((first | rw [WP_condK] | rw [WP_opsG] | rw [WP_quiG] | rw [WP_dG]); refine And.intro (fun hb => ?_) (fun hb => ?_) <;> (first | have hd := dq1 hb | have hd := dq2 hb | have hd := dq3 hb | have hd := dq4 hb | skip)))
  all_goals simp [hj2]
theorem call_read (s : List Int) (hs : Bytes s) (hn : s.length ≤ 65536) (h : Heap) : ag T 39 [.slice .none none (s.map u8)] h = some (rdT s, h) :=
  call_tup rfl t39 rfl rfl rfl (by have := u8_closed s; simp only [closedL, namL, nam, Bool.and_true, Bool.true_and] at this ⊢; exact this) (read_ok s hs (by omega))
theorem call_contains (ks : List Int) (x : Int) (hn : ks.length ≤ 140737488351232) (h : Heap) : ag T 40 [.slice .none none (ks.map u64), u64 x] h = some (.sc (.bool (decide (x ∈ ks))), h) :=
  call_sc rfl t40 rfl rfl rfl (by have := u64_closed ks; simp only [closedL, namL, nam, Bool.and_true, Bool.true_and] at this ⊢; exact this) (contains_ok ks x hn)
theorem contains_nil (x : Int) (h : Heap) : ag T 40 [.nil, u64 x] h = some (.sc (.bool (decide (x ∈ ([] : List Int)))), h) := by
  have k1 : ∀ h, ag T 52 [.nil, u64 x] h = some (i64 (-1), h) := fun h => call_sc rfl t52 rfl rfl rfl rfl (WP_eq (prun_wp (by
    simp -implicitDefEqProofs (disch := omega) only [F52, wC, wO, initE, aop, Nat.reduceEqDiff, ↓reduceIte, Nat.reduceAdd, finish, resOf, tupOf, AM.freeze, freeze1, freezeL, closed, nam, namL, if_true, if_false, deref, boxAt, exAt, ldCells, oneL, oneCell, Nat.reduceLeDiff, evL, adopt, rigid, rigidL, trim, Int.reduceEq, Int.reduceMod, Int.reduceDiv, if_pos, if_neg, asI, forall_const, implies_true, chkD, chkO, chkW, effB, reB, vEq, beq_self_eq_true, Nat.reduceSub, Nat.reduceLT, Int.reduceSub, Int.reduceAdd, Int.reduceMul, Int.reduceLT, Int.reduceLE, Int.reduceToNat, optI, aslice, cutSl, cutMs, cutStr, cutOwn]
    refine WP_loop (I := fun k e h => getE e 7 = i64 0 ∧ getE e 8 = i64 0 ∧ h = []) ?_ 0 _ _ ⟨rfl, rfl, rfl⟩
    rintro n e h ⟨h7, h8, rfl⟩
    rw [trim_same' (by simp)]
    have hb := trivial
    repeat' (first | (simp -implicitDefEqProofs (disch := omega) only [hb, L52_0, h7, h8, wC, wO, initE, aop, Nat.reduceEqDiff, ↓reduceIte, Nat.reduceAdd, finish, resOf, tupOf, AM.freeze, freeze1, freezeL, closed, nam, namL, if_true, if_false, deref, boxAt, exAt, ldCells, oneL, oneCell, Nat.reduceLeDiff, evL, adopt, rigid, rigidL, trim, Int.reduceEq, Int.reduceMod, Int.reduceDiv, if_pos, if_neg, asI, forall_const, implies_true, chkD, chkO, chkW, effB, reB, vEq, beq_self_eq_true, Nat.reduceSub, Nat.reduceLT, Int.reduceSub, Int.reduceAdd, Int.reduceMul, Int.reduceLT, Int.reduceLE, Int.reduceToNat, optI, aslice, cutSl, cutMs, cutStr, cutOwn]) | ((first | rw [WP_condK] | rw [WP_opsG] | rw [WP_quiG] | rw [WP_dG]); refine And.intro (fun hb => ?_) (fun hb => ?_) <;> (first | have hd := dq1 hb | have hd := dq2 hb | have hd := dq3 hb | have hd := dq4 hb | skip))))))
  refine call_sc rfl t40 rfl rfl rfl rfl (WP_eq (prun_wp ?_))
  have hb := trivial
  repeat' (first | (simp -implicitDefEqProofs (disch := omega) only [hb, F40, k1, wC, wO, initE, aop, Nat.reduceEqDiff, ↓reduceIte, Nat.reduceAdd, finish, resOf, tupOf, AM.freeze, freeze1, freezeL, closed, nam, namL, if_true, if_false, deref, boxAt, exAt, ldCells, oneL, oneCell, Nat.reduceLeDiff, evL, adopt, rigid, rigidL, trim, Int.reduceEq, Int.reduceMod, Int.reduceDiv, if_pos, if_neg, asI, forall_const, implies_true, chkD, chkO, chkW, effB, reB, vEq, beq_self_eq_true, Nat.reduceSub, Nat.reduceLT, Int.reduceSub, Int.reduceAdd, Int.reduceMul, Int.reduceLT, Int.reduceLE, Int.reduceToNat, optI, aslice, cutSl, cutMs, cutStr, cutOwn]) | ((first | rw [WP_condK] | rw [WP_opsG] | rw [WP_quiG] | rw [WP_dG]); refine And.intro (fun hb => ?_) (fun hb => ?_) <;> (first | have hd := dq1 hb | have hd := dq2 hb | have hd := dq3 hb | have hd := dq4 hb | skip)))
  simp
end Go.Proofs.Ytnlemcfhndjheaa.AM

/- bigsize's streams: Decode. -/
namespace Go.Proofs.Ytnlemcfhndjheaa.AM
open Go
set_option maxRecDepth 100000
set_option maxHeartbeats 4000000
set_option linter.unusedSimpArgs false
set_option linter.unusedVariables false
theorem head3_ok (m0 : Nat) (Q : Res → Prop) (e : Env) (h : Heap) (h25 : getE e 25 = i64 2)
    (hq2 : ∀ e', getE e' 0 = getE e 0 → getE e' 1 = getE e 1 → getE e' 6 = getE e 6 → getE e' 7 = getE e 7 → getE e' 8 = getE e 8 → getE e' 9 = getE e 9 → Q (.exit 2, e', h)) :
    WP Q (axl T [0, 1, 6, 7, 8, 9, 25] false L21_0 m0 e h) := by
  refine WP_roll ?_
  rw [trim_off]
  have hb := trivial
  repeat' (first | (simp -implicitDefEqProofs (disch := omega) only [hb, L21_0, h25, wC, initE, aop, Nat.reduceEqDiff, ↓reduceIte, Nat.reduceAdd, finish, resOf, tupOf, AM.freeze, freeze1, freezeL, closed, nam, namL, if_true, if_false, deref, boxAt, exAt, ldCells, oneL, oneCell, Nat.reduceLeDiff, evL, adopt, rigid, rigidL, trim, Int.reduceEq, Int.reduceMod, Int.reduceDiv, if_pos, if_neg, asI, forall_const, implies_true, chkD, chkO, chkW, effB, reB, vEq, beq_self_eq_true, Nat.reduceSub, Nat.reduceLT, Int.reduceSub, Int.reduceAdd, Int.reduceMul, Int.reduceLT, Int.reduceLE, Int.reduceToNat, optI, aslice, cutSl, cutMs, cutStr, cutOwn, cellsOf, one, elCells, lenOf, beqV, beqVL, strip, stripO, convS]) | ((first | rw [WP_condK] | rw [WP_opsG] | rw [WP_quiG] | rw [WP_dG]); refine And.intro (fun hb => ?_) (fun hb => ?_) <;> (first | have hd := dq1 hb | have hd := dq2 hb | have hd := dq3 hb | have hd := dq4 hb | skip)))
  exact hq2 _ rfl rfl rfl rfl rfl rfl
/-- the second number ahead of a record -/
theorem head2_ok (b : List Int) (accv : AV) (a1 mm : Nat) (x y e2 : Int) (kn : AV) (id m0 : Nat) (keep : List Nat) (hk : keep = [0, 1, 6, 7, 8, 9, 25])
    (hl1 : a1 ≤ b.length) (hB : b.length ≤ 65536) (hn2 : e2 = 0 → a1 + mm ≤ b.length)
    (hc2 : ∀ h, ag T 39 [.slice .none none ((b.drop a1).map u8)] h = some (.tup [u64 y, i64 mm, i64 e2], h))
    (Q : Res → Prop) (e : Env) (h : Heap) (hcell : h[id]? = some (.cells [u64 x, u64 0]))
    (h0 : getE e 0 = .slice .none none (b.map u8)) (h1 : getE e 1 = kn) (h6 : getE e 6 = accv) (h7 : getE e 7 = i64 0) (h8 : getE e 8 = i64 a1) (h9 : getE e 9 = .ptr id 0) (h25 : getE e 25 = i64 1)
    (hq1 : ∀ e' h', getE e' 7 = i64 e2 → e2 ≠ 0 → Q (.exit 0, e', h'))
    (hq2 : ∀ e', e2 = 0 → getE e' 0 = .slice .none none (b.map u8) → getE e' 1 = kn → getE e' 6 = accv → getE e' 7 = i64 0 → getE e' 8 = i64 ((a1 + mm : Nat) : Int) → getE e' 9 = .ptr id 0 → Q (.exit 2, e', h.set id (.cells [u64 x, u64 y]))) :
    WP Q (axl T keep false L21_0 m0 e h) := by
  subst hk
  have hA1 : ((a1 : Int) + (mm : Int)) = ((a1 + mm : Nat) : Int) := (Int.natCast_add a1 mm).symm
  have hidl : id < h.length := (List.getElem?_eq_some_iff.1 hcell).1
  refine WP_roll ?_
  rw [trim_off]
  have hb := trivial
  repeat' (first | (simp -implicitDefEqProofs (disch := omega) only [hb, L21_0, h0, h1, h6, h7, h8, h9, h25, hc2, u8_drop, hA1, hcell, wC, initE, aop, Nat.reduceEqDiff, ↓reduceIte, Nat.reduceAdd, finish, resOf, tupOf, AM.freeze, freeze1, freezeL, closed, nam, namL, if_true, if_false, deref, boxAt, exAt, ldCells, oneL, oneCell, Nat.reduceLeDiff, evL, adopt, rigid, rigidL, trim, Int.reduceEq, Int.reduceMod, Int.reduceDiv, if_pos, if_neg, asI, forall_const, implies_true, chkD, chkO, chkW, effB, reB, vEq, beq_self_eq_true, Nat.reduceSub, Nat.reduceLT, Int.reduceSub, Int.reduceAdd, Int.reduceMul, Int.reduceLT, Int.reduceLE, Int.reduceToNat, optI, aslice, cutSl, cutMs, cutStr, cutOwn, cellsOf, one, elCells, lenOf, beqV, beqVL, strip, stripO, convS]) | ((first | rw [WP_condK] | rw [WP_opsG] | rw [WP_quiG] | rw [WP_dG]); refine And.intro (fun hb => ?_) (fun hb => ?_) <;> (first | have hd := dq1 hb | have hd := dq2 hb | have hd := dq3 hb | have hd := dq4 hb | skip)))
  · exact hq1 _ _ rfl hd
  · refine ⟨0, by omega, ?_⟩
    exact head3_ok m0 Q _ _ rfl fun e' g0 g1 g6 g7 g8 g9 => hq2 e' hd g0 g1 g6 g7 g8 g9
/-- the two numbers ahead of a record -/
theorem head_ok (b : List Int) (acc : List Rc) (a nn mm : Nat) (x y e1 e2 : Int) (kn : AV) (t id m0 : Nat) (keep : List Nat) (hk : keep = [0, 1, 6, 7, 8, 9, 25])
    (hl1 : a ≤ b.length) (hB : b.length ≤ 65536) (hn1 : e1 = 0 → a + nn ≤ b.length) (hn2 : e1 = 0 → e2 = 0 → a + nn + mm ≤ b.length) (hal : acc.length ≤ 64)
    (hc1 : ∀ h, ag T 39 [.slice .none none ((b.drop a).map u8)] h = some (.tup [u64 x, i64 nn, i64 e1], h))
    (hc2 : e1 = 0 → ∀ h, ag T 39 [.slice .none none ((b.drop (a + nn)).map u8)] h = some (.tup [u64 y, i64 mm, i64 e2], h))
    (Q : Res → Prop) (e : Env) (h : Heap) (hcell : h[id]? = some (.cells [u64 0, u64 0]))
    (h0 : getE e 0 = .slice .none none (b.map u8)) (h1 : getE e 1 = kn) (h6 : getE e 6 = .slice (.tok t) (some 2) (acc.map Rc.av)) (h7 : getE e 7 = i64 0) (h8 : getE e 8 = i64 a) (h9 : getE e 9 = .ptr id 0) (h25 : getE e 25 = i64 0)
    (hq1 : ∀ e' h' f, getE e' 7 = i64 f → (e1 ≠ 0 ∧ f = e1 ∨ e1 = 0 ∧ topB acc x = false ∧ f = 11 ∨ e1 = 0 ∧ topB acc x = true ∧ e2 ≠ 0 ∧ f = e2) → Q (.exit 0, e', h'))
    (hq2 : ∀ e', e1 = 0 → topB acc x = true → e2 = 0 → getE e' 0 = .slice .none none (b.map u8) → getE e' 1 = kn → getE e' 6 = .slice (.tok t) (some 2) (acc.map Rc.av) → getE e' 7 = i64 0 → getE e' 8 = i64 ((a + nn + mm : Nat) : Int) → getE e' 9 = .ptr id 0 → Q (.exit 2, e', h.set id (.cells [u64 x, u64 y]))) :
    WP Q (axl T keep false L21_0 m0 e h) := by
  subst hk
  have hA1 : ((a : Int) + (nn : Int)) = ((a + nn : Nat) : Int) := (Int.natCast_add a nn).symm
  have hA2 : (((a + nn : Nat) : Int) + (mm : Int)) = ((a + nn + mm : Nat) : Int) := (Int.natCast_add _ _).symm
  have hidl : id < h.length := (List.getElem?_eq_some_iff.1 hcell).1
  refine WP_roll ?_
  rw [trim_off]
  have htop : topB acc x = true ∨ (topB acc x = false) := by cases topB acc x <;> simp
  by_cases ha0 : acc.length = 0
  · have hT : topB acc x = true := by rw [List.length_eq_zero_iff.1 ha0]; rfl
    have hb := trivial
    repeat' (first | (simp -implicitDefEqProofs (disch := omega) only [hb, L21_0, h0, h1, h6, h7, h8, h9, h25, ha0, hc1, u8_drop, hA1, hcell, wC, initE, aop, Nat.reduceEqDiff, ↓reduceIte, Nat.reduceAdd, finish, resOf, tupOf, AM.freeze, freeze1, freezeL, closed, nam, namL, if_true, if_false, deref, boxAt, exAt, ldCells, oneL, oneCell, Nat.reduceLeDiff, evL, adopt, rigid, rigidL, trim, Int.reduceEq, Int.reduceMod, Int.reduceDiv, if_pos, if_neg, asI, forall_const, implies_true, chkD, chkO, chkW, effB, reB, vEq, beq_self_eq_true, Nat.reduceSub, Nat.reduceLT, Int.reduceSub, Int.reduceAdd, Int.reduceMul, Int.reduceLT, Int.reduceLE, Int.reduceToNat, optI, aslice, cutSl, cutMs, cutStr, cutOwn, cellsOf, one, elCells, lenOf, beqV, beqVL, strip, stripO, convS]) | ((first | rw [WP_condK] | rw [WP_opsG] | rw [WP_quiG] | rw [WP_dG]); refine And.intro (fun hb => ?_) (fun hb => ?_) <;> (first | have hd := dq1 hb | have hd := dq2 hb | have hd := dq3 hb | have hd := dq4 hb | skip)))
    · exact hq1 _ _ _ rfl (.inl ⟨hd, rfl⟩)
    · refine ⟨0, by omega, ?_⟩
      refine head2_ok b (.slice (.tok t) (some 2) (acc.map Rc.av)) (a + nn) mm x y e2 kn id m0 _ rfl (hn1 hd) hB (hn2 hd) (hc2 hd) Q _ _ (List.getElem?_set_self hidl) rfl rfl rfl rfl rfl rfl rfl ?_ ?_
      · exact fun e' h' h7 hh => hq1 e' h' _ h7 (.inr (.inr ⟨hd, hT, hh, rfl⟩))
      · intro e' he2 g0 g1 g6 g7 g8 g9
        rw [List.set_set]
        exact hq2 e' hd hT he2 g0 g1 g6 g7 g8 g9
  · have hT := top_at (acc := acc) (x := x) (by omega)
    have hlast := get_rc (l := acc) (i := acc.length - 1) (by omega)
    have hb := trivial
    repeat' (first | (simp -implicitDefEqProofs (disch := omega) only [hb, L21_0, h0, h1, h6, h7, h8, h9, h25, hlast, hc1, u8_drop, hA1, hcell, wC, initE, aop, Nat.reduceEqDiff, ↓reduceIte, Nat.reduceAdd, finish, resOf, tupOf, AM.freeze, freeze1, freezeL, closed, nam, namL, if_true, if_false, deref, boxAt, exAt, ldCells, oneL, oneCell, Nat.reduceLeDiff, evL, adopt, rigid, rigidL, trim, Int.reduceEq, Int.reduceMod, Int.reduceDiv, if_pos, if_neg, asI, forall_const, implies_true, chkD, chkO, chkW, effB, reB, vEq, beq_self_eq_true, Nat.reduceSub, Nat.reduceLT, Int.reduceSub, Int.reduceAdd, Int.reduceMul, Int.reduceLT, Int.reduceLE, Int.reduceToNat, optI, aslice, cutSl, cutMs, cutStr, cutOwn, cellsOf, one, elCells, lenOf, beqV, beqVL, strip, stripO, convS]) | ((first | rw [WP_condK] | rw [WP_opsG] | rw [WP_quiG] | rw [WP_dG]); refine And.intro (fun hb => ?_) (fun hb => ?_) <;> (first | have hd := dq1 hb | have hd := dq2 hb | have hd := dq3 hb | have hd := dq4 hb | skip)))
    · exact hq1 _ _ _ rfl (.inl ⟨hd, rfl⟩)
    · exact hq1 _ _ _ rfl (.inr (.inl ⟨by assumption, by rw [hT]; exact decide_eq_false (by omega), rfl⟩))
    · rename_i he1 _
      have he1 : e1 = 0 := by assumption
      refine ⟨0, by omega, ?_⟩
      refine head2_ok b (.slice (.tok t) (some 2) (acc.map Rc.av)) (a + nn) mm x y e2 kn id m0 _ rfl (hn1 he1) hB (hn2 he1) (hc2 he1) Q _ _ (List.getElem?_set_self hidl) rfl rfl rfl rfl rfl rfl rfl ?_ ?_
      · exact fun e' h' h7 hh => hq1 e' h' _ h7 (.inr (.inr ⟨he1, by rw [hT]; exact decide_eq_true (by omega), hh, rfl⟩))
      · intro e' he2 g0 g1 g6 g7 g8 g9
        rw [List.set_set]
        exact hq2 e' he1 (by rw [hT]; exact decide_eq_true (by omega)) he2 g0 g1 g6 g7 g8 g9
end Go.Proofs.Ytnlemcfhndjheaa.AM

/- bigsize's streams: Decode. -/
namespace Go.Proofs.Ytnlemcfhndjheaa.AM
open Go
set_option maxRecDepth 100000
set_option maxHeartbeats 4000000
set_option linter.unusedSimpArgs false
set_option linter.unusedVariables false
theorem gh2 {α : Type} {h a b : List α} {t : Nat} (ht : t < h.length) : (h ++ a ++ b)[t]? = h[t]? := by rw [List.append_assoc, get_appl ht]
theorem sh2 {α : Type} {h a b : List α} {t : Nat} {x : α} (ht : t < h.length) : (h ++ a ++ b).set t x = h.set t x ++ a ++ b := by rw [List.append_assoc, set_appl ht, List.append_assoc]
theorem gsl {α : Type} {h : List α} {t : Nat} {x c d : α} : (h.set t x ++ [c] ++ [d])[h.length]? = some c := by
  have := gA (h.set t x) c d
  rwa [List.length_set] at this
theorem dec_okK (K : AV) (b ks : List Int) (hK : ∀ x h, ag T 40 [K, u64 x] h = some (.sc (.bool (decide (x ∈ ks))), h)) (hby : Bytes b) (hB : b.length ≤ 140737488351232) : ∃ v, prun T F21 [.slice .none none (b.map u8), K] = some v ∧ IsDec v (decS ks b) := by
  suffices h : WP (fun v => IsDec v (decS ks b)) (prun T F21 [.slice .none none (b.map u8), K]) by
    obtain ⟨v, h1, h2⟩ := WP_ex h
    exact ⟨v, h1, h2⟩
  refine prun_wp ?_
  have hb := trivial
  repeat' (first | (simp -implicitDefEqProofs (disch := omega) only [hb, F21, wC, initE, aop, Nat.reduceEqDiff, ↓reduceIte, Nat.reduceAdd, finish, resOf, tupOf, AM.freeze, freeze1, freezeL, closed, nam, namL, if_true, if_false, deref, boxAt, exAt, ldCells, oneL, oneCell, Nat.reduceLeDiff, evL, adopt, rigid, rigidL, trim, Int.reduceEq, Int.reduceMod, Int.reduceDiv, if_pos, if_neg, asI, forall_const, implies_true, chkD, chkO, chkW, effB, reB, vEq, beq_self_eq_true, Nat.reduceSub, Nat.reduceLT, Int.reduceSub, Int.reduceAdd, Int.reduceMul, Int.reduceLT, Int.reduceLE, Int.reduceToNat, optI, aslice, cutSl, cutMs, cutStr, cutOwn, cellsOf, one, elCells, lenOf, beqV, beqVL, strip, stripO, convS]) | ((first | rw [WP_condK] | rw [WP_opsG] | rw [WP_quiG] | rw [WP_dG]); refine And.intro (fun hb => ?_) (fun hb => ?_) <;> (first | have hd := dq1 hb | have hd := dq2 hb | have hd := dq3 hb | have hd := dq4 hb | skip)))
  · exact isDec_bad (by decide) (by unfold decS; rw [if_pos (by omega)])
  · refine WP_loop (I := fun k e h => ∃ (a : Nat) (acc : List Rc) (t : Nat), k + a = b.length ∧ acc.length ≤ 64 ∧ getE e 0 = .slice .none none (b.map u8) ∧ getE e 1 = K ∧ getE e 6 = .slice (.tok t) (some 2) (acc.map Rc.av) ∧ getE e 7 = i64 0 ∧ getE e 8 = i64 a ∧ h[t]? = some (.row (some 2) acc.length) ∧ decL ks (64 - acc.length) acc (b.drop a) = decS ks b) ?_ b.length _ _ ⟨0, [], _, rfl, by simp, rfl, rfl, rfl, rfl, rfl, rfl, ?_⟩
    · rintro k e h ⟨a, acc, t, hk, hal, h0, h1, h6, h7, h8, ht, hdec⟩
      rw [trim_off]
      have htl : t < h.length := (List.getElem?_eq_some_iff.1 ht).1
      obtain ⟨x, n, e1, hr1⟩ : ∃ x n e1, readS (b.drop a) = (x, n, e1) := ⟨_, _, _, rfl⟩
      have hs1 := drop_bytes hby a
      have hf1 := readS_fine _ hs1
      have hl1 : (b.drop a).length = b.length - a := List.length_drop
      have hc1 := call_read (b.drop a) hs1 (by omega)
      simp only [rdT, hr1] at hf1 hc1
      obtain ⟨nn, rfl⟩ : ∃ nn : Nat, n = nn := ⟨n.toNat, by omega⟩
      by_cases hs0 : a = b.length
      · subst hs0
        rw [List.drop_length, decL_nil] at hdec
        have hb := trivial
        repeat' (first | (simp -implicitDefEqProofs (disch := omega) only [hb, L21_1, h0, h1, h6, h7, h8, wC, initE, aop, Nat.reduceEqDiff, ↓reduceIte, Nat.reduceAdd, finish, resOf, tupOf, freezeL, closed, nam, namL, if_true, if_false, deref, boxAt, exAt, ldCells, oneL, oneCell, Nat.reduceLeDiff, evL, adopt, rigid, rigidL, trim, Int.reduceEq, Int.reduceMod, Int.reduceDiv, if_pos, if_neg, asI, forall_const, implies_true, chkD, chkO, chkW, effB, reB, vEq, beq_self_eq_true, Nat.reduceSub, Nat.reduceLT, Int.reduceSub, Int.reduceAdd, Int.reduceMul, Int.reduceLT, Int.reduceLE, Int.reduceToNat, optI, aslice, cutSl, cutMs, cutStr, cutOwn, cellsOf, one, elCells, lenOf, beqV, beqVL, strip, stripO, convS]) | ((first | rw [WP_condK] | rw [WP_opsG] | rw [WP_quiG] | rw [WP_dG]); refine And.intro (fun hb => ?_) (fun hb => ?_) <;> (first | have hd := dq1 hb | have hd := dq2 hb | have hd := dq3 hb | have hd := dq4 hb | skip)))
        exact dec_freeze hdec.symm
      · have hsne : b.drop a ≠ [] := by intro hh; have := congrArg List.length hh; simp at this; omega
        obtain ⟨y, m, e2, hr2⟩ : ∃ x n e1, readS (b.drop (a + nn)) = (x, n, e1) := ⟨_, _, _, rfl⟩
        have hs2 := drop_bytes hby (a + nn)
        have hf2 := readS_fine _ hs2
        have hl2 : (b.drop (a + nn)).length = b.length - (a + nn) := List.length_drop
        have hc2 := call_read (b.drop (a + nn)) hs2 (by omega)
        simp only [rdT, hr2] at hf2 hc2
        obtain ⟨mm, rfl⟩ : ∃ mm : Nat, m = mm := ⟨m.toNat, by omega⟩
        obtain ⟨yy, rfl⟩ : ∃ yy : Nat, y = yy := ⟨y.toNat, by omega⟩
        have hA1 : ((a : Int) + (nn : Int)) = ((a + nn : Nat) : Int) := (Int.natCast_add a nn).symm
        have hA2 : (((a + nn : Nat) : Int) + (mm : Int)) = ((a + nn + mm : Nat) : Int) := (Int.natCast_add _ _).symm
        have hA3 : (((a + nn + mm : Nat) : Int) + (yy : Int)) = ((a + nn + mm + yy : Nat) : Int) := (Int.natCast_add _ _).symm
        have htm : x.tmod 2 = x % 2 := Int.tmod_eq_emod_of_nonneg hf1.1.1
        have hh := fun h => hK x h
        have hl3 : (b.drop (a + nn + mm)).length = b.length - (a + nn + mm) := List.length_drop
        by_cases hfull : acc.length = 64
        · rw [hfull, decL_full ks acc _ hsne] at hdec
          have hb := trivial
          repeat' (first | (simp -implicitDefEqProofs (disch := omega) only [hb, L21_1, h0, h1, h6, h7, h8, wC, initE, aop, Nat.reduceEqDiff, ↓reduceIte, Nat.reduceAdd, finish, resOf, tupOf, AM.freeze, freeze1, freezeL, closed, nam, namL, if_true, if_false, deref, boxAt, exAt, ldCells, oneL, oneCell, Nat.reduceLeDiff, evL, adopt, rigid, rigidL, trim, Int.reduceEq, Int.reduceMod, Int.reduceDiv, if_pos, if_neg, asI, forall_const, implies_true, chkD, chkO, chkW, effB, reB, vEq, beq_self_eq_true, Nat.reduceSub, Nat.reduceLT, Int.reduceSub, Int.reduceAdd, Int.reduceMul, Int.reduceLT, Int.reduceLE, Int.reduceToNat, optI, aslice, cutSl, cutMs, cutStr, cutOwn, cellsOf, one, elCells, lenOf, beqV, beqVL, strip, stripO, convS]) | ((first | rw [WP_condK] | rw [WP_opsG] | rw [WP_quiG] | rw [WP_dG]); refine And.intro (fun hb => ?_) (fun hb => ?_) <;> (first | have hd := dq1 hb | have hd := dq2 hb | have hd := dq3 hb | have hd := dq4 hb | skip)))
          exact isDec_bad (by decide) hdec.symm
        · rw [show 64 - acc.length = (64 - (acc.length + 1)) + 1 by omega, decL_step ks _ acc _ hsne x nn e1 yy mm e2 (b.drop (a + nn)) (b.drop (a + nn + mm)) hr1 (by rw [List.drop_drop]; rfl) hr2 (by rw [List.drop_drop]; rfl)] at hdec
          have hfit : fitsB (List.take yy (b.drop (a + nn + mm))).length 1 = true := fits1 (by rw [List.length_take]; omega)
          have hstep : ∀ f, (e1 ≠ 0 ∧ f = e1 ∨ e1 = 0 ∧ topB acc x = false ∧ f = 11 ∨ e1 = 0 ∧ topB acc x = true ∧ e2 ≠ 0 ∧ f = e2) → f ≠ 0 ∧ ([], f) = decS ks b := by
            rintro f (⟨q1, rfl⟩ | ⟨q1, q2, rfl⟩ | ⟨q1, q2, q3, rfl⟩)
            · rw [if_pos q1] at hdec; exact ⟨q1, hdec⟩
            · rw [if_neg (by omega), if_pos q2] at hdec; exact ⟨by decide, hdec⟩
            · rw [if_neg (by omega), if_neg (by rw [q2]; decide), if_pos q3] at hdec; exact ⟨q3, hdec⟩
          have hbl : b.length ≤ 65536 := by omega
          have hb := trivial
          repeat' (first | (simp -implicitDefEqProofs (disch := omega) only [hb, L21_1, h0, h1, h6, h7, h8, wC, initE, aop, Nat.reduceEqDiff, ↓reduceIte, Nat.reduceAdd, finish, resOf, tupOf, AM.freeze, freeze1, freezeL, closed, nam, namL, if_true, if_false, deref, boxAt, exAt, ldCells, oneL, oneCell, Nat.reduceLeDiff, evL, adopt, rigid, rigidL, trim, Int.reduceEq, Int.reduceMod, Int.reduceDiv, if_pos, if_neg, asI, forall_const, implies_true, chkD, chkO, chkW, effB, reB, vEq, beq_self_eq_true, Nat.reduceSub, Nat.reduceLT, Int.reduceSub, Int.reduceAdd, Int.reduceMul, Int.reduceLT, Int.reduceLE, Int.reduceToNat, optI, aslice, cutSl, cutMs, cutStr, cutOwn, cellsOf, one, elCells, lenOf, beqV, beqVL, strip, stripO, convS]) | ((first | rw [WP_condK] | rw [WP_opsG] | rw [WP_quiG] | rw [WP_dG]); refine And.intro (fun hb => ?_) (fun hb => ?_) <;> (first | have hd := dq1 hb | have hd := dq2 hb | have hd := dq3 hb | have hd := dq4 hb | skip)))
          refine head_ok b acc a nn mm x yy e1 e2 K t h.length _ _ rfl (by omega) hbl (by omega) (by omega) hal hc1 (fun _ => hc2) _ _ _ (by rw [get_app0]; rfl) rfl rfl rfl rfl rfl rfl rfl ?_ ?_
          · intro e' h' f g7 hs
            obtain ⟨hf0, hfd⟩ := hstep f hs
            have hb := trivial
            repeat' (first | (simp -implicitDefEqProofs (disch := omega) only [hb, g7, wC, initE, aop, Nat.reduceEqDiff, ↓reduceIte, Nat.reduceAdd, finish, resOf, tupOf, AM.freeze, freeze1, freezeL, closed, nam, namL, if_true, if_false, deref, boxAt, exAt, ldCells, oneL, oneCell, Nat.reduceLeDiff, evL, adopt, rigid, rigidL, trim, Int.reduceEq, Int.reduceMod, Int.reduceDiv, if_pos, if_neg, asI, forall_const, implies_true, chkD, chkO, chkW, effB, reB, vEq, beq_self_eq_true, Nat.reduceSub, Nat.reduceLT, Int.reduceSub, Int.reduceAdd, Int.reduceMul, Int.reduceLT, Int.reduceLE, Int.reduceToNat, optI, aslice, cutSl, cutMs, cutStr, cutOwn, cellsOf, one, elCells, lenOf, beqV, beqVL, strip, stripO, convS]) | ((first | rw [WP_condK] | rw [WP_opsG] | rw [WP_quiG] | rw [WP_dG]); refine And.intro (fun hb => ?_) (fun hb => ?_) <;> (first | have hd := dq1 hb | have hd := dq2 hb | have hd := dq3 hb | have hd := dq4 hb | skip)))
            exact isDec_bad hf0 hfd.symm
          · intro e' q1 q2 q3 g0 g1 g6 g7 g8 g9
            rw [if_neg (by omega), if_neg (by rw [q2]; decide), if_neg (by omega)] at hdec
            rw [set_app0]
            have hval : List.drop (a + nn + mm) (List.take (a + nn + mm + yy) (List.map u8 b)) = (List.take yy (b.drop (a + nn + mm))).map u8 := by
              rw [← List.map_take, ← List.map_drop, List.drop_take, show a + nn + mm + yy - (a + nn + mm) = yy by omega]
            have hcl := fun h => call_clone8 .none (List.take yy (b.drop (a + nn + mm))) h (by rw [List.length_take]; omega)
            have hbv := beqVL_u8 (List.take yy (b.drop (a + nn + mm)))
            have hbb := beqVL_u8 b
            have hb := trivial
            repeat' (first | (simp -implicitDefEqProofs (disch := omega) only [hb, g0, g1, g6, g7, g8, g9, hh, get_app0, get_app, p40, hl3, htm, hA3, hval, hcl, hbv, hbb, Bool.and_self, gA, gh2, sh2, gsl, ht, elemsOf, aappend, setEls, elFits, stripEl, List.replicate_zero, List.replicate_succ, wC, initE, aop, Nat.reduceEqDiff, ↓reduceIte, Nat.reduceAdd, finish, resOf, tupOf, AM.freeze, freeze1, freezeL, closed, nam, namL, if_true, if_false, deref, boxAt, exAt, ldCells, oneL, oneCell, Nat.reduceLeDiff, evL, adopt, rigid, rigidL, trim, Int.reduceEq, Int.reduceMod, Int.reduceDiv, if_pos, if_neg, asI, forall_const, implies_true, chkD, chkO, chkW, effB, reB, vEq, beq_self_eq_true, Nat.reduceSub, Nat.reduceLT, Int.reduceSub, Int.reduceAdd, Int.reduceMul, Int.reduceLT, Int.reduceLE, Int.reduceToNat, optI, aslice, cutSl, cutMs, cutStr, cutOwn, cellsOf, one, elCells, lenOf, beqV, beqVL, strip, stripO, convS]) | ((first | rw [WP_condK] | rw [WP_opsG] | rw [WP_quiG] | rw [WP_dG]); refine And.intro (fun hb => ?_) (fun hb => ?_) <;> (first | have hd := dq1 hb | have hd := dq2 hb | have hd := dq3 hb | have hd := dq4 hb | skip)))
            all_goals first
            | (rw [if_pos (by omega)] at hdec; exact isDec_bad (by decide) hdec.symm)
            | (rw [if_neg (by omega), if_pos ⟨by omega, by assumption⟩] at hdec; exact isDec_bad (by decide) hdec.symm)
            | (refine ⟨b.length - (a + nn + mm + yy), by omega, a + nn + mm + yy, acc ++ [⟨x, List.take yy (b.drop (a + nn + mm))⟩], t, by omega, by rw [List.length_append, List.length_singleton]; omega, by rw [List.map_append]; rfl, rfl, ?_, ?_⟩
               · rw [gs2 htl, List.length_append, List.length_singleton]
               · rw [List.length_append, List.length_singleton]
                 rw [Int.toNat_natCast, List.drop_drop] at hdec
                 first
                 | (rw [if_neg (by omega), if_neg (fun hh => by have := hh.1; omega)] at hdec; exact hdec)
                 | (rw [if_neg (by omega), if_neg (fun hh => hh.2 (by assumption))] at hdec; exact hdec))
    · unfold decS; rw [if_neg (by omega)]; rfl
theorem dec_ok (b ks : List Int) (hby : Bytes b) (hB : b.length ≤ 140737488351232) (hn : ks.length ≤ 140737488351232) : ∃ v, prun T F21 [.slice .none none (b.map u8), .slice .none none (ks.map u64)] = some v ∧ IsDec v (decS ks b) :=
  dec_okK _ b ks (fun x h => call_contains ks x hn h) hby hB
theorem dec_okN (b : List Int) (hby : Bytes b) (hB : b.length ≤ 140737488351232) : ∃ v, prun T F21 [.slice .none none (b.map u8), .nil] = some v ∧ IsDec v (decS [] b) :=
  dec_okK _ b [] contains_nil hby hB
end Go.Proofs.Ytnlemcfhndjheaa.AM

/- bigsize's calls. -/
namespace Go.Proofs.Ytnlemcfhndjheaa.AM
open Go
set_option maxRecDepth 100000
set_option maxHeartbeats 4000000
set_option linter.unusedSimpArgs false
set_option linter.unusedVariables false
theorem closed2 {o : AOwn} {a b : List Int} (ho : stripO o = .none) : closedL ([AV.slice o none (a.map u8), AV.slice .none none (b.map u64)].map strip) = true := by
  have h1 := u8_closed a
  have h2 := u64_closed b
  simp only [List.map_cons, List.map_nil, strip, ho, show stripO .none = .none from rfl, closedL, namL, nam, Bool.and_true, Bool.true_and] at h1 h2 ⊢
  rw [h1, h2]; rfl
theorem call_dec (o : AOwn) (ho : stripO o = .none) (b ks : List Int) (hby : Bytes b) (hB : b.length ≤ 140737488351232) (hn : ks.length ≤ 140737488351232) : ∃ v, IsDec v (decS ks b) ∧ ∀ h, ag T 21 [.slice o none (b.map u8), .slice .none none (ks.map u64)] h = some (Go.Proofs.Ytnlemcfhndjheaa.AM.adopt v h) := by
  obtain ⟨v, hv, hi⟩ := dec_ok b ks hby hB hn
  exact ⟨v, hi, fun h => call_pure (T := T) rfl t21 rfl rfl (closed2 ho) (by simp only [List.map_cons, List.map_nil, strip, ho]; exact hv)⟩
theorem call_rdec (b ks : List Int) (hby : Bytes b) (hB : b.length ≤ 140737488351232) (hn : ks.length ≤ 140737488351232) : ∃ v, IsDec v (decS ks b) ∧ ∀ h, ag T 24 [.slice .none none (b.map u8), .slice .none none (ks.map u64)] h = some (Go.Proofs.Ytnlemcfhndjheaa.AM.adopt v h) := by
  obtain ⟨v, hv, hi⟩ := rdec_ok b ks hby hB hn
  exact ⟨v, hi, fun h => call_pure (T := T) rfl t24 rfl rfl (closed2 rfl) (by simp only [List.map_cons, List.map_nil, strip, stripO]; exact hv)⟩
theorem call_enc (l : List Rc) (hok : ∀ r ∈ l, Rc.ok r) (hv : ∀ r ∈ l, r.v.length ≤ 140737488351232) (hn : l.length ≤ 140737488351232) : ∃ v, IsEnc v (encS l) ∧ ∀ o, stripO o = .none → ∀ h, ag T 14 [.slice o (some 2) (l.map Rc.av)] h = some (Go.Proofs.Ytnlemcfhndjheaa.AM.adopt v h) := by
  obtain ⟨v, hw, hi⟩ := enc_ok l hok hv hn
  refine ⟨v, hi, fun o ho h => call_pure (T := T) rfl t14 rfl rfl ?_ (by simp only [List.map_cons, List.map_nil, strip, ho]; exact hw)⟩
  have h1 := rc_closed l
  simp only [List.map_cons, List.map_nil, strip, ho, closedL, namL, nam, Bool.and_true, Bool.true_and] at h1 ⊢
  exact h1
theorem call_renc (l : List Rc) (hok : ∀ r ∈ l, Rc.ok r) (hv : ∀ r ∈ l, r.v.length ≤ 140737488351232) (hn : l.length ≤ 140737488351232) : ∃ v, IsEnc v (encS l) ∧ ∀ o, stripO o = .none → ∀ h, ag T 28 [.slice o (some 2) (l.map Rc.av)] h = some (Go.Proofs.Ytnlemcfhndjheaa.AM.adopt v h) := by
  obtain ⟨v, hw, hi⟩ := renc_ok l hok hv hn
  refine ⟨v, hi, fun o ho h => call_pure (T := T) rfl t28 rfl rfl ?_ (by simp only [List.map_cons, List.map_nil, strip, ho]; exact hw)⟩
  have h1 := rc_closed l
  simp only [List.map_cons, List.map_nil, strip, ho, closedL, namL, nam, Bool.and_true, Bool.true_and] at h1 ⊢
  exact h1
theorem call_encA (A : List AV) (l : List Rc) (hA : RecsA A l) (hok : ∀ r ∈ l, Rc.ok r) (hv : ∀ r ∈ l, r.v.length ≤ 140737488351232) (hn : l.length ≤ 140737488351232) : ∃ v, IsEnc v (encS l) ∧ ∀ o, stripO o = .none → ∀ h, ag T 14 [.slice o (some 2) A] h = some (Go.Proofs.Ytnlemcfhndjheaa.AM.adopt v h) := by
  obtain ⟨v, hw, hi⟩ := enc_okA A l hA hok hv hn
  refine ⟨v, hi, fun o ho h => call_pure (T := T) rfl t14 rfl rfl ?_ (by simp only [List.map_cons, List.map_nil, strip, ho]; exact hw)⟩
  have h1 := hA.2.1
  simp only [List.map_cons, List.map_nil, strip, ho, closedL, namL, nam, Bool.and_true, Bool.true_and] at h1 ⊢
  exact h1
theorem call_rencA (A : List AV) (l : List Rc) (hA : RecsA A l) (hok : ∀ r ∈ l, Rc.ok r) (hv : ∀ r ∈ l, r.v.length ≤ 140737488351232) (hn : l.length ≤ 140737488351232) : ∃ v, IsEnc v (encS l) ∧ ∀ o, stripO o = .none → ∀ h, ag T 28 [.slice o (some 2) A] h = some (Go.Proofs.Ytnlemcfhndjheaa.AM.adopt v h) := by
  obtain ⟨v, hw, hi⟩ := renc_okA A l hA hok hv hn
  refine ⟨v, hi, fun o ho h => call_pure (T := T) rfl t28 rfl rfl ?_ (by simp only [List.map_cons, List.map_nil, strip, ho]; exact hw)⟩
  have h1 := hA.2.1
  simp only [List.map_cons, List.map_nil, strip, ho, closedL, namL, nam, Bool.and_true, Bool.true_and] at h1 ⊢
  exact h1
theorem call_decN (b : List Int) (hby : Bytes b) (hB : b.length ≤ 140737488351232) : ∃ v, IsDec v (decS [] b) ∧ ∀ h, ag T 21 [.slice .none none (b.map u8), .nil] h = some (Go.Proofs.Ytnlemcfhndjheaa.AM.adopt v h) := by
  obtain ⟨v, hv, hi⟩ := dec_okN b hby hB
  exact ⟨v, hi, fun h => call_pure (T := T) (args := [.slice .none none (b.map u8), .nil]) rfl t21 rfl rfl (by have := u8_closed b; simp only [List.map_cons, List.map_nil, strip, stripO, closedL, namL, nam, Bool.and_true, Bool.true_and] at this ⊢; exact this) hv⟩
theorem call_rdecN (b : List Int) (hby : Bytes b) (hB : b.length ≤ 140737488351232) : ∃ v, IsDec v (decS [] b) ∧ ∀ h, ag T 24 [.slice .none none (b.map u8), .nil] h = some (Go.Proofs.Ytnlemcfhndjheaa.AM.adopt v h) := by
  obtain ⟨v, hv, hi⟩ := rdec_okN b hby hB
  exact ⟨v, hi, fun h => call_pure (T := T) (args := [.slice .none none (b.map u8), .nil]) rfl t24 rfl rfl (by have := u8_closed b; simp only [List.map_cons, List.map_nil, strip, stripO, closedL, namL, nam, Bool.and_true, Bool.true_and] at this ⊢; exact this) hv⟩
theorem ag_any {f : Nat} {F : AFn} {args : List AV} {v : Value} (hx : T.ext f = none) (hf : T.fn f = some F) (hp : F.pure = true) (hl : args.length = F.np) (hm : args.map strip = args) (hc : closedL args = true) (hr : ag T f args [] = some (.sc v, [])) (h : Heap) : ag T f args h = some (.sc v, h) := by
  rw [ag_pure hx hf hp args hl] at hr ⊢
  simp only [pcall, prep, hm, if_pos hc, Option.bind_some, Bool.false_eq_true, if_false, Option.bind_eq_some_iff] at hr ⊢
  obtain ⟨w, h1, h2⟩ := hr
  refine ⟨w, h1, ?_⟩
  unfold adopt at h2 ⊢
  split at h2
  · cases h2
  · cases h2
  · cases h2; rfl
theorem v_le_flat : ∀ {l : List Rc} {r : Rc}, r ∈ l → r.v.length ≤ (flatS l).length
  | q :: l, r, h => by
    have h6 : flatS (q :: l) = recS q ++ flatS l := by unfold flatS; rw [List.flatMap_cons]
    rw [h6, List.length_append]
    rcases List.mem_cons.1 h with rfl | h
    · unfold recS
      simp only [List.length_append]
      omega
    · have := v_le_flat h
      omega
end Go.Proofs.Ytnlemcfhndjheaa.AM

/- bigsize's streams: Find. -/
namespace Go.Proofs.Ytnlemcfhndjheaa.AM
open Go
set_option maxRecDepth 100000
set_option maxHeartbeats 4000000
set_option linter.unusedSimpArgs false
set_option linter.unusedVariables false
theorem ag_wp {T : Tab} {f : Nat} {F : AFn} {args : List AV} {h : Heap} {Q : AV × Heap → Prop} (hx : T.ext f = none) (hf : T.fn f = some F) (hp : F.pure = false) (hl : args.length = F.np) (hq : WP (BQ (fin F.res) Q) (ax T F.body (initE 0 args) h)) : WP Q (ag T f args h) := by
  rw [ag_gen hx hf hp args hl, WP_bind]
  exact hq
def findS (t : Int) (l : List Rc) : Option Rc := l.find? fun r => decide (r.t = t)
theorem findS_hit {l : List Rc} {t : Int} {i : Nat} (hi : i < l.length) (hm : findS t (l.take i) = none) (h : l[i].t = t) : findS t l = some l[i] := by
  have e : findS t (l.take i ++ l[i] :: l.drop (i + 1)) = some l[i] := by
    unfold findS at hm ⊢
    rw [List.find?_append, hm, List.find?_cons_of_pos (by simp [h])]
    rfl
  rwa [← List.drop_eq_getElem_cons hi, List.take_append_drop] at e
theorem findS_miss {l : List Rc} {t : Int} {i : Nat} (hi : i < l.length) (hm : findS t (l.take i) = none) (h : ¬ l[i].t = t) : findS t (l.take (i + 1)) = none := by
  unfold findS at hm ⊢
  rw [List.take_succ_eq_append_getElem hi, List.find?_append, hm]
  simp [h]
theorem k27 (r : Rc) (t : Int) : ag T 42 [.agg [u64 r.t, .slice .none none (r.v.map u8)], .ptr 0 0] [.cells [u64 t]] = some (.bool (decide (r.t = t)), [.cells [u64 t], .cells [u64 r.t, .slice .none none (r.v.map u8)]]) := by
  have hb := beqVL_u8 r.v
  refine WP_eq (ag_wp rfl t42 rfl rfl ?_)
  have hb := trivial
  repeat' (first | (simp -implicitDefEqProofs (disch := omega) only [hb, F42, hb, wC, initE, aop, Nat.reduceEqDiff, ↓reduceIte, Nat.reduceAdd, finish, resOf, tupOf, AM.freeze, freeze1, freezeL, closed, nam, namL, if_true, if_false, deref, boxAt, exAt, ldCells, oneL, oneCell, Nat.reduceLeDiff, evL, adopt, rigid, rigidL, trim, Int.reduceEq, Int.reduceMod, Int.reduceDiv, if_pos, if_neg, asI, forall_const, implies_true, chkD, chkO, chkW, effB, reB, vEq, beq_self_eq_true, Nat.reduceSub, Nat.reduceLT, Int.reduceSub, Int.reduceAdd, Int.reduceMul, Int.reduceLT, Int.reduceLE, Int.reduceToNat, optI, aslice, cutSl, cutMs, cutStr, cutOwn, cellsOf, one, elCells, lenOf, beqV, beqVL, strip, stripO, convS]) | ((first | rw [WP_condK] | rw [WP_opsG] | rw [WP_quiG] | rw [WP_dG]); refine And.intro (fun hb => ?_) (fun hb => ?_) <;> (first | have hd := dq1 hb | have hd := dq2 hb | have hd := dq3 hb | have hd := dq4 hb | skip)))
theorem idxf_ok (l : List Rc) (t : Int) (hn : l.length ≤ 140737488351232) : ∃ (j : Int) (r : Heap), ag T 41 [.slice .none (some 2) (l.map Rc.av), .func (.func 42) [] [.ptr 0 0]] [.cells [u64 t]] = some (i64 j, .cells [u64 t] :: r) ∧ ((∃ (i : Nat) (hi : i < l.length), j = i ∧ findS t l = some l[i]) ∨ (j = -1 ∧ findS t l = none)) := by
  suffices h : WP (fun p => ∃ (j : Int) (r : Heap), p = (i64 j, .cells [u64 t] :: r) ∧ ((∃ (i : Nat) (hi : i < l.length), j = i ∧ findS t l = some l[i]) ∨ (j = -1 ∧ findS t l = none))) (ag T 41 [.slice .none (some 2) (l.map Rc.av), .func (.func 42) [] [.ptr 0 0]] [.cells [u64 t]]) by
    obtain ⟨p, h1, j, r, rfl, h2⟩ := WP_ex h
    exact ⟨j, r, h1, h2⟩
  have hcl := rc_closed l
  refine ag_wp rfl t41 rfl rfl ?_
  simp -implicitDefEqProofs (disch := omega) only [F41, wC, initE, aop, Nat.reduceEqDiff, ↓reduceIte, Nat.reduceAdd, finish, resOf, tupOf, AM.freeze, freeze1, freezeL, closed, nam, namL, if_true, if_false, deref, boxAt, exAt, ldCells, oneL, oneCell, Nat.reduceLeDiff, evL, adopt, rigid, rigidL, trim, Int.reduceEq, Int.reduceMod, Int.reduceDiv, if_pos, if_neg, asI, forall_const, implies_true, chkD, chkO, chkW, effB, reB, vEq, beq_self_eq_true, Nat.reduceSub, Nat.reduceLT, Int.reduceSub, Int.reduceAdd, Int.reduceMul, Int.reduceLT, Int.reduceLE, Int.reduceToNat, optI, aslice, cutSl, cutMs, cutStr, cutOwn, cellsOf, one, elCells, lenOf, beqV, beqVL, strip, stripO, convS]
  refine WP_loop (I := fun k e h => ∃ (i : Nat) (r : Heap), k + i = l.length ∧ h = .cells [u64 t] :: r ∧ getE e 0 = .slice .none (some 2) (l.map Rc.av) ∧ getE e 1 = .func (.func 42) [] [.ptr 0 0] ∧ getE e 7 = i64 l.length ∧ getE e 8 = i64 i ∧ findS t (l.take i) = none) ?_ l.length _ _ ⟨0, [], by omega, rfl, rfl, rfl, rfl, rfl, rfl⟩
  rintro k e h ⟨i, r, hk, rfl, h0, h1, h7, h8, hm⟩
  have hbl : below 1 (.slice .none (some 2) (l.map Rc.av)) = true := closed_below' 1 _ (by simp only [closed, nam, Bool.true_and]; exact hcl)
  rw [trim_take (by simp only [List.all_cons, List.all_nil, h0, h1, h7, h8, hbl]; rfl) (by simp [belowO, namL, nam])]
  by_cases hlt : i < l.length
  · have hg := get_rc hlt
    have hk27 := k27 l[i] t
    have hbv := beqVL_u8 l[i].v
    have hb := trivial
    repeat' (first | (simp -implicitDefEqProofs (disch := omega) only [hb, L41_0, h0, h1, h7, h8, hg, hk27, hbv, wC, initE, aop, Nat.reduceEqDiff, ↓reduceIte, Nat.reduceAdd, finish, resOf, tupOf, AM.freeze, freeze1, freezeL, closed, nam, namL, if_true, if_false, deref, boxAt, exAt, ldCells, oneL, oneCell, Nat.reduceLeDiff, evL, adopt, rigid, rigidL, trim, Int.reduceEq, Int.reduceMod, Int.reduceDiv, if_pos, if_neg, asI, forall_const, implies_true, chkD, chkO, chkW, effB, reB, vEq, beq_self_eq_true, Nat.reduceSub, Nat.reduceLT, Int.reduceSub, Int.reduceAdd, Int.reduceMul, Int.reduceLT, Int.reduceLE, Int.reduceToNat, optI, aslice, cutSl, cutMs, cutStr, cutOwn, cellsOf, one, elCells, lenOf, beqV, beqVL, strip, stripO, convS]) | ((first | rw [WP_condK] | rw [WP_opsG] | rw [WP_quiG] | rw [WP_dG]); refine And.intro (fun hb => ?_) (fun hb => ?_) <;> (first | have hd := dq1 hb | have hd := dq2 hb | have hd := dq3 hb | have hd := dq4 hb | skip)))
    · exact ⟨i, _, rfl, .inl ⟨i, hlt, rfl, findS_hit hlt hm hd⟩⟩
    · exact ⟨k - 1, by omega, i + 1, _, by omega, rfl, rfl, findS_miss hlt hm hd⟩
  · have hi : i = l.length := by omega
    subst hi
    rw [List.take_length] at hm
    have hb := trivial
    repeat' (first | (simp -implicitDefEqProofs (disch := omega) only [hb, L41_0, h0, h1, h7, h8, wC, initE, aop, Nat.reduceEqDiff, ↓reduceIte, Nat.reduceAdd, finish, resOf, tupOf, AM.freeze, freeze1, freezeL, closed, nam, namL, if_true, if_false, deref, boxAt, exAt, ldCells, oneL, oneCell, Nat.reduceLeDiff, evL, adopt, rigid, rigidL, trim, Int.reduceEq, Int.reduceMod, Int.reduceDiv, if_pos, if_neg, asI, forall_const, implies_true, chkD, chkO, chkW, effB, reB, vEq, beq_self_eq_true, Nat.reduceSub, Nat.reduceLT, Int.reduceSub, Int.reduceAdd, Int.reduceMul, Int.reduceLT, Int.reduceLE, Int.reduceToNat, optI, aslice, cutSl, cutMs, cutStr, cutOwn, cellsOf, one, elCells, lenOf, beqV, beqVL, strip, stripO, convS]) | ((first | rw [WP_condK] | rw [WP_opsG] | rw [WP_quiG] | rw [WP_dG]); refine And.intro (fun hb => ?_) (fun hb => ?_) <;> (first | have hd := dq1 hb | have hd := dq2 hb | have hd := dq3 hb | have hd := dq4 hb | skip)))
    exact ⟨-1, _, rfl, .inr ⟨rfl, hm⟩⟩
def findT (t : Int) (l : List Rc) : AV := match findS t l with
  | none => .tup [.nil, .bool false]
  | some r => .tup [.slice .fresh none (r.v.map u8), .bool true]
theorem findS_mem {l : List Rc} {t : Int} {r : Rc} (h : findS t l = some r) : r ∈ l ∧ r.t = t := by
  unfold findS at h
  exact ⟨List.mem_of_find?_eq_some h, by simpa using List.find?_some h⟩
theorem find_ok (l : List Rc) (t : Int) (hv : ∀ r ∈ l, r.v.length ≤ 140737488351232) (hn : l.length ≤ 140737488351232) : prun T F22 [.slice .none (some 2) (l.map Rc.av), u64 t] = some (findT t l) := by
  obtain ⟨j, r, h1, h2⟩ := idxf_ok l t hn
  refine WP_eq (prun_wp ?_)
  rcases h2 with ⟨i, hi, rfl, hf⟩ | ⟨rfl, hf⟩
  · have hg := get_rc hi
    have hc := fun h => call_clone8 .none l[i].v h (by have := hv l[i] (List.getElem_mem hi); omega)
    have hb := beqVL_u8 l[i].v
    have hcl : namL (fun _ => false) (l[i].v.map u8) = true := u8_closed l[i].v
    simp only [findT, hf]
    have hb := trivial
    repeat' (first | (simp -implicitDefEqProofs (disch := omega) only [hb, F22, h1, hg, hc, hb, get_app0, wC, initE, aop, Nat.reduceEqDiff, ↓reduceIte, Nat.reduceAdd, finish, resOf, tupOf, AM.freeze, freeze1, freezeL, closed, nam, namL, if_true, if_false, deref, boxAt, exAt, ldCells, oneL, oneCell, Nat.reduceLeDiff, evL, adopt, rigid, rigidL, trim, Int.reduceEq, Int.reduceMod, Int.reduceDiv, if_pos, if_neg, asI, forall_const, implies_true, chkD, chkO, chkW, effB, reB, vEq, beq_self_eq_true, Nat.reduceSub, Nat.reduceLT, Int.reduceSub, Int.reduceAdd, Int.reduceMul, Int.reduceLT, Int.reduceLE, Int.reduceToNat, optI, aslice, cutSl, cutMs, cutStr, cutOwn, cellsOf, one, elCells, lenOf, beqV, beqVL, strip, stripO, convS]) | ((first | rw [WP_condK] | rw [WP_opsG] | rw [WP_quiG] | rw [WP_dG]); refine And.intro (fun hb => ?_) (fun hb => ?_) <;> (first | have hd := dq1 hb | have hd := dq2 hb | have hd := dq3 hb | have hd := dq4 hb | skip)))
    all_goals simp [freeze, freeze1, freezeL, hcl, closed, nam, WP, get_app0]
  · simp only [findT, hf]
    have hb := trivial
    repeat' (first | (simp -implicitDefEqProofs (disch := omega) only [hb, F22, h1, wC, initE, aop, Nat.reduceEqDiff, ↓reduceIte, Nat.reduceAdd, finish, resOf, tupOf, AM.freeze, freeze1, freezeL, closed, nam, namL, if_true, if_false, deref, boxAt, exAt, ldCells, oneL, oneCell, Nat.reduceLeDiff, evL, adopt, rigid, rigidL, trim, Int.reduceEq, Int.reduceMod, Int.reduceDiv, if_pos, if_neg, asI, forall_const, implies_true, chkD, chkO, chkW, effB, reB, vEq, beq_self_eq_true, Nat.reduceSub, Nat.reduceLT, Int.reduceSub, Int.reduceAdd, Int.reduceMul, Int.reduceLT, Int.reduceLE, Int.reduceToNat, optI, aslice, cutSl, cutMs, cutStr, cutOwn, cellsOf, one, elCells, lenOf, beqV, beqVL, strip, stripO, convS]) | ((first | rw [WP_condK] | rw [WP_opsG] | rw [WP_quiG] | rw [WP_dG]); refine And.intro (fun hb => ?_) (fun hb => ?_) <;> (first | have hd := dq1 hb | have hd := dq2 hb | have hd := dq3 hb | have hd := dq4 hb | skip)))
end Go.Proofs.Ytnlemcfhndjheaa.AM

/- wire: messages as plain values. -/
namespace Go.Proofs.Ytnlemcfhndjheaa.AM
open Go
set_option maxRecDepth 100000
set_option maxHeartbeats 4000000
set_option linter.unusedSimpArgs false
set_option linter.unusedVariables false
abbrev H32 := {l : List Int // l.length = 32}
def zero32 : H32 := ⟨List.replicate 32 0, by simp⟩
/-- a message -/
@[ext] structure Pm where
  k : Int
  c : Int
  i : Int
  a : Int
  e : Int
  h : H32
  o : List Int
  s : H32
  p : H32
  t : H32
  n : Int
  d : Int
  r : List Int
  deriving DecidableEq
def Pm.zero : Pm := ⟨0, 0, 0, 0, 0, zero32, [], zero32, zero32, zero32, 0, 0, []⟩
/-- a message's cells; its texts may be made in several ways -/
def msC (m : Pm) (vo vr : AV) : List AV := i64 m.k :: i64 m.c :: i64 m.i :: i64 m.a :: i64 m.e :: (m.h.1.map u8 ++ (vo :: (m.s.1.map u8 ++ (m.p.1.map u8 ++ (m.t.1.map u8 ++ [i64 m.n, i64 m.d, vr])))))
theorem l32 (x : H32) : (x.1.map u8).length = 32 := by rw [List.length_map]; exact x.2
theorem hg32 (x : H32) (r : List AV) (j : Nat) : (x.1.map u8 ++ r)[32 + j]? = r[j]? := by rw [List.getElem?_append_right (by rw [l32]; omega), l32]; congr 1; omega
theorem hd32 (x : H32) (r : List AV) (j : Nat) : (x.1.map u8 ++ r).drop (32 + j) = r.drop j := by rw [List.drop_append, List.drop_eq_nil_of_le (by rw [l32]; omega), l32, List.nil_append]; congr 1; omega
theorem ht32 (x : H32) (r : List AV) : (x.1.map u8 ++ r).take 32 = x.1.map u8 := List.take_left' (l32 x)
theorem ht32' (x : H32) (r : List AV) (j : Nat) : (x.1.map u8 ++ r).take (32 + j) = x.1.map u8 ++ r.take j := by rw [List.take_append, l32, List.take_of_length_le (by rw [l32]; omega)]; congr 2; omega
theorem hs32 (x : H32) (r : List AV) (j : Nat) (v : AV) : (x.1.map u8 ++ r).set (32 + j) v = x.1.map u8 ++ r.set j v := by rw [List.set_append_right _ _ (by rw [l32]; omega), l32]; congr 2; omega
theorem ms_len (m : Pm) (vo vr : AV) : (msC m vo vr).length = 137 := by simp only [msC, List.length_cons, List.length_append, l32, List.length_nil]
theorem mg0 (m : Pm) (vo vr : AV) : (msC m vo vr)[0]? = some (i64 m.k) := rfl
theorem mg1 (m : Pm) (vo vr : AV) : (msC m vo vr)[1]? = some (i64 m.c) := rfl
theorem mg2 (m : Pm) (vo vr : AV) : (msC m vo vr)[2]? = some (i64 m.i) := rfl
theorem mg3 (m : Pm) (vo vr : AV) : (msC m vo vr)[3]? = some (i64 m.a) := rfl
theorem mg4 (m : Pm) (vo vr : AV) : (msC m vo vr)[4]? = some (i64 m.e) := rfl
theorem mg37 (m : Pm) (vo vr : AV) : (msC m vo vr)[37]? = some vo := by
  show (m.h.1.map u8 ++ (vo :: (m.s.1.map u8 ++ (m.p.1.map u8 ++ (m.t.1.map u8 ++ [i64 m.n, i64 m.d, vr])))))[32 + 0]? = _
  rw [hg32]; rfl
theorem mg134 (m : Pm) (vo vr : AV) : (msC m vo vr)[134]? = some (i64 m.n) := (hg32 m.h _ 97).trans ((hg32 m.s _ 64).trans ((hg32 m.p _ 32).trans (hg32 m.t _ 0)))
theorem mg135 (m : Pm) (vo vr : AV) : (msC m vo vr)[135]? = some (i64 m.d) := (hg32 m.h _ 98).trans ((hg32 m.s _ 65).trans ((hg32 m.p _ 33).trans (hg32 m.t _ 1)))
theorem mg136 (m : Pm) (vo vr : AV) : (msC m vo vr)[136]? = some (vr) := (hg32 m.h _ 99).trans ((hg32 m.s _ 66).trans ((hg32 m.p _ 34).trans (hg32 m.t _ 2)))
theorem mt5 (m : Pm) (vo vr : AV) : ((msC m vo vr).drop 5).take 32 = m.h.1.map u8 := ht32 m.h _
theorem mset0 (m : Pm) (vo vr : AV) (x : Int) : (msC m vo vr).set 0 (i64 x) = msC { m with k := x } vo vr := rfl
theorem mset1 (m : Pm) (vo vr : AV) (x : Int) : (msC m vo vr).set 1 (i64 x) = msC { m with c := x } vo vr := rfl
theorem mset2 (m : Pm) (vo vr : AV) (x : Int) : (msC m vo vr).set 2 (i64 x) = msC { m with i := x } vo vr := rfl
theorem mset3 (m : Pm) (vo vr : AV) (x : Int) : (msC m vo vr).set 3 (i64 x) = msC { m with a := x } vo vr := rfl
theorem mset4 (m : Pm) (vo vr : AV) (x : Int) : (msC m vo vr).set 4 (i64 x) = msC { m with e := x } vo vr := rfl
theorem mset37 (m : Pm) (vo vr : AV) (v : AV) : (msC m vo vr).set 37 v = msC m v vr := by
  show i64 m.k :: i64 m.c :: i64 m.i :: i64 m.a :: i64 m.e :: (m.h.1.map u8 ++ (vo :: (m.s.1.map u8 ++ (m.p.1.map u8 ++ (m.t.1.map u8 ++ [i64 m.n, i64 m.d, vr]))))).set (32 + 0) v = _
  rw [hs32]; rfl
theorem mset134 (m : Pm) (vo vr : AV) (x : Int) : (msC m vo vr).set 134 (i64 x) = msC { m with n := x } vo vr := by
  have e1 := hs32 m.t [i64 m.n, i64 m.d, vr] 0 (i64 x)
  have e2 := (hs32 m.p (m.t.1.map u8 ++ [i64 m.n, i64 m.d, vr]) 32 (i64 x)).trans (congrArg _ e1)
  have e3 := (hs32 m.s (m.p.1.map u8 ++ (m.t.1.map u8 ++ [i64 m.n, i64 m.d, vr])) 64 (i64 x)).trans (congrArg _ e2)
  have e4 := (hs32 m.h (vo :: (m.s.1.map u8 ++ (m.p.1.map u8 ++ (m.t.1.map u8 ++ [i64 m.n, i64 m.d, vr])))) 97 (i64 x)).trans (congrArg (fun z => m.h.1.map u8 ++ vo :: z) e3)
  exact congrArg (fun z => i64 m.k :: i64 m.c :: i64 m.i :: i64 m.a :: i64 m.e :: z) e4
theorem mset135 (m : Pm) (vo vr : AV) (x : Int) : (msC m vo vr).set 135 (i64 x) = msC { m with d := x } vo vr := by
  have e1 := hs32 m.t [i64 m.n, i64 m.d, vr] 1 (i64 x)
  have e2 := (hs32 m.p (m.t.1.map u8 ++ [i64 m.n, i64 m.d, vr]) 33 (i64 x)).trans (congrArg _ e1)
  have e3 := (hs32 m.s (m.p.1.map u8 ++ (m.t.1.map u8 ++ [i64 m.n, i64 m.d, vr])) 65 (i64 x)).trans (congrArg _ e2)
  have e4 := (hs32 m.h (vo :: (m.s.1.map u8 ++ (m.p.1.map u8 ++ (m.t.1.map u8 ++ [i64 m.n, i64 m.d, vr])))) 98 (i64 x)).trans (congrArg (fun z => m.h.1.map u8 ++ vo :: z) e3)
  exact congrArg (fun z => i64 m.k :: i64 m.c :: i64 m.i :: i64 m.a :: i64 m.e :: z) e4
theorem mset136 (m : Pm) (vo vr : AV) (v : AV) : (msC m vo vr).set 136 (v) = msC m vo v := by
  have e1 := hs32 m.t [i64 m.n, i64 m.d, vr] 2 v
  have e2 := (hs32 m.p (m.t.1.map u8 ++ [i64 m.n, i64 m.d, vr]) 34 v).trans (congrArg _ e1)
  have e3 := (hs32 m.s (m.p.1.map u8 ++ (m.t.1.map u8 ++ [i64 m.n, i64 m.d, vr])) 66 v).trans (congrArg _ e2)
  have e4 := (hs32 m.h (vo :: (m.s.1.map u8 ++ (m.p.1.map u8 ++ (m.t.1.map u8 ++ [i64 m.n, i64 m.d, vr])))) 99 v).trans (congrArg (fun z => m.h.1.map u8 ++ vo :: z) e3)
  exact congrArg (fun z => i64 m.k :: i64 m.c :: i64 m.i :: i64 m.a :: i64 m.e :: z) e4
theorem spl {cs xs : List AV} {o : Nat} (h : o + xs.length ≤ cs.length) : splice cs o xs = cs.take o ++ (xs ++ cs.drop (o + xs.length)) := by rw [← splice_eq h, setAt_sp h]
theorem md38 (m : Pm) (vo vr : AV) : (msC m vo vr).drop 38 = (m.s.1.map u8 ++ (m.p.1.map u8 ++ (m.t.1.map u8 ++ [i64 m.n, i64 m.d, vr]))) := hd32 m.h (vo :: (m.s.1.map u8 ++ (m.p.1.map u8 ++ (m.t.1.map u8 ++ [i64 m.n, i64 m.d, vr])))) 1
theorem md70 (m : Pm) (vo vr : AV) : (msC m vo vr).drop 70 = (m.p.1.map u8 ++ (m.t.1.map u8 ++ [i64 m.n, i64 m.d, vr])) := by
  have h := congrArg (List.drop 32) (md38 m vo vr)
  rw [List.drop_drop] at h
  exact h.trans (hd32 m.s (m.p.1.map u8 ++ (m.t.1.map u8 ++ [i64 m.n, i64 m.d, vr])) 0)
theorem md102 (m : Pm) (vo vr : AV) : (msC m vo vr).drop 102 = (m.t.1.map u8 ++ [i64 m.n, i64 m.d, vr]) := by
  have h := congrArg (List.drop 32) (md70 m vo vr)
  rw [List.drop_drop] at h
  exact h.trans (hd32 m.p (m.t.1.map u8 ++ [i64 m.n, i64 m.d, vr]) 0)
theorem md134 (m : Pm) (vo vr : AV) : (msC m vo vr).drop 134 = [i64 m.n, i64 m.d, vr] := by
  have h := congrArg (List.drop 32) (md102 m vo vr)
  rw [List.drop_drop] at h
  exact h.trans (hd32 m.t [i64 m.n, i64 m.d, vr] 0)
theorem md37 (m : Pm) (vo vr : AV) : (msC m vo vr).drop 37 = vo :: (m.s.1.map u8 ++ (m.p.1.map u8 ++ (m.t.1.map u8 ++ [i64 m.n, i64 m.d, vr]))) := hd32 m.h (vo :: (m.s.1.map u8 ++ (m.p.1.map u8 ++ (m.t.1.map u8 ++ [i64 m.n, i64 m.d, vr])))) 0
theorem mt38 (m : Pm) (vo vr : AV) : ((msC m vo vr).drop 38).take 32 = m.s.1.map u8 := by rw [md38]; exact ht32 m.s _
theorem mt70 (m : Pm) (vo vr : AV) : ((msC m vo vr).drop 70).take 32 = m.p.1.map u8 := by rw [md70]; exact ht32 m.p _
theorem mt102 (m : Pm) (vo vr : AV) : ((msC m vo vr).drop 102).take 32 = m.t.1.map u8 := by rw [md102]; exact ht32 m.t _
theorem mk38 (m : Pm) (vo vr : AV) : (msC m vo vr).take 38 = i64 m.k :: i64 m.c :: i64 m.i :: i64 m.a :: i64 m.e :: (m.h.1.map u8 ++ [vo]) := congrArg (fun z => i64 m.k :: i64 m.c :: i64 m.i :: i64 m.a :: i64 m.e :: z) (ht32' m.h (vo :: (m.s.1.map u8 ++ (m.p.1.map u8 ++ (m.t.1.map u8 ++ [i64 m.n, i64 m.d, vr])))) 1)
theorem mk70 (m : Pm) (vo vr : AV) : (msC m vo vr).take 70 = i64 m.k :: i64 m.c :: i64 m.i :: i64 m.a :: i64 m.e :: (m.h.1.map u8 ++ [vo]) ++ m.s.1.map u8 := by rw [show 70 = 38 + 32 from rfl, List.take_add, mk38, mt38]
theorem mk102 (m : Pm) (vo vr : AV) : (msC m vo vr).take 102 = i64 m.k :: i64 m.c :: i64 m.i :: i64 m.a :: i64 m.e :: (m.h.1.map u8 ++ [vo]) ++ m.s.1.map u8 ++ m.p.1.map u8 := by rw [show 102 = 70 + 32 from rfl, List.take_add, mk70, mt70]
theorem msp5 (m : Pm) (vo vr : AV) (x : H32) : splice (msC m vo vr) 5 (x.1.map u8) = msC { m with h := x } vo vr := by
  rw [spl (by rw [l32, ms_len]; omega), l32, md37]; rfl
theorem msp38 (m : Pm) (vo vr : AV) (x : H32) : splice (msC m vo vr) 38 (x.1.map u8) = msC { m with s := x } vo vr := by
  rw [spl (by rw [l32, ms_len]; omega), l32, md70, mk38]
  simp only [msC, List.append_assoc, List.cons_append, List.nil_append]
theorem msp70 (m : Pm) (vo vr : AV) (x : H32) : splice (msC m vo vr) 70 (x.1.map u8) = msC { m with p := x } vo vr := by
  rw [spl (by rw [l32, ms_len]; omega), l32, md102, mk70]
  simp only [msC, List.append_assoc, List.cons_append, List.nil_append]
theorem msp102 (m : Pm) (vo vr : AV) (x : H32) : splice (msC m vo vr) 102 (x.1.map u8) = msC { m with t := x } vo vr := by
  rw [spl (by rw [l32, ms_len]; omega), l32, md134, mk102]
  simp only [msC, List.append_assoc, List.cons_append, List.nil_append]
theorem msp0 (m m' : Pm) (vo vr vo' vr' : AV) : splice (msC m vo vr) 0 (msC m' vo' vr') = msC m' vo' vr' := by
  rw [spl (by rw [ms_len, ms_len]; omega), ms_len, List.drop_eq_nil_of_le (by rw [ms_len]; omega), List.append_nil]; rfl
theorem msp32 (x y : H32) : splice (x.1.map u8) 0 (y.1.map u8) = y.1.map u8 := by
  rw [spl (by rw [l32, l32]; omega), l32, List.drop_eq_nil_of_le (by rw [l32]; omega), List.append_nil]; rfl
theorem mtk (m : Pm) (vo vr : AV) : (msC m vo vr).take 137 = msC m vo vr := List.take_of_length_le (by rw [ms_len]; omega)
theorem mtk32 (x : H32) : (x.1.map u8).take 32 = x.1.map u8 := List.take_of_length_le (by rw [l32]; omega)
theorem z137 : ([(.int .i64 0), (.int .i64 0), (.int .i64 0), (.int .i64 0), (.int .i64 0), (.int .u8 0), (.int .u8 0), (.int .u8 0), (.int .u8 0), (.int .u8 0), (.int .u8 0), (.int .u8 0), (.int .u8 0), (.int .u8 0), (.int .u8 0), (.int .u8 0), (.int .u8 0), (.int .u8 0), (.int .u8 0), (.int .u8 0), (.int .u8 0), (.int .u8 0), (.int .u8 0), (.int .u8 0), (.int .u8 0), (.int .u8 0), (.int .u8 0), (.int .u8 0), (.int .u8 0), (.int .u8 0), (.int .u8 0), (.int .u8 0), (.int .u8 0), (.int .u8 0), (.int .u8 0), (.int .u8 0), (.int .u8 0), .nil, (.int .u8 0), (.int .u8 0), (.int .u8 0), (.int .u8 0), (.int .u8 0), (.int .u8 0), (.int .u8 0), (.int .u8 0), (.int .u8 0), (.int .u8 0), (.int .u8 0), (.int .u8 0), (.int .u8 0), (.int .u8 0), (.int .u8 0), (.int .u8 0), (.int .u8 0), (.int .u8 0), (.int .u8 0), (.int .u8 0), (.int .u8 0), (.int .u8 0), (.int .u8 0), (.int .u8 0), (.int .u8 0), (.int .u8 0), (.int .u8 0), (.int .u8 0), (.int .u8 0), (.int .u8 0), (.int .u8 0), (.int .u8 0), (.int .u8 0), (.int .u8 0), (.int .u8 0), (.int .u8 0), (.int .u8 0), (.int .u8 0), (.int .u8 0), (.int .u8 0), (.int .u8 0), (.int .u8 0), (.int .u8 0), (.int .u8 0), (.int .u8 0), (.int .u8 0), (.int .u8 0), (.int .u8 0), (.int .u8 0), (.int .u8 0), (.int .u8 0), (.int .u8 0), (.int .u8 0), (.int .u8 0), (.int .u8 0), (.int .u8 0), (.int .u8 0), (.int .u8 0), (.int .u8 0), (.int .u8 0), (.int .u8 0), (.int .u8 0), (.int .u8 0), (.int .u8 0), (.int .u8 0), (.int .u8 0), (.int .u8 0), (.int .u8 0), (.int .u8 0), (.int .u8 0), (.int .u8 0), (.int .u8 0), (.int .u8 0), (.int .u8 0), (.int .u8 0), (.int .u8 0), (.int .u8 0), (.int .u8 0), (.int .u8 0), (.int .u8 0), (.int .u8 0), (.int .u8 0), (.int .u8 0), (.int .u8 0), (.int .u8 0), (.int .u8 0), (.int .u8 0), (.int .u8 0), (.int .u8 0), (.int .u8 0), (.int .u8 0), (.int .u8 0), (.int .u8 0), (.int .u8 0), (.int .u8 0), (.int .u8 0), (.int .i64 0), (.int .i64 0), .nil] : List AV) = msC Pm.zero .nil .nil := rfl
theorem z32 : ([(.int .u8 0), (.int .u8 0), (.int .u8 0), (.int .u8 0), (.int .u8 0), (.int .u8 0), (.int .u8 0), (.int .u8 0), (.int .u8 0), (.int .u8 0), (.int .u8 0), (.int .u8 0), (.int .u8 0), (.int .u8 0), (.int .u8 0), (.int .u8 0), (.int .u8 0), (.int .u8 0), (.int .u8 0), (.int .u8 0), (.int .u8 0), (.int .u8 0), (.int .u8 0), (.int .u8 0), (.int .u8 0), (.int .u8 0), (.int .u8 0), (.int .u8 0), (.int .u8 0), (.int .u8 0), (.int .u8 0), (.int .u8 0)] : List AV) = zero32.1.map u8 := rfl
theorem namL_app {p : Nat → Bool} : ∀ (a b : List AV), namL p (a ++ b) = (namL p a && namL p b)
  | [], b => by simp [namL]
  | x :: a, b => by simp only [List.cons_append, namL, namL_app a b, Bool.and_assoc]
theorem oneL_app : ∀ (a b : List AV), oneL (a ++ b) = (oneL a && oneL b)
  | [], b => by simp [oneL]
  | x :: a, b => by simp only [List.cons_append, oneL, oneL_app a b, Bool.and_assoc]
theorem oneL_u8 : ∀ (l : List Int), oneL (l.map u8) = true
  | [] => rfl
  | x :: l => by simp only [List.map_cons, oneL, oneL_u8 l, Bool.and_true]; rfl
theorem strip_u8 : ∀ (l : List Int), (l.map u8).map strip = l.map u8
  | [] => rfl
  | x :: l => by simp only [List.map_cons, strip_u8 l]; rfl
theorem namL_u8 (p : Nat → Bool) : ∀ (l : List Int), namL p (l.map u8) = true
  | [] => rfl
  | x :: l => by simp only [List.map_cons, namL, nam, namL_u8 p l, Bool.and_true]
theorem ms_nam (p : Nat → Bool) (m : Pm) (vo vr : AV) : namL p (msC m vo vr) = (nam p vo && nam p vr) := by
  simp only [msC, namL, namL_app, namL_u8, nam, Bool.true_and, Bool.and_true]
theorem ms_one (m : Pm) (vo vr : AV) : oneL (msC m vo vr) = (one vo && one vr) := by
  simp only [msC, oneL, oneL_app, oneL_u8, one_int, Bool.true_and, Bool.and_true]
theorem ms_strip (m : Pm) (vo vr : AV) : (msC m vo vr).map strip = msC m (strip vo) (strip vr) := by
  simp only [msC, List.map_cons, List.map_append, strip_u8, strip_sc, List.map_nil]
theorem beqVL_app : ∀ (a b : List AV), beqVL a a = true → beqVL b b = true → beqVL (a ++ b) (a ++ b) = true
  | [], b, _, h => h
  | x :: a, b, h, k => by
    simp only [List.cons_append, beqVL, Bool.and_eq_true] at h ⊢
    exact ⟨h.1, beqVL_app a b h.2 k⟩
theorem beq_i64 (x : Int) : beqV (i64 x) (i64 x) = true := by simp [beqV, vEq]
theorem ms_beq (m : Pm) (vo vr : AV) (ho : beqV vo vo = true) (hr : beqV vr vr = true) : beqVL (msC m vo vr) (msC m vo vr) = true := by
  simp only [msC, beqVL, beq_i64, Bool.true_and]
  refine beqVL_app _ _ (beqVL_u8 _) ?_
  simp only [beqVL, ho, Bool.true_and]
  refine beqVL_app _ _ (beqVL_u8 _) (beqVL_app _ _ (beqVL_u8 _) (beqVL_app _ _ (beqVL_u8 _) ?_))
  simp only [beqVL, beq_i64, hr, Bool.and_self]
theorem eqC : ∀ (a b : List Int), a.length = b.length → eqCells (a.map u8) (b.map u8) = some (decide (a = b))
  | [], [], _ => rfl
  | x :: a, y :: b, h => by
    simp only [List.map_cons, eqCells, if_true, eqC a b (by simpa using h), Option.map_some, Option.some.injEq]
    by_cases hx : x = y <;> by_cases ha : a = b <;> simp [hx, ha]
theorem eqC32 (x y : H32) : eqCells (x.1.map u8) (y.1.map u8) = some (decide (x = y)) := by
  rw [eqC _ _ (by rw [x.2, y.2])]
  congr 1
  by_cases h : x = y
  · simp [h]
  · have : ¬ x.1 = y.1 := fun hh => h (Subtype.ext hh)
    simp [h, this]
set_option linter.defProp false in
def wG := (And.intro (And.intro (And.intro (And.intro (And.intro @z137 @ms_strip) (And.intro @ms_one @ms_nam)) (And.intro (And.intro @mg0 @mg1) (And.intro @mg2 (And.intro @mg3 @mg4)))) (And.intro (And.intro (And.intro @mg37 @mg134) (And.intro @mg135 (And.intro @mg136 @mt5))) (And.intro (And.intro @mt38 @mt70) (And.intro @mt102 (And.intro @ms_len @mtk))))) (And.intro (And.intro (And.intro (And.intro @mtk32 @List.length_drop.{0}) (And.intro @List.drop_drop.{0} (And.intro (fun x : H32 => x.2) @oneL_u8))) (And.intro (And.intro @mset0 @mset1) (And.intro @mset2 (And.intro @mset3 @mset4)))) (And.intro (And.intro (And.intro @mset37 @mset134) (And.intro @mset135 (And.intro @mset136 @msp0))) (And.intro (And.intro @msp5 @msp38) (And.intro @msp70 (And.intro @msp102 @msp32))))))
end Go.Proofs.Ytnlemcfhndjheaa.AM

/- wire: what stands where. -/
namespace Go.Proofs.Ytnlemcfhndjheaa.AM
open Go
set_option maxRecDepth 100000
set_option maxHeartbeats 4000000
set_option linter.unusedSimpArgs false
set_option linter.unusedVariables false
def fieldsS (k : Int) : List Int := if k = 1 then [1, 3, 5, 7, 9, 11] else if k = 2 then [1, 3, 13] else if k = 3 then [1, 3, 23] else if k = 4 then [1, 17, 19] else if k = 5 then [1, 13, 15, 19] else if k = 6 then [1, 15, 19, 21] else []
def fieldsV (k : Int) : AV := if fieldsS k = [] then .nil else .slice .full none ((fieldsS k).map u64)
theorem fields_ok (k : Int) : prun T F20 [i64 k] = some (fieldsV k) := by
  refine WP_eq (prun_wp ?_)
  have hb := trivial
  repeat' (first | (simp -implicitDefEqProofs (disch := omega) only [hb, F20, setEls, elFits_sc, stripEl_sc, one_int, List.replicate_succ, List.replicate_zero, wC, wO, initE, aop, Nat.reduceEqDiff, ↓reduceIte, Nat.reduceAdd, finish, resOf, tupOf, AM.freeze, freeze1, freezeL, closed, nam, namL, if_true, if_false, deref, boxAt, exAt, ldCells, oneL, oneCell, Nat.reduceLeDiff, evL, adopt, rigid, rigidL, trim, Int.reduceEq, Int.reduceMod, Int.reduceDiv, if_pos, if_neg, asI, forall_const, implies_true, chkD, chkO, chkW, effB, reB, vEq, beq_self_eq_true, Nat.reduceSub, Nat.reduceLT, Int.reduceSub, Int.reduceAdd, Int.reduceMul, Int.reduceLT, Int.reduceLE, Int.reduceToNat, optI, aslice, cutSl, cutMs, cutStr, cutOwn]) | ((first | rw [WP_condK] | rw [WP_opsG] | rw [WP_quiG] | rw [WP_dG]); refine And.intro (fun hb => ?_) (fun hb => ?_) <;> (first | have hd := dq1 hb | have hd := dq2 hb | have hd := dq3 hb | have hd := dq4 hb | skip)))
  all_goals simp [fieldsV, fieldsS, *]
theorem rfields_ok (k : Int) : prun T F25 [i64 k] = some (fieldsV k) := by
  refine WP_eq (prun_wp ?_)
  have hb := trivial
  repeat' (first | (simp -implicitDefEqProofs (disch := omega) only [hb, F25, setEls, elFits_sc, stripEl_sc, one_int, List.replicate_succ, List.replicate_zero, wC, wO, initE, aop, Nat.reduceEqDiff, ↓reduceIte, Nat.reduceAdd, finish, resOf, tupOf, AM.freeze, freeze1, freezeL, closed, nam, namL, if_true, if_false, deref, boxAt, exAt, ldCells, oneL, oneCell, Nat.reduceLeDiff, evL, adopt, rigid, rigidL, trim, Int.reduceEq, Int.reduceMod, Int.reduceDiv, if_pos, if_neg, asI, forall_const, implies_true, chkD, chkO, chkW, effB, reB, vEq, beq_self_eq_true, Nat.reduceSub, Nat.reduceLT, Int.reduceSub, Int.reduceAdd, Int.reduceMul, Int.reduceLT, Int.reduceLE, Int.reduceToNat, optI, aslice, cutSl, cutMs, cutStr, cutOwn]) | ((first | rw [WP_condK] | rw [WP_opsG] | rw [WP_quiG] | rw [WP_dG]); refine And.intro (fun hb => ?_) (fun hb => ?_) <;> (first | have hd := dq1 hb | have hd := dq2 hb | have hd := dq3 hb | have hd := dq4 hb | skip)))
  all_goals simp [fieldsV, fieldsS, *]
theorem fieldsV_adopt (k : Int) (h : Heap) : Go.Proofs.Ytnlemcfhndjheaa.AM.adopt (fieldsV k) h = (fieldsV k, h) := by
  unfold fieldsV
  split <;> rfl
theorem call_fields (k : Int) (h : Heap) : ag T 20 [i64 k] h = some (fieldsV k, h) := by
  rw [call_pure (T := T) (args := [i64 k]) rfl t20 rfl rfl rfl (fields_ok k), fieldsV_adopt]
theorem call_rfields (k : Int) (h : Heap) : ag T 25 [i64 k] h = some (fieldsV k, h) := by
  rw [call_pure (T := T) (args := [i64 k]) rfl t25 rfl rfl rfl (rfields_ok k), fieldsV_adopt]
def numOff (t : Int) : Option Nat := if t = 1 then some 1 else if t = 3 then some 2 else if t = 5 then some 3 else if t = 7 then some 4 else if t = 19 then some 134 else if t = 21 then some 135 else none
def hashOff (t : Int) : Option Nat := if t = 9 then some 5 else if t = 13 then some 38 else if t = 15 then some 70 else if t = 17 then some 102 else none
def textOff (t : Int) : Option Nat := if t = 11 then some 37 else if t = 23 then some 136 else none
def offR (cs : List AV) : Option Nat → AV
  | none => .sc (.pointer none)
  | some n => .ref (cs.drop n)
def offP (id off : Nat) : Option Nat → AV
  | none => .sc (.pointer none)
  | some n => .ptr id (off + n)
theorem numR (cs : List AV) (t : Int) (h : Heap) : ag T 34 [.ref cs, u64 t] h = some (offR cs (numOff t), h) := by
  refine WP_eq (ag_wp rfl t34 rfl rfl ?_)
  have hb := trivial
  repeat' (first | (simp -implicitDefEqProofs (disch := omega) only [hb, F34, wC, wO, initE, aop, Nat.reduceEqDiff, ↓reduceIte, Nat.reduceAdd, finish, resOf, tupOf, AM.freeze, freeze1, freezeL, closed, nam, namL, if_true, if_false, deref, boxAt, exAt, ldCells, oneL, oneCell, Nat.reduceLeDiff, evL, adopt, rigid, rigidL, trim, Int.reduceEq, Int.reduceMod, Int.reduceDiv, if_pos, if_neg, asI, forall_const, implies_true, chkD, chkO, chkW, effB, reB, vEq, beq_self_eq_true, Nat.reduceSub, Nat.reduceLT, Int.reduceSub, Int.reduceAdd, Int.reduceMul, Int.reduceLT, Int.reduceLE, Int.reduceToNat, optI, aslice, cutSl, cutMs, cutStr, cutOwn]) | ((first | rw [WP_condK] | rw [WP_opsG] | rw [WP_quiG] | rw [WP_dG]); refine And.intro (fun hb => ?_) (fun hb => ?_) <;> (first | have hd := dq1 hb | have hd := dq2 hb | have hd := dq3 hb | have hd := dq4 hb | skip)))
  all_goals simp [offR, numOff, *]
theorem numP (id off : Nat) (t : Int) (h : Heap) : ag T 34 [.ptr id off, u64 t] h = some (offP id off (numOff t), h) := by
  refine WP_eq (ag_wp rfl t34 rfl rfl ?_)
  have hb := trivial
  repeat' (first | (simp -implicitDefEqProofs (disch := omega) only [hb, F34, wC, wO, initE, aop, Nat.reduceEqDiff, ↓reduceIte, Nat.reduceAdd, finish, resOf, tupOf, AM.freeze, freeze1, freezeL, closed, nam, namL, if_true, if_false, deref, boxAt, exAt, ldCells, oneL, oneCell, Nat.reduceLeDiff, evL, adopt, rigid, rigidL, trim, Int.reduceEq, Int.reduceMod, Int.reduceDiv, if_pos, if_neg, asI, forall_const, implies_true, chkD, chkO, chkW, effB, reB, vEq, beq_self_eq_true, Nat.reduceSub, Nat.reduceLT, Int.reduceSub, Int.reduceAdd, Int.reduceMul, Int.reduceLT, Int.reduceLE, Int.reduceToNat, optI, aslice, cutSl, cutMs, cutStr, cutOwn]) | ((first | rw [WP_condK] | rw [WP_opsG] | rw [WP_quiG] | rw [WP_dG]); refine And.intro (fun hb => ?_) (fun hb => ?_) <;> (first | have hd := dq1 hb | have hd := dq2 hb | have hd := dq3 hb | have hd := dq4 hb | skip)))
  all_goals simp [offP, numOff, *]
theorem hashR (cs : List AV) (t : Int) (h : Heap) : ag T 35 [.ref cs, u64 t] h = some (offR cs (hashOff t), h) := by
  refine WP_eq (ag_wp rfl t35 rfl rfl ?_)
  have hb := trivial
  repeat' (first | (simp -implicitDefEqProofs (disch := omega) only [hb, F35, wC, wO, initE, aop, Nat.reduceEqDiff, ↓reduceIte, Nat.reduceAdd, finish, resOf, tupOf, AM.freeze, freeze1, freezeL, closed, nam, namL, if_true, if_false, deref, boxAt, exAt, ldCells, oneL, oneCell, Nat.reduceLeDiff, evL, adopt, rigid, rigidL, trim, Int.reduceEq, Int.reduceMod, Int.reduceDiv, if_pos, if_neg, asI, forall_const, implies_true, chkD, chkO, chkW, effB, reB, vEq, beq_self_eq_true, Nat.reduceSub, Nat.reduceLT, Int.reduceSub, Int.reduceAdd, Int.reduceMul, Int.reduceLT, Int.reduceLE, Int.reduceToNat, optI, aslice, cutSl, cutMs, cutStr, cutOwn]) | ((first | rw [WP_condK] | rw [WP_opsG] | rw [WP_quiG] | rw [WP_dG]); refine And.intro (fun hb => ?_) (fun hb => ?_) <;> (first | have hd := dq1 hb | have hd := dq2 hb | have hd := dq3 hb | have hd := dq4 hb | skip)))
  all_goals simp [offR, hashOff, *]
theorem hashP (id off : Nat) (t : Int) (h : Heap) : ag T 35 [.ptr id off, u64 t] h = some (offP id off (hashOff t), h) := by
  refine WP_eq (ag_wp rfl t35 rfl rfl ?_)
  have hb := trivial
  repeat' (first | (simp -implicitDefEqProofs (disch := omega) only [hb, F35, wC, wO, initE, aop, Nat.reduceEqDiff, ↓reduceIte, Nat.reduceAdd, finish, resOf, tupOf, AM.freeze, freeze1, freezeL, closed, nam, namL, if_true, if_false, deref, boxAt, exAt, ldCells, oneL, oneCell, Nat.reduceLeDiff, evL, adopt, rigid, rigidL, trim, Int.reduceEq, Int.reduceMod, Int.reduceDiv, if_pos, if_neg, asI, forall_const, implies_true, chkD, chkO, chkW, effB, reB, vEq, beq_self_eq_true, Nat.reduceSub, Nat.reduceLT, Int.reduceSub, Int.reduceAdd, Int.reduceMul, Int.reduceLT, Int.reduceLE, Int.reduceToNat, optI, aslice, cutSl, cutMs, cutStr, cutOwn]) | ((first | rw [WP_condK] | rw [WP_opsG] | rw [WP_quiG] | rw [WP_dG]); refine And.intro (fun hb => ?_) (fun hb => ?_) <;> (first | have hd := dq1 hb | have hd := dq2 hb | have hd := dq3 hb | have hd := dq4 hb | skip)))
  all_goals simp [offP, hashOff, *]
theorem textR (cs : List AV) (t : Int) (h : Heap) : ag T 37 [.ref cs, u64 t] h = some (offR cs (textOff t), h) := by
  refine WP_eq (ag_wp rfl t37 rfl rfl ?_)
  have hb := trivial
  repeat' (first | (simp -implicitDefEqProofs (disch := omega) only [hb, F37, wC, wO, initE, aop, Nat.reduceEqDiff, ↓reduceIte, Nat.reduceAdd, finish, resOf, tupOf, AM.freeze, freeze1, freezeL, closed, nam, namL, if_true, if_false, deref, boxAt, exAt, ldCells, oneL, oneCell, Nat.reduceLeDiff, evL, adopt, rigid, rigidL, trim, Int.reduceEq, Int.reduceMod, Int.reduceDiv, if_pos, if_neg, asI, forall_const, implies_true, chkD, chkO, chkW, effB, reB, vEq, beq_self_eq_true, Nat.reduceSub, Nat.reduceLT, Int.reduceSub, Int.reduceAdd, Int.reduceMul, Int.reduceLT, Int.reduceLE, Int.reduceToNat, optI, aslice, cutSl, cutMs, cutStr, cutOwn]) | ((first | rw [WP_condK] | rw [WP_opsG] | rw [WP_quiG] | rw [WP_dG]); refine And.intro (fun hb => ?_) (fun hb => ?_) <;> (first | have hd := dq1 hb | have hd := dq2 hb | have hd := dq3 hb | have hd := dq4 hb | skip)))
  all_goals simp [offR, textOff, *]
theorem textP (id off : Nat) (t : Int) (h : Heap) : ag T 37 [.ptr id off, u64 t] h = some (offP id off (textOff t), h) := by
  refine WP_eq (ag_wp rfl t37 rfl rfl ?_)
  have hb := trivial
  repeat' (first | (simp -implicitDefEqProofs (disch := omega) only [hb, F37, wC, wO, initE, aop, Nat.reduceEqDiff, ↓reduceIte, Nat.reduceAdd, finish, resOf, tupOf, AM.freeze, freeze1, freezeL, closed, nam, namL, if_true, if_false, deref, boxAt, exAt, ldCells, oneL, oneCell, Nat.reduceLeDiff, evL, adopt, rigid, rigidL, trim, Int.reduceEq, Int.reduceMod, Int.reduceDiv, if_pos, if_neg, asI, forall_const, implies_true, chkD, chkO, chkW, effB, reB, vEq, beq_self_eq_true, Nat.reduceSub, Nat.reduceLT, Int.reduceSub, Int.reduceAdd, Int.reduceMul, Int.reduceLT, Int.reduceLE, Int.reduceToNat, optI, aslice, cutSl, cutMs, cutStr, cutOwn]) | ((first | rw [WP_condK] | rw [WP_opsG] | rw [WP_quiG] | rw [WP_dG]); refine And.intro (fun hb => ?_) (fun hb => ?_) <;> (first | have hd := dq1 hb | have hd := dq2 hb | have hd := dq3 hb | have hd := dq4 hb | skip)))
  all_goals simp [offP, textOff, *]
theorem call_within (n a b : Int) (h : Heap) : ag T 32 [i64 n, i64 a, i64 b] h = some (.sc (.bool (decide (a ≤ n) && decide (n ≤ b))), h) := by
  refine call_sc rfl t32 rfl rfl rfl rfl (WP_eq (prun_wp ?_))
  have hb := trivial
  repeat' (first | (simp -implicitDefEqProofs (disch := omega) only [hb, F32, wC, wO, initE, aop, Nat.reduceEqDiff, ↓reduceIte, Nat.reduceAdd, finish, resOf, tupOf, AM.freeze, freeze1, freezeL, closed, nam, namL, if_true, if_false, deref, boxAt, exAt, ldCells, oneL, oneCell, Nat.reduceLeDiff, evL, adopt, rigid, rigidL, trim, Int.reduceEq, Int.reduceMod, Int.reduceDiv, if_pos, if_neg, asI, forall_const, implies_true, chkD, chkO, chkW, effB, reB, vEq, beq_self_eq_true, Nat.reduceSub, Nat.reduceLT, Int.reduceSub, Int.reduceAdd, Int.reduceMul, Int.reduceLT, Int.reduceLE, Int.reduceToNat, optI, aslice, cutSl, cutMs, cutStr, cutOwn]) | ((first | rw [WP_condK] | rw [WP_opsG] | rw [WP_quiG] | rw [WP_dG]); refine And.intro (fun hb => ?_) (fun hb => ?_) <;> (first | have hd := dq1 hb | have hd := dq2 hb | have hd := dq3 hb | have hd := dq4 hb | skip)))
  all_goals simp [*]
end Go.Proofs.Ytnlemcfhndjheaa.AM

/- wire: the same messages. -/
namespace Go.Proofs.Ytnlemcfhndjheaa.AM
open Go
set_option maxRecDepth 100000
set_option maxHeartbeats 4000000
set_option linter.unusedSimpArgs false
set_option linter.unusedVariables false
/-- are messages the same? -/
theorem same_m (a b : Pm) (vo vr wo wr : AV) (ta : Tx vo a.o) (tb : Tx vr a.r) (tc : Tx wo b.o) (td : Tx wr b.r) (ha : Bytes a.o) (hb : Bytes a.r) (hc : Bytes b.o) (hd : Bytes b.r) : prun T F12 [.agg (msC a vo vr), .agg (msC b wo wr)] = some (.sc (.bool (decide (a = b)))) := by
  have e1 := eqs ha hc
  have e2 := eqs hb hd
  have b1 := byteEls_u8 a.o
  have b2 := byteEls_u8 a.r
  have b3 := byteEls_u8 b.o
  have b4 := byteEls_u8 b.r
  have t1 := ta.str
  have t2 := tb.str
  have t3 := tc.str
  have t4 := td.str
  refine WP_eq (prun_wp ?_)
  have hb := trivial
  repeat' (first | (simp -implicitDefEqProofs (disch := omega) only [hb, F12, ms_strip, ta.strip, tb.strip, tc.strip, td.strip, ms_one, ta.one, tb.one, tc.one, td.one, mg0, mg1, mg2, mg3, mg4, mg37, mg134, mg135, mg136, mt5, mt38, mt70, mt102, ms_len, List.length_drop, List.drop_drop, eqC32, e1, e2, b1, b2, b3, b4, t1, t2, t3, t4, (fun x : H32 => x.2), cellsOf_agg, wC, wO, initE, aop, Nat.reduceEqDiff, ↓reduceIte, Nat.reduceAdd, finish, resOf, tupOf, AM.freeze, freeze1, freezeL, closed, nam, namL, if_true, if_false, deref, boxAt, exAt, ldCells, oneL, oneCell, Nat.reduceLeDiff, evL, adopt, rigid, rigidL, trim, Int.reduceEq, Int.reduceMod, Int.reduceDiv, if_pos, if_neg, asI, forall_const, implies_true, chkD, chkO, chkW, effB, reB, vEq, beq_self_eq_true, Nat.reduceSub, Nat.reduceLT, Int.reduceSub, Int.reduceAdd, Int.reduceMul, Int.reduceLT, Int.reduceLE, Int.reduceToNat, optI, aslice, cutSl, cutMs, cutStr, cutOwn]) | ((first | rw [WP_condK] | rw [WP_opsG] | rw [WP_quiG] | rw [WP_dG]); refine And.intro (fun hb => ?_) (fun hb => ?_) <;> (first | have hd := dq1 hb | have hd := dq2 hb | have hd := dq3 hb | have hd := dq4 hb | skip)))
  all_goals first
  | (have hne : ¬ a = b := fun hh => by rw [hh] at hd; exact hd rfl
     rw [decide_eq_false hne])
  | (by_cases hr : a.r = b.r
     · have hab : a = b := Pm.ext (by assumption) (by assumption) (by assumption) (by assumption) (by assumption) (by assumption) (by assumption) (by assumption) (by assumption) (by assumption) (by assumption) (by assumption) hr
       rw [decide_eq_true hab, decide_eq_true hr]
     · have hne : ¬ a = b := fun hh => hr (congrArg Pm.r hh)
       rw [decide_eq_false hne, decide_eq_false hr])
  | trace_state
end Go.Proofs.Ytnlemcfhndjheaa.AM

/- wire: what a kind has. -/
namespace Go.Proofs.Ytnlemcfhndjheaa.AM
open Go
set_option maxRecDepth 100000
set_option maxHeartbeats 4000000
set_option linter.unusedSimpArgs false
set_option linter.unusedVariables false
def keepS (m : Pm) (fs : List Int) : Pm := ⟨m.k, if 1 ∈ fs then m.c else 0, if 3 ∈ fs then m.i else 0, if 5 ∈ fs then m.a else 0, if 7 ∈ fs then m.e else 0, if 9 ∈ fs then m.h else zero32, if 11 ∈ fs then m.o else [], if 13 ∈ fs then m.s else zero32, if 15 ∈ fs then m.p else zero32, if 17 ∈ fs then m.t else zero32, if 19 ∈ fs then m.n else 0, if 21 ∈ fs then m.d else 0, if 23 ∈ fs then m.r else []⟩
def bareS (m : Pm) : Pm := keepS m (fieldsS m.k)
def Pm.copy (to m : Pm) (t : Int) : Pm := if t = 1 then { to with c := m.c } else if t = 3 then { to with i := m.i } else if t = 5 then { to with a := m.a } else if t = 7 then { to with e := m.e } else if t = 9 then { to with h := m.h } else if t = 11 then { to with o := m.o } else if t = 13 then { to with s := m.s } else if t = 15 then { to with p := m.p } else if t = 17 then { to with t := m.t } else if t = 19 then { to with n := m.n } else if t = 21 then { to with d := m.d } else if t = 23 then { to with r := m.r } else to
def allT : List Int := [1, 3, 5, 7, 9, 11, 13, 15, 17, 19, 21, 23]
theorem fields_all {k t : Int} (h : t ∈ fieldsS k) : t ∈ allT := by
  unfold fieldsS at h
  repeat' split at h
  all_goals (simp at h; try rcases h with rfl | rfl | rfl | rfl | rfl | rfl) <;> (try rcases h with rfl | rfl | rfl | rfl) <;> (try rcases h with rfl | rfl | rfl) <;> simp_all [allT]
theorem keep_snoc (m : Pm) (fs : List Int) (t : Int) (ht : t ∈ allT) : keepS m (fs ++ [t]) = (keepS m fs).copy m t := by
  simp only [allT, List.mem_cons, List.not_mem_nil, or_false] at ht
  rcases ht with rfl | rfl | rfl | rfl | rfl | rfl | rfl | rfl | rfl | rfl | rfl | rfl <;> simp [keepS, Pm.copy]
theorem tx_if {p : Prop} [Decidable p] {v : AV} {l : List Int} (h : Tx v l) : Tx (if p then v else .nil) (if p then l else []) := by
  split
  · exact h
  · exact tx_nil
theorem copied_ok (a b : Pm) (vo vr wo wr : AV) {l1 l2 l3 l4 : List Int} (ta : Tx vo l1) (tb : Tx vr l2) (tc : Tx wo l3) (td : Tx wr l4) (t : Int) : prun T F38 [.agg (msC a vo vr), .agg (msC b wo wr), u64 t] = some (.agg (msC (a.copy b t) (if t = 11 then wo else vo) (if t = 23 then wr else vr))) := by
  refine WP_eq (prun_wp ?_)
  have hb := trivial
  repeat' (first | (simp -implicitDefEqProofs (disch := omega) only [hb, F38, z137, ms_strip, ta.strip, tb.strip, tc.strip, td.strip, ms_one, ta.one, tb.one, tc.one, td.one, ta.cells, tb.cells, tc.cells, td.cells, ta.cl, tb.cl, tc.cl, td.cl, ms_nam, mg0, mg1, mg2, mg3, mg4, mg37, mg134, mg135, mg136, mt5, mt38, mt70, mt102, ms_len, mtk, mtk32, List.length_drop, List.drop_drop, (fun x : H32 => x.2), oneL_u8, mset0, mset1, mset2, mset3, mset4, mset37, mset134, mset135, mset136, msp0, msp5, msp38, msp70, msp102, msp32, wC, wO, initE, aop, Nat.reduceEqDiff, ↓reduceIte, Nat.reduceAdd, finish, resOf, tupOf, AM.freeze, freeze1, freezeL, closed, nam, namL, if_true, if_false, deref, boxAt, exAt, ldCells, oneL, oneCell, Nat.reduceLeDiff, evL, adopt, rigid, rigidL, trim, Int.reduceEq, Int.reduceMod, Int.reduceDiv, if_pos, if_neg, asI, forall_const, implies_true, chkD, chkO, chkW, effB, reB, vEq, beq_self_eq_true, Nat.reduceSub, Nat.reduceLT, Int.reduceSub, Int.reduceAdd, Int.reduceMul, Int.reduceLT, Int.reduceLE, Int.reduceToNat, optI, aslice, cutSl, cutMs, cutStr, cutOwn]) | ((first | rw [WP_condK] | rw [WP_opsG] | rw [WP_quiG] | rw [WP_dG]); refine And.intro (fun hb => ?_) (fun hb => ?_) <;> (first | have hd := dq1 hb | have hd := dq2 hb | have hd := dq3 hb | have hd := dq4 hb | skip)))
  all_goals simp [Pm.copy, msC, *]
end Go.Proofs.Ytnlemcfhndjheaa.AM

/- wire: Bare. -/
namespace Go.Proofs.Ytnlemcfhndjheaa.AM
open Go
set_option maxRecDepth 100000
set_option maxHeartbeats 4000000
set_option linter.unusedSimpArgs false
set_option linter.unusedVariables false
theorem keep_nil (m : Pm) : keepS m [] = { Pm.zero with k := m.k } := by simp [keepS, Pm.zero]
def ko (fs : List Int) (v : AV) : AV := if 11 ∈ fs then v else .nil
def kr (fs : List Int) (v : AV) : AV := if 23 ∈ fs then v else .nil
theorem ko_snoc (fs : List Int) (v : AV) (t : Int) : (if t = 11 then v else ko fs v) = ko (fs ++ [t]) v := by
  unfold ko
  by_cases h : t = 11
  · simp [h]
  · have : ¬ (11 : Int) = t := fun hh => h hh.symm
    simp [h, this]
theorem kr_snoc (fs : List Int) (v : AV) (t : Int) : (if t = 23 then v else kr fs v) = kr (fs ++ [t]) v := by
  unfold kr
  by_cases h : t = 23
  · simp [h]
  · have : ¬ (23 : Int) = t := fun hh => h hh.symm
    simp [h, this]
theorem tx_ko {fs : List Int} {v : AV} {l : List Int} (h : Tx v l) : Tx (ko fs v) (if 11 ∈ fs then l else []) := tx_if h
theorem tx_kr {fs : List Int} {v : AV} {l : List Int} (h : Tx v l) : Tx (kr fs v) (if 23 ∈ fs then l else []) := tx_if h
theorem fields_len (k : Int) : (fieldsS k).length ≤ 6 := by
  unfold fieldsS
  repeat' split
  all_goals simp
theorem ms_closed (m : Pm) {vo vr : AV} (h : closed vo = true) (k : closed vr = true) : closedL [AV.agg (msC m vo vr)] = true := by
  simp only [closedL, namL, nam, ms_nam, h, k, Bool.and_self]
theorem ms_closed2 (a b : Pm) {vo vr wo wr : AV} (h : closed vo = true) (k : closed vr = true) (h' : closed wo = true) (k' : closed wr = true) (t : Int) : closedL [AV.agg (msC a vo vr), .agg (msC b wo wr), u64 t] = true := by
  simp only [closedL, namL, nam, ms_nam, h, k, h', k', Bool.and_self]
theorem call_copied (a b : Pm) (vo vr wo wr : AV) {l1 l2 l3 l4 : List Int} (ta : Tx vo l1) (tb : Tx vr l2) (tc : Tx wo l3) (td : Tx wr l4) (t : Int) (h : Heap) : ag T 38 [.agg (msC a vo vr), .agg (msC b wo wr), u64 t] h = some (.agg (msC (a.copy b t) (if t = 11 then wo else vo) (if t = 23 then wr else vr)), h) :=
  call_agg rfl t38 rfl rfl rfl (ms_closed2 a b ta.cl tb.cl tc.cl td.cl t) (copied_ok a b vo vr wo wr ta tb tc td t)
theorem rbare_ok (m : Pm) (vo vr : AV) (to : Tx vo m.o) (tr : Tx vr m.r) : prun T F19 [.agg (msC m vo vr)] = some (.agg (msC (bareS m) (ko (fieldsS m.k) vo) (kr (fieldsS m.k) vr))) := by
  refine WP_eq (prun_wp ?_)
  have hb : bareS m = keepS m (fieldsS m.k) := rfl
  have hall := fun t (ht : t ∈ fieldsS m.k) => fields_all ht
  have hfl := fields_len m.k
  rw [hb]
  by_cases hf : fieldsS m.k = []
  · have hv : fieldsV m.k = .nil := if_pos hf
    have h1 : ko [] vo = .nil := by simp [ko]
    have h2 : kr [] vr = .nil := by simp [kr]
    rw [hf, h1, h2]
    have hkn := keep_nil m
    generalize hK : keepS m [] = K at *
    have hb := trivial
    repeat' (first | (simp -implicitDefEqProofs (disch := omega) only [hb, F19, wG, call_rfields, hv, to.strip, tr.strip, to.one, tr.one, to.cells, tr.cells, one_nil, wC, wO, initE, aop, Nat.reduceEqDiff, ↓reduceIte, Nat.reduceAdd, finish, resOf, tupOf, AM.freeze, freeze1, freezeL, closed, nam, namL, if_true, if_false, deref, boxAt, exAt, ldCells, oneL, oneCell, Nat.reduceLeDiff, evL, adopt, rigid, rigidL, trim, Int.reduceEq, Int.reduceMod, Int.reduceDiv, if_pos, if_neg, asI, forall_const, implies_true, chkD, chkO, chkW, effB, reB, vEq, beq_self_eq_true, Nat.reduceSub, Nat.reduceLT, Int.reduceSub, Int.reduceAdd, Int.reduceMul, Int.reduceLT, Int.reduceLE, Int.reduceToNat, optI, aslice, cutSl, cutMs, cutStr, cutOwn]) | ((first | rw [WP_condK] | rw [WP_opsG] | rw [WP_quiG] | rw [WP_dG]); refine And.intro (fun hb => ?_) (fun hb => ?_) <;> (first | have hd := dq1 hb | have hd := dq2 hb | have hd := dq3 hb | have hd := dq4 hb | skip)))
    rw [← hkn]
    refine WP_loop (I := fun n e h => getE e 1 = .ref (msC m vo vr) ∧ getE e 2 = .ptr 0 0 ∧ getE e 3 = .ptr 1 0 ∧ getE e 4 = .nil ∧ getE e 5 = i64 0 ∧ h = [.cells (msC Pm.zero .nil .nil), .cells (msC K .nil .nil)]) ?_ 0 _ _ ⟨rfl, rfl, rfl, rfl, rfl, rfl⟩
    rintro n e h ⟨h1, h2, h3, h4, h5, rfl⟩
    rw [trim_same' (by simp)]
    have hb := trivial
    repeat' (first | (simp -implicitDefEqProofs (disch := omega) only [hb, L19_0, wG, h1, h2, h3, h4, h5, tx_nil.strip, tx_nil.one, tx_nil.cl, wC, wO, initE, aop, Nat.reduceEqDiff, ↓reduceIte, Nat.reduceAdd, finish, resOf, tupOf, AM.freeze, freeze1, freezeL, closed, nam, namL, if_true, if_false, deref, boxAt, exAt, ldCells, oneL, oneCell, Nat.reduceLeDiff, evL, adopt, rigid, rigidL, trim, Int.reduceEq, Int.reduceMod, Int.reduceDiv, if_pos, if_neg, asI, forall_const, implies_true, chkD, chkO, chkW, effB, reB, vEq, beq_self_eq_true, Nat.reduceSub, Nat.reduceLT, Int.reduceSub, Int.reduceAdd, Int.reduceMul, Int.reduceLT, Int.reduceLE, Int.reduceToNat, optI, aslice, cutSl, cutMs, cutStr, cutOwn]) | ((first | rw [WP_condK] | rw [WP_opsG] | rw [WP_quiG] | rw [WP_dG]); refine And.intro (fun hb => ?_) (fun hb => ?_) <;> (first | have hd := dq1 hb | have hd := dq2 hb | have hd := dq3 hb | have hd := dq4 hb | skip)))
  · have hv : fieldsV m.k = .slice .full none ((fieldsS m.k).map u64) := if_neg hf
    generalize hfs : fieldsS m.k = fs at *
    have hb := trivial
    repeat' (first | (simp -implicitDefEqProofs (disch := omega) only [hb, F19, wG, call_rfields, hv, to.strip, tr.strip, to.one, tr.one, to.cells, tr.cells, one_nil, wC, wO, initE, aop, Nat.reduceEqDiff, ↓reduceIte, Nat.reduceAdd, finish, resOf, tupOf, AM.freeze, freeze1, freezeL, closed, nam, namL, if_true, if_false, deref, boxAt, exAt, ldCells, oneL, oneCell, Nat.reduceLeDiff, evL, adopt, rigid, rigidL, trim, Int.reduceEq, Int.reduceMod, Int.reduceDiv, if_pos, if_neg, asI, forall_const, implies_true, chkD, chkO, chkW, effB, reB, vEq, beq_self_eq_true, Nat.reduceSub, Nat.reduceLT, Int.reduceSub, Int.reduceAdd, Int.reduceMul, Int.reduceLT, Int.reduceLE, Int.reduceToNat, optI, aslice, cutSl, cutMs, cutStr, cutOwn]) | ((first | rw [WP_condK] | rw [WP_opsG] | rw [WP_quiG] | rw [WP_dG]); refine And.intro (fun hb => ?_) (fun hb => ?_) <;> (first | have hd := dq1 hb | have hd := dq2 hb | have hd := dq3 hb | have hd := dq4 hb | skip)))
    refine WP_loop (I := fun n e h => ∃ i : Nat, n + i = fs.length ∧ getE e 1 = .ref (msC m vo vr) ∧ getE e 2 = .ptr 0 0 ∧ getE e 3 = .ptr 1 0 ∧ getE e 4 = .slice .full none (fs.map u64) ∧ getE e 5 = i64 i ∧ h = [.cells (msC Pm.zero .nil .nil), .cells (msC (keepS m (fs.take i)) (ko (fs.take i) vo) (kr (fs.take i) vr))]) ?_ fs.length _ _ ⟨0, by omega, rfl, rfl, rfl, rfl, rfl, ?_⟩
    · rintro n e h ⟨i, hn, h1, h2, h3, h4, h5, rfl⟩
      rw [trim_same' (by simp)]
      have tko := tx_ko (fs := fs.take i) to
      have tkr := tx_kr (fs := fs.take i) tr
      by_cases hlt : i < fs.length
      · have hg := get_map (f := u64) hlt
        have hc := fun h => call_copied (keepS m (fs.take i)) m _ _ vo vr tko tkr to tr fs[i] h
        rw [ko_snoc, kr_snoc, ← keep_snoc m (fs.take i) fs[i] (hall _ (List.getElem_mem hlt)), ← List.take_succ_eq_append_getElem hlt] at hc
        have tko' := tx_ko (fs := fs.take (i + 1)) to
        have tkr' := tx_kr (fs := fs.take (i + 1)) tr
        have q1 := ms_beq (keepS m (fs.take i)) _ _ tko.beq tkr.beq
        have q2 := ms_beq m _ _ to.beq tr.beq
        have hb := trivial
        repeat' (first | (simp -implicitDefEqProofs (disch := omega) only [hb, L19_0, wG, h1, h2, h3, h4, h5, hg, hc, q1, q2, p38, tko.one, tkr.one, tko'.one, tkr'.one, wC, wO, initE, aop, Nat.reduceEqDiff, ↓reduceIte, Nat.reduceAdd, finish, resOf, tupOf, AM.freeze, freeze1, freezeL, closed, nam, namL, if_true, if_false, deref, boxAt, exAt, ldCells, oneL, oneCell, Nat.reduceLeDiff, evL, adopt, rigid, rigidL, trim, Int.reduceEq, Int.reduceMod, Int.reduceDiv, if_pos, if_neg, asI, forall_const, implies_true, chkD, chkO, chkW, effB, reB, vEq, beq_self_eq_true, Nat.reduceSub, Nat.reduceLT, Int.reduceSub, Int.reduceAdd, Int.reduceMul, Int.reduceLT, Int.reduceLE, Int.reduceToNat, optI, aslice, cutSl, cutMs, cutStr, cutOwn]) | ((first | rw [WP_condK] | rw [WP_opsG] | rw [WP_quiG] | rw [WP_dG]); refine And.intro (fun hb => ?_) (fun hb => ?_) <;> (first | have hd := dq1 hb | have hd := dq2 hb | have hd := dq3 hb | have hd := dq4 hb | skip)))
        exact ⟨n - 1, by omega, i + 1, by omega, rfl, rfl⟩
      · have hi : i = fs.length := by omega
        subst hi
        rw [List.take_length] at tko tkr ⊢
        have hb := trivial
        repeat' (first | (simp -implicitDefEqProofs (disch := omega) only [hb, L19_0, wG, h1, h2, h3, h4, h5, tko.strip, tkr.strip, tko.one, tkr.one, tko.cl, tkr.cl, wC, wO, initE, aop, Nat.reduceEqDiff, ↓reduceIte, Nat.reduceAdd, finish, resOf, tupOf, AM.freeze, freeze1, freezeL, closed, nam, namL, if_true, if_false, deref, boxAt, exAt, ldCells, oneL, oneCell, Nat.reduceLeDiff, evL, adopt, rigid, rigidL, trim, Int.reduceEq, Int.reduceMod, Int.reduceDiv, if_pos, if_neg, asI, forall_const, implies_true, chkD, chkO, chkW, effB, reB, vEq, beq_self_eq_true, Nat.reduceSub, Nat.reduceLT, Int.reduceSub, Int.reduceAdd, Int.reduceMul, Int.reduceLT, Int.reduceLE, Int.reduceToNat, optI, aslice, cutSl, cutMs, cutStr, cutOwn]) | ((first | rw [WP_condK] | rw [WP_opsG] | rw [WP_quiG] | rw [WP_dG]); refine And.intro (fun hb => ?_) (fun hb => ?_) <;> (first | have hd := dq1 hb | have hd := dq2 hb | have hd := dq3 hb | have hd := dq4 hb | skip)))
    · rw [List.take_zero, keep_nil]
      rfl
end Go.Proofs.Ytnlemcfhndjheaa.AM

/- wire: the program's Bare. -/
namespace Go.Proofs.Ytnlemcfhndjheaa.AM
open Go
set_option maxRecDepth 100000
set_option maxHeartbeats 4000000
set_option linter.unusedSimpArgs false
set_option linter.unusedVariables false
/-- bytes, as they are held -/
def Fm (v : AV) (l : List Int) : Prop := (v = .nil ∧ l = []) ∨ ∃ o, v = .slice o none (l.map u8)
theorem Fm.one {v : AV} {l : List Int} (h : Fm v l) : AM.one v = true := by rcases h with ⟨rfl, _⟩ | ⟨o, rfl⟩ <;> rfl
theorem Fm.cells {v : AV} {l : List Int} (h : Fm v l) : cellsOf v = some [v] := by rcases h with ⟨rfl, _⟩ | ⟨o, rfl⟩ <;> rfl
theorem Fm.tx {v : AV} {l : List Int} (h : Fm v l) : Tx (strip v) l := by
  rcases h with ⟨rfl, rfl⟩ | ⟨o, rfl⟩
  · exact tx_nil
  · cases o
    · exact tx_slice l
    · exact tx_full l
    · exact tx_slice l
    · exact tx_slice l
theorem Fm.strip {v : AV} {l : List Int} (h : Fm v l) : Fm (strip v) l := by
  rcases h with ⟨rfl, rfl⟩ | ⟨o, rfl⟩
  · exact .inl ⟨rfl, rfl⟩
  · exact .inr ⟨stripO o, rfl⟩
theorem Fm.clone {v : AV} {l : List Int} (h : Fm v l) (hn : l.length ≤ 140737488351232) (hp : Heap) : ag T 36 [v] hp = some (.slice (.tok hp.length) none (l.map u8), hp ++ [.row none l.length]) := by
  rcases h with ⟨rfl, rfl⟩ | ⟨o, rfl⟩
  · exact call_clone_nil e36 hp
  · exact call_clone8 o l hp (by omega)
theorem fm_ko {v : AV} {l : List Int} (h : Fm v l) (fs : List Int) : Fm (ko fs v) (if 11 ∈ fs then l else []) := by
  unfold ko
  split
  · exact h
  · exact .inl ⟨rfl, rfl⟩
theorem fm_kr {v : AV} {l : List Int} (h : Fm v l) (fs : List Int) : Fm (kr fs v) (if 23 ∈ fs then l else []) := by
  unfold kr
  split
  · exact h
  · exact .inl ⟨rfl, rfl⟩
def BareI (m : Pm) (vo vr : AV) (fs : List Int) (n : Nat) (e : Env) (h : Heap) : Prop :=
  ∃ (i : Nat) (xo xr : AV) (rest : Heap), n + i = fs.length ∧ getE e 1 = .ref (msC m vo vr) ∧ getE e 2 = .ptr 0 0 ∧ getE e 3 = .ptr 1 0 ∧ getE e 11 = .slice .full none (fs.map u64) ∧ getE e 12 = i64 fs.length ∧ getE e 13 = i64 i ∧ h = .cells (msC Pm.zero .nil .nil) :: .cells (msC (keepS m (fs.take i)) xo xr) :: rest ∧ Fm xo (keepS m (fs.take i)).o ∧ Fm xr (keepS m (fs.take i)).r
theorem bare_step (m : Pm) (vo vr : AV) (fs : List Int) (hall : ∀ t ∈ fs, t ∈ allT) (fo : Fm vo m.o) (fr : Fm vr m.r) (to : Tx vo m.o) (tr : Tx vr m.r) (ho : m.o.length ≤ 140737488351232) (hr : m.r.length ≤ 140737488351232) (hfl : fs.length ≤ 6) (Q : Res → Prop) (n i : Nat) (e : Env) (rest : Heap) (xo xr : AV) (K : Pm) (hK : keepS m (fs.take i) = K)
    (hn : n + i = fs.length) (h1 : getE e 1 = .ref (msC m vo vr)) (h2 : getE e 2 = .ptr 0 0) (h3 : getE e 3 = .ptr 1 0) (h11 : getE e 11 = .slice .full none (fs.map u64)) (h12 : getE e 12 = i64 fs.length) (h13 : getE e 13 = i64 i) (g1 : Fm xo K.o) (g2 : Fm xr K.r) (hlt : i < fs.length) :
    WP (LQ (BareI m vo vr fs) Q n) (ax T L18_0 ([1, 2, 3, 11, 12, 13].map fun t => (t, getE e t)) (.cells (msC Pm.zero .nil .nil) :: .cells (msC K xo xr) :: rest)) := by
  have hg := get_map (f := u64) hlt
  have hkk := keep_snoc m (fs.take i) fs[i] (hall _ (List.getElem_mem hlt))
  rw [← List.take_succ_eq_append_getElem hlt, hK] at hkk
  have hmem := hall _ (List.getElem_mem hlt)
  simp only [allT, List.mem_cons, List.not_mem_nil, or_false] at hmem
  have hco := fun h => fo.clone ho h
  have hcr := fun h => fr.clone hr h
  have next : ∀ (K' : Pm) (xo' xr' : AV) (rest' : Heap) (e' : Env), K.copy m fs[i] = K' → Fm xo' K'.o → Fm xr' K'.r → getE e' 1 = .ref (msC m vo vr) → getE e' 2 = .ptr 0 0 → getE e' 3 = .ptr 1 0 → getE e' 11 = .slice .full none (fs.map u64) → getE e' 12 = i64 fs.length → getE e' 13 = i64 ((i + 1 : Nat) : Int) → ∃ n', n' < n ∧ BareI m vo vr fs n' e' (.cells (msC Pm.zero .nil .nil) :: .cells (msC K' xo' xr') :: rest') := by
    intro K' xo' xr' rest' e' hK' q1 q2 q3 q4 q5 q6 q7 q8
    refine ⟨n - 1, by omega, i + 1, xo', xr', rest', by omega, q3, q4, q5, q6, q7, q8, ?_, ?_, ?_⟩
    · rw [hkk, hK']
    · rw [hkk, hK']; exact q1
    · rw [hkk, hK']; exact q2
  rcases hmem with ht | ht | ht | ht | ht | ht | ht | ht | ht | ht | ht | ht
  all_goals
    rw [ht] at hg next
    have hb := trivial
    repeat' (first | (simp -implicitDefEqProofs (disch := omega) only [hb, L18_0, wG, h1, h2, h3, h11, h12, h13, hg, numR, numP, hashR, hashP, textR, textP, numOff, hashOff, textOff, offR, offP, hco, hcr, to.one, tr.one, to.cells, tr.cells, Fm.one g1, Fm.one g2, wC, wO, initE, aop, Nat.reduceEqDiff, ↓reduceIte, Nat.reduceAdd, finish, resOf, tupOf, AM.freeze, freeze1, freezeL, closed, nam, namL, if_true, if_false, deref, boxAt, exAt, ldCells, oneL, oneCell, Nat.reduceLeDiff, evL, adopt, rigid, rigidL, trim, Int.reduceEq, Int.reduceMod, Int.reduceDiv, if_pos, if_neg, asI, forall_const, implies_true, chkD, chkO, chkW, effB, reB, vEq, beq_self_eq_true, Nat.reduceSub, Nat.reduceLT, Int.reduceSub, Int.reduceAdd, Int.reduceMul, Int.reduceLT, Int.reduceLE, Int.reduceToNat, optI, aslice, cutSl, cutMs, cutStr, cutOwn]) | ((first | rw [WP_condK] | rw [WP_opsG] | rw [WP_quiG] | rw [WP_dG]); refine And.intro (fun hb => ?_) (fun hb => ?_) <;> (first | have hd := dq1 hb | have hd := dq2 hb | have hd := dq3 hb | have hd := dq4 hb | skip)))
    first
    | exact next _ _ _ _ _ rfl g1 g2 rfl rfl rfl rfl rfl rfl
    | exact next { K with o := m.o } _ _ _ _ rfl (.inr ⟨_, rfl⟩) g2 rfl rfl rfl rfl rfl rfl
    | exact next { K with r := m.r } _ _ _ _ rfl g1 (.inr ⟨_, rfl⟩) rfl rfl rfl rfl rfl rfl
end Go.Proofs.Ytnlemcfhndjheaa.AM

/- wire: the program's Bare, whole; isBare. -/
namespace Go.Proofs.Ytnlemcfhndjheaa.AM
open Go
set_option maxRecDepth 100000
set_option maxHeartbeats 4000000
set_option linter.unusedSimpArgs false
set_option linter.unusedVariables false
theorem bare_ok (m : Pm) (vo vr : AV) (fo : Fm vo m.o) (fr : Fm vr m.r) (to : Tx vo m.o) (tr : Tx vr m.r) (ho : m.o.length ≤ 140737488351232) (hr : m.r.length ≤ 140737488351232) : ∃ wo wr, prun T F18 [.agg (msC m vo vr)] = some (.agg (msC (bareS m) wo wr)) ∧ Fm wo (bareS m).o ∧ Fm wr (bareS m).r ∧ Tx wo (bareS m).o ∧ Tx wr (bareS m).r := by
  suffices h : WP (fun v => ∃ wo wr, v = .agg (msC (bareS m) wo wr) ∧ Fm wo (bareS m).o ∧ Fm wr (bareS m).r ∧ Tx wo (bareS m).o ∧ Tx wr (bareS m).r) (prun T F18 [.agg (msC m vo vr)]) by
    obtain ⟨v, h1, wo, wr, rfl, h2⟩ := WP_ex h
    exact ⟨wo, wr, h1, h2⟩
  refine prun_wp ?_
  have hb : bareS m = keepS m (fieldsS m.k) := rfl
  have hall := fun t (ht : t ∈ fieldsS m.k) => fields_all ht
  have hfl := fields_len m.k
  rw [hb]
  by_cases hf : fieldsS m.k = []
  · have hv : fieldsV m.k = .nil := if_pos hf
    rw [hf]
    have hkn := keep_nil m
    have ko : (keepS m []).o = [] := by simp [keepS]
    have kr : (keepS m []).r = [] := by simp [keepS]
    rw [ko, kr]
    generalize hK : keepS m [] = K at *
    have hb := trivial
    repeat' (first | (simp -implicitDefEqProofs (disch := omega) only [hb, F18, wG, call_fields, hv, to.strip, tr.strip, to.one, tr.one, to.cells, tr.cells, one_nil, wC, wO, initE, aop, Nat.reduceEqDiff, ↓reduceIte, Nat.reduceAdd, finish, resOf, tupOf, AM.freeze, freeze1, freezeL, closed, nam, namL, if_true, if_false, deref, boxAt, exAt, ldCells, oneL, oneCell, Nat.reduceLeDiff, evL, adopt, rigid, rigidL, trim, Int.reduceEq, Int.reduceMod, Int.reduceDiv, if_pos, if_neg, asI, forall_const, implies_true, chkD, chkO, chkW, effB, reB, vEq, beq_self_eq_true, Nat.reduceSub, Nat.reduceLT, Int.reduceSub, Int.reduceAdd, Int.reduceMul, Int.reduceLT, Int.reduceLE, Int.reduceToNat, optI, aslice, cutSl, cutMs, cutStr, cutOwn]) | ((first | rw [WP_condK] | rw [WP_opsG] | rw [WP_quiG] | rw [WP_dG]); refine And.intro (fun hb => ?_) (fun hb => ?_) <;> (first | have hd := dq1 hb | have hd := dq2 hb | have hd := dq3 hb | have hd := dq4 hb | skip)))
    rw [← hkn]
    refine WP_loop (I := fun n e h => getE e 1 = .ref (msC m vo vr) ∧ getE e 2 = .ptr 0 0 ∧ getE e 3 = .ptr 1 0 ∧ getE e 12 = i64 0 ∧ getE e 13 = i64 0 ∧ h = [.cells (msC Pm.zero .nil .nil), .cells (msC K .nil .nil)]) ?_ 0 _ _ ⟨rfl, rfl, rfl, rfl, rfl, rfl⟩
    rintro n e h ⟨h1, h2, h3, h12, h13, rfl⟩
    rw [trim_off]
    have hb := trivial
    repeat' (first | (simp -implicitDefEqProofs (disch := omega) only [hb, L18_0, wG, h1, h2, h3, h12, h13, tx_nil.strip, tx_nil.one, tx_nil.cl, wC, wO, initE, aop, Nat.reduceEqDiff, ↓reduceIte, Nat.reduceAdd, finish, resOf, tupOf, AM.freeze, freeze1, freezeL, closed, nam, namL, if_true, if_false, deref, boxAt, exAt, ldCells, oneL, oneCell, Nat.reduceLeDiff, evL, adopt, rigid, rigidL, trim, Int.reduceEq, Int.reduceMod, Int.reduceDiv, if_pos, if_neg, asI, forall_const, implies_true, chkD, chkO, chkW, effB, reB, vEq, beq_self_eq_true, Nat.reduceSub, Nat.reduceLT, Int.reduceSub, Int.reduceAdd, Int.reduceMul, Int.reduceLT, Int.reduceLE, Int.reduceToNat, optI, aslice, cutSl, cutMs, cutStr, cutOwn]) | ((first | rw [WP_condK] | rw [WP_opsG] | rw [WP_quiG] | rw [WP_dG]); refine And.intro (fun hb => ?_) (fun hb => ?_) <;> (first | have hd := dq1 hb | have hd := dq2 hb | have hd := dq3 hb | have hd := dq4 hb | skip)))
    exact ⟨.nil, .nil, rfl, .inl ⟨rfl, rfl⟩, .inl ⟨rfl, rfl⟩, tx_nil, tx_nil⟩
  · have hv : fieldsV m.k = .slice .full none ((fieldsS m.k).map u64) := if_neg hf
    generalize hfs : fieldsS m.k = fs at *
    have hb := trivial
    repeat' (first | (simp -implicitDefEqProofs (disch := omega) only [hb, F18, wG, call_fields, hv, to.strip, tr.strip, to.one, tr.one, to.cells, tr.cells, one_nil, wC, wO, initE, aop, Nat.reduceEqDiff, ↓reduceIte, Nat.reduceAdd, finish, resOf, tupOf, AM.freeze, freeze1, freezeL, closed, nam, namL, if_true, if_false, deref, boxAt, exAt, ldCells, oneL, oneCell, Nat.reduceLeDiff, evL, adopt, rigid, rigidL, trim, Int.reduceEq, Int.reduceMod, Int.reduceDiv, if_pos, if_neg, asI, forall_const, implies_true, chkD, chkO, chkW, effB, reB, vEq, beq_self_eq_true, Nat.reduceSub, Nat.reduceLT, Int.reduceSub, Int.reduceAdd, Int.reduceMul, Int.reduceLT, Int.reduceLE, Int.reduceToNat, optI, aslice, cutSl, cutMs, cutStr, cutOwn]) | ((first | rw [WP_condK] | rw [WP_opsG] | rw [WP_quiG] | rw [WP_dG]); refine And.intro (fun hb => ?_) (fun hb => ?_) <;> (first | have hd := dq1 hb | have hd := dq2 hb | have hd := dq3 hb | have hd := dq4 hb | skip)))
    refine WP_loop (I := BareI m vo vr fs) ?_ fs.length _ _ (show BareI m vo vr fs fs.length _ _ from ⟨0, .nil, .nil, [], by omega, rfl, rfl, rfl, rfl, rfl, rfl, ?_, .inl ⟨rfl, by simp [keepS]⟩, .inl ⟨rfl, by simp [keepS]⟩⟩)
    · rintro n e h ⟨i, xo, xr, rest, hn, h1, h2, h3, h11, h12, h13, rfl, g1, g2⟩
      rw [trim_off]
      by_cases hlt : i < fs.length
      · exact bare_step m vo vr fs hall fo fr to tr ho hr hfl _ n i e rest xo xr _ rfl hn h1 h2 h3 h11 h12 h13 g1 g2 hlt
      · have hi : i = fs.length := by omega
        subst hi
        rw [List.take_length] at g1 g2 ⊢
        have hb := trivial
        repeat' (first | (simp -implicitDefEqProofs (disch := omega) only [hb, L18_0, wG, h1, h2, h3, h11, h12, h13, Fm.one g1, Fm.one g2, (Fm.tx g1).cl, (Fm.tx g2).cl, wC, wO, initE, aop, Nat.reduceEqDiff, ↓reduceIte, Nat.reduceAdd, finish, resOf, tupOf, AM.freeze, freeze1, freezeL, closed, nam, namL, if_true, if_false, deref, boxAt, exAt, ldCells, oneL, oneCell, Nat.reduceLeDiff, evL, adopt, rigid, rigidL, trim, Int.reduceEq, Int.reduceMod, Int.reduceDiv, if_pos, if_neg, asI, forall_const, implies_true, chkD, chkO, chkW, effB, reB, vEq, beq_self_eq_true, Nat.reduceSub, Nat.reduceLT, Int.reduceSub, Int.reduceAdd, Int.reduceMul, Int.reduceLT, Int.reduceLE, Int.reduceToNat, optI, aslice, cutSl, cutMs, cutStr, cutOwn]) | ((first | rw [WP_condK] | rw [WP_opsG] | rw [WP_quiG] | rw [WP_dG]); refine And.intro (fun hb => ?_) (fun hb => ?_) <;> (first | have hd := dq1 hb | have hd := dq2 hb | have hd := dq3 hb | have hd := dq4 hb | skip)))
        exact ⟨_, _, rfl, g1.strip, g2.strip, g1.tx, g2.tx⟩
    · rw [List.take_zero, keep_nil]
theorem index_okO (o : AOwn) (ks : List Int) (x : Int) (hn : ks.length ≤ 140737488351232) : ∃ j : Int, prun T F52 [.slice o none (ks.map u64), u64 x] = some (i64 j) ∧ (0 ≤ j ↔ x ∈ ks) := by
  suffices h : WP (fun v => ∃ j : Int, v = i64 j ∧ (0 ≤ j ↔ x ∈ ks)) (prun T F52 [.slice o none (ks.map u64), u64 x]) by
    obtain ⟨v, h1, j, rfl, h3⟩ := WP_ex h
    exact ⟨j, h1, h3⟩
  refine prun_wp ?_
  simp -implicitDefEqProofs (disch := omega) only [F52, wC, initE, aop, Nat.reduceEqDiff, ↓reduceIte, Nat.reduceAdd, finish, resOf, tupOf, AM.freeze, freeze1, freezeL, closed, nam, namL, if_true, if_false, deref, boxAt, exAt, ldCells, oneL, oneCell, Nat.reduceLeDiff, evL, adopt, rigid, rigidL, trim, Int.reduceEq, Int.reduceMod, Int.reduceDiv, if_pos, if_neg, asI, forall_const, implies_true, chkD, chkO, chkW, effB, reB, vEq, beq_self_eq_true, Nat.reduceSub, Nat.reduceLT, Int.reduceSub, Int.reduceAdd, Int.reduceMul, Int.reduceLT, Int.reduceLE, Int.reduceToNat, optI, aslice, cutSl, cutMs, cutStr, cutOwn, cellsOf, one, elCells, lenOf, beqV, beqVL, strip, stripO, convS]
  refine WP_loop (I := fun k e h => ∃ i : Nat, k + i = ks.length ∧ h = [] ∧ getE e 0 = .slice o none (ks.map u64) ∧ getE e 1 = u64 x ∧ getE e 7 = i64 ks.length ∧ getE e 8 = i64 i ∧ x ∉ ks.take i) ?_ ks.length _ _ ⟨0, by omega, rfl, rfl, rfl, rfl, rfl, by simp⟩
  rintro k e h ⟨i, hk, rfl, h0, h1, h7, h8, hm⟩
  rw [trim_same' (by simp)]
  by_cases hlt : i < ks.length
  · have hg := get_map (f := u64) hlt
    have hb := trivial
    repeat' (first | (simp -implicitDefEqProofs (disch := omega) only [hb, L52_0, h0, h1, h7, h8, hg, wC, initE, aop, Nat.reduceEqDiff, ↓reduceIte, Nat.reduceAdd, finish, resOf, tupOf, AM.freeze, freeze1, freezeL, closed, nam, namL, if_true, if_false, deref, boxAt, exAt, ldCells, oneL, oneCell, Nat.reduceLeDiff, evL, adopt, rigid, rigidL, trim, Int.reduceEq, Int.reduceMod, Int.reduceDiv, if_pos, if_neg, asI, forall_const, implies_true, chkD, chkO, chkW, effB, reB, vEq, beq_self_eq_true, Nat.reduceSub, Nat.reduceLT, Int.reduceSub, Int.reduceAdd, Int.reduceMul, Int.reduceLT, Int.reduceLE, Int.reduceToNat, optI, aslice, cutSl, cutMs, cutStr, cutOwn, cellsOf, one, elCells, lenOf, beqV, beqVL, strip, stripO, convS]) | ((first | rw [WP_condK] | rw [WP_opsG] | rw [WP_quiG] | rw [WP_dG]); refine And.intro (fun hb => ?_) (fun hb => ?_) <;> (first | have hd := dq1 hb | have hd := dq2 hb | have hd := dq3 hb | have hd := dq4 hb | skip)))
    · exact ⟨i, rfl, by constructor; (· intro _; rw [hd]; exact List.getElem_mem _); (· intro _; omega)⟩
    · exact ⟨k - 1, by omega, i + 1, by omega, rfl, mem_take_succ hlt hm fun hh => hd hh.symm⟩
  · have hi : i = ks.length := by omega
    subst hi
    rw [List.take_length] at hm
    have hb := trivial
    repeat' (first | (simp -implicitDefEqProofs (disch := omega) only [hb, L52_0, h0, h1, h7, h8, wC, initE, aop, Nat.reduceEqDiff, ↓reduceIte, Nat.reduceAdd, finish, resOf, tupOf, AM.freeze, freeze1, freezeL, closed, nam, namL, if_true, if_false, deref, boxAt, exAt, ldCells, oneL, oneCell, Nat.reduceLeDiff, evL, adopt, rigid, rigidL, trim, Int.reduceEq, Int.reduceMod, Int.reduceDiv, if_pos, if_neg, asI, forall_const, implies_true, chkD, chkO, chkW, effB, reB, vEq, beq_self_eq_true, Nat.reduceSub, Nat.reduceLT, Int.reduceSub, Int.reduceAdd, Int.reduceMul, Int.reduceLT, Int.reduceLE, Int.reduceToNat, optI, aslice, cutSl, cutMs, cutStr, cutOwn, cellsOf, one, elCells, lenOf, beqV, beqVL, strip, stripO, convS]) | ((first | rw [WP_condK] | rw [WP_opsG] | rw [WP_quiG] | rw [WP_dG]); refine And.intro (fun hb => ?_) (fun hb => ?_) <;> (first | have hd := dq1 hb | have hd := dq2 hb | have hd := dq3 hb | have hd := dq4 hb | skip)))
    exact ⟨-1, rfl, by constructor; (· intro hh; omega); (· intro hh; exact absurd hh hm)⟩
theorem u64_cl2 (o : AOwn) (ho : stripO o = o) (hno : (match o with | .tok _ => false | _ => true) = true) (ks : List Int) (x : Int) : closedL [.slice o none (ks.map u64), u64 x] = true := by
  have := u64_closed ks
  simp only [closedL, namL, nam, Bool.and_true] at this ⊢
  rw [this, Bool.and_true]
  cases o <;> first | rfl | cases hno
theorem containsV (k x : Int) (h : Heap) : ag T 40 [fieldsV k, u64 x] h = some (.sc (.bool (decide (x ∈ fieldsS k))), h) := by
  by_cases hf : fieldsS k = []
  · have hv : fieldsV k = .nil := if_pos hf
    rw [hv, hf]
    have k1 : ∀ h, ag T 52 [.nil, u64 x] h = some (i64 (-1), h) := fun h => call_sc rfl t52 rfl rfl rfl rfl (WP_eq (prun_wp (by
      simp -implicitDefEqProofs (disch := omega) only [F52, wC, wO, initE, aop, Nat.reduceEqDiff, ↓reduceIte, Nat.reduceAdd, finish, resOf, tupOf, AM.freeze, freeze1, freezeL, closed, nam, namL, if_true, if_false, deref, boxAt, exAt, ldCells, oneL, oneCell, Nat.reduceLeDiff, evL, adopt, rigid, rigidL, trim, Int.reduceEq, Int.reduceMod, Int.reduceDiv, if_pos, if_neg, asI, forall_const, implies_true, chkD, chkO, chkW, effB, reB, vEq, beq_self_eq_true, Nat.reduceSub, Nat.reduceLT, Int.reduceSub, Int.reduceAdd, Int.reduceMul, Int.reduceLT, Int.reduceLE, Int.reduceToNat, optI, aslice, cutSl, cutMs, cutStr, cutOwn]
      refine WP_loop (I := fun k e h => getE e 7 = i64 0 ∧ getE e 8 = i64 0 ∧ h = []) ?_ 0 _ _ ⟨rfl, rfl, rfl⟩
      rintro n e h ⟨h7, h8, rfl⟩
      rw [trim_same' (by simp)]
      have hb := trivial
      repeat' (first | (simp -implicitDefEqProofs (disch := omega) only [hb, L52_0, h7, h8, wC, wO, initE, aop, Nat.reduceEqDiff, ↓reduceIte, Nat.reduceAdd, finish, resOf, tupOf, AM.freeze, freeze1, freezeL, closed, nam, namL, if_true, if_false, deref, boxAt, exAt, ldCells, oneL, oneCell, Nat.reduceLeDiff, evL, adopt, rigid, rigidL, trim, Int.reduceEq, Int.reduceMod, Int.reduceDiv, if_pos, if_neg, asI, forall_const, implies_true, chkD, chkO, chkW, effB, reB, vEq, beq_self_eq_true, Nat.reduceSub, Nat.reduceLT, Int.reduceSub, Int.reduceAdd, Int.reduceMul, Int.reduceLT, Int.reduceLE, Int.reduceToNat, optI, aslice, cutSl, cutMs, cutStr, cutOwn]) | ((first | rw [WP_condK] | rw [WP_opsG] | rw [WP_quiG] | rw [WP_dG]); refine And.intro (fun hb => ?_) (fun hb => ?_) <;> (first | have hd := dq1 hb | have hd := dq2 hb | have hd := dq3 hb | have hd := dq4 hb | skip))))))
    refine call_sc rfl t40 rfl rfl rfl rfl (WP_eq (prun_wp ?_))
    have hb := trivial
    repeat' (first | (simp -implicitDefEqProofs (disch := omega) only [hb, F40, k1, wC, wO, initE, aop, Nat.reduceEqDiff, ↓reduceIte, Nat.reduceAdd, finish, resOf, tupOf, AM.freeze, freeze1, freezeL, closed, nam, namL, if_true, if_false, deref, boxAt, exAt, ldCells, oneL, oneCell, Nat.reduceLeDiff, evL, adopt, rigid, rigidL, trim, Int.reduceEq, Int.reduceMod, Int.reduceDiv, if_pos, if_neg, asI, forall_const, implies_true, chkD, chkO, chkW, effB, reB, vEq, beq_self_eq_true, Nat.reduceSub, Nat.reduceLT, Int.reduceSub, Int.reduceAdd, Int.reduceMul, Int.reduceLT, Int.reduceLE, Int.reduceToNat, optI, aslice, cutSl, cutMs, cutStr, cutOwn]) | ((first | rw [WP_condK] | rw [WP_opsG] | rw [WP_quiG] | rw [WP_dG]); refine And.intro (fun hb => ?_) (fun hb => ?_) <;> (first | have hd := dq1 hb | have hd := dq2 hb | have hd := dq3 hb | have hd := dq4 hb | skip)))
    simp
  · have hv : fieldsV k = .slice .full none ((fieldsS k).map u64) := if_neg hf
    rw [hv]
    obtain ⟨j, hj, hj2⟩ := index_okO .full (fieldsS k) x (by have := fields_len k; omega)
    have hc : ∀ h, ag T 52 [.slice .full none ((fieldsS k).map u64), u64 x] h = some (i64 j, h) := fun h => call_sc rfl t52 rfl rfl rfl (u64_cl2 .full rfl rfl _ x) hj
    refine call_sc rfl t40 rfl rfl rfl (u64_cl2 .full rfl rfl _ x) (WP_eq (prun_wp ?_))
    have hb := trivial
    repeat' (first | (simp -implicitDefEqProofs (disch := omega) only [hb, F40, hc, wC, wO, initE, aop, Nat.reduceEqDiff, ↓reduceIte, Nat.reduceAdd, finish, resOf, tupOf, AM.freeze, freeze1, freezeL, closed, nam, namL, if_true, if_false, deref, boxAt, exAt, ldCells, oneL, oneCell, Nat.reduceLeDiff, evL, adopt, rigid, rigidL, trim, Int.reduceEq, Int.reduceMod, Int.reduceDiv, if_pos, if_neg, asI, forall_const, implies_true, chkD, chkO, chkW, effB, reB, vEq, beq_self_eq_true, Nat.reduceSub, Nat.reduceLT, Int.reduceSub, Int.reduceAdd, Int.reduceMul, Int.reduceLT, Int.reduceLE, Int.reduceToNat, optI, aslice, cutSl, cutMs, cutStr, cutOwn]) | ((first | rw [WP_condK] | rw [WP_opsG] | rw [WP_quiG] | rw [WP_dG]); refine And.intro (fun hb => ?_) (fun hb => ?_) <;> (first | have hd := dq1 hb | have hd := dq2 hb | have hd := dq3 hb | have hd := dq4 hb | skip)))
    all_goals simp [hj2]
end Go.Proofs.Ytnlemcfhndjheaa.AM

/- wire: whether a message may be. -/
namespace Go.Proofs.Ytnlemcfhndjheaa.AM
open Go
set_option maxRecDepth 100000
set_option maxHeartbeats 4000000
set_option linter.unusedSimpArgs false
set_option linter.unusedVariables false
def zeroAt (m : Pm) (t : Int) : Prop := if t = 1 then m.c = 0 else if t = 3 then m.i = 0 else if t = 5 then m.a = 0 else if t = 7 then m.e = 0 else if t = 9 then m.h = zero32 else if t = 11 then m.o = [] else if t = 13 then m.s = zero32 else if t = 15 then m.p = zero32 else if t = 17 then m.t = zero32 else if t = 19 then m.n = 0 else if t = 21 then m.d = 0 else if t = 23 then m.r = [] else True
theorem bare_iff (m : Pm) (fs : List Int) : (∀ t ∈ allT, t ∉ fs → zeroAt m t) ↔ m = keepS m fs := by
  constructor
  · intro h
    have g : ∀ t ∈ allT, t ∉ fs → zeroAt m t := h
    have g1 : 1 ≤ 1 → 1 ∉ fs → m.c = 0 := fun _ hh => by have := g 1 (by simp [allT]) hh; simpa [zeroAt] using this
    have g3 : 1 ≤ 1 → 3 ∉ fs → m.i = 0 := fun _ hh => by have := g 3 (by simp [allT]) hh; simpa [zeroAt] using this
    have g5 : 1 ≤ 1 → 5 ∉ fs → m.a = 0 := fun _ hh => by have := g 5 (by simp [allT]) hh; simpa [zeroAt] using this
    have g7 : 1 ≤ 1 → 7 ∉ fs → m.e = 0 := fun _ hh => by have := g 7 (by simp [allT]) hh; simpa [zeroAt] using this
    have g9 : 1 ≤ 1 → 9 ∉ fs → m.h = zero32 := fun _ hh => by have := g 9 (by simp [allT]) hh; simpa [zeroAt] using this
    have g11 : 1 ≤ 1 → 11 ∉ fs → m.o = [] := fun _ hh => by have := g 11 (by simp [allT]) hh; simpa [zeroAt] using this
    have g13 : 1 ≤ 1 → 13 ∉ fs → m.s = zero32 := fun _ hh => by have := g 13 (by simp [allT]) hh; simpa [zeroAt] using this
    have g15 : 1 ≤ 1 → 15 ∉ fs → m.p = zero32 := fun _ hh => by have := g 15 (by simp [allT]) hh; simpa [zeroAt] using this
    have g17 : 1 ≤ 1 → 17 ∉ fs → m.t = zero32 := fun _ hh => by have := g 17 (by simp [allT]) hh; simpa [zeroAt] using this
    have g19 : 1 ≤ 1 → 19 ∉ fs → m.n = 0 := fun _ hh => by have := g 19 (by simp [allT]) hh; simpa [zeroAt] using this
    have g21 : 1 ≤ 1 → 21 ∉ fs → m.d = 0 := fun _ hh => by have := g 21 (by simp [allT]) hh; simpa [zeroAt] using this
    have g23 : 1 ≤ 1 → 23 ∉ fs → m.r = [] := fun _ hh => by have := g 23 (by simp [allT]) hh; simpa [zeroAt] using this
    refine Pm.ext rfl ?_ ?_ ?_ ?_ ?_ ?_ ?_ ?_ ?_ ?_ ?_ ?_
    all_goals simp only [keepS]
    all_goals split
    all_goals first | rfl | (rename_i hh; first | exact g1 (Nat.le_refl 1) hh | exact g3 (Nat.le_refl 1) hh | exact g5 (Nat.le_refl 1) hh | exact g7 (Nat.le_refl 1) hh | exact g9 (Nat.le_refl 1) hh | exact g11 (Nat.le_refl 1) hh | exact g13 (Nat.le_refl 1) hh | exact g15 (Nat.le_refl 1) hh | exact g17 (Nat.le_refl 1) hh | exact g19 (Nat.le_refl 1) hh | exact g21 (Nat.le_refl 1) hh | exact g23 (Nat.le_refl 1) hh)
  · intro h t ht hn
    rw [h]
    simp only [allT, List.mem_cons, List.not_mem_nil, or_false] at ht
    rcases ht with rfl | rfl | rfl | rfl | rfl | rfl | rfl | rfl | rfl | rfl | rfl | rfl <;> simp [zeroAt, keepS, hn]
theorem len0 {l : List Int} : (0 < l.length) = (l ≠ []) := by
  cases l <;> simp
theorem isBare_ok (m : Pm) (vo vr : AV) (to : Tx vo m.o) (tr : Tx vr m.r) (ho : m.o.length ≤ 140737488351232) (hr : m.r.length ≤ 140737488351232) : prun T F33 [.agg (msC m vo vr)] = some (.sc (.bool (decide (m = bareS m)))) := by
  have hbi := bare_iff m (fieldsS m.k)
  have hcv := fun x h => containsV m.k x h
  have t1 := to.len
  have t2 := tr.len
  refine WP_eq (prun_wp ?_)
  have hb := trivial
  repeat' (first | (simp -implicitDefEqProofs (disch := omega) only [hb, F33, wG, call_fields, to.strip, tr.strip, to.one, tr.one, to.cells, tr.cells, wC, wO, initE, aop, Nat.reduceEqDiff, ↓reduceIte, Nat.reduceAdd, finish, resOf, tupOf, AM.freeze, freeze1, freezeL, closed, nam, namL, if_true, if_false, deref, boxAt, exAt, ldCells, oneL, oneCell, Nat.reduceLeDiff, evL, adopt, rigid, rigidL, trim, Int.reduceEq, Int.reduceMod, Int.reduceDiv, if_pos, if_neg, asI, forall_const, implies_true, chkD, chkO, chkW, effB, reB, vEq, beq_self_eq_true, Nat.reduceSub, Nat.reduceLT, Int.reduceSub, Int.reduceAdd, Int.reduceMul, Int.reduceLT, Int.reduceLE, Int.reduceToNat, optI, aslice, cutSl, cutMs, cutStr, cutOwn]) | ((first | rw [WP_condK] | rw [WP_opsG] | rw [WP_quiG] | rw [WP_dG]); refine And.intro (fun hb => ?_) (fun hb => ?_) <;> (first | have hd := dq1 hb | have hd := dq2 hb | have hd := dq3 hb | have hd := dq4 hb | skip)))
  refine WP_loop (I := fun n e h => ∃ j : Nat, n + j = 12 ∧ h = [] ∧ getE e 1 = .ref (msC m vo vr) ∧ getE e 3 = fieldsV m.k ∧ getE e 4 = u64 ((2 * j + 1 : Nat) : Int) ∧ ∀ t ∈ allT, t < 2 * j + 1 → t ∉ fieldsS m.k → zeroAt m t) ?_ 12 _ _ ⟨0, by omega, rfl, rfl, rfl, rfl, ?_⟩
  · rintro n e h ⟨j, hn, rfl, h1, h3, h4, hI⟩
    rw [trim_same' (by simp)]
    have next : j < 12 → (((2 * j + 1 : Nat) : Int) ∉ fieldsS m.k → zeroAt m ((2 * j + 1 : Nat) : Int)) → ∀ X : AV, X = u64 ((2 * (j + 1) + 1 : Nat) : Int) → ∃ n', n' < n ∧ ∃ j : Nat, n' + j = 12 ∧ X = u64 ((2 * j + 1 : Nat) : Int) ∧ ∀ t ∈ allT, t < 2 * j + 1 → t ∉ fieldsS m.k → zeroAt m t := by
      intro hj hz X q4
      refine ⟨n - 1, by omega, j + 1, by omega, q4, fun t ht hlt hn => ?_⟩
      by_cases h' : t < 2 * j + 1
      · exact hI t ht h' hn
      · have e2 : t = ((2 * j + 1 : Nat) : Int) := by
          simp only [allT, List.mem_cons, List.not_mem_nil, or_false] at ht
          omega
        rw [e2]; exact hz (e2 ▸ hn)
    have bad : j < 12 → ((2 * j + 1 : Nat) : Int) ∉ fieldsS m.k → ¬ zeroAt m ((2 * j + 1 : Nat) : Int) → ¬ m = bareS m := fun hj h' hz hh => hz (hbi.2 hh _ (by
      simp only [allT, List.mem_cons, List.not_mem_nil, or_false]
      omega) h')
    have hj13 : j = 0 ∨ j = 1 ∨ j = 2 ∨ j = 3 ∨ j = 4 ∨ j = 5 ∨ j = 6 ∨ j = 7 ∨ j = 8 ∨ j = 9 ∨ j = 10 ∨ j = 11 ∨ j = 12 := by omega
    rcases hj13 with rfl | rfl | rfl | rfl | rfl | rfl | rfl | rfl | rfl | rfl | rfl | rfl | rfl
    all_goals
      have hb := trivial
      repeat' (first | (simp -implicitDefEqProofs (disch := omega) only [hb, L33_0, wG, h1, h3, h4, hcv, p40, numR, hashR, textR, numOff, hashOff, textOff, offR, z32, eqC32, t1, t2, wC, wO, initE, aop, Nat.reduceEqDiff, ↓reduceIte, Nat.reduceAdd, finish, resOf, tupOf, AM.freeze, freeze1, freezeL, closed, nam, namL, if_true, if_false, deref, boxAt, exAt, ldCells, oneL, oneCell, Nat.reduceLeDiff, evL, adopt, rigid, rigidL, trim, Int.reduceEq, Int.reduceMod, Int.reduceDiv, if_pos, if_neg, asI, forall_const, implies_true, chkD, chkO, chkW, effB, reB, vEq, beq_self_eq_true, Nat.reduceSub, Nat.reduceLT, Int.reduceSub, Int.reduceAdd, Int.reduceMul, Int.reduceLT, Int.reduceLE, Int.reduceToNat, optI, aslice, cutSl, cutMs, cutStr, cutOwn]) | ((first | rw [WP_condK] | rw [WP_opsG] | rw [WP_quiG] | rw [WP_dG]); refine And.intro (fun hb => ?_) (fun hb => ?_) <;> (first | have hd := dq1 hb | have hd := dq2 hb | have hd := dq3 hb | have hd := dq4 hb | skip)))
      all_goals first
      | exact next (by omega) (fun hz => absurd hd hz) _ rfl
      | exact next (by omega) (fun hz => by simp [zeroAt]; exact hd) _ rfl
      | (rw [decide_eq_false (bad (by omega) (by assumption) (by simp [zeroAt]; exact hd))])
      | exact next (by omega) (fun hz => by simp [zeroAt]; exact List.eq_nil_of_length_eq_zero (by omega)) _ rfl
      | (rw [decide_eq_false (bad (by omega) (by assumption) (by simp [zeroAt]; intro h0; rw [h0] at hd; simp at hd))])
      | (have e : m = bareS m := hbi.1 fun t ht hn => hI t ht (by simp only [allT, List.mem_cons, List.not_mem_nil, or_false] at ht; omega) hn
         rw [decide_eq_true e])
      | trace_state
  · intro t ht hlt
    simp only [allT, List.mem_cons, List.not_mem_nil, or_false] at ht
    omega
end Go.Proofs.Ytnlemcfhndjheaa.AM

/- wire: May. -/
namespace Go.Proofs.Ytnlemcfhndjheaa.AM
open Go
set_option maxRecDepth 100000
set_option maxHeartbeats 4000000
set_option linter.unusedSimpArgs false
set_option linter.unusedVariables false
def MayP (m : Pm) : Prop := fieldsS m.k ≠ [] ∧ m = bareS m ∧ 1 ≤ m.c ∧ m.c ≤ 65535 ∧ 0 ≤ m.i ∧ m.i ≤ 2147483647 ∧ 0 ≤ m.a ∧ 0 ≤ m.e ∧ m.e ≤ 2147483647 ∧ 0 ≤ m.n ∧ m.n ≤ 2147483647 ∧ 0 ≤ m.d ∧ m.d ≤ 2147483647 ∧ m.r.length ≤ 256 ∧ (m.k ≠ 1 ∨ m.o.length = 2112)
instance (m : Pm) : Decidable (MayP m) := by unfold MayP; infer_instance
theorem call_isBare (m : Pm) (vo vr : AV) (to : Tx vo m.o) (tr : Tx vr m.r) (ho : m.o.length ≤ 140737488351232) (hr : m.r.length ≤ 140737488351232) (h : Heap) : ag T 33 [.agg (msC m vo vr)] h = some (.sc (.bool (decide (m = bareS m))), h) :=
  call_sc rfl t33 rfl rfl rfl (ms_closed m to.cl tr.cl) (isBare_ok m vo vr to tr ho hr)
theorem call_rbare (m : Pm) (vo vr : AV) (to : Tx vo m.o) (tr : Tx vr m.r) (h : Heap) : ag T 19 [.agg (msC m vo vr)] h = some (.agg (msC (bareS m) (ko (fieldsS m.k) vo) (kr (fieldsS m.k) vr)), h) :=
  call_agg rfl t19 rfl rfl rfl (ms_closed m to.cl tr.cl) (rbare_ok m vo vr to tr)
theorem call_same_m (a b : Pm) (vo vr wo wr : AV) (ta : Tx vo a.o) (tb : Tx vr a.r) (tc : Tx wo b.o) (td : Tx wr b.r) (ha : Bytes a.o) (hb : Bytes a.r) (hc : Bytes b.o) (hd : Bytes b.r) (h : Heap) : ag T 12 [.agg (msC a vo vr), .agg (msC b wo wr)] h = some (.sc (.bool (decide (a = b))), h) :=
  call_sc rfl t12 rfl rfl rfl (by simp only [closedL, namL, nam, ms_nam, ta.cl, tb.cl, tc.cl, td.cl, Bool.and_self]) (same_m a b vo vr wo wr ta tb tc td ha hb hc hd)
theorem bytes_nil : Bytes [] := by intro c hc; cases hc
theorem bare_bytes {m : Pm} (ho : Bytes m.o) (hr : Bytes m.r) : Bytes (bareS m).o ∧ Bytes (bareS m).r := by
  simp only [bareS, keepS]
  constructor
  · split
    · exact ho
    · exact bytes_nil
  · split
    · exact hr
    · exact bytes_nil
theorem may_ok (m : Pm) (vo vr : AV) (to : Tx vo m.o) (tr : Tx vr m.r) (ho : m.o.length ≤ 140737488351232) (hr : m.r.length ≤ 140737488351232) : prun T F16 [.agg (msC m vo vr)] = some (.sc (.bool (decide (MayP m)))) := by
  have hcb := fun h => call_isBare m vo vr to tr ho hr h
  have t1 := to.len
  have t2 := tr.len
  by_cases hf : fieldsS m.k = []
  · have hv : fieldsV m.k = .nil := if_pos hf
    rw [decide_eq_false (fun hh => hh.1 hf)]
    refine WP_eq (prun_wp ?_)
    have hb := trivial
    repeat' (first | (simp -implicitDefEqProofs (disch := omega) only [hb, F16, wG, call_fields, hv, to.strip, tr.strip, to.one, tr.one, to.cells, tr.cells, wC, wO, initE, aop, Nat.reduceEqDiff, ↓reduceIte, Nat.reduceAdd, finish, resOf, tupOf, AM.freeze, freeze1, freezeL, closed, nam, namL, if_true, if_false, deref, boxAt, exAt, ldCells, oneL, oneCell, Nat.reduceLeDiff, evL, adopt, rigid, rigidL, trim, Int.reduceEq, Int.reduceMod, Int.reduceDiv, if_pos, if_neg, asI, forall_const, implies_true, chkD, chkO, chkW, effB, reB, vEq, beq_self_eq_true, Nat.reduceSub, Nat.reduceLT, Int.reduceSub, Int.reduceAdd, Int.reduceMul, Int.reduceLT, Int.reduceLE, Int.reduceToNat, optI, aslice, cutSl, cutMs, cutStr, cutOwn]) | ((first | rw [WP_condK] | rw [WP_opsG] | rw [WP_quiG] | rw [WP_dG]); refine And.intro (fun hb => ?_) (fun hb => ?_) <;> (first | have hd := dq1 hb | have hd := dq2 hb | have hd := dq3 hb | have hd := dq4 hb | skip)))
  · have hv : fieldsV m.k = .slice .full none ((fieldsS m.k).map u64) := if_neg hf
    obtain ⟨f0, fl, hfe⟩ := List.exists_cons_of_ne_nil hf
    rw [hfe, List.map_cons] at hv
    refine WP_eq (prun_wp ?_)
    have hb := trivial
    repeat' (first | (simp -implicitDefEqProofs (disch := omega) only [hb, F16, wG, call_fields, hv, to.strip, tr.strip, to.one, tr.one, to.cells, tr.cells, hcb, p33, call_within, t1, t2, wC, wO, initE, aop, Nat.reduceEqDiff, ↓reduceIte, Nat.reduceAdd, finish, resOf, tupOf, AM.freeze, freeze1, freezeL, closed, nam, namL, if_true, if_false, deref, boxAt, exAt, ldCells, oneL, oneCell, Nat.reduceLeDiff, evL, adopt, rigid, rigidL, trim, Int.reduceEq, Int.reduceMod, Int.reduceDiv, if_pos, if_neg, asI, forall_const, implies_true, chkD, chkO, chkW, effB, reB, vEq, beq_self_eq_true, Nat.reduceSub, Nat.reduceLT, Int.reduceSub, Int.reduceAdd, Int.reduceMul, Int.reduceLT, Int.reduceLE, Int.reduceToNat, optI, aslice, cutSl, cutMs, cutStr, cutOwn]) | ((first | rw [WP_condK] | rw [WP_opsG] | rw [WP_quiG] | rw [WP_dG]); refine And.intro (fun hb => ?_) (fun hb => ?_) <;> (first | have hd := dq1 hb | have hd := dq2 hb | have hd := dq3 hb | have hd := dq4 hb | skip)))
    all_goals first
    | (rw [decide_eq_false]
       rintro ⟨q1, q2, q3, q4, q5, q6, q7, q8, q9, q10, q11, q12, q13, q14, q15⟩
       first | exact hd q2 | (simp at hb; omega) | omega)
    | (simp only [Bool.not_eq_false', Bool.and_eq_true, decide_eq_true_eq] at *
       rw [decide_eq_true]
       exact ⟨hf, by assumption, by omega, by omega, by omega, by omega, by omega, by omega, by omega, by omega, by omega, by omega, by omega, by omega, by omega⟩)
    | (simp only [Bool.not_eq_false', Bool.and_eq_true, decide_eq_true_eq] at *
       by_cases hol : m.o.length = 2112
       · rw [decide_eq_true (show (m.o.length : Int) = 2112 by omega), decide_eq_true]
         exact ⟨hf, by assumption, by omega, by omega, by omega, by omega, by omega, by omega, by omega, by omega, by omega, by omega, by omega, by omega, by omega⟩
       · rw [decide_eq_false (show ¬ (m.o.length : Int) = 2112 by omega), decide_eq_false]
         rintro ⟨q1, q2, q3, q4, q5, q6, q7, q8, q9, q10, q11, q12, q13, q14, q15⟩
         omega)
    | trace_state
theorem rmay_ok (m : Pm) (vo vr : AV) (to : Tx vo m.o) (tr : Tx vr m.r) (ho : Bytes m.o) (hr : Bytes m.r) : prun T F17 [.agg (msC m vo vr)] = some (.sc (.bool (decide (MayP m)))) := by
  have hbb := bare_bytes ho hr
  have hcb := fun h => call_rbare m vo vr to tr h
  have hcs := fun h => call_same_m m (bareS m) vo vr _ _ to tr (tx_ko (fs := fieldsS m.k) to) (tx_kr (fs := fieldsS m.k) tr) ho hr hbb.1 hbb.2 h
  have t1 := to.len
  have t2 := tr.len
  have q1 := ms_beq m vo vr to.beq tr.beq
  by_cases hf : fieldsS m.k = []
  · have hv : fieldsV m.k = .nil := if_pos hf
    rw [decide_eq_false (fun hh => hh.1 hf)]
    refine WP_eq (prun_wp ?_)
    have hb := trivial
    repeat' (first | (simp -implicitDefEqProofs (disch := omega) only [hb, F17, wG, call_rfields, hv, to.strip, tr.strip, to.one, tr.one, to.cells, tr.cells, p25, p19, p12, q1, wC, wO, initE, aop, Nat.reduceEqDiff, ↓reduceIte, Nat.reduceAdd, finish, resOf, tupOf, AM.freeze, freeze1, freezeL, closed, nam, namL, if_true, if_false, deref, boxAt, exAt, ldCells, oneL, oneCell, Nat.reduceLeDiff, evL, adopt, rigid, rigidL, trim, Int.reduceEq, Int.reduceMod, Int.reduceDiv, if_pos, if_neg, asI, forall_const, implies_true, chkD, chkO, chkW, effB, reB, vEq, beq_self_eq_true, Nat.reduceSub, Nat.reduceLT, Int.reduceSub, Int.reduceAdd, Int.reduceMul, Int.reduceLT, Int.reduceLE, Int.reduceToNat, optI, aslice, cutSl, cutMs, cutStr, cutOwn]) | ((first | rw [WP_condK] | rw [WP_opsG] | rw [WP_quiG] | rw [WP_dG]); refine And.intro (fun hb => ?_) (fun hb => ?_) <;> (first | have hd := dq1 hb | have hd := dq2 hb | have hd := dq3 hb | have hd := dq4 hb | skip)))
  · have hv : fieldsV m.k = .slice .full none ((fieldsS m.k).map u64) := if_neg hf
    obtain ⟨f0, fl, hfe⟩ := List.exists_cons_of_ne_nil hf
    rw [hfe, List.map_cons] at hv
    refine WP_eq (prun_wp ?_)
    have hb := trivial
    repeat' (first | (simp -implicitDefEqProofs (disch := omega) only [hb, F17, wG, call_rfields, hv, to.strip, tr.strip, to.one, tr.one, to.cells, tr.cells, hcb, hcs, p25, p19, p12, t1, t2, q1, wC, wO, initE, aop, Nat.reduceEqDiff, ↓reduceIte, Nat.reduceAdd, finish, resOf, tupOf, AM.freeze, freeze1, freezeL, closed, nam, namL, if_true, if_false, deref, boxAt, exAt, ldCells, oneL, oneCell, Nat.reduceLeDiff, evL, adopt, rigid, rigidL, trim, Int.reduceEq, Int.reduceMod, Int.reduceDiv, if_pos, if_neg, asI, forall_const, implies_true, chkD, chkO, chkW, effB, reB, vEq, beq_self_eq_true, Nat.reduceSub, Nat.reduceLT, Int.reduceSub, Int.reduceAdd, Int.reduceMul, Int.reduceLT, Int.reduceLE, Int.reduceToNat, optI, aslice, cutSl, cutMs, cutStr, cutOwn]) | ((first | rw [WP_condK] | rw [WP_opsG] | rw [WP_quiG] | rw [WP_dG]); refine And.intro (fun hb => ?_) (fun hb => ?_) <;> (first | have hd := dq1 hb | have hd := dq2 hb | have hd := dq3 hb | have hd := dq4 hb | skip)))
    all_goals first
    | (rw [decide_eq_false]
       rintro ⟨q1, q2, q3, q4, q5, q6, q7, q8, q9, q10, q11, q12, q13, q14, q15⟩
       first | exact hd q2 | omega)
    | (rw [decide_eq_true]
       exact ⟨hf, by assumption, by omega, by omega, by omega, by omega, by omega, by omega, by omega, by omega, by omega, by omega, by omega, by omega, by omega⟩)
    | (by_cases hol : m.o.length = 2112
       · rw [decide_eq_true (show (m.o.length : Int) = 2112 by omega), decide_eq_true]
         exact ⟨hf, by assumption, by omega, by omega, by omega, by omega, by omega, by omega, by omega, by omega, by omega, by omega, by omega, by omega, by omega⟩
       · rw [decide_eq_false (show ¬ (m.o.length : Int) = 2112 by omega), decide_eq_false]
         rintro ⟨q1, q2, q3, q4, q5, q6, q7, q8, q9, q10, q11, q12, q13, q14, q15⟩
         omega)
    | trace_state
end Go.Proofs.Ytnlemcfhndjheaa.AM

/- wire: numbers as bytes; a field. -/
namespace Go.Proofs.Ytnlemcfhndjheaa.AM
open Go
set_option maxRecDepth 100000
set_option maxHeartbeats 4000000
set_option linter.unusedSimpArgs false
set_option linter.unusedVariables false
def nbF : Nat → Nat → List Int
  | 0, _ => []
  | f + 1, n => if n = 0 then [] else nbF f (n / 256) ++ [((n % 256 : Nat) : Int)]
/-- a number as few bytes as can be, the highest first -/
def nbS (x : Int) : List Int := nbF 8 x.toNat
theorem nbF_len : ∀ (f n : Nat), (nbF f n).length ≤ f
  | 0, n => by simp [nbF]
  | f + 1, n => by
    unfold nbF
    split
    · simp
    · have := nbF_len f (n / 256)
      simp; omega
theorem nbF_bytes : ∀ (f n : Nat), Bytes (nbF f n)
  | 0, n => by intro c hc; simp [nbF] at hc
  | f + 1, n => by
    unfold nbF
    split
    · intro c hc; cases hc
    · refine bytes_append (nbF_bytes f _) ?_
      intro c hc
      rw [List.mem_singleton.1 hc]
      omega
theorem nbS_bytes (x : Int) : Bytes (nbS x) := nbF_bytes 8 _
theorem nbS_len (x : Int) : (nbS x).length ≤ 8 := nbF_len 8 _
def getS (m : Pm) (t : Int) : List Int := if t = 1 then nbS m.c else if t = 3 then nbS m.i else if t = 5 then nbS m.a else if t = 7 then nbS m.e else if t = 9 then m.h.1 else if t = 11 then m.o else if t = 13 then m.s.1 else if t = 15 then m.p.1 else if t = 17 then m.t.1 else if t = 19 then nbS m.n else if t = 21 then nbS m.d else m.r
/-- what a call hands back as bytes -/
def Fr (v : AV) (l : List Int) : Prop := (v = .nil ∧ l = []) ∨ ∃ o, (o = .fresh ∨ o = .none ∨ o = .full) ∧ v = .slice o none (l.map u8)
theorem Fr.adopt {v : AV} {l : List Int} (h : Fr v l) (hp : Heap) : ∃ v' r, Go.Proofs.Ytnlemcfhndjheaa.AM.adopt v hp = (v', hp ++ r) ∧ Fm v' l ∧ Tx (AM.strip v') l ∧ (∀ x ∈ r, IsRow x) := by
  rcases h with ⟨rfl, rfl⟩ | ⟨o, ho, rfl⟩
  · exact ⟨.nil, [], by simp [Go.Proofs.Ytnlemcfhndjheaa.AM.adopt], .inl ⟨rfl, rfl⟩, tx_nil, by simp⟩
  · rcases ho with rfl | rfl | rfl
    · exact ⟨.slice (.tok hp.length) none (l.map u8), [.row none l.length], by simp [Go.Proofs.Ytnlemcfhndjheaa.AM.adopt], .inr ⟨_, rfl⟩, tx_slice l, by simp [IsRow]⟩
    · exact ⟨.slice .none none (l.map u8), [], by simp [Go.Proofs.Ytnlemcfhndjheaa.AM.adopt], .inr ⟨_, rfl⟩, tx_slice l, by simp⟩
    · exact ⟨.slice .full none (l.map u8), [], by simp [Go.Proofs.Ytnlemcfhndjheaa.AM.adopt], .inr ⟨_, rfl⟩, tx_full l, by simp⟩
theorem Fm.els {v : AV} {l : List Int} (h : Fm v l) (hp : Heap) : elemsOf hp none v = some (l.map u8) := by
  rcases h with ⟨rfl, rfl⟩ | ⟨o, rfl⟩
  · rfl
  · simp [elemsOf]
theorem freeze_u8 {v : AV} {l : List Int} {h : Heap} (hf : Fm v l) : WP (fun w => Fr w l) (freeze h v) := by
  rcases hf with ⟨rfl, rfl⟩ | ⟨o, rfl⟩
  · exact .inl ⟨rfl, rfl⟩
  · have hc := u8_closed l
    cases o with
    | none => simp only [freeze, freeze1, closed, nam, Bool.true_and]; rw [show namL (fun _ => false) (l.map u8) = true from hc]; exact .inr ⟨_, .inr (.inl rfl), rfl⟩
    | full => simp only [freeze, freeze1, closed, nam, Bool.true_and]; rw [show namL (fun _ => false) (l.map u8) = true from hc]; exact .inr ⟨_, .inr (.inr rfl), rfl⟩
    | fresh => simp only [freeze, freeze1, hc, if_true]; exact .inr ⟨_, .inr (.inl rfl), rfl⟩
    | tok i =>
      simp only [freeze, freeze1, hc, if_true]
      split
      · split
        · split
          · exact .inr ⟨_, .inl rfl, rfl⟩
          · exact .inr ⟨_, .inr (.inl rfl), rfl⟩
        · exact .inr ⟨_, .inr (.inl rfl), rfl⟩
      · exact .inr ⟨_, .inr (.inl rfl), rfl⟩
theorem number_ok (x : Int) (hx : I64 x) : ∃ v, prun T F47 [i64 x] = some v ∧ Fr v (nbS x) := by
  suffices h : WP (fun v => Fr v (nbS x)) (prun T F47 [i64 x]) from WP_ex h
  refine prun_wp ?_
  simp -implicitDefEqProofs (disch := omega) only [F47, wC, wO, initE, aop, Nat.reduceEqDiff, ↓reduceIte, Nat.reduceAdd, finish, resOf, tupOf, AM.freeze, freeze1, freezeL, closed, nam, namL, if_true, if_false, deref, boxAt, exAt, ldCells, oneL, oneCell, Nat.reduceLeDiff, evL, adopt, rigid, rigidL, trim, Int.reduceEq, Int.reduceMod, Int.reduceDiv, if_pos, if_neg, asI, forall_const, implies_true, chkD, chkO, chkW, effB, reB, vEq, beq_self_eq_true, Nat.reduceSub, Nat.reduceLT, Int.reduceSub, Int.reduceAdd, Int.reduceMul, Int.reduceLT, Int.reduceLE, Int.reduceToNat, optI, aslice, cutSl, cutMs, cutStr, cutOwn]
  refine WP_loop (I := fun k e h => ∃ (y : Int) (f : Nat) (b : List Int) (v : AV), k = f ∧ I64 y ∧ getE e 0 = i64 y ∧ getE e 3 = v ∧ Fm v b ∧ b.length + f = 8 ∧ y.toNat < 256 ^ f ∧ nbS x = nbF f y.toNat ++ b) ?_ 8 _ _ ⟨x, 8, [], .nil, rfl, hx, rfl, rfl, .inl ⟨rfl, rfl⟩, rfl, by obtain ⟨_, _⟩ := hx; omega, by simp [nbS]⟩
  rintro k e h ⟨y, f, b, v, rfl, ⟨y0, y1⟩, h0, h3, hv, hbl, hy, hnb⟩
  rw [trim_off]
  have hve := fun h => hv.els h
  by_cases hpos : 0 < y
  · have hk : k ≠ 0 := by rintro rfl; simp at hy; omega
    obtain ⟨k, rfl⟩ : ∃ j, k = j + 1 := ⟨k - 1, by omega⟩
    have hw : IntKind.u8.wrap y = ((y.toNat % 256 : Nat) : Int) := by rw [w_u8]; omega
    have hq : y.tdiv 256 = ((y.toNat / 256 : Nat) : Int) := by rw [Int.tdiv_eq_ediv_of_nonneg (by omega)]; omega
    have hb := trivial
    repeat' (first | (simp -implicitDefEqProofs (disch := omega) only [hb, L47_0, h0, h3, hve, hw, hq, aappend, setEls, elFits_sc, stripEl_sc, one_int, List.replicate_succ, List.replicate_zero, wC, wO, initE, aop, Nat.reduceEqDiff, ↓reduceIte, Nat.reduceAdd, finish, resOf, tupOf, AM.freeze, freeze1, freezeL, closed, nam, namL, if_true, if_false, deref, boxAt, exAt, ldCells, oneL, oneCell, Nat.reduceLeDiff, evL, adopt, rigid, rigidL, trim, Int.reduceEq, Int.reduceMod, Int.reduceDiv, if_pos, if_neg, asI, forall_const, implies_true, chkD, chkO, chkW, effB, reB, vEq, beq_self_eq_true, Nat.reduceSub, Nat.reduceLT, Int.reduceSub, Int.reduceAdd, Int.reduceMul, Int.reduceLT, Int.reduceLE, Int.reduceToNat, optI, aslice, cutSl, cutMs, cutStr, cutOwn]) | ((first | rw [WP_condK] | rw [WP_opsG] | rw [WP_quiG] | rw [WP_dG]); refine And.intro (fun hb => ?_) (fun hb => ?_) <;> (first | have hd := dq1 hb | have hd := dq2 hb | have hd := dq3 hb | have hd := dq4 hb | skip)))
    refine ⟨k, by omega, ((y.toNat / 256 : Nat) : Int), k, ((y.toNat % 256 : Nat) : Int) :: b, _, rfl, ⟨by omega, by omega⟩, rfl, rfl, .inr ⟨_, rfl⟩, by simp; omega, ?_, ?_⟩
    · rw [Int.toNat_natCast]
      rw [Nat.pow_succ] at hy
      exact Nat.div_lt_of_lt_mul (by omega)
    · rw [Int.toNat_natCast, hnb]
      conv => lhs; unfold nbF
      rw [if_neg (by omega), List.append_assoc]
      rfl
  · have hy0 : y.toNat = 0 := by omega
    rw [hy0] at hnb
    have hnil : nbF k 0 = [] := by cases k <;> simp [nbF]
    rw [hnil, List.nil_append] at hnb
    rw [hnb]
    have hb := trivial
    repeat' (first | (simp -implicitDefEqProofs (disch := omega) only [hb, L47_0, h0, h3, wC, wO, initE, aop, Nat.reduceEqDiff, ↓reduceIte, Nat.reduceAdd, finish, resOf, tupOf, freezeL, closed, nam, namL, if_true, if_false, deref, boxAt, exAt, ldCells, oneL, oneCell, Nat.reduceLeDiff, evL, adopt, rigid, rigidL, trim, Int.reduceEq, Int.reduceMod, Int.reduceDiv, if_pos, if_neg, asI, forall_const, implies_true, chkD, chkO, chkW, effB, reB, vEq, beq_self_eq_true, Nat.reduceSub, Nat.reduceLT, Int.reduceSub, Int.reduceAdd, Int.reduceMul, Int.reduceLT, Int.reduceLE, Int.reduceToNat, optI, aslice, cutSl, cutMs, cutStr, cutOwn]) | ((first | rw [WP_condK] | rw [WP_opsG] | rw [WP_quiG] | rw [WP_dG]); refine And.intro (fun hb => ?_) (fun hb => ?_) <;> (first | have hd := dq1 hb | have hd := dq2 hb | have hd := dq3 hb | have hd := dq4 hb | skip)))
    exact freeze_u8 hv
end Go.Proofs.Ytnlemcfhndjheaa.AM

/- wire: a field, as bytes. -/
namespace Go.Proofs.Ytnlemcfhndjheaa.AM
open Go
set_option maxRecDepth 100000
set_option maxHeartbeats 4000000
set_option linter.unusedSimpArgs false
set_option linter.unusedVariables false
/-- a message's numbers are numbers -/
def Pm.ok (m : Pm) : Prop := I64 m.k ∧ I64 m.c ∧ I64 m.i ∧ I64 m.a ∧ I64 m.e ∧ I64 m.n ∧ I64 m.d
theorem call_number (x : Int) (hx : I64 x) : ∃ v, Fr v (nbS x) ∧ ∀ h, ag T 47 [i64 x] h = some (Go.Proofs.Ytnlemcfhndjheaa.AM.adopt v h) := by
  obtain ⟨v, h1, h2⟩ := number_ok x hx
  exact ⟨v, h2, fun h => call_pure (T := T) (args := [i64 x]) rfl t47 rfl rfl rfl h1⟩
theorem chunks_none (n : Nat) (cs : List AV) : chunks none n cs = cs.take n := rfl
theorem tx_fm {v : AV} {l : List Int} (h : Fm v l) (hc : closed v = true) : WP (fun w => Fr w l) (freeze [] v) := freeze_u8 h
theorem value_ok (m : Pm) (vo vr : AV) (hm : m.ok) (fo : Fm vo m.o) (fr : Fm vr m.r) (to : Tx vo m.o) (tr : Tx vr m.r) (t : Int) (ht : t ∈ allT) : ∃ v, prun T F27 [.agg (msC m vo vr), u64 t] = some v ∧ Fr v (getS m t) := by
  suffices h : WP (fun v => Fr v (getS m t)) (prun T F27 [.agg (msC m vo vr), u64 t]) from WP_ex h
  obtain ⟨_, m1, m2, m3, m4, m5, m6⟩ := hm
  have num : ∀ x, I64 x → ∃ v', Fm v' (nbS x) ∧ ∃ r, ag T 47 [i64 x] [] = some (v', r) := fun x hx => by
    obtain ⟨v, h1, h2⟩ := call_number x hx
    obtain ⟨v', r, g1, g2, _, _⟩ := h1.adopt []
    exact ⟨v', g2, r, by rw [h2, g1, List.nil_append]⟩
  obtain ⟨v1, f1, r1, k1⟩ := num _ m1
  obtain ⟨v2, f2, r2, k2⟩ := num _ m2
  obtain ⟨v3, f3, r3, k3⟩ := num _ m3
  obtain ⟨v4, f4, r4, k4⟩ := num _ m4
  obtain ⟨v5, f5, r5, k5⟩ := num _ m5
  obtain ⟨v6, f6, r6, k6⟩ := num _ m6
  simp only [allT, List.mem_cons, List.not_mem_nil, or_false] at ht
  refine prun_wp ?_
  rcases ht with rfl | rfl | rfl | rfl | rfl | rfl | rfl | rfl | rfl | rfl | rfl | rfl
  all_goals
    have hb := trivial
    repeat' (first | (simp -implicitDefEqProofs (disch := omega) only [hb, F27, wG, to.strip, tr.strip, to.one, tr.one, to.cells, tr.cells, k1, k2, k3, k4, k5, k6, chunks_none, wC, wO, initE, aop, Nat.reduceEqDiff, ↓reduceIte, Nat.reduceAdd, finish, resOf, tupOf, freezeL, closed, nam, namL, if_true, if_false, deref, boxAt, exAt, ldCells, oneL, oneCell, Nat.reduceLeDiff, evL, adopt, rigid, rigidL, trim, Int.reduceEq, Int.reduceMod, Int.reduceDiv, if_pos, if_neg, asI, forall_const, implies_true, chkD, chkO, chkW, effB, reB, vEq, beq_self_eq_true, Nat.reduceSub, Nat.reduceLT, Int.reduceSub, Int.reduceAdd, Int.reduceMul, Int.reduceLT, Int.reduceLE, Int.reduceToNat, optI, aslice, cutSl, cutMs, cutStr, cutOwn]) | ((first | rw [WP_condK] | rw [WP_opsG] | rw [WP_quiG] | rw [WP_dG]); refine And.intro (fun hb => ?_) (fun hb => ?_) <;> (first | have hd := dq1 hb | have hd := dq2 hb | have hd := dq3 hb | have hd := dq4 hb | skip)))
    first
    | exact freeze_u8 (.inr ⟨_, rfl⟩)
    | exact freeze_u8 fo
    | exact freeze_u8 fr
    | exact freeze_u8 f1
    | exact freeze_u8 f2
    | exact freeze_u8 f3
    | exact freeze_u8 f4
    | exact freeze_u8 f5
    | exact freeze_u8 f6
    | trace_state
/-! ### turned round -/
def revS (L : List Int) (i : Nat) : List Int := (List.range L.length).map fun k => if k < i ∨ L.length - i ≤ k then L.getD (L.length - 1 - k) 0 else L.getD k 0
theorem revS_len (L : List Int) (i : Nat) : (revS L i).length = L.length := by simp [revS]
theorem revS_zero (L : List Int) : revS L 0 = L := by
  apply List.ext_getElem (by simp [revS])
  intro k h1 h2
  simp only [revS, List.getElem_map, List.getElem_range]
  rw [if_neg (by omega)]
  simp [h2]
theorem revS_get {L : List Int} {i k : Nat} (h : k < L.length) (h1 : i ≤ k) (h2 : k < L.length - i) : (revS L i)[k]? = some (L.getD k 0) := by
  rw [List.getElem?_eq_getElem (by rw [revS_len]; exact h)]
  simp only [revS, List.getElem_map, List.getElem_range]
  rw [if_neg (by omega)]
theorem revS_step {L : List Int} {i j : Nat} (hj : i + j + 1 = L.length) (hij : i < j) : ((revS L i).set i (L.getD j 0)).set j (L.getD i 0) = revS L (i + 1) := by
  apply List.ext_getElem (by simp [revS])
  intro k h1 h2
  have hk : k < L.length := by rw [revS_len] at h2; exact h2
  rw [List.getElem_set, List.getElem_set]
  simp only [revS, List.getElem_map, List.getElem_range]
  by_cases e1 : j = k
  · subst e1
    rw [if_pos rfl, if_pos (by omega), show L.length - 1 - j = i by omega]
  · rw [if_neg e1]
    by_cases e2 : i = k
    · subst e2
      rw [if_pos rfl, if_pos (by omega), show L.length - 1 - i = j by omega]
    · rw [if_neg e2]
      by_cases e3 : k < i ∨ L.length - i ≤ k
      · rw [if_pos e3, if_pos (by omega)]
      · rw [if_neg e3, if_neg (by omega)]
theorem revS_end {L : List Int} {i : Nat} (h : L.length ≤ 2 * i + 1) : revS L i = L.reverse := by
  apply List.ext_getElem (by simp [revS])
  intro k h1 h2
  have hk : k < L.length := by rw [revS_len] at h1; exact h1
  simp only [revS, List.getElem_map, List.getElem_range, List.getElem_reverse]
  by_cases e : k < i ∨ L.length - i ≤ k
  · rw [if_pos e]; simp [List.getD_eq_getElem?_getD, List.getElem?_eq_getElem (show L.length - 1 - k < L.length by omega)]
  · rw [if_neg e]
    have : L.length - 1 - k = k := by omega
    simp only [this]
    simp [List.getD_eq_getElem?_getD, List.getElem?_eq_getElem hk]
theorem u8_set (l : List Int) (i : Nat) (x : Int) : (l.map u8).set i (u8 x) = (l.set i x).map u8 := by rw [List.map_set]
theorem reverse_nil (h : Heap) : ag T 51 [.nil] h = some (.tup [], h) := by
  refine WP_eq (ag_wp rfl t51 rfl rfl ?_)
  simp -implicitDefEqProofs (disch := omega) only [F51, wC, wO, initE, aop, Nat.reduceEqDiff, ↓reduceIte, Nat.reduceAdd, finish, resOf, tupOf, AM.freeze, freeze1, freezeL, closed, nam, namL, if_true, if_false, deref, boxAt, exAt, ldCells, oneL, oneCell, Nat.reduceLeDiff, evL, adopt, rigid, rigidL, trim, Int.reduceEq, Int.reduceMod, Int.reduceDiv, if_pos, if_neg, asI, forall_const, implies_true, chkD, chkO, chkW, effB, reB, vEq, beq_self_eq_true, Nat.reduceSub, Nat.reduceLT, Int.reduceSub, Int.reduceAdd, Int.reduceMul, Int.reduceLT, Int.reduceLE, Int.reduceToNat, optI, aslice, cutSl, cutMs, cutStr, cutOwn]
  refine WP_loop (I := fun k e h' => getE e 2 = i64 0 ∧ getE e 3 = i64 (-1) ∧ h' = h) ?_ 0 _ _ ⟨rfl, rfl, rfl⟩
  rintro k e h' ⟨h2, h3, rfl⟩
  rw [trim_same' (Nat.le_refl _)]
  have hb := trivial
  repeat' (first | (simp -implicitDefEqProofs (disch := omega) only [hb, L51_0, h2, h3, wC, wO, initE, aop, Nat.reduceEqDiff, ↓reduceIte, Nat.reduceAdd, finish, resOf, tupOf, AM.freeze, freeze1, freezeL, closed, nam, namL, if_true, if_false, deref, boxAt, exAt, ldCells, oneL, oneCell, Nat.reduceLeDiff, evL, adopt, rigid, rigidL, trim, Int.reduceEq, Int.reduceMod, Int.reduceDiv, if_pos, if_neg, asI, forall_const, implies_true, chkD, chkO, chkW, effB, reB, vEq, beq_self_eq_true, Nat.reduceSub, Nat.reduceLT, Int.reduceSub, Int.reduceAdd, Int.reduceMul, Int.reduceLT, Int.reduceLE, Int.reduceToNat, optI, aslice, cutSl, cutMs, cutStr, cutOwn]) | ((first | rw [WP_condK] | rw [WP_opsG] | rw [WP_quiG] | rw [WP_dG]); refine And.intro (fun hb => ?_) (fun hb => ?_) <;> (first | have hd := dq1 hb | have hd := dq2 hb | have hd := dq3 hb | have hd := dq4 hb | skip)))
theorem reverse_ok (L : List Int) (id : Nat) (h : Heap) (hid : h[id]? = some (.vec (L.map u8))) (hn : L.length ≤ 100) : ag T 51 [.ms id 0 none L.length] h = some (.tup [], h.set id (.vec (L.reverse.map u8))) := by
  have hlt : id < h.length := (List.getElem?_eq_some_iff.1 hid).1
  refine WP_eq (ag_wp rfl t51 rfl rfl ?_)
  simp -implicitDefEqProofs (disch := omega) only [F51, wC, wO, initE, aop, Nat.reduceEqDiff, ↓reduceIte, Nat.reduceAdd, finish, resOf, tupOf, AM.freeze, freeze1, freezeL, closed, nam, namL, if_true, if_false, deref, boxAt, exAt, ldCells, oneL, oneCell, Nat.reduceLeDiff, evL, adopt, rigid, rigidL, trim, Int.reduceEq, Int.reduceMod, Int.reduceDiv, if_pos, if_neg, asI, forall_const, implies_true, chkD, chkO, chkW, effB, reB, vEq, beq_self_eq_true, Nat.reduceSub, Nat.reduceLT, Int.reduceSub, Int.reduceAdd, Int.reduceMul, Int.reduceLT, Int.reduceLE, Int.reduceToNat, optI, aslice, cutSl, cutMs, cutStr, cutOwn]
  refine WP_loop (I := fun k e h' => ∃ (i : Nat) (j : Int), k + i = L.length ∧ getE e 0 = .ms id 0 none L.length ∧ getE e 2 = i64 i ∧ getE e 3 = i64 j ∧ j + i + 1 = L.length ∧ h' = h.set id (.vec ((revS L i).map u8)) ∧ 2 * i ≤ L.length + 1) ?_ L.length _ _ ⟨0, L.length - 1, by omega, rfl, rfl, rfl, by omega, ?_, by omega⟩
  · rintro k e h' ⟨i, j, hk, h0, h2, h3, hj, rfl, hi2⟩
    rw [trim_same' (by simp)]
    by_cases hij : (i : Int) < j
    · obtain ⟨j, rfl⟩ : ∃ n : Nat, j = n := ⟨j.toNat, by omega⟩
      have g1 : ((revS L i).map u8)[i]? = some (u8 (L.getD i 0)) := by rw [List.getElem?_map, revS_get (by omega) (by omega) (by omega)]; rfl
      have g2 : ((revS L i).map u8)[j]? = some (u8 (L.getD j 0)) := by rw [List.getElem?_map, revS_get (by omega) (by omega) (by omega)]; rfl
      have e1 : ((j : Int) - 1) = ((j - 1 : Nat) : Int) := by omega
      have hrl := revS_len L i
      have hb := trivial
      repeat' (first | (simp -implicitDefEqProofs (disch := omega) only [hb, L51_0, h0, h2, h3, g1, g2, List.getElem?_set_self, List.set_set, splice_one, u8_set, hrl, Int.toNat_natCast, wC, wO, initE, aop, Nat.reduceEqDiff, ↓reduceIte, Nat.reduceAdd, finish, resOf, tupOf, AM.freeze, freeze1, freezeL, closed, nam, namL, if_true, if_false, deref, boxAt, exAt, ldCells, oneL, oneCell, Nat.reduceLeDiff, evL, adopt, rigid, rigidL, trim, Int.reduceEq, Int.reduceMod, Int.reduceDiv, if_pos, if_neg, asI, forall_const, implies_true, chkD, chkO, chkW, effB, reB, vEq, beq_self_eq_true, Nat.reduceSub, Nat.reduceLT, Int.reduceSub, Int.reduceAdd, Int.reduceMul, Int.reduceLT, Int.reduceLE, Int.reduceToNat, optI, aslice, cutSl, cutMs, cutStr, cutOwn]) | ((first | rw [WP_condK] | rw [WP_opsG] | rw [WP_quiG] | rw [WP_dG]); refine And.intro (fun hb => ?_) (fun hb => ?_) <;> (first | have hd := dq1 hb | have hd := dq2 hb | have hd := dq3 hb | have hd := dq4 hb | skip)))
      exact ⟨k - 1, by omega, i + 1, (j : Int) - 1, by omega, rfl, rfl, by omega, by rw [revS_step (by omega) (by omega)], by omega⟩
    · have hb := trivial
      repeat' (first | (simp -implicitDefEqProofs (disch := omega) only [hb, L51_0, h0, h2, h3, wC, wO, initE, aop, Nat.reduceEqDiff, ↓reduceIte, Nat.reduceAdd, finish, resOf, tupOf, AM.freeze, freeze1, freezeL, closed, nam, namL, if_true, if_false, deref, boxAt, exAt, ldCells, oneL, oneCell, Nat.reduceLeDiff, evL, adopt, rigid, rigidL, trim, Int.reduceEq, Int.reduceMod, Int.reduceDiv, if_pos, if_neg, asI, forall_const, implies_true, chkD, chkO, chkW, effB, reB, vEq, beq_self_eq_true, Nat.reduceSub, Nat.reduceLT, Int.reduceSub, Int.reduceAdd, Int.reduceMul, Int.reduceLT, Int.reduceLE, Int.reduceToNat, optI, aslice, cutSl, cutMs, cutStr, cutOwn]) | ((first | rw [WP_condK] | rw [WP_opsG] | rw [WP_quiG] | rw [WP_dG]); refine And.intro (fun hb => ?_) (fun hb => ?_) <;> (first | have hd := dq1 hb | have hd := dq2 hb | have hd := dq3 hb | have hd := dq4 hb | skip)))
      rw [revS_end (by omega)]
  · rw [revS_zero]
    apply List.ext_getElem?
    intro j
    by_cases hj : j = id
    · subst hj; rw [List.getElem?_set_self hlt, hid]
    · rw [List.getElem?_set_ne (fun hh => hj hh.symm)]
end Go.Proofs.Ytnlemcfhndjheaa.AM

/- wire: a field, as the program tells it. -/
namespace Go.Proofs.Ytnlemcfhndjheaa.AM
open Go
set_option maxRecDepth 100000
set_option maxHeartbeats 4000000
set_option linter.unusedSimpArgs false
set_option linter.unusedVariables false
/-- the bytes gathered, the lowest first -/
def GetR (lo : List Int) (v : AV) (h : Heap) : Prop := (v = .nil ∧ lo = [] ∧ h = []) ∨ ∃ id, v = .ms id 0 none lo.length ∧ h[id]? = some (.vec (lo.map u8)) ∧ lo ≠ []
theorem frz_vec {lo : List Int} {id : Nat} {h : Heap} (hid : h[id]? = some (.vec (lo.map u8))) : WP (fun w => Fr w lo) (freeze h (.ms id 0 none lo.length)) := by
  have hb : boxAt h id = some (lo.map u8) := by simp only [boxAt, hid]
  have hc := u8_closed lo
  have ho : msOwn h id 0 none lo.length = .none := by simp [msOwn, hb, exAt, hid]
  have hm : msEls h id 0 none lo.length = some (lo.map u8) := by
    simp only [msEls, hb, Option.bind_some, kz_none, Nat.mul_one, Nat.zero_add, List.length_map, Nat.le_refl, if_true, chunks_none, List.drop_zero]
    rw [List.take_of_length_le (by simp)]
  simp only [freeze, freeze1, hm, ho, Option.bind_some, hc, if_true]
  exact .inr ⟨_, .inr (.inl rfl), rfl⟩
theorem get_num (x : Int) (hx : I64 x) (Q : Res → Prop) (e : Env) (h6 : getE e 6 = .nil) (h7 : getE e 7 = i64 x)
    (hq : ∀ e h v lo, getE e 6 = v → GetR lo v h → nbS x = lo.reverse → Q (.exit 0, e, h)) : WP Q (axl T [6, 7] false L31_0 0 e []) := by
  refine WP_loop (I := fun k e h => ∃ (y : Int) (f : Nat) (b : List Int) (v : AV), k = f ∧ I64 y ∧ getE e 7 = i64 y ∧ getE e 6 = v ∧ GetR b v h ∧ b.length + f = 8 ∧ y.toNat < 256 ^ f ∧ nbS x = nbF f y.toNat ++ b.reverse) ?_ 8 _ _ ⟨x, 8, [], .nil, rfl, hx, h7, h6, .inl ⟨rfl, rfl, rfl⟩, rfl, by obtain ⟨_, _⟩ := hx; omega, by simp [nbS]⟩
  rintro k e h ⟨y, f, b, v, rfl, ⟨y0, y1⟩, h7, h6, hv, hbl, hy, hnb⟩
  rw [trim_off]
  by_cases hpos : 0 < y
  · have hk : k ≠ 0 := by rintro rfl; simp at hy; omega
    obtain ⟨k, rfl⟩ : ∃ j, k = j + 1 := ⟨k - 1, by omega⟩
    have hw : IntKind.u8.wrap y = ((y.toNat % 256 : Nat) : Int) := by rw [w_u8]; omega
    have hq2 : abin .shr (.int .i64 y) (.int .u64 8) = some (.int .i64 ((y.toNat / 256 : Nat) : Int)) := by
      have := shr_c .i64 .u64 y 8 (by decide)
      rw [show ((8 : Nat) : Int) = 8 from rfl] at this
      rw [this, Int.fdiv_eq_ediv_of_nonneg _ (by decide)]
      congr 2
      show y / 256 = _
      omega
    have next : ∀ (X v : AV) (h : Heap), X = i64 ((y.toNat / 256 : Nat) : Int) → GetR (b ++ [((y.toNat % 256 : Nat) : Int)]) v h → ∃ n', n' < k + 1 ∧ ∃ (y : Int) (f : Nat) (b : List Int) (v' : AV), n' = f ∧ I64 y ∧ X = i64 y ∧ v = v' ∧ GetR b v' h ∧ b.length + f = 8 ∧ y.toNat < 256 ^ f ∧ nbS x = nbF f y.toNat ++ b.reverse := by
      intro X v h hX hG
      refine ⟨k, by omega, ((y.toNat / 256 : Nat) : Int), k, b ++ [((y.toNat % 256 : Nat) : Int)], v, rfl, ⟨by omega, by omega⟩, hX, rfl, hG, by simp; omega, ?_, ?_⟩
      · rw [Int.toNat_natCast]
        rw [Nat.pow_succ] at hy
        exact Nat.div_lt_of_lt_mul (by omega)
      · rw [Int.toNat_natCast, hnb]
        conv => lhs; unfold nbF
        rw [if_neg (by omega), List.reverse_append, List.append_assoc]
        rfl
    rcases hv with ⟨rfl, rfl, rfl⟩ | ⟨id, rfl, hid, hne⟩
    · have hb := trivial
      repeat' (first | (simp -implicitDefEqProofs (disch := omega) only [hb, L31_0, h6, h7, hw, hq2, appV, setEls, elFits_sc, stripEl_sc, one_int, List.replicate_succ, List.replicate_zero, elC_int, List.flatten_cons, List.flatten_nil, wC, wO, initE, aop, Nat.reduceEqDiff, ↓reduceIte, Nat.reduceAdd, finish, resOf, tupOf, AM.freeze, freeze1, freezeL, closed, nam, namL, if_true, if_false, deref, boxAt, exAt, ldCells, oneL, oneCell, Nat.reduceLeDiff, evL, adopt, rigid, rigidL, trim, Int.reduceEq, Int.reduceMod, Int.reduceDiv, if_pos, if_neg, asI, forall_const, implies_true, chkD, chkO, chkW, effB, reB, vEq, beq_self_eq_true, Nat.reduceSub, Nat.reduceLT, Int.reduceSub, Int.reduceAdd, Int.reduceMul, Int.reduceLT, Int.reduceLE, Int.reduceToNat, optI, aslice, cutSl, cutMs, cutStr, cutOwn]) | ((first | rw [WP_condK] | rw [WP_opsG] | rw [WP_quiG] | rw [WP_dG]); refine And.intro (fun hb => ?_) (fun hb => ?_) <;> (first | have hd := dq1 hb | have hd := dq2 hb | have hd := dq3 hb | have hd := dq4 hb | skip)))
      exact next _ _ _ rfl (.inr ⟨0, rfl, rfl, by simp⟩)
    · have hb := trivial
      repeat' (first | (simp -implicitDefEqProofs (disch := omega) only [hb, L31_0, h6, h7, hw, hq2, hid, appV, setEls, elFits_sc, stripEl_sc, one_int, List.replicate_succ, List.replicate_zero, elC_int, List.flatten_cons, List.flatten_nil, wC, wO, initE, aop, Nat.reduceEqDiff, ↓reduceIte, Nat.reduceAdd, finish, resOf, tupOf, AM.freeze, freeze1, freezeL, closed, nam, namL, if_true, if_false, deref, boxAt, exAt, ldCells, oneL, oneCell, Nat.reduceLeDiff, evL, adopt, rigid, rigidL, trim, Int.reduceEq, Int.reduceMod, Int.reduceDiv, if_pos, if_neg, asI, forall_const, implies_true, chkD, chkO, chkW, effB, reB, vEq, beq_self_eq_true, Nat.reduceSub, Nat.reduceLT, Int.reduceSub, Int.reduceAdd, Int.reduceMul, Int.reduceLT, Int.reduceLE, Int.reduceToNat, optI, aslice, cutSl, cutMs, cutStr, cutOwn]) | ((first | rw [WP_condK] | rw [WP_opsG] | rw [WP_quiG] | rw [WP_dG]); refine And.intro (fun hb => ?_) (fun hb => ?_) <;> (first | have hd := dq1 hb | have hd := dq2 hb | have hd := dq3 hb | have hd := dq4 hb | skip)))
      exact next _ _ _ rfl (.inr ⟨h.length, by simp, by rw [List.getElem?_append_right (by simp)]; simp, by simp⟩)
  · have hy0 : y.toNat = 0 := by omega
    rw [hy0] at hnb
    have hnil : nbF k 0 = [] := by cases k <;> simp [nbF]
    rw [hnil, List.nil_append] at hnb
    have hb := trivial
    repeat' (first | (simp -implicitDefEqProofs (disch := omega) only [hb, L31_0, h6, h7, wC, wO, initE, aop, Nat.reduceEqDiff, ↓reduceIte, Nat.reduceAdd, finish, resOf, tupOf, AM.freeze, freeze1, freezeL, closed, nam, namL, if_true, if_false, deref, boxAt, exAt, ldCells, oneL, oneCell, Nat.reduceLeDiff, evL, adopt, rigid, rigidL, trim, Int.reduceEq, Int.reduceMod, Int.reduceDiv, if_pos, if_neg, asI, forall_const, implies_true, chkD, chkO, chkW, effB, reB, vEq, beq_self_eq_true, Nat.reduceSub, Nat.reduceLT, Int.reduceSub, Int.reduceAdd, Int.reduceMul, Int.reduceLT, Int.reduceLE, Int.reduceToNat, optI, aslice, cutSl, cutMs, cutStr, cutOwn]) | ((first | rw [WP_condK] | rw [WP_opsG] | rw [WP_quiG] | rw [WP_dG]); refine And.intro (fun hb => ?_) (fun hb => ?_) <;> (first | have hd := dq1 hb | have hd := dq2 hb | have hd := dq3 hb | have hd := dq4 hb | skip)))
    exact hq _ _ v b rfl hv hnb
theorem get_ok (m : Pm) (vo vr : AV) (hm : m.ok) (fo : Fm vo m.o) (fr : Fm vr m.r) (to : Tx vo m.o) (tr : Tx vr m.r) (t : Int) (ht : t ∈ allT) : ∃ v, prun T F31 [.ref (msC m vo vr), u64 t] = some v ∧ Fr v (getS m t) := by
  suffices h : WP (fun v => Fr v (getS m t)) (prun T F31 [.ref (msC m vo vr), u64 t]) from WP_ex h
  obtain ⟨_, m1, m2, m3, m4, m5, m6⟩ := hm
  simp only [allT, List.mem_cons, List.not_mem_nil, or_false] at ht
  refine prun_wp ?_
  rcases ht with rfl | rfl | rfl | rfl | rfl | rfl | rfl | rfl | rfl | rfl | rfl | rfl
  all_goals
    have hb := trivial
    repeat' (first | (simp -implicitDefEqProofs (disch := omega) only [hb, F31, wG, numR, hashR, textR, numOff, hashOff, textOff, offR, chunks_none, wC, wO, initE, aop, Nat.reduceEqDiff, ↓reduceIte, Nat.reduceAdd, finish, resOf, tupOf, freezeL, closed, nam, namL, if_true, if_false, deref, boxAt, exAt, ldCells, oneL, oneCell, Nat.reduceLeDiff, evL, adopt, rigid, rigidL, trim, Int.reduceEq, Int.reduceMod, Int.reduceDiv, if_pos, if_neg, asI, forall_const, implies_true, chkD, chkO, chkW, effB, reB, vEq, beq_self_eq_true, Nat.reduceSub, Nat.reduceLT, Int.reduceSub, Int.reduceAdd, Int.reduceMul, Int.reduceLT, Int.reduceLE, Int.reduceToNat, optI, aslice, cutSl, cutMs, cutStr, cutOwn]) | ((first | rw [WP_condK] | rw [WP_opsG] | rw [WP_quiG] | rw [WP_dG]); refine And.intro (fun hb => ?_) (fun hb => ?_) <;> (first | have hd := dq1 hb | have hd := dq2 hb | have hd := dq3 hb | have hd := dq4 hb | skip)))
    first
    | exact freeze_u8 (.inr ⟨_, rfl⟩)
    | exact freeze_u8 fo
    | exact freeze_u8 fr
    | (refine get_num _ (by assumption) _ _ rfl rfl ?_
       intro e h v lo h6 hG hx
       rcases hG with ⟨rfl, rfl, rfl⟩ | ⟨id, rfl, hid, hne⟩
       · simp -implicitDefEqProofs (disch := omega) only [h6, reverse_nil, wC, wO, initE, aop, Nat.reduceEqDiff, ↓reduceIte, Nat.reduceAdd, finish, resOf, tupOf, freezeL, closed, nam, namL, if_true, if_false, deref, boxAt, exAt, ldCells, oneL, oneCell, Nat.reduceLeDiff, evL, adopt, rigid, rigidL, trim, Int.reduceEq, Int.reduceMod, Int.reduceDiv, if_pos, if_neg, asI, forall_const, implies_true, chkD, chkO, chkW, effB, reB, vEq, beq_self_eq_true, Nat.reduceSub, Nat.reduceLT, Int.reduceSub, Int.reduceAdd, Int.reduceMul, Int.reduceLT, Int.reduceLE, Int.reduceToNat, optI, aslice, cutSl, cutMs, cutStr, cutOwn]
         exact freeze_u8 (.inl ⟨rfl, hx⟩)
       · have hlen : lo.length ≤ 8 := by
           have := congrArg List.length hx
           rw [List.length_reverse] at this
           rw [← this]
           exact nbS_len _
         have hrev := reverse_ok lo id h hid (by omega)
         simp -implicitDefEqProofs (disch := omega) only [h6, hrev, wC, wO, initE, aop, Nat.reduceEqDiff, ↓reduceIte, Nat.reduceAdd, finish, resOf, tupOf, freezeL, closed, nam, namL, if_true, if_false, deref, boxAt, exAt, ldCells, oneL, oneCell, Nat.reduceLeDiff, evL, adopt, rigid, rigidL, trim, Int.reduceEq, Int.reduceMod, Int.reduceDiv, if_pos, if_neg, asI, forall_const, implies_true, chkD, chkO, chkW, effB, reB, vEq, beq_self_eq_true, Nat.reduceSub, Nat.reduceLT, Int.reduceSub, Int.reduceAdd, Int.reduceMul, Int.reduceLT, Int.reduceLE, Int.reduceToNat, optI, aslice, cutSl, cutMs, cutStr, cutOwn]
         refine WP_mono (Q := fun w => Fr w lo.reverse) ?_ (fun w hw => by rw [← hx] at hw; exact hw)
         have := frz_vec (lo := lo.reverse) (id := id) (h := h.set id (.vec (lo.reverse.map u8))) (List.getElem?_set_self (List.getElem?_eq_some_iff.1 hid).1)
         rw [List.length_reverse] at this
         exact this)
end Go.Proofs.Ytnlemcfhndjheaa.AM

/- wire: Encode, of the reference and of the program. -/
namespace Go.Proofs.Ytnlemcfhndjheaa.AM
open Go
set_option maxRecDepth 100000
set_option maxHeartbeats 4000000
set_option linter.unusedSimpArgs false
set_option linter.unusedVariables false
def recsS (m : Pm) : List Rc := (fieldsS m.k).map fun t => ⟨t, getS m t⟩
/-- the bytes of a message -/
def encW (m : Pm) : List Int × Int := if MayP m then (0 :: m.k :: flatS (recsS m), 0) else ([], 1)
theorem RecsA.snoc {A : List AV} {l : List Rc} (h : RecsA A l) {t : Int} {b : List Int} {w : AV} (hw : Tx w b) : RecsA (A ++ [.agg [u64 t, w]]) (l ++ [⟨t, b⟩]) := by
  obtain ⟨h1, h2, h3⟩ := h
  refine ⟨by simp [h1], ?_, fun i hi => ?_⟩
  · have hc := hw.cl
    simp only [closedL, namL_app, namL, nam, Bool.and_true, Bool.true_and, Bool.and_eq_true] at h2 hc ⊢
    exact ⟨h2, hc⟩
  · rw [List.length_append, List.length_singleton] at hi
    by_cases hlt : i < l.length
    · obtain ⟨w', g1, g2⟩ := h3 i hlt
      refine ⟨w', ?_, ?_⟩
      · rw [List.getElem?_append_left (by omega), List.getElem_append_left hlt]; exact g1
      · rw [List.getElem_append_left hlt]; exact g2
    · have : i = l.length := by omega
      subst this
      refine ⟨w, ?_, ?_⟩
      · rw [List.getElem?_append_right (by omega), h1]; simp
      · simpa using hw
theorem recsA_nil : RecsA [] [] := ⟨rfl, rfl, fun i h => by simp at h⟩
theorem kinds {m : Pm} (h : fieldsS m.k ≠ []) : m.k = 1 ∨ m.k = 2 ∨ m.k = 3 ∨ m.k = 4 ∨ m.k = 5 ∨ m.k = 6 := by
  unfold fieldsS at h
  repeat' split at h
  all_goals first | omega | exact absurd rfl h
theorem getS_bytes {m : Pm} (ho : Bytes m.o) (hr : Bytes m.r) (hh : Bytes m.h.1) (hs : Bytes m.s.1) (hp : Bytes m.p.1) (ht : Bytes m.t.1) (t : Int) : Bytes (getS m t) := by
  unfold getS
  repeat' split
  all_goals first | exact nbS_bytes _ | assumption
structure Pm.fine (m : Pm) : Prop where
  ok : m.ok
  o : Bytes m.o
  r : Bytes m.r
  h : Bytes m.h.1
  s : Bytes m.s.1
  p : Bytes m.p.1
  t : Bytes m.t.1
  ol : m.o.length ≤ 140737488351232
  rl : m.r.length ≤ 140737488351232
theorem getS_len {m : Pm} (hm : MayP m) {t : Int} (ht : t ∈ fieldsS m.k) : (getS m t).length ≤ 2112 := by
  have h11 : t = 11 → m.o.length ≤ 2112 := by
    intro h
    subst h
    have h15 := hm.2.2.2.2.2.2.2.2.2.2.2.2.2.2
    rcases h15 with h15 | h15
    · exfalso
      rcases kinds hm.1 with h | h | h | h | h | h <;> rw [h] at ht <;> first | exact h15 h | simp [fieldsS] at ht
    · omega
  have hr := hm.2.2.2.2.2.2.2.2.2.2.2.2.2.1
  unfold getS
  repeat' split
  all_goals first
  | (have := nbS_len m.c; omega)
  | (have := nbS_len m.i; omega)
  | (have := nbS_len m.a; omega)
  | (have := nbS_len m.e; omega)
  | (have := nbS_len m.n; omega)
  | (have := nbS_len m.d; omega)
  | (rw [m.h.2]; omega)
  | (rw [m.s.2]; omega)
  | (rw [m.p.2]; omega)
  | (rw [m.t.2]; omega)
  | exact h11 (by assumption)
  | omega
theorem fields_u64 {k t : Int} (h : t ∈ fieldsS k) : U64 t := by
  have := fields_all h
  simp only [allT, List.mem_cons, List.not_mem_nil, or_false] at this
  constructor <;> omega
theorem recs_ok {m : Pm} (hf : m.fine) : ∀ r ∈ recsS m, Rc.ok r := by
  intro r hr
  simp only [recsS, List.mem_map] at hr
  obtain ⟨t, ht, rfl⟩ := hr
  exact ⟨fields_u64 ht, getS_bytes hf.o hf.r hf.h hf.s hf.p hf.t t⟩
theorem recs_len {m : Pm} (hm : MayP m) : ∀ r ∈ recsS m, r.v.length ≤ 2112 := by
  intro r hr
  simp only [recsS, List.mem_map] at hr
  obtain ⟨t, ht, rfl⟩ := hr
  exact getS_len hm ht
theorem flat_bound2 : ∀ {l : List Rc}, (∀ r ∈ l, r.v.length ≤ 2112) → (flatS l).length ≤ l.length * 2130
  | [], _ => by simp [flatS]
  | r :: l, h => by
    have h1 := flat_bound2 fun q hq => h q (List.mem_cons_of_mem _ hq)
    have h2 := h r List.mem_cons_self
    have h3 := recS_len r
    have h4 := sizeS_le r.t
    have h5 := sizeS_le r.v.length
    have h6 : flatS (r :: l) = recS r ++ flatS l := by unfold flatS; rw [List.flatMap_cons]
    rw [h6, List.length_append, List.length_cons, Nat.add_mul]
    omega
theorem recs_asc {m : Pm} (h : fieldsS m.k ≠ []) : ascB (recsS m) = true := by
  unfold recsS
  rcases kinds h with h | h | h | h | h | h <;> rw [h] <;> simp [fieldsS, ascB]
theorem recs_count (m : Pm) : (recsS m).length ≤ 6 := by
  unfold recsS
  rw [List.length_map]
  exact fields_len m.k
theorem recs_enc {m : Pm} (hm : MayP m) : encS (recsS m) = (flatS (recsS m), 0) := by
  have h1 := recs_count m
  have h2 := flat_bound2 (recs_len hm)
  exact encS_ok (recs_asc hm.1) ⟨by omega, by have : (recsS m).length * 2130 ≤ 6 * 2130 := Nat.mul_le_mul_right _ h1; omega⟩
theorem call_get (m : Pm) (vo vr : AV) (hm : m.ok) (fo : Fm vo m.o) (fr : Fm vr m.r) (to : Tx vo m.o) (tr : Tx vr m.r) (t : Int) (ht : t ∈ allT) (h : Heap) : ∃ v r, ag T 31 [.ref (msC m vo vr), u64 t] h = some (v, h ++ r) ∧ Fm v (getS m t) ∧ Tx (AM.strip v) (getS m t) := by
  obtain ⟨v, h1, h2⟩ := get_ok m vo vr hm fo fr to tr t ht
  obtain ⟨v', r, g1, g2, g3, _⟩ := h2.adopt h
  exact ⟨v', r, by rw [call_pure (T := T) (args := [.ref (msC m vo vr), u64 t]) rfl t31 rfl rfl (by simp only [List.map_cons, List.map_nil, strip_ref, strip_sc, closedL, namL, nam, ms_nam, to.cl, tr.cl, Bool.and_self]) h1, g1], g2, g3⟩
theorem call_value (m : Pm) (vo vr : AV) (hm : m.ok) (fo : Fm vo m.o) (fr : Fm vr m.r) (to : Tx vo m.o) (tr : Tx vr m.r) (t : Int) (ht : t ∈ allT) (h : Heap) : ∃ v r, ag T 27 [.agg (msC m vo vr), u64 t] h = some (v, h ++ r) ∧ Fm v (getS m t) ∧ Tx (AM.strip v) (getS m t) := by
  obtain ⟨v, h1, h2⟩ := value_ok m vo vr hm fo fr to tr t ht
  obtain ⟨v', r, g1, g2, g3, _⟩ := h2.adopt h
  exact ⟨v', r, by rw [call_pure (T := T) (args := [.agg (msC m vo vr), u64 t]) rfl t27 rfl rfl (by simp only [List.map_cons, List.map_nil, strip_agg, strip_sc, closedL, namL, nam, ms_nam, to.cl, tr.cl, Bool.and_self]) h1, g1], g2, g3⟩
theorem call_may (m : Pm) (vo vr : AV) (to : Tx vo m.o) (tr : Tx vr m.r) (hf : m.fine) (h : Heap) : ag T 16 [.agg (msC m vo vr)] h = some (.sc (.bool (decide (MayP m))), h) :=
  call_sc rfl t16 rfl rfl rfl (ms_closed m to.cl tr.cl) (may_ok m vo vr to tr hf.ol hf.rl)
theorem call_rmay (m : Pm) (vo vr : AV) (to : Tx vo m.o) (tr : Tx vr m.r) (hf : m.fine) (h : Heap) : ag T 17 [.agg (msC m vo vr)] h = some (.sc (.bool (decide (MayP m))), h) :=
  call_sc rfl t17 rfl rfl rfl (ms_closed m to.cl tr.cl) (rmay_ok m vo vr to tr hf.o hf.r)
end Go.Proofs.Ytnlemcfhndjheaa.AM

/- wire: Encode runs. -/
namespace Go.Proofs.Ytnlemcfhndjheaa.AM
open Go
set_option maxRecDepth 100000
set_option maxHeartbeats 4000000
set_option linter.unusedSimpArgs false
set_option linter.unusedVariables false
def EncI (m : Pm) (vo vr : AV) (il jl : Nat) (e : Env) (h : Heap) (i : Nat) : Prop :=
  ∃ (A : List AV) (rest : Heap), getE e 1 = .ref (msC m vo vr) ∧ getE e il = .slice (.tok 0) (some 2) A ∧ getE e jl = i64 i ∧ h = .row (some 2) A.length :: rest ∧ RecsA A ((recsS m).take i)
theorem wrap_k (k : Int) (h : k = 1 ∨ k = 2 ∨ k = 3 ∨ k = 4 ∨ k = 5 ∨ k = 6) : IntKind.u8.wrap k = k ∧ abin .shr (.int .i64 k) (.int .u64 8) = some (.int .i64 0) ∧ IntKind.u8.wrap 0 = 0 := by
  refine ⟨by rw [w_u8]; omega, ?_, rfl⟩
  have := shr_c .i64 .u64 k 8 (by decide)
  rw [show ((8 : Nat) : Int) = 8 from rfl] at this
  rw [this, Int.fdiv_eq_ediv_of_nonneg _ (by decide)]
  congr 2
  show k / 256 = 0
  omega
theorem tok_freeze (i : Nat) (D : List Int) {h : Heap} : WP (fun w => IsEnc w (D, 0)) (freeze h (.tup [.slice (.tok i) none (D.map u8), i64 0])) := by
  have hc := u8_closed D
  simp only [freeze, freezeL, freeze1, hc, if_true, closed, nam, Option.map_some]
  split
  · split
    · split
      · exact .inr ⟨rfl, .inr ⟨_, .inl rfl, rfl⟩⟩
      · exact .inr ⟨rfl, .inr ⟨_, .inr rfl, rfl⟩⟩
    · exact .inr ⟨rfl, .inr ⟨_, .inr rfl, rfl⟩⟩
  · exact .inr ⟨rfl, .inr ⟨_, .inr rfl, rfl⟩⟩
theorem encode_ok (m : Pm) (vo vr : AV) (hf : m.fine) (fo : Fm vo m.o) (fr : Fm vr m.r) (to : Tx vo m.o) (tr : Tx vr m.r) : ∃ v, prun T F15 [.agg (msC m vo vr)] = some v ∧ IsEnc v (encW m) := by
  suffices h : WP (fun v => IsEnc v (encW m)) (prun T F15 [.agg (msC m vo vr)]) from WP_ex h
  have hcm := fun h => call_may m vo vr to tr hf h
  refine prun_wp ?_
  by_cases hm : MayP m
  · have hd := decide_eq_true hm
    rw [hd] at hcm
    have hv : fieldsV m.k = .slice .full none ((fieldsS m.k).map u64) := if_neg hm.1
    obtain ⟨wk1, wk2, wk3⟩ := wrap_k m.k (kinds hm.1)
    have hfl := fields_len m.k
    have hrc := recs_count m
    have hrl : (recsS m).length = (fieldsS m.k).length := by simp [recsS]
    have hew : encW m = (0 :: m.k :: flatS (recsS m), 0) := if_pos hm
    rw [hew]
    have hb := trivial
    repeat' (first | (simp -implicitDefEqProofs (disch := omega) only [hb, F15, wG, call_fields, hv, to.strip, tr.strip, to.one, tr.one, to.cells, tr.cells, hcm, p16, wC, wO, initE, aop, Nat.reduceEqDiff, ↓reduceIte, Nat.reduceAdd, finish, resOf, tupOf, AM.freeze, freeze1, freezeL, closed, nam, namL, if_true, if_false, deref, boxAt, exAt, ldCells, oneL, oneCell, Nat.reduceLeDiff, evL, adopt, rigid, rigidL, trim, Int.reduceEq, Int.reduceMod, Int.reduceDiv, if_pos, if_neg, asI, forall_const, implies_true, chkD, chkO, chkW, effB, reB, vEq, beq_self_eq_true, Nat.reduceSub, Nat.reduceLT, Int.reduceSub, Int.reduceAdd, Int.reduceMul, Int.reduceLT, Int.reduceLE, Int.reduceToNat, optI, aslice, cutSl, cutMs, cutStr, cutOwn]) | ((first | rw [WP_condK] | rw [WP_opsG] | rw [WP_quiG] | rw [WP_dG]); refine And.intro (fun hb => ?_) (fun hb => ?_) <;> (first | have hd := dq1 hb | have hd := dq2 hb | have hd := dq3 hb | have hd := dq4 hb | skip)))
    refine WP_loop (I := fun n e h => ∃ i : Nat, n + i = (fieldsS m.k).length ∧ getE e 14 = .slice .full none ((fieldsS m.k).map u64) ∧ getE e 15 = i64 (fieldsS m.k).length ∧ EncI m vo vr 4 16 e h i) ?_ (fieldsS m.k).length _ _ ⟨0, by omega, rfl, rfl, [], [], rfl, rfl, rfl, rfl, recsA_nil⟩
    rintro n e h ⟨i, hn, h14, h15, A, rest, h1, h4, h16, rfl, hA⟩
    rw [trim_off]
    have hAl := hA.1
    rw [List.length_take] at hAl
    by_cases hlt : i < (fieldsS m.k).length
    · have hg := get_map (f := u64) hlt
      have hmem := List.getElem_mem hlt
      obtain ⟨w, r, hc, fw, tw⟩ := call_get m vo vr hf.ok fo fr to tr _ (fields_all hmem) (.row (some 2) A.length :: rest)
      have hsn := hA.snoc (t := (fieldsS m.k)[i]) tw
      have htk : (recsS m).take i ++ [⟨(fieldsS m.k)[i], getS m (fieldsS m.k)[i]⟩] = (recsS m).take (i + 1) := by
        rw [List.take_succ_eq_append_getElem (by omega)]
        simp [recsS]
      rw [htk] at hsn
      have hb := trivial
      repeat' (first | (simp -implicitDefEqProofs (disch := omega) only [hb, L15_0, wG, h1, h4, h14, h15, h16, hg, hc, fw.cells, fw.one, tw.one, tw.strip, aappend, setEls, elFits_agg, stripEl_agg, one_int, List.replicate_succ, List.replicate_zero, wC, wO, initE, aop, Nat.reduceEqDiff, ↓reduceIte, Nat.reduceAdd, finish, resOf, tupOf, AM.freeze, freeze1, freezeL, closed, nam, namL, if_true, if_false, deref, boxAt, exAt, ldCells, oneL, oneCell, Nat.reduceLeDiff, evL, adopt, rigid, rigidL, trim, Int.reduceEq, Int.reduceMod, Int.reduceDiv, if_pos, if_neg, asI, forall_const, implies_true, chkD, chkO, chkW, effB, reB, vEq, beq_self_eq_true, Nat.reduceSub, Nat.reduceLT, Int.reduceSub, Int.reduceAdd, Int.reduceMul, Int.reduceLT, Int.reduceLE, Int.reduceToNat, optI, aslice, cutSl, cutMs, cutStr, cutOwn]) | ((first | rw [WP_condK] | rw [WP_opsG] | rw [WP_quiG] | rw [WP_dG]); refine And.intro (fun hb => ?_) (fun hb => ?_) <;> (first | have hd := dq1 hb | have hd := dq2 hb | have hd := dq3 hb | have hd := dq4 hb | skip)))
      exact ⟨n - 1, by omega, i + 1, by omega, _, _, rfl, rfl, rfl, by rw [List.length_append, List.length_singleton], hsn⟩
    · have hi : i = (fieldsS m.k).length := by omega
      subst hi
      rw [← hrl, List.take_length] at hA
      obtain ⟨v, hi2, hc⟩ := call_encA A (recsS m) hA (recs_ok hf) (fun r hr => Nat.le_trans (recs_len hm r hr) (by omega)) (by omega)
      have hc := fun h => hc (.tok 0) rfl h
      rw [recs_enc hm] at hi2
      rcases hi2 with ⟨hh, _⟩ | ⟨_, hi2⟩
      · exact absurd rfl hh
      · have hfb := flat_bound2 (recs_len hm)
        have hfb2 : (recsS m).length * 2130 ≤ 6 * 2130 := Nat.mul_le_mul_right _ hrc
        rcases hi2 with ⟨h0, rfl⟩ | ⟨o, ho, rfl⟩
        · simp only at h0
          rw [h0]
          have hb := trivial
          repeat' (first | (simp -implicitDefEqProofs (disch := omega) only [hb, L15_0, wG, h1, h4, h14, h15, h16, hc, aappend, setEls, elFits_sc, stripEl_sc, one_int, List.replicate_succ, List.replicate_zero, wk1, wk2, wk3, wC, wO, initE, aop, Nat.reduceEqDiff, ↓reduceIte, Nat.reduceAdd, finish, resOf, tupOf, freezeL, closed, nam, namL, if_true, if_false, deref, boxAt, exAt, ldCells, oneL, oneCell, Nat.reduceLeDiff, evL, adopt, rigid, rigidL, trim, Int.reduceEq, Int.reduceMod, Int.reduceDiv, if_pos, if_neg, asI, forall_const, implies_true, chkD, chkO, chkW, effB, reB, vEq, beq_self_eq_true, Nat.reduceSub, Nat.reduceLT, Int.reduceSub, Int.reduceAdd, Int.reduceMul, Int.reduceLT, Int.reduceLE, Int.reduceToNat, optI, aslice, cutSl, cutMs, cutStr, cutOwn]) | ((first | rw [WP_condK] | rw [WP_opsG] | rw [WP_quiG] | rw [WP_dG]); refine And.intro (fun hb => ?_) (fun hb => ?_) <;> (first | have hd := dq1 hb | have hd := dq2 hb | have hd := dq3 hb | have hd := dq4 hb | skip)))
          exact tok_freeze _ [0, m.k]
        · rcases ho with rfl | rfl
          all_goals
            have hb := trivial
            repeat' (first | (simp -implicitDefEqProofs (disch := omega) only [hb, L15_0, wG, h1, h4, h14, h15, h16, hc, aappend, setEls, elFits_sc, stripEl_sc, one_int, List.replicate_succ, List.replicate_zero, wk1, wk2, wk3, wC, wO, initE, aop, Nat.reduceEqDiff, ↓reduceIte, Nat.reduceAdd, finish, resOf, tupOf, freezeL, closed, nam, namL, if_true, if_false, deref, boxAt, exAt, ldCells, oneL, oneCell, Nat.reduceLeDiff, evL, adopt, rigid, rigidL, trim, Int.reduceEq, Int.reduceMod, Int.reduceDiv, if_pos, if_neg, asI, forall_const, implies_true, chkD, chkO, chkW, effB, reB, vEq, beq_self_eq_true, Nat.reduceSub, Nat.reduceLT, Int.reduceSub, Int.reduceAdd, Int.reduceMul, Int.reduceLT, Int.reduceLE, Int.reduceToNat, optI, aslice, cutSl, cutMs, cutStr, cutOwn]) | ((first | rw [WP_condK] | rw [WP_opsG] | rw [WP_quiG] | rw [WP_dG]); refine And.intro (fun hb => ?_) (fun hb => ?_) <;> (first | have hd := dq1 hb | have hd := dq2 hb | have hd := dq3 hb | have hd := dq4 hb | skip)))
            exact tok_freeze _ (0 :: m.k :: flatS (recsS m))
  · have hd := decide_eq_false hm
    rw [hd] at hcm
    have hew : encW m = ([], 1) := if_neg hm
    rw [hew]
    have hb := trivial
    repeat' (first | (simp -implicitDefEqProofs (disch := omega) only [hb, F15, wG, call_fields, to.strip, tr.strip, to.one, tr.one, to.cells, tr.cells, hcm, p16, wC, wO, initE, aop, Nat.reduceEqDiff, ↓reduceIte, Nat.reduceAdd, finish, resOf, tupOf, AM.freeze, freeze1, freezeL, closed, nam, namL, if_true, if_false, deref, boxAt, exAt, ldCells, oneL, oneCell, Nat.reduceLeDiff, evL, adopt, rigid, rigidL, trim, Int.reduceEq, Int.reduceMod, Int.reduceDiv, if_pos, if_neg, asI, forall_const, implies_true, chkD, chkO, chkW, effB, reB, vEq, beq_self_eq_true, Nat.reduceSub, Nat.reduceLT, Int.reduceSub, Int.reduceAdd, Int.reduceMul, Int.reduceLT, Int.reduceLE, Int.reduceToNat, optI, aslice, cutSl, cutMs, cutStr, cutOwn]) | ((first | rw [WP_condK] | rw [WP_opsG] | rw [WP_quiG] | rw [WP_dG]); refine And.intro (fun hb => ?_) (fun hb => ?_) <;> (first | have hd := dq1 hb | have hd := dq2 hb | have hd := dq3 hb | have hd := dq4 hb | skip)))
    exact .inl ⟨by decide, rfl⟩
theorem rencode_ok (m : Pm) (vo vr : AV) (hf : m.fine) (fo : Fm vo m.o) (fr : Fm vr m.r) (to : Tx vo m.o) (tr : Tx vr m.r) : ∃ v, prun T F13 [.agg (msC m vo vr)] = some v ∧ IsEnc v (encW m) := by
  suffices h : WP (fun v => IsEnc v (encW m)) (prun T F13 [.agg (msC m vo vr)]) from WP_ex h
  have hcm := fun h => call_rmay m vo vr to tr hf h
  refine prun_wp ?_
  by_cases hm : MayP m
  · have hd := decide_eq_true hm
    rw [hd] at hcm
    have hv : fieldsV m.k = .slice .full none ((fieldsS m.k).map u64) := if_neg hm.1
    obtain ⟨wk1, wk2, wk3⟩ := wrap_k m.k (kinds hm.1)
    have hfl := fields_len m.k
    have hrc := recs_count m
    have hrl : (recsS m).length = (fieldsS m.k).length := by simp [recsS]
    have hew : encW m = (0 :: m.k :: flatS (recsS m), 0) := if_pos hm
    rw [hew]
    have hb := trivial
    repeat' (first | (simp -implicitDefEqProofs (disch := omega) only [hb, F13, wG, call_rfields, hv, to.strip, tr.strip, to.one, tr.one, to.cells, tr.cells, hcm, p17, wC, wO, initE, aop, Nat.reduceEqDiff, ↓reduceIte, Nat.reduceAdd, finish, resOf, tupOf, AM.freeze, freeze1, freezeL, closed, nam, namL, if_true, if_false, deref, boxAt, exAt, ldCells, oneL, oneCell, Nat.reduceLeDiff, evL, adopt, rigid, rigidL, trim, Int.reduceEq, Int.reduceMod, Int.reduceDiv, if_pos, if_neg, asI, forall_const, implies_true, chkD, chkO, chkW, effB, reB, vEq, beq_self_eq_true, Nat.reduceSub, Nat.reduceLT, Int.reduceSub, Int.reduceAdd, Int.reduceMul, Int.reduceLT, Int.reduceLE, Int.reduceToNat, optI, aslice, cutSl, cutMs, cutStr, cutOwn]) | ((first | rw [WP_condK] | rw [WP_opsG] | rw [WP_quiG] | rw [WP_dG]); refine And.intro (fun hb => ?_) (fun hb => ?_) <;> (first | have hd := dq1 hb | have hd := dq2 hb | have hd := dq3 hb | have hd := dq4 hb | skip)))
    refine WP_loop (I := fun n e h => ∃ i : Nat, n + i = (fieldsS m.k).length ∧ getE e 4 = .slice .full none ((fieldsS m.k).map u64) ∧ EncI m vo vr 5 6 e h i) ?_ (fieldsS m.k).length _ _ ⟨0, by omega, rfl, [], [], rfl, rfl, rfl, rfl, recsA_nil⟩
    rintro n e h ⟨i, hn, h4, A, rest, h1, h5, h6, rfl, hA⟩
    rw [trim_off]
    have hAl := hA.1
    rw [List.length_take] at hAl
    by_cases hlt : i < (fieldsS m.k).length
    · have hg := get_map (f := u64) hlt
      have hmem := List.getElem_mem hlt
      obtain ⟨w, r, hc, fw, tw⟩ := call_value m vo vr hf.ok fo fr to tr _ (fields_all hmem) (.row (some 2) A.length :: rest)
      have qb := ms_beq m vo vr to.beq tr.beq
      have hsn := hA.snoc (t := (fieldsS m.k)[i]) tw
      have htk : (recsS m).take i ++ [⟨(fieldsS m.k)[i], getS m (fieldsS m.k)[i]⟩] = (recsS m).take (i + 1) := by
        rw [List.take_succ_eq_append_getElem (by omega)]
        simp [recsS]
      rw [htk] at hsn
      have hb := trivial
      repeat' (first | (simp -implicitDefEqProofs (disch := omega) only [hb, L13_0, wG, h1, h4, h5, h6, hg, hc, p27, qb, fw.cells, fw.one, tw.one, tw.strip, aappend, setEls, elFits_agg, stripEl_agg, one_int, List.replicate_succ, List.replicate_zero, wC, wO, initE, aop, Nat.reduceEqDiff, ↓reduceIte, Nat.reduceAdd, finish, resOf, tupOf, AM.freeze, freeze1, freezeL, closed, nam, namL, if_true, if_false, deref, boxAt, exAt, ldCells, oneL, oneCell, Nat.reduceLeDiff, evL, adopt, rigid, rigidL, trim, Int.reduceEq, Int.reduceMod, Int.reduceDiv, if_pos, if_neg, asI, forall_const, implies_true, chkD, chkO, chkW, effB, reB, vEq, beq_self_eq_true, Nat.reduceSub, Nat.reduceLT, Int.reduceSub, Int.reduceAdd, Int.reduceMul, Int.reduceLT, Int.reduceLE, Int.reduceToNat, optI, aslice, cutSl, cutMs, cutStr, cutOwn]) | ((first | rw [WP_condK] | rw [WP_opsG] | rw [WP_quiG] | rw [WP_dG]); refine And.intro (fun hb => ?_) (fun hb => ?_) <;> (first | have hd := dq1 hb | have hd := dq2 hb | have hd := dq3 hb | have hd := dq4 hb | skip)))
      exact ⟨n - 1, by omega, i + 1, by omega, _, _, rfl, rfl, rfl, by rw [List.length_append, List.length_singleton], hsn⟩
    · have hi : i = (fieldsS m.k).length := by omega
      subst hi
      rw [← hrl, List.take_length] at hA
      obtain ⟨v, hi2, hc⟩ := call_rencA A (recsS m) hA (recs_ok hf) (fun r hr => Nat.le_trans (recs_len hm r hr) (by omega)) (by omega)
      have hc := fun h => hc (.tok 0) rfl h
      rw [recs_enc hm] at hi2
      rcases hi2 with ⟨hh, _⟩ | ⟨_, hi2⟩
      · exact absurd rfl hh
      · have hfb := flat_bound2 (recs_len hm)
        have hfb2 : (recsS m).length * 2130 ≤ 6 * 2130 := Nat.mul_le_mul_right _ hrc
        rcases hi2 with ⟨h0, rfl⟩ | ⟨o, ho, rfl⟩
        · simp only at h0
          rw [h0]
          have hb := trivial
          repeat' (first | (simp -implicitDefEqProofs (disch := omega) only [hb, L13_0, wG, h1, h4, h5, h6, hc, aappend, setEls, elFits_sc, stripEl_sc, one_int, List.replicate_succ, List.replicate_zero, wk1, wk2, wk3, wC, wO, initE, aop, Nat.reduceEqDiff, ↓reduceIte, Nat.reduceAdd, finish, resOf, tupOf, freezeL, closed, nam, namL, if_true, if_false, deref, boxAt, exAt, ldCells, oneL, oneCell, Nat.reduceLeDiff, evL, adopt, rigid, rigidL, trim, Int.reduceEq, Int.reduceMod, Int.reduceDiv, if_pos, if_neg, asI, forall_const, implies_true, chkD, chkO, chkW, effB, reB, vEq, beq_self_eq_true, Nat.reduceSub, Nat.reduceLT, Int.reduceSub, Int.reduceAdd, Int.reduceMul, Int.reduceLT, Int.reduceLE, Int.reduceToNat, optI, aslice, cutSl, cutMs, cutStr, cutOwn]) | ((first | rw [WP_condK] | rw [WP_opsG] | rw [WP_quiG] | rw [WP_dG]); refine And.intro (fun hb => ?_) (fun hb => ?_) <;> (first | have hd := dq1 hb | have hd := dq2 hb | have hd := dq3 hb | have hd := dq4 hb | skip)))
          exact tok_freeze _ [0, m.k]
        · rcases ho with rfl | rfl
          all_goals
            have hb := trivial
            repeat' (first | (simp -implicitDefEqProofs (disch := omega) only [hb, L13_0, wG, h1, h4, h5, h6, hc, aappend, setEls, elFits_sc, stripEl_sc, one_int, List.replicate_succ, List.replicate_zero, wk1, wk2, wk3, wC, wO, initE, aop, Nat.reduceEqDiff, ↓reduceIte, Nat.reduceAdd, finish, resOf, tupOf, freezeL, closed, nam, namL, if_true, if_false, deref, boxAt, exAt, ldCells, oneL, oneCell, Nat.reduceLeDiff, evL, adopt, rigid, rigidL, trim, Int.reduceEq, Int.reduceMod, Int.reduceDiv, if_pos, if_neg, asI, forall_const, implies_true, chkD, chkO, chkW, effB, reB, vEq, beq_self_eq_true, Nat.reduceSub, Nat.reduceLT, Int.reduceSub, Int.reduceAdd, Int.reduceMul, Int.reduceLT, Int.reduceLE, Int.reduceToNat, optI, aslice, cutSl, cutMs, cutStr, cutOwn]) | ((first | rw [WP_condK] | rw [WP_opsG] | rw [WP_quiG] | rw [WP_dG]); refine And.intro (fun hb => ?_) (fun hb => ?_) <;> (first | have hd := dq1 hb | have hd := dq2 hb | have hd := dq3 hb | have hd := dq4 hb | skip)))
            exact tok_freeze _ (0 :: m.k :: flatS (recsS m))
  · have hd := decide_eq_false hm
    rw [hd] at hcm
    have hew : encW m = ([], 1) := if_neg hm
    rw [hew]
    have hb := trivial
    repeat' (first | (simp -implicitDefEqProofs (disch := omega) only [hb, F13, wG, call_rfields, to.strip, tr.strip, to.one, tr.one, to.cells, tr.cells, hcm, p17, wC, wO, initE, aop, Nat.reduceEqDiff, ↓reduceIte, Nat.reduceAdd, finish, resOf, tupOf, AM.freeze, freeze1, freezeL, closed, nam, namL, if_true, if_false, deref, boxAt, exAt, ldCells, oneL, oneCell, Nat.reduceLeDiff, evL, adopt, rigid, rigidL, trim, Int.reduceEq, Int.reduceMod, Int.reduceDiv, if_pos, if_neg, asI, forall_const, implies_true, chkD, chkO, chkW, effB, reB, vEq, beq_self_eq_true, Nat.reduceSub, Nat.reduceLT, Int.reduceSub, Int.reduceAdd, Int.reduceMul, Int.reduceLT, Int.reduceLE, Int.reduceToNat, optI, aslice, cutSl, cutMs, cutStr, cutOwn]) | ((first | rw [WP_condK] | rw [WP_opsG] | rw [WP_quiG] | rw [WP_dG]); refine And.intro (fun hb => ?_) (fun hb => ?_) <;> (first | have hd := dq1 hb | have hd := dq2 hb | have hd := dq3 hb | have hd := dq4 hb | skip)))
    exact .inl ⟨by decide, rfl⟩
end Go.Proofs.Ytnlemcfhndjheaa.AM

/- wire: a field of some bytes: read, hash, set. -/
namespace Go.Proofs.Ytnlemcfhndjheaa.AM
open Go
set_option maxRecDepth 100000
set_option maxHeartbeats 4000000
set_option linter.unusedSimpArgs false
set_option linter.unusedVariables false
def okN (b : List Int) : Prop := b.length ≤ 8 ∧ (0 < b.length → b.getD 0 0 ≠ 0) ∧ (b.length = 8 → b.getD 0 0 ≤ 127)
instance (b : List Int) : Decidable (okN b) := by unfold okN; infer_instance
def rdN (b : List Int) : Int := if okN b then be b else -1
theorem be_take_le {b : List Int} (hb : Bytes b) {i : Nat} (hi : i < b.length) : be (b.take (i + 1)) = be (b.take i) * 256 + b[i] := by
  rw [List.take_succ_eq_append_getElem hi, be_snoc]
theorem be_mono {b : List Int} (hb : Bytes b) : ∀ (n i : Nat), i + n ≤ b.length → be (b.take i) * 256 ^ n ≤ be (b.take (i + n))
  | 0, i, _ => by simp
  | n + 1, i, h => by
    have h1 := be_mono hb n (i + 1) (by omega)
    have h2 := be_take_le hb (i := i) (by omega)
    have h3 := hb b[i] (List.getElem_mem _)
    rw [show i + (n + 1) = i + 1 + n by omega]
    refine Int.le_trans ?_ h1
    rw [h2, Int.pow_succ, Int.add_mul, ← Int.mul_assoc, Int.mul_assoc _ _ 256, Int.mul_comm (256 ^ n) 256, ← Int.mul_assoc]
    have h4 : 0 ≤ b[i] * 256 ^ n := Int.mul_nonneg h3.1 (Int.le_of_lt (Int.pow_pos (by omega)))
    omega
theorem be_ok {b : List Int} (hb : Bytes b) (h : okN b) : be b < 9223372036854775808 := by
  obtain ⟨h1, h2, h3⟩ := h
  by_cases h8 : b.length = 8
  · have h4 := h3 h8
    cases b with
    | nil => simp at h8
    | cons x r =>
      simp only [List.getD_cons_zero] at h4
      have hx := hb x List.mem_cons_self
      have hr : Bytes r := fun c hc => hb c (List.mem_cons_of_mem _ hc)
      have h5 := (be_from r hr x hx.1).2
      have h6 : r.length = 7 := by simpa using h8
      rw [h6] at h5
      have e : be (x :: r) = r.foldl (fun x c => x * 256 + c) x := by unfold be; rw [List.foldl_cons, Int.zero_mul, Int.zero_add]
      rw [e]
      omega
  · have h4 := (be_bound b hb).2
    have h5 : (256 : Int) ^ b.length ≤ 256 ^ 7 := by
      have z : ((256 ^ b.length : Nat) : Int) ≤ ((256 ^ 7 : Nat) : Int) := Int.ofNat_le.2 (Nat.pow_le_pow_right (by omega) (by omega))
      simpa using z
    omega
theorem be_step {b : List Int} (hb : Bytes b) (h : okN b) {i : Nat} (hi : i < b.length) : 0 ≤ be (b.take i) ∧ be (b.take i) * 256 + 255 < 9223372036854775808 := by
  have h0 := (be_bound (b.take i) (take_bytes hb i)).1
  have h1 := be_ok hb h
  have h2 := be_take_le hb hi
  have h3 := be_mono hb (b.length - (i + 1)) (i + 1) (by omega)
  rw [show i + 1 + (b.length - (i + 1)) = b.length by omega, List.take_length] at h3
  have h4 := hb b[i] (List.getElem_mem _)
  have h5 : be (b.take (i + 1)) ≤ be b := by
    refine Int.le_trans ?_ h3
    have h6 : 0 ≤ be (b.take (i + 1)) := (be_bound _ (take_bytes hb _)).1
    have h7 : (1 : Int) ≤ 256 ^ (b.length - (i + 1)) := Int.pow_pos (by omega)
    exact Int.le_trans (by omega) (Int.mul_le_mul_of_nonneg_left h7 h6)
  have h6 : be (b.take i) < 36028797018963968 := by omega
  omega
theorem or_byte_i (x c : Int) (h0 : 0 ≤ x) (h1 : x * 256 + 255 < 9223372036854775808) (c0 : 0 ≤ c) (c1 : c ≤ 255) : abin .or (.int .i64 (x * 256)) (.int .i64 c) = some (.int .i64 (x * 256 + c)) := by
  obtain ⟨a, rfl⟩ := Int.eq_ofNat_of_zero_le h0
  obtain ⟨b, rfl⟩ := Int.eq_ofNat_of_zero_le c0
  simp only [abin, aint, abit, if_true, Option.map_some, Option.some.injEq, Value.int.injEq, true_and]
  have e : (BitVec.ofInt IntKind.i64.bits ((a : Int) * 256) ||| BitVec.ofInt IntKind.i64.bits (b : Int)).toNat = a * 256 + b := by
    show (BitVec.ofInt 64 ((a : Int) * 256) ||| BitVec.ofInt 64 (b : Int)).toNat = _
    rw [BitVec.toNat_or, BitVec.toNat_ofInt, BitVec.toNat_ofInt]
    have e1 : (((a : Int) * 256) % (2 ^ 64 : Nat)).toNat = a <<< 8 := by
      rw [Nat.shiftLeft_eq]
      omega
    have e2 : ((b : Int) % (2 ^ 64 : Nat)).toNat = b := by omega
    rw [e1, e2, ← Nat.shiftLeft_add_eq_or_of_lt (show b < 2 ^ 8 by omega), Nat.shiftLeft_eq]
  rw [e, IntWalk.i64_in _ ⟨by omega, by omega⟩]
  omega
theorem getD0 {b : List Int} (h : 0 < b.length) : (b.map u8)[0]? = some (u8 (b.getD 0 0)) := by
  cases b with
  | nil => simp at h
  | cons x r => rfl
theorem read_okN (b : List Int) (hb : Bytes b) (hn : b.length ≤ 140737488351232) (o : AOwn) : prun T F46 [.slice o none (b.map u8)] = some (i64 (rdN b)) := by
  refine WP_eq (prun_wp ?_)
  have hrd : ¬ okN b → rdN b = -1 := fun h => if_neg h
  have loop : okN b → ∀ (e : Env) (Q : Res → Prop), getE e 0 = .slice o none (b.map u8) → getE e 3 = i64 0 → getE e 4 = i64 0 → (∀ e, getE e 3 = i64 (rdN b) → Q (.exit 0, e, [])) → WP Q (axl T [0, 3, 4] true L46_0 0 e []) := by
    intro hok e Q h0 h3 h4 hq
    refine WP_loop (I := fun n e h => ∃ i : Nat, n + i = b.length ∧ h = [] ∧ getE e 0 = .slice o none (b.map u8) ∧ getE e 3 = i64 (be (b.take i)) ∧ getE e 4 = i64 i) ?_ b.length _ _ ⟨0, by omega, rfl, h0, h3, h4⟩
    rintro n e h ⟨i, hn, rfl, h0, h3, h4⟩
    rw [trim_same' (by simp)]
    by_cases hlt : i < b.length
    · have hg := get_u8 hlt
      obtain ⟨s0, s1⟩ := be_step hb hok hlt
      have hbi := bytes_get hb hlt
      first | have hb := hb | have hb := trivial
      repeat' (first | (simp -implicitDefEqProofs (disch := omega) only [hb, L46_0, h0, h3, h4, hg, wC, wO, initE, aop, Nat.reduceEqDiff, ↓reduceIte, Nat.reduceAdd, finish, resOf, tupOf, AM.freeze, freeze1, freezeL, closed, nam, namL, if_true, if_false, deref, boxAt, exAt, ldCells, oneL, oneCell, Nat.reduceLeDiff, evL, adopt, rigid, rigidL, trim, Int.reduceEq, Int.reduceMod, Int.reduceDiv, if_pos, if_neg, asI, forall_const, implies_true, chkD, chkO, chkW, effB, reB, vEq, beq_self_eq_true, Nat.reduceSub, Nat.reduceLT, Int.reduceSub, Int.reduceAdd, Int.reduceMul, Int.reduceLT, Int.reduceLE, Int.reduceToNat, optI, aslice, cutSl, cutMs, cutStr, cutOwn]) | ((first | rw [WP_condK] | rw [WP_opsG] | rw [WP_quiG] | rw [WP_dG]); refine And.intro (fun hb => ?_) (fun hb => ?_) <;> (first | have hd := dq1 hb | have hd := dq2 hb | have hd := dq3 hb | have hd := dq4 hb | skip)))
      exact ⟨n - 1, by omega, i + 1, by omega, by rw [be_take_le hb hlt], rfl⟩
    · have hi : i = b.length := by omega
      subst hi
      rw [List.take_length] at h3
      first | have hb := hb | have hb := trivial
      repeat' (first | (simp -implicitDefEqProofs (disch := omega) only [hb, L46_0, h0, h3, h4, wC, wO, initE, aop, Nat.reduceEqDiff, ↓reduceIte, Nat.reduceAdd, finish, resOf, tupOf, AM.freeze, freeze1, freezeL, closed, nam, namL, if_true, if_false, deref, boxAt, exAt, ldCells, oneL, oneCell, Nat.reduceLeDiff, evL, adopt, rigid, rigidL, trim, Int.reduceEq, Int.reduceMod, Int.reduceDiv, if_pos, if_neg, asI, forall_const, implies_true, chkD, chkO, chkW, effB, reB, vEq, beq_self_eq_true, Nat.reduceSub, Nat.reduceLT, Int.reduceSub, Int.reduceAdd, Int.reduceMul, Int.reduceLT, Int.reduceLE, Int.reduceToNat, optI, aslice, cutSl, cutMs, cutStr, cutOwn]) | ((first | rw [WP_condK] | rw [WP_opsG] | rw [WP_quiG] | rw [WP_dG]); refine And.intro (fun hb => ?_) (fun hb => ?_) <;> (first | have hd := dq1 hb | have hd := dq2 hb | have hd := dq3 hb | have hd := dq4 hb | skip)))
      exact hq _ (by simp only [getE_cons]; simp [h3, rdN, hok])
  by_cases h0 : b.length = 0
  · have hok : okN b := ⟨by omega, by omega, by omega⟩
    first | have hb := hb | have hb := trivial
    repeat' (first | (simp -implicitDefEqProofs (disch := omega) only [hb, F46, wC, wO, initE, aop, Nat.reduceEqDiff, ↓reduceIte, Nat.reduceAdd, finish, resOf, tupOf, AM.freeze, freeze1, freezeL, closed, nam, namL, if_true, if_false, deref, boxAt, exAt, ldCells, oneL, oneCell, Nat.reduceLeDiff, evL, adopt, rigid, rigidL, trim, Int.reduceEq, Int.reduceMod, Int.reduceDiv, if_pos, if_neg, asI, forall_const, implies_true, chkD, chkO, chkW, effB, reB, vEq, beq_self_eq_true, Nat.reduceSub, Nat.reduceLT, Int.reduceSub, Int.reduceAdd, Int.reduceMul, Int.reduceLT, Int.reduceLE, Int.reduceToNat, optI, aslice, cutSl, cutMs, cutStr, cutOwn]) | ((first | rw [WP_condK] | rw [WP_opsG] | rw [WP_quiG] | rw [WP_dG]); refine And.intro (fun hb => ?_) (fun hb => ?_) <;> (first | have hd := dq1 hb | have hd := dq2 hb | have hd := dq3 hb | have hd := dq4 hb | skip)))
    all_goals first
    | (refine loop hok _ _ rfl rfl rfl fun e h3 => ?_
       first | have hb := hb | have hb := trivial
       repeat' (first | (simp -implicitDefEqProofs (disch := omega) only [hb, h3, wC, wO, initE, aop, Nat.reduceEqDiff, ↓reduceIte, Nat.reduceAdd, finish, resOf, tupOf, AM.freeze, freeze1, freezeL, closed, nam, namL, if_true, if_false, deref, boxAt, exAt, ldCells, oneL, oneCell, Nat.reduceLeDiff, evL, adopt, rigid, rigidL, trim, Int.reduceEq, Int.reduceMod, Int.reduceDiv, if_pos, if_neg, asI, forall_const, implies_true, chkD, chkO, chkW, effB, reB, vEq, beq_self_eq_true, Nat.reduceSub, Nat.reduceLT, Int.reduceSub, Int.reduceAdd, Int.reduceMul, Int.reduceLT, Int.reduceLE, Int.reduceToNat, optI, aslice, cutSl, cutMs, cutStr, cutOwn]) | ((first | rw [WP_condK] | rw [WP_opsG] | rw [WP_quiG] | rw [WP_dG]); refine And.intro (fun hb => ?_) (fun hb => ?_) <;> (first | have hd := dq1 hb | have hd := dq2 hb | have hd := dq3 hb | have hd := dq4 hb | skip))))
    | trace_state
  · have hg0 := getD0 (b := b) (by omega)
    first | have hb := hb | have hb := trivial
    repeat' (first | (simp -implicitDefEqProofs (disch := omega) only [hb, F46, hg0, wC, wO, initE, aop, Nat.reduceEqDiff, ↓reduceIte, Nat.reduceAdd, finish, resOf, tupOf, AM.freeze, freeze1, freezeL, closed, nam, namL, if_true, if_false, deref, boxAt, exAt, ldCells, oneL, oneCell, Nat.reduceLeDiff, evL, adopt, rigid, rigidL, trim, Int.reduceEq, Int.reduceMod, Int.reduceDiv, if_pos, if_neg, asI, forall_const, implies_true, chkD, chkO, chkW, effB, reB, vEq, beq_self_eq_true, Nat.reduceSub, Nat.reduceLT, Int.reduceSub, Int.reduceAdd, Int.reduceMul, Int.reduceLT, Int.reduceLE, Int.reduceToNat, optI, aslice, cutSl, cutMs, cutStr, cutOwn]) | ((first | rw [WP_condK] | rw [WP_opsG] | rw [WP_quiG] | rw [WP_dG]); refine And.intro (fun hb => ?_) (fun hb => ?_) <;> (first | have hd := dq1 hb | have hd := dq2 hb | have hd := dq3 hb | have hd := dq4 hb | skip)))
    all_goals first
    | (rw [hrd (by unfold okN; omega)])
    | (refine loop (by unfold okN; omega) _ _ rfl rfl rfl fun e h3 => ?_
       first | have hb := hb | have hb := trivial
       repeat' (first | (simp -implicitDefEqProofs (disch := omega) only [hb, h3, wC, wO, initE, aop, Nat.reduceEqDiff, ↓reduceIte, Nat.reduceAdd, finish, resOf, tupOf, AM.freeze, freeze1, freezeL, closed, nam, namL, if_true, if_false, deref, boxAt, exAt, ldCells, oneL, oneCell, Nat.reduceLeDiff, evL, adopt, rigid, rigidL, trim, Int.reduceEq, Int.reduceMod, Int.reduceDiv, if_pos, if_neg, asI, forall_const, implies_true, chkD, chkO, chkW, effB, reB, vEq, beq_self_eq_true, Nat.reduceSub, Nat.reduceLT, Int.reduceSub, Int.reduceAdd, Int.reduceMul, Int.reduceLT, Int.reduceLE, Int.reduceToNat, optI, aslice, cutSl, cutMs, cutStr, cutOwn]) | ((first | rw [WP_condK] | rw [WP_opsG] | rw [WP_quiG] | rw [WP_dG]); refine And.intro (fun hb => ?_) (fun hb => ?_) <;> (first | have hd := dq1 hb | have hd := dq2 hb | have hd := dq3 hb | have hd := dq4 hb | skip))))
    | trace_state
end Go.Proofs.Ytnlemcfhndjheaa.AM
