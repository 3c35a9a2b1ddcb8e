import Derived.Test.YtejnficfhoekiaaMd
/- bigsize's Read, and the reference's. -/
namespace Go.Proofs.Ytejnficfhoekiaa.AM
open Go
set_option maxRecDepth 100000
set_option linter.unusedSimpArgs false
set_option linter.unusedVariables false
def rdT (l : List Int) : AV := .tup [u64 (readS l).1, i64 (readS l).2.1, i64 (readS l).2.2]
theorem be_lt8 {s : List Int} (h : Bytes s) (i : Nat) (hi : i < 8) (hs : s.length ≤ 8) : 0 ≤ be (s.take i) ∧ be (s.take i) * 256 + 255 ≤ 18446744073709551615 := by
  have hb := be_bound (s.take i) (take_bytes h i)
  have hl : (s.take i).length ≤ 7 := by rw [List.length_take]; omega
  have hp : (256 : Int) ^ (s.take i).length ≤ 256 ^ 7 := by
    have z : ((256 ^ (s.take i).length : Nat) : Int) ≤ ((256 ^ 7 : Nat) : Int) := Int.ofNat_le.2 (Nat.pow_le_pow_right (by omega) hl)
    simpa using z
  refine ⟨hb.1, ?_⟩
  have : (256 : Int) ^ 7 = 72057594037927936 := by decide
  omega
theorem be_take_succ {s : List Int} {i : Nat} (hi : i < s.length) : be (s.take (i + 1)) = be (s.take i) * 256 + s[i] := by
  rw [List.take_succ_eq_append_getElem hi, be_snoc]
theorem shl8 (x : Int) (h0 : 0 ≤ x) (h1 : x * 256 + 255 ≤ 18446744073709551615) : abin .shl (.int .u64 x) (.int .u64 8) = some (.int .u64 (x * 256)) := by
  have := shl_c .u64 .u64 x 8 (by simp [IntKind.bits])
  rw [show ((8 : Nat) : Int) = 8 from rfl] at this
  rw [this, show (2 : Int) ^ 8 = 256 by decide, IntWalk.u64_in _ ⟨by omega, by omega⟩]
theorem u8_take (l : List Int) (n : Nat) : (l.map u8).take n = (l.take n).map u8 := List.map_take.symm
theorem u8_drop (l : List Int) (n : Nat) : (l.map u8).drop n = (l.drop n).map u8 := List.map_drop.symm
theorem read_ok (l : List Int) (hl : Bytes l) (hn : l.length ≤ 4611686018427387904) : prun T F40 [.slice .none none (l.map u8)] = some (rdT l) := by
  refine WP_eq (prun_wp ?_)
  cases l with
  | nil =>
    first | have hb := hb | have hb := trivial
    repeat' (first | (simp -implicitDefEqProofs (disch := omega) only [hb, F40, wC, initE, aop, Nat.reduceEqDiff, ↓reduceIte, Nat.reduceAdd, finish, resOf, tupOf, AM.freeze, freeze1, freezeL, closed, nam, namL, if_true, if_false, deref, boxAt, exAt, ldCells, oneL, oneCell, Nat.reduceLeDiff, evL, adopt, rigid, rigidL, trim, Int.reduceEq, Int.reduceMod, Int.reduceDiv, if_pos, if_neg, asI, forall_const, implies_true, chkD, chkO, chkW, effB, reB, vEq, beq_self_eq_true, Nat.reduceSub, Nat.reduceLT, Int.reduceSub, Int.reduceAdd, Int.reduceMul, Int.reduceLT, Int.reduceLE, Int.reduceToNat, optI, aslice, cutSl, cutMs, cutStr, cutOwn, cellsOf, one, elCells, lenOf, beqV, beqVL, strip, stripO, convS]) | ((first | rw [WP_condK] | rw [WP_opsG] | rw [WP_quiG] | rw [WP_dG]); refine And.intro (fun hb => ?_) (fun hb => ?_) <;> (first | have hd := dq1 hb | have hd := dq2 hb | have hd := dq3 hb | have hd := dq4 hb | skip)))
    rfl
  | cons b r =>
    have hb := hl b List.mem_cons_self
    have hr : Bytes r := fun c hc => hl c (List.mem_cons_of_mem _ hc)
    have hlen : (b :: r).length = r.length + 1 := rfl
    rw [hlen] at hn
    by_cases h253 : b < 253
    · first | have hb := hb | have hb := trivial
      repeat' (first | (simp -implicitDefEqProofs (disch := omega) only [hb, F40, wC, initE, aop, Nat.reduceEqDiff, ↓reduceIte, Nat.reduceAdd, finish, resOf, tupOf, AM.freeze, freeze1, freezeL, closed, nam, namL, if_true, if_false, deref, boxAt, exAt, ldCells, oneL, oneCell, Nat.reduceLeDiff, evL, adopt, rigid, rigidL, trim, Int.reduceEq, Int.reduceMod, Int.reduceDiv, if_pos, if_neg, asI, forall_const, implies_true, chkD, chkO, chkW, effB, reB, vEq, beq_self_eq_true, Nat.reduceSub, Nat.reduceLT, Int.reduceSub, Int.reduceAdd, Int.reduceMul, Int.reduceLT, Int.reduceLE, Int.reduceToNat, optI, aslice, cutSl, cutMs, cutStr, cutOwn, cellsOf, one, elCells, lenOf, beqV, beqVL, strip, stripO, convS]) | ((first | rw [WP_condK] | rw [WP_opsG] | rw [WP_quiG] | rw [WP_dG]); refine And.intro (fun hb => ?_) (fun hb => ?_) <;> (first | have hd := dq1 hb | have hd := dq2 hb | have hd := dq3 hb | have hd := dq4 hb | skip)))
      simp [rdT, readS_cons, h253]
    have main : ∀ (n : Nat), wideS b = n → n ≤ 8 → 0 < n → abin .shl (.int .i64 2) (.int .u8 (IntKind.u8.wrap (b - 253))) = some (.int .i64 (n : Int)) → WP (BQ (fin F40.res) (BQ frz fun v => v = rdT (b :: r))) (ax T F40.body (initE 0 [.slice .none none ((b :: r).map u8)]) []) := by
      intro n hw hn8 hn0 hsh
      first | have hb := hb | have hb := trivial
      repeat' (first | (simp -implicitDefEqProofs (disch := omega) only [hb, F40, hsh, wC, initE, aop, Nat.reduceEqDiff, ↓reduceIte, Nat.reduceAdd, finish, resOf, tupOf, AM.freeze, freeze1, freezeL, closed, nam, namL, if_true, if_false, deref, boxAt, exAt, ldCells, oneL, oneCell, Nat.reduceLeDiff, evL, adopt, rigid, rigidL, trim, Int.reduceEq, Int.reduceMod, Int.reduceDiv, if_pos, if_neg, asI, forall_const, implies_true, chkD, chkO, chkW, effB, reB, vEq, beq_self_eq_true, Nat.reduceSub, Nat.reduceLT, Int.reduceSub, Int.reduceAdd, Int.reduceMul, Int.reduceLT, Int.reduceLE, Int.reduceToNat, optI, aslice, cutSl, cutMs, cutStr, cutOwn, cellsOf, one, elCells, lenOf, beqV, beqVL, strip, stripO, convS]) | ((first | rw [WP_condK] | rw [WP_opsG] | rw [WP_quiG] | rw [WP_dG]); refine And.intro (fun hb => ?_) (fun hb => ?_) <;> (first | have hd := dq1 hb | have hd := dq2 hb | have hd := dq3 hb | have hd := dq4 hb | skip)))
      · have h1 : r.length < n := by omega
        rw [rdT, readS_cons, if_neg h253, hw, if_pos h1]
      have hnr : n ≤ r.length := by omega
      obtain ⟨s, hs⟩ : ∃ s, r.take n = s := ⟨_, rfl⟩
      have hsb : Bytes s := hs ▸ take_bytes hr n
      have hsl : s.length = n := by rw [← hs, List.length_take]; omega
      have hmap : List.take n (List.map u8 r) = s.map u8 := by rw [← hs, u8_take]
      have hrd : readS (b :: r) = if sizeS (be s) = n + 1 then (be s, (n : Int) + 1, 0) else (0, 0, 10) := by
        rw [readS_cons, if_neg h253, hw, if_neg (by omega), hs]
      simp only [hmap, u8_len, hsl]
      refine WP_loop (I := fun k e h => ∃ i : Nat, k + i = n ∧ h = [] ∧ getE e 5 = i64 n ∧ getE e 6 = u64 (be (s.take i)) ∧ getE e 32 = .slice .none none (s.map u8) ∧ getE e 33 = i64 n ∧ getE e 34 = i64 i) ?_ n _ _ ⟨0, by omega, rfl, rfl, rfl, rfl, rfl, rfl⟩
      rintro k e h ⟨i, hk, rfl, h5, h6, h32, h33, h34⟩
      rw [trim_same' (by simp)]
      by_cases hlt : i < n
      · have hg := get_u8 (l := s) (i := i) (by omega)
        obtain ⟨y0, y1⟩ := bytes_get hsb (i := i) (by omega)
        obtain ⟨z0, z1⟩ := be_lt8 hsb i (by omega) (by omega)
        have e1 := shl8 (be (s.take i)) z0 z1
        have e2 := or_byte (be (s.take i)) s[i] z0 z1 y0 y1
        have e3 := be_take_succ (s := s) (i := i) (by omega)
        first | have hb := hb | have hb := trivial
        repeat' (first | (simp -implicitDefEqProofs (disch := omega) only [hb, L40_0, h5, h6, h32, h33, h34, hg, e1, e2, wC, initE, aop, Nat.reduceEqDiff, ↓reduceIte, Nat.reduceAdd, finish, resOf, tupOf, AM.freeze, freeze1, freezeL, closed, nam, namL, if_true, if_false, deref, boxAt, exAt, ldCells, oneL, oneCell, Nat.reduceLeDiff, evL, adopt, rigid, rigidL, trim, Int.reduceEq, Int.reduceMod, Int.reduceDiv, if_pos, if_neg, asI, forall_const, implies_true, chkD, chkO, chkW, effB, reB, vEq, beq_self_eq_true, Nat.reduceSub, Nat.reduceLT, Int.reduceSub, Int.reduceAdd, Int.reduceMul, Int.reduceLT, Int.reduceLE, Int.reduceToNat, optI, aslice, cutSl, cutMs, cutStr, cutOwn, cellsOf, one, elCells, lenOf, beqV, beqVL, strip, stripO, convS]) | ((first | rw [WP_condK] | rw [WP_opsG] | rw [WP_quiG] | rw [WP_dG]); refine And.intro (fun hb => ?_) (fun hb => ?_) <;> (first | have hd := dq1 hb | have hd := dq2 hb | have hd := dq3 hb | have hd := dq4 hb | skip)))
        exact ⟨k - 1, by omega, i + 1, by omega, by rw [e3], rfl⟩
      · obtain rfl : i = n := by omega
        have hfull : s.take i = s := List.take_of_length_le (by omega)
        rw [hfull] at h6
        first | have hb := hb | have hb := trivial
        repeat' (first | (simp -implicitDefEqProofs (disch := omega) only [hb, L40_0, h5, h6, h32, h33, h34, call_size, wC, initE, aop, Nat.reduceEqDiff, ↓reduceIte, Nat.reduceAdd, finish, resOf, tupOf, AM.freeze, freeze1, freezeL, closed, nam, namL, if_true, if_false, deref, boxAt, exAt, ldCells, oneL, oneCell, Nat.reduceLeDiff, evL, adopt, rigid, rigidL, trim, Int.reduceEq, Int.reduceMod, Int.reduceDiv, if_pos, if_neg, asI, forall_const, implies_true, chkD, chkO, chkW, effB, reB, vEq, beq_self_eq_true, Nat.reduceSub, Nat.reduceLT, Int.reduceSub, Int.reduceAdd, Int.reduceMul, Int.reduceLT, Int.reduceLE, Int.reduceToNat, optI, aslice, cutSl, cutMs, cutStr, cutOwn, cellsOf, one, elCells, lenOf, beqV, beqVL, strip, stripO, convS]) | ((first | rw [WP_condK] | rw [WP_opsG] | rw [WP_quiG] | rw [WP_dG]); refine And.intro (fun hb => ?_) (fun hb => ?_) <;> (first | have hd := dq1 hb | have hd := dq2 hb | have hd := dq3 hb | have hd := dq4 hb | skip)))
        · have hne : ¬ sizeS (be s) = i + 1 := by simpa using hb
          rw [rdT, hrd, if_neg hne]
        · have he : sizeS (be s) = i + 1 := by simpa using hb
          rw [rdT, hrd, if_pos he]
          rfl
    have hc : b = 253 ∨ b = 254 ∨ b = 255 := by omega
    rcases hc with rfl | rfl | rfl
    · exact main 2 rfl (by omega) (by omega) rfl
    · exact main 4 rfl (by omega) (by omega) rfl
    · exact main 8 rfl (by omega) (by omega) rfl
theorem call_num (x : Int) (hx : U64 x) : ∃ o, (o = .full ∨ o = .fresh) ∧ ∀ h, ag T 37 [u64 x] h = some (Go.Proofs.Ytejnficfhoekiaa.AM.adopt (.slice o none ((numS x).map u8)) h) := by
  obtain ⟨o, ho, hp⟩ := num_ok x hx
  exact ⟨o, ho, fun h => call_pure (T := T) rfl t37 rfl rfl rfl hp⟩
theorem be_u64 {s : List Int} (h : Bytes s) (hs : s.length ≤ 8) : U64 (be s) := by
  have hb := be_bound s h
  have hp : (256 : Int) ^ s.length ≤ 256 ^ 8 := by
    have z : ((256 ^ s.length : Nat) : Int) ≤ ((256 ^ 8 : Nat) : Int) := Int.ofNat_le.2 (Nat.pow_le_pow_right (by omega) hs)
    simpa using z
  have : (256 : Int) ^ 8 = 18446744073709551616 := by decide
  exact ⟨hb.1, by omega⟩
theorem rread_ok (l : List Int) (hl : Bytes l) (hn : l.length ≤ 4611686018427387904) : prun T F47 [.slice .none none (l.map u8)] = some (rdT l) := by
  refine WP_eq (prun_wp ?_)
  cases l with
  | nil =>
    first | have hb := hb | have hb := trivial
    repeat' (first | (simp -implicitDefEqProofs (disch := omega) only [hb, F47, wC, initE, aop, Nat.reduceEqDiff, ↓reduceIte, Nat.reduceAdd, finish, resOf, tupOf, AM.freeze, freeze1, freezeL, closed, nam, namL, if_true, if_false, deref, boxAt, exAt, ldCells, oneL, oneCell, Nat.reduceLeDiff, evL, adopt, rigid, rigidL, trim, Int.reduceEq, Int.reduceMod, Int.reduceDiv, if_pos, if_neg, asI, forall_const, implies_true, chkD, chkO, chkW, effB, reB, vEq, beq_self_eq_true, Nat.reduceSub, Nat.reduceLT, Int.reduceSub, Int.reduceAdd, Int.reduceMul, Int.reduceLT, Int.reduceLE, Int.reduceToNat, optI, aslice, cutSl, cutMs, cutStr, cutOwn, cellsOf, one, elCells, lenOf, beqV, beqVL, strip, stripO, convS]) | ((first | rw [WP_condK] | rw [WP_opsG] | rw [WP_quiG] | rw [WP_dG]); refine And.intro (fun hb => ?_) (fun hb => ?_) <;> (first | have hd := dq1 hb | have hd := dq2 hb | have hd := dq3 hb | have hd := dq4 hb | skip)))
    rfl
  | cons b r =>
    have hb := hl b List.mem_cons_self
    have hr : Bytes r := fun c hc => hl c (List.mem_cons_of_mem _ hc)
    have hlen : (b :: r).length = r.length + 1 := rfl
    rw [hlen] at hn
    by_cases h253 : b < 253
    · first | have hb := hb | have hb := trivial
      repeat' (first | (simp -implicitDefEqProofs (disch := omega) only [hb, F47, wC, initE, aop, Nat.reduceEqDiff, ↓reduceIte, Nat.reduceAdd, finish, resOf, tupOf, AM.freeze, freeze1, freezeL, closed, nam, namL, if_true, if_false, deref, boxAt, exAt, ldCells, oneL, oneCell, Nat.reduceLeDiff, evL, adopt, rigid, rigidL, trim, Int.reduceEq, Int.reduceMod, Int.reduceDiv, if_pos, if_neg, asI, forall_const, implies_true, chkD, chkO, chkW, effB, reB, vEq, beq_self_eq_true, Nat.reduceSub, Nat.reduceLT, Int.reduceSub, Int.reduceAdd, Int.reduceMul, Int.reduceLT, Int.reduceLE, Int.reduceToNat, optI, aslice, cutSl, cutMs, cutStr, cutOwn, cellsOf, one, elCells, lenOf, beqV, beqVL, strip, stripO, convS]) | ((first | rw [WP_condK] | rw [WP_opsG] | rw [WP_quiG] | rw [WP_dG]); refine And.intro (fun hb => ?_) (fun hb => ?_) <;> (first | have hd := dq1 hb | have hd := dq2 hb | have hd := dq3 hb | have hd := dq4 hb | skip)))
      simp [rdT, readS_cons, h253]
    have main : ∀ (n : Nat), wideS b = n → n ≤ 8 → 0 < n → (b = 253 ∧ n = 2 ∨ b = 254 ∧ n = 4 ∨ b = 255 ∧ n = 8) → WP (BQ (fin F47.res) (BQ frz fun v => v = rdT (b :: r))) (ax T F47.body (initE 0 [.slice .none none ((b :: r).map u8)]) []) := by
      intro n hw hn8 hn0 hbn
      have go : ∀ (e : Env), getE e 0 = .slice .none none (u8 b :: r.map u8) → getE e 5 = i64 n → getE e 6 = u64 0 → getE e 7 = i64 1 → n ≤ r.length → ∀ {Q : Res → Prop}, (∀ e', getE e' 0 = .slice .none none (u8 b :: r.map u8) → getE e' 5 = i64 n → getE e' 6 = u64 (be (r.take n)) → Q (.exit 1, e', [])) → WP Q (axl T [0, 5, 6, 7] true L47_0 0 e []) := by
        intro e g0 g5 g6 g7 hnr Q hQ
        refine WP_loop (I := fun k e h => ∃ i : Nat, k + i = n ∧ h = [] ∧ getE e 0 = .slice .none none (u8 b :: r.map u8) ∧ getE e 5 = i64 n ∧ getE e 6 = u64 (be (r.take i)) ∧ getE e 7 = i64 ((i : Int) + 1)) ?_ n _ _ ⟨0, by omega, rfl, g0, g5, g6, g7⟩
        clear g0 g5 g6 g7 e
        rintro k e h ⟨i, hk, rfl, h0, h5, h6, h7⟩
        rw [trim_same' (by simp)]
        by_cases hlt : i < n
        · have hg : (u8 b :: r.map u8)[i + 1]? = some (u8 r[i]) := by rw [List.getElem?_cons_succ]; exact get_u8 (by omega)
          obtain ⟨y0, y1⟩ := bytes_get hr (i := i) (by omega)
          have hbd : 0 ≤ be (r.take i) ∧ be (r.take i) * 256 + 255 ≤ 18446744073709551615 := by
            have hh := be_lt8 (take_bytes hr n) i (by omega) (by rw [List.length_take]; omega)
            rwa [List.take_take, Nat.min_eq_left (by omega)] at hh
          have e3 := be_take_succ (s := r) (i := i) (by omega)
          first | have hb := hb | have hb := trivial
          repeat' (first | (simp -implicitDefEqProofs (disch := omega) only [hb, L47_0, h0, h5, h6, h7, hg, wC, initE, aop, Nat.reduceEqDiff, ↓reduceIte, Nat.reduceAdd, finish, resOf, tupOf, AM.freeze, freeze1, freezeL, closed, nam, namL, if_true, if_false, deref, boxAt, exAt, ldCells, oneL, oneCell, Nat.reduceLeDiff, evL, adopt, rigid, rigidL, trim, Int.reduceEq, Int.reduceMod, Int.reduceDiv, if_pos, if_neg, asI, forall_const, implies_true, chkD, chkO, chkW, effB, reB, vEq, beq_self_eq_true, Nat.reduceSub, Nat.reduceLT, Int.reduceSub, Int.reduceAdd, Int.reduceMul, Int.reduceLT, Int.reduceLE, Int.reduceToNat, optI, aslice, cutSl, cutMs, cutStr, cutOwn, cellsOf, one, elCells, lenOf, beqV, beqVL, strip, stripO, convS]) | ((first | rw [WP_condK] | rw [WP_opsG] | rw [WP_quiG] | rw [WP_dG]); refine And.intro (fun hb => ?_) (fun hb => ?_) <;> (first | have hd := dq1 hb | have hd := dq2 hb | have hd := dq3 hb | have hd := dq4 hb | skip)))
          exact ⟨k - 1, by omega, i + 1, by omega, by rw [e3], rfl⟩
        · obtain rfl : i = n := by omega
          first | have hb := hb | have hb := trivial
          repeat' (first | (simp -implicitDefEqProofs (disch := omega) only [hb, L47_0, h0, h5, h6, h7, wC, initE, aop, Nat.reduceEqDiff, ↓reduceIte, Nat.reduceAdd, finish, resOf, tupOf, AM.freeze, freeze1, freezeL, closed, nam, namL, if_true, if_false, deref, boxAt, exAt, ldCells, oneL, oneCell, Nat.reduceLeDiff, evL, adopt, rigid, rigidL, trim, Int.reduceEq, Int.reduceMod, Int.reduceDiv, if_pos, if_neg, asI, forall_const, implies_true, chkD, chkO, chkW, effB, reB, vEq, beq_self_eq_true, Nat.reduceSub, Nat.reduceLT, Int.reduceSub, Int.reduceAdd, Int.reduceMul, Int.reduceLT, Int.reduceLE, Int.reduceToNat, optI, aslice, cutSl, cutMs, cutStr, cutOwn, cellsOf, one, elCells, lenOf, beqV, beqVL, strip, stripO, convS]) | ((first | rw [WP_condK] | rw [WP_opsG] | rw [WP_quiG] | rw [WP_dG]); refine And.intro (fun hb => ?_) (fun hb => ?_) <;> (first | have hd := dq1 hb | have hd := dq2 hb | have hd := dq3 hb | have hd := dq4 hb | skip)))
          exact hQ _ (by simp [getE, h0]) (by simp [getE, h5]) (by simp [getE, h6])
      have hrd : readS (b :: r) = if r.length < n then (0, 0, 10) else if sizeS (be (r.take n)) = n + 1 then (be (r.take n), (n : Int) + 1, 0) else (0, 0, 10) := by
        rw [readS_cons, if_neg h253, hw]
      have hu := be_u64 (take_bytes hr n) (by rw [List.length_take]; omega)
      obtain ⟨o, ho, hnum⟩ := call_num (be (r.take n)) hu
      have hnl := numS_len (be (r.take n))
      rcases hbn with ⟨rfl, rfl⟩ | ⟨rfl, rfl⟩ | ⟨rfl, rfl⟩
      all_goals
        first | have hb := hb | have hb := trivial
        repeat' (first | (simp -implicitDefEqProofs (disch := omega) only [hb, F47, wC, initE, aop, Nat.reduceEqDiff, ↓reduceIte, Nat.reduceAdd, finish, resOf, tupOf, AM.freeze, freeze1, freezeL, closed, nam, namL, if_true, if_false, deref, boxAt, exAt, ldCells, oneL, oneCell, Nat.reduceLeDiff, evL, adopt, rigid, rigidL, trim, Int.reduceEq, Int.reduceMod, Int.reduceDiv, if_pos, if_neg, asI, forall_const, implies_true, chkD, chkO, chkW, effB, reB, vEq, beq_self_eq_true, Nat.reduceSub, Nat.reduceLT, Int.reduceSub, Int.reduceAdd, Int.reduceMul, Int.reduceLT, Int.reduceLE, Int.reduceToNat, optI, aslice, cutSl, cutMs, cutStr, cutOwn, cellsOf, one, elCells, lenOf, beqV, beqVL, strip, stripO, convS]) | ((first | rw [WP_condK] | rw [WP_opsG] | rw [WP_quiG] | rw [WP_dG]); refine And.intro (fun hb => ?_) (fun hb => ?_) <;> (first | have hd := dq1 hb | have hd := dq2 hb | have hd := dq3 hb | have hd := dq4 hb | skip)))
        · rw [rdT, hrd, if_pos (by omega)]
        · refine go _ rfl rfl rfl rfl (by omega) fun e' g0 g5 g6 => ?_
          rcases ho with rfl | rfl
          all_goals
            first | have hb := hb | have hb := trivial
            repeat' (first | (simp -implicitDefEqProofs (disch := omega) only [hb, g0, g5, g6, hnum, hnl, wC, initE, aop, Nat.reduceEqDiff, ↓reduceIte, Nat.reduceAdd, finish, resOf, tupOf, AM.freeze, freeze1, freezeL, closed, nam, namL, if_true, if_false, deref, boxAt, exAt, ldCells, oneL, oneCell, Nat.reduceLeDiff, evL, adopt, rigid, rigidL, trim, Int.reduceEq, Int.reduceMod, Int.reduceDiv, if_pos, if_neg, asI, forall_const, implies_true, chkD, chkO, chkW, effB, reB, vEq, beq_self_eq_true, Nat.reduceSub, Nat.reduceLT, Int.reduceSub, Int.reduceAdd, Int.reduceMul, Int.reduceLT, Int.reduceLE, Int.reduceToNat, optI, aslice, cutSl, cutMs, cutStr, cutOwn, cellsOf, one, elCells, lenOf, beqV, beqVL, strip, stripO, convS]) | ((first | rw [WP_condK] | rw [WP_opsG] | rw [WP_quiG] | rw [WP_dG]); refine And.intro (fun hb => ?_) (fun hb => ?_) <;> (first | have hd := dq1 hb | have hd := dq2 hb | have hd := dq3 hb | have hd := dq4 hb | skip)))
            · rw [rdT, hrd, if_neg (by omega), if_neg (by simp at hb; omega)]
            · rw [rdT, hrd, if_neg (by omega), if_pos (by simp at hb; omega)]
              rfl
    have hc : b = 253 ∨ b = 254 ∨ b = 255 := by omega
    rcases hc with rfl | rfl | rfl
    · exact main 2 rfl (by omega) (by omega) (by omega)
    · exact main 4 rfl (by omega) (by omega) (by omega)
    · exact main 8 rfl (by omega) (by omega) (by omega)
end Go.Proofs.Ytejnficfhoekiaa.AM

/- bigsize's streams: Encode, and the reference's. -/
namespace Go.Proofs.Ytejnficfhoekiaa.AM
open Go
set_option maxRecDepth 100000
set_option linter.unusedSimpArgs false
set_option linter.unusedVariables false
/-- a record -/
@[ext] structure Rc where
  t : Int
  v : List Int
  deriving DecidableEq
def Rc.av (r : Rc) : AV := .agg [u64 r.t, .slice .none none (r.v.map u8)]
def Rc.ok (r : Rc) : Prop := U64 r.t ∧ Bytes r.v
def recS (r : Rc) : List Int := numS r.t ++ numS r.v.length ++ r.v
def flatS (l : List Rc) : List Int := l.flatMap recS
def ascB : List Rc → Bool
  | [] => true
  | [_] => true
  | a :: b :: r => decide (a.t < b.t) && ascB (b :: r)
/-- the stream of records -/
def encS (l : List Rc) : List Int × Int := if ascB l = true then (if l.length ≤ 64 ∧ (flatS l).length ≤ 65536 then (flatS l, 0) else ([], 3)) else ([], 11)
theorem rc_closed : ∀ (l : List Rc), closedL (l.map Rc.av) = true
  | [] => rfl
  | r :: l => by
    have h1 := rc_closed l
    have h2 := u8_closed r.v
    simp only [closedL, List.map_cons, namL, Rc.av, nam, Bool.true_and, Bool.and_true] at h1 h2 ⊢
    rw [h1, h2]; rfl
theorem get_rc {l : List Rc} {i : Nat} (h : i < l.length) : (l.map Rc.av)[i]? = some (.agg [u64 l[i].t, .slice .none none (l[i].v.map u8)]) := by rw [List.getElem?_map, List.getElem?_eq_getElem h]; rfl
theorem beqVL_u8 : ∀ (l : List Int), beqVL (l.map u8) (l.map u8) = true
  | [] => rfl
  | x :: l => by simp only [List.map_cons, beqVL, beqVL_u8 l, beqV, vEq, beq_self_eq_true, Bool.and_self]
theorem ascB_at : ∀ {l : List Rc} {i : Nat} (h : i + 1 < l.length), ascB l = true → (l[i]).t < (l[i + 1]).t
  | [], i, h, _ => by simp at h
  | [_], i, h, _ => by simp at h
  | a :: b :: r, 0, h, ha => by simp only [ascB, Bool.and_eq_true, decide_eq_true_eq] at ha; exact ha.1
  | a :: b :: r, i + 1, h, ha => by
    simp only [ascB, Bool.and_eq_true] at ha
    exact ascB_at (l := b :: r) (i := i) (by simpa using h) ha.2
theorem ascB_of : ∀ {l : List Rc}, (∀ i (h : i + 1 < l.length), (l[i]).t < (l[i + 1]).t) → ascB l = true
  | [], _ => rfl
  | [_], _ => rfl
  | a :: b :: r, h => by
    simp only [ascB, Bool.and_eq_true, decide_eq_true_eq]
    exact ⟨h 0 (by simp), ascB_of (l := b :: r) fun i hi => h (i + 1) (by simpa using hi)⟩
theorem recS_len (r : Rc) : ((recS r).length : Int) = sizeS r.t + sizeS r.v.length + r.v.length := by
  have a := numS_len r.t
  have b := numS_len r.v.length
  unfold recS
  rw [List.length_append, List.length_append]
  omega
theorem flatS_take_succ {l : List Rc} {i : Nat} (h : i < l.length) : flatS (l.take (i + 1)) = flatS (l.take i) ++ recS l[i] := by
  unfold flatS
  rw [List.take_succ_eq_append_getElem h, List.flatMap_append, List.flatMap_singleton]
theorem flatS_take_le (l : List Rc) (i : Nat) : (flatS (l.take i)).length ≤ (flatS l).length := by
  have : flatS l = flatS (l.take i) ++ flatS (l.drop i) := by
    unfold flatS
    rw [← List.flatMap_append, List.take_append_drop]
  rw [this, List.length_append]; omega
def IsEnc (v : AV) (p : List Int × Int) : Prop := (p.2 ≠ 0 ∧ v = .tup [.nil, i64 p.2]) ∨ (p.2 = 0 ∧ ((p.1 = [] ∧ v = .tup [.nil, i64 0]) ∨ ∃ o, (o = .fresh ∨ o = .none) ∧ v = .tup [.slice o none (p.1.map u8), i64 0]))
/-- what has been written -/
def Out (v : AV) (D : List Int) : Prop := (v = .nil ∧ D = []) ∨ ∃ o, o ≠ .full ∧ v = .slice o none (D.map u8)
theorem out_put {v : AV} {D : List Int} (h : Out v D) (x : Int) (hx : U64 x) (hn : D.length ≤ 140737488200000) (hp : Heap) : ag T 35 [v, u64 x] hp = some (.slice (.tok hp.length) none ((D ++ numS x).map u8), hp ++ [.row none (D ++ numS x).length]) := by
  rcases h with ⟨rfl, rfl⟩ | ⟨o, ho, rfl⟩
  · rw [call_put_nil x hx hp]; simp
  · exact call_put o D x hx hn hp
theorem gA {α : Type} (h : List α) (a b : α) : (h ++ [a] ++ [b])[h.length]? = some a := by simp
theorem gB1 {α : Type} (h : List α) (a b c : α) : (h ++ [a] ++ [b] ++ [c])[h.length]? = some a := by simp
theorem gB2 {α : Type} (h : List α) (a b c : α) : (h ++ [a] ++ [b] ++ [c])[h.length + 1]? = some b := by simp
theorem gB3 {α : Type} (h : List α) (a b c : α) : (h ++ [a] ++ [b] ++ [c])[h.length + 1 + 1]? = some c := by rw [List.getElem?_append_right (by simp)]; simp
theorem gC1 {α : Type} (h : List α) (a b c d : α) : (h ++ [a] ++ [b] ++ [c] ++ [d])[h.length]? = some a := by simp
theorem gC2 {α : Type} (h : List α) (a b c d : α) : (h ++ [a] ++ [b] ++ [c] ++ [d])[h.length + 1]? = some b := by simp
theorem sB3 {α : Type} (h : List α) (a b c d : α) : (h ++ [a] ++ [b] ++ [c]).set (h.length + 1 + 1) d = h ++ [a] ++ [b] ++ [d] := by
  rw [List.set_append_right _ _ (by simp)]
  simp
theorem flatS_take (l : List Rc) : flatS (l.take l.length) = flatS l := by rw [List.take_length]
theorem ascB_take_succ {l : List Rc} {i : Nat} (h : i + 1 < l.length) (ha : ascB (l.take (i + 1)) = true) (hlt : l[i].t < l[i + 1].t) : ascB (l.take (i + 2)) = true := by
  refine ascB_of fun j hj => ?_
  rw [List.length_take] at hj
  rw [List.getElem_take, List.getElem_take]
  by_cases hji : j = i
  · subst hji; exact hlt
  · have := ascB_at (l := l.take (i + 1)) (i := j) (by rw [List.length_take]; omega) ha
    rwa [List.getElem_take, List.getElem_take] at this
theorem asc_bad {l : List Rc} {i : Nat} (h : i + 1 < l.length) (hle : l[i + 1].t ≤ l[i].t) : ascB l = false := by
  cases hb : ascB l with
  | false => rfl
  | true => have := ascB_at h hb; omega
theorem encS_bad {l : List Rc} (h : ascB l = false) : encS l = ([], 11) := by unfold encS; rw [h]; rfl
theorem encS_long {l : List Rc} (h : ascB l = true) (hl : ¬ (l.length ≤ 64 ∧ (flatS l).length ≤ 65536)) : encS l = ([], 3) := by unfold encS; rw [if_pos h, if_neg hl]
theorem encS_ok {l : List Rc} (h : ascB l = true) (hl : l.length ≤ 64 ∧ (flatS l).length ≤ 65536) : encS l = (flatS l, 0) := by unfold encS; rw [if_pos h, if_pos hl]
theorem isEnc_bad {l : List Rc} (h : ascB l = false) : IsEnc (AV.tup [AV.nil, AV.int IntKind.i64 11]) (encS l) := by
  rw [encS_bad h]; exact .inl ⟨by decide, rfl⟩
theorem isEnc_long {l : List Rc} (h : ascB l = true) (hl : ¬ (l.length ≤ 64 ∧ (flatS l).length ≤ 65536)) : IsEnc (AV.tup [AV.nil, AV.int IntKind.i64 3]) (encS l) := by
  rw [encS_long h hl]; exact .inl ⟨by decide, rfl⟩
theorem isEnc_out {l : List Rc} {v w : AV} {h : Heap} (ha : ascB l = true) (hl : l.length ≤ 64 ∧ (flatS l).length ≤ 65536) (hv : Out v (flatS l)) (hw : freeze h (.tup [v, i64 0]) = some w) : IsEnc w (encS l) := by
  rw [encS_ok ha hl]
  have hc := u8_closed (flatS l)
  rcases hv with ⟨rfl, h0⟩ | ⟨o, ho, rfl⟩
  · cases hw; exact .inr ⟨rfl, .inl ⟨h0, rfl⟩⟩
  · refine .inr ⟨rfl, .inr ?_⟩
    cases o with
    | none =>
      simp only [freeze, freezeL, freeze1, closed, nam, Bool.true_and] at hw
      rw [show namL (fun _ => false) ((flatS l).map u8) = true from hc] at hw
      cases hw; exact ⟨_, .inr rfl, rfl⟩
    | full => exact absurd rfl ho
    | fresh =>
      simp only [freeze, freezeL, freeze1, hc, if_true, closed, nam, Option.bind_some, Option.map_some] at hw
      cases hw; exact ⟨_, .inr rfl, rfl⟩
    | tok i =>
      simp only [freeze, freezeL, freeze1, hc, if_true, closed, nam, Option.map_some] at hw
      split at hw
      · split at hw
        · split at hw
          · cases hw; exact ⟨_, .inl rfl, rfl⟩
          · cases hw; exact ⟨_, .inr rfl, rfl⟩
        · cases hw; exact ⟨_, .inr rfl, rfl⟩
      · cases hw; exact ⟨_, .inr rfl, rfl⟩
theorem out_freeze {l : List Rc} {v : AV} {h : Heap} (ha : ascB l = true) (hl : l.length ≤ 64 ∧ (flatS l).length ≤ 65536) (hv : Out v (flatS l)) : WP (fun v => IsEnc v (encS l)) (freeze h (.tup [v, i64 0])) := by
  have hc := u8_closed (flatS l)
  have : ∃ w, freeze h (.tup [v, i64 0]) = some w := by
    rcases hv with ⟨rfl, h0⟩ | ⟨o, ho, rfl⟩
    · exact ⟨_, rfl⟩
    · cases o with
      | none =>
        simp only [freeze, freezeL, freeze1, closed, nam, Bool.true_and]
        rw [show namL (fun _ => false) ((flatS l).map u8) = true from hc]
        exact ⟨_, rfl⟩
      | full =>
        simp only [freeze, freezeL, freeze1, closed, nam, Bool.true_and]
        rw [show namL (fun _ => false) ((flatS l).map u8) = true from hc]
        exact ⟨_, rfl⟩
      | fresh =>
        simp only [freeze, freezeL, freeze1, hc, if_true, closed, nam, Option.bind_some, Option.map_some]
        exact ⟨_, rfl⟩
      | tok i =>
        simp only [freeze, freezeL, freeze1, hc, if_true, closed, nam, Option.map_some]
        split
        · split
          · split <;> exact ⟨_, rfl⟩
          · exact ⟨_, rfl⟩
        · exact ⟨_, rfl⟩
  obtain ⟨w, hw⟩ := this
  rw [hw]
  exact isEnc_out ha hl hv hw
/-- what may stand for bytes -/
structure Tx (v : AV) (l : List Int) : Prop where
  len : lenOf v = some l.length
  els : ∀ h, elemsOf h none v = some (l.map u8)
  one : Go.Proofs.Ytejnficfhoekiaa.AM.one v = true
  strip : Go.Proofs.Ytejnficfhoekiaa.AM.strip v = v
  cl : closed v = true
  cells : cellsOf v = some [v]
  beq : beqV v v = true
  str : ∀ h, convS h v = some (.str (strOfNums l))
theorem tx_nil : Tx .nil [] := ⟨rfl, fun _ => rfl, rfl, rfl, rfl, rfl, rfl, fun _ => rfl⟩
theorem tx_slice (l : List Int) : Tx (.slice .none none (l.map u8)) l := ⟨by simp [lenOf], fun _ => by simp [elemsOf], rfl, rfl, by have := u8_closed l; simp only [closed, nam, Bool.true_and]; exact this, rfl, by simp [beqV, beqVL_u8], fun _ => by simp [convS, elemsOf, byteEls_u8]⟩
theorem tx_full (l : List Int) : Tx (.slice .full none (l.map u8)) l := ⟨by simp [lenOf], fun _ => by simp [elemsOf], rfl, rfl, by have := u8_closed l; simp only [closed, nam, Bool.true_and]; exact this, rfl, by simp [beqV, beqVL_u8], fun _ => by simp [convS, elemsOf, byteEls_u8]⟩
/-- what may stand for records -/
def RecsA (A : List AV) (l : List Rc) : Prop := A.length = l.length ∧ closedL A = true ∧ ∀ i (h : i < l.length), ∃ w, A[i]? = some (.agg [u64 l[i].t, w]) ∧ Tx w l[i].v
theorem recsA_rc (l : List Rc) : RecsA (l.map Rc.av) l := ⟨by simp, rc_closed l, fun i h => ⟨_, get_rc h, tx_slice _⟩⟩
theorem enc_small (A : List AV) (l : List Rc) (hA : RecsA A l) (hok : ∀ r ∈ l, Rc.ok r) (hB : (flatS l).length ≤ 1152921504606846976) (hn : l.length ≤ 140737488351232) : ∃ v, prun T F18 [.slice .none (some 2) A] = some v ∧ IsEnc v (encS l) := by
  suffices h : WP (fun v => IsEnc v (encS l)) (prun T F18 [.slice .none (some 2) A]) by
    obtain ⟨v, h1, h2⟩ := WP_ex h
    exact ⟨v, h1, h2⟩
  have hcl := hA.2.1
  have hAl := hA.1
  refine prun_wp ?_
  simp -implicitDefEqProofs (disch := omega) only [F18, hAl, wC, initE, aop, Nat.reduceEqDiff, ↓reduceIte, Nat.reduceAdd, finish, resOf, tupOf, AM.freeze, freeze1, freezeL, closed, nam, namL, if_true, if_false, deref, boxAt, exAt, ldCells, oneL, oneCell, Nat.reduceLeDiff, evL, adopt, rigid, rigidL, trim, Int.reduceEq, Int.reduceMod, Int.reduceDiv, if_pos, if_neg, asI, forall_const, implies_true, chkD, chkO, chkW, effB, reB, vEq, beq_self_eq_true, Nat.reduceSub, Nat.reduceLT, Int.reduceSub, Int.reduceAdd, Int.reduceMul, Int.reduceLT, Int.reduceLE, Int.reduceToNat, optI, aslice, cutSl, cutMs, cutStr, cutOwn, cellsOf, one, elCells, lenOf, beqV, beqVL, strip, stripO, convS]
  refine WP_loop (I := fun k e h => ∃ i : Nat, k + i = l.length ∧ getE e 0 = .slice .none (some 2) A ∧ getE e 4 = i64 (flatS (l.take i)).length ∧ getE e 10 = .slice .none (some 2) A ∧ getE e 11 = i64 l.length ∧ getE e 12 = i64 i ∧ ascB (l.take i) = true) ?_ l.length _ _ ⟨0, by omega, rfl, rfl, rfl, rfl, rfl, rfl⟩
  rintro k e h ⟨i, hk, h0, h4, h10, h11, h12, hasc⟩
  rw [trim_off]
  by_cases hlt : i < l.length
  · obtain ⟨w, hg, tx⟩ := hA.2.2 i hlt
    have txl := tx.len
    have txe := tx.els
    have txo := tx.one
    have hu := (hok l[i] (List.getElem_mem hlt)).1
    have hsz1 := sizeS_le l[i].t
    have hsz2 := sizeS_le l[i].v.length
    have hfl := flatS_take_succ hlt
    have hrl := recS_len l[i]
    have hle := flatS_take_le l (i + 1)
    have hfl2 : (flatS (l.take (i + 1))).length = (flatS (l.take i)).length + (recS l[i]).length := by rw [hfl, List.length_append]
    have hbv := tx.beq
    by_cases hi0 : i = 0
    · subst hi0
      have hz : flatS (l.take 0) = [] := rfl
      have hz' : (flatS ([] : List Rc)).length = 0 := rfl
      rw [hz] at hfl2
      simp only [List.length_nil] at hfl2
      first | have hb := hb | have hb := trivial
      repeat' (first | (simp -implicitDefEqProofs (disch := omega) only [hb, hAl, txo, L18_1, h0, h4, h10, h11, h12, hg, txl, txe, call_size, p34, hbv, Bool.and_self, hz', wC, wO, initE, aop, Nat.reduceEqDiff, ↓reduceIte, Nat.reduceAdd, finish, resOf, tupOf, AM.freeze, freeze1, freezeL, closed, nam, namL, if_true, if_false, deref, boxAt, exAt, ldCells, oneL, oneCell, Nat.reduceLeDiff, evL, adopt, rigid, rigidL, trim, Int.reduceEq, Int.reduceMod, Int.reduceDiv, if_pos, if_neg, asI, forall_const, implies_true, chkD, chkO, chkW, effB, reB, vEq, beq_self_eq_true, Nat.reduceSub, Nat.reduceLT, Int.reduceSub, Int.reduceAdd, Int.reduceMul, Int.reduceLT, Int.reduceLE, Int.reduceToNat, optI, aslice, cutSl, cutMs, cutStr, cutOwn]) | ((first | rw [WP_condK] | rw [WP_opsG] | rw [WP_quiG] | rw [WP_dG]); refine And.intro (fun hb => ?_) (fun hb => ?_) <;> (first | have hd := dq1 hb | have hd := dq2 hb | have hd := dq3 hb | have hd := dq4 hb | skip)))
      refine ⟨k - 1, by omega, 1, by omega, ?_, rfl, ?_⟩
      · rw [hfl2]
        simp only [Int.natCast_zero, Int.zero_add, Int.natCast_add, hrl]
      · cases l with
        | nil => rfl
        | cons a r => rfl
    · obtain ⟨w', hg', tx'⟩ := hA.2.2 (i - 1) (by omega)
      have hbv' := tx'.beq
      first | have hb := hb | have hb := trivial
      repeat' (first | (simp -implicitDefEqProofs (disch := omega) only [hb, hAl, txo, L18_1, h0, h4, h10, h11, h12, hg, hg', tx'.one, txl, txe, hbv', call_size, p34, hbv, Bool.and_self, wC, wO, initE, aop, Nat.reduceEqDiff, ↓reduceIte, Nat.reduceAdd, finish, resOf, tupOf, AM.freeze, freeze1, freezeL, closed, nam, namL, if_true, if_false, deref, boxAt, exAt, ldCells, oneL, oneCell, Nat.reduceLeDiff, evL, adopt, rigid, rigidL, trim, Int.reduceEq, Int.reduceMod, Int.reduceDiv, if_pos, if_neg, asI, forall_const, implies_true, chkD, chkO, chkW, effB, reB, vEq, beq_self_eq_true, Nat.reduceSub, Nat.reduceLT, Int.reduceSub, Int.reduceAdd, Int.reduceMul, Int.reduceLT, Int.reduceLE, Int.reduceToNat, optI, aslice, cutSl, cutMs, cutStr, cutOwn]) | ((first | rw [WP_condK] | rw [WP_opsG] | rw [WP_quiG] | rw [WP_dG]); refine And.intro (fun hb => ?_) (fun hb => ?_) <;> (first | have hd := dq1 hb | have hd := dq2 hb | have hd := dq3 hb | have hd := dq4 hb | skip)))
      · refine isEnc_bad (asc_bad (i := i - 1) (by omega) ?_)
        simp only [show i - 1 + 1 = i by omega]
        omega
      · refine ⟨k - 1, by omega, i + 1, by omega, ?_, rfl, ?_⟩
        · rw [hfl2]
          simp only [Int.natCast_add, hrl]
        · have := ascB_take_succ (l := l) (i := i - 1) (by omega) (by rw [show i - 1 + 1 = i by omega]; exact hasc) (by simp only [show i - 1 + 1 = i by omega]; omega)
          rwa [show i - 1 + 2 = i + 1 by omega] at this
  · have hi : i = l.length := by omega
    subst hi
    rw [List.take_length] at h4 hasc
    first | have hb := hb | have hb := trivial
    repeat' (first | (simp -implicitDefEqProofs (disch := omega) only [hb, hAl, L18_1, h0, h4, h10, h11, h12, wC, initE, aop, Nat.reduceEqDiff, ↓reduceIte, Nat.reduceAdd, finish, resOf, tupOf, AM.freeze, freeze1, freezeL, closed, nam, namL, if_true, if_false, deref, boxAt, exAt, ldCells, oneL, oneCell, Nat.reduceLeDiff, evL, adopt, rigid, rigidL, trim, Int.reduceEq, Int.reduceMod, Int.reduceDiv, if_pos, if_neg, asI, forall_const, implies_true, chkD, chkO, chkW, effB, reB, vEq, beq_self_eq_true, Nat.reduceSub, Nat.reduceLT, Int.reduceSub, Int.reduceAdd, Int.reduceMul, Int.reduceLT, Int.reduceLE, Int.reduceToNat, optI, aslice, cutSl, cutMs, cutStr, cutOwn, cellsOf, one, elCells, lenOf, beqV, beqVL, strip, stripO, convS]) | ((first | rw [WP_condK] | rw [WP_opsG] | rw [WP_quiG] | rw [WP_dG]); refine And.intro (fun hb => ?_) (fun hb => ?_) <;> (first | have hd := dq1 hb | have hd := dq2 hb | have hd := dq3 hb | have hd := dq4 hb | skip)))
    · exact isEnc_long hasc (by omega)
    · have hl : l.length ≤ 64 ∧ (flatS l).length ≤ 65536 := by omega
      refine WP_loop (I := fun k e h => ∃ i : Nat, k + i = l.length ∧ Out (getE e 7) (flatS (l.take i)) ∧ getE e 53 = .slice .none (some 2) A ∧ getE e 54 = i64 l.length ∧ getE e 55 = i64 i) ?_ l.length _ _ ⟨0, by omega, .inl ⟨rfl, rfl⟩, rfl, rfl, rfl⟩
      rintro k e h ⟨i, hk, h7, h53, h54, h55⟩
      rw [trim_off]
      by_cases hlt : i < l.length
      · obtain ⟨w, hg, tx⟩ := hA.2.2 i hlt
        have txl := tx.len
        have txe := tx.els
        have txo := tx.one
        have hu := (hok l[i] (List.getElem_mem hlt)).1
        have hfl := flatS_take_succ hlt
        have hrl := recS_len l[i]
        have hle := flatS_take_le l (i + 1)
        have hfl2 : (flatS (l.take (i + 1))).length = (flatS (l.take i)).length + (recS l[i]).length := by rw [hfl, List.length_append]
        have hbv := tx.beq
        have hsz1 := sizeS_le l[i].t
        have hsz2 := sizeS_le l[i].v.length
        have ln := numS_len l[i].t
        have ln2 := numS_len l[i].v.length
        have hp1 := out_put h7 l[i].t hu (by omega)
        have hu2 : U64 (l[i].v.length : Int) := by constructor <;> omega
        have hp2 := fun (o : AOwn) (h : Heap) => call_put o (flatS (l.take i) ++ numS l[i].t) l[i].v.length hu2 (by rw [List.length_append]; omega) h
        generalize hv7 : getE e 7 = v7 at *
        first | have hb := hb | have hb := trivial
        repeat' (first | (simp -implicitDefEqProofs (disch := omega) only [hb, hAl, txo, L18_0, h53, h54, h55, hg, txl, txe, hv7, hp1, hp2, p35, hbv, Bool.and_self, gA, gB1, gB2, gB3, gC1, gC2, sB3, u8_len, aappend, wC, wO, initE, aop, Nat.reduceEqDiff, ↓reduceIte, Nat.reduceAdd, finish, resOf, tupOf, AM.freeze, freeze1, freezeL, closed, nam, namL, if_true, if_false, deref, boxAt, exAt, ldCells, oneL, oneCell, Nat.reduceLeDiff, evL, adopt, rigid, rigidL, trim, Int.reduceEq, Int.reduceMod, Int.reduceDiv, if_pos, if_neg, asI, forall_const, implies_true, chkD, chkO, chkW, effB, reB, vEq, beq_self_eq_true, Nat.reduceSub, Nat.reduceLT, Int.reduceSub, Int.reduceAdd, Int.reduceMul, Int.reduceLT, Int.reduceLE, Int.reduceToNat, optI, aslice, cutSl, cutMs, cutStr, cutOwn]) | ((first | rw [WP_condK] | rw [WP_opsG] | rw [WP_quiG] | rw [WP_dG]); refine And.intro (fun hb => ?_) (fun hb => ?_) <;> (first | have hd := dq1 hb | have hd := dq2 hb | have hd := dq3 hb | have hd := dq4 hb | skip)))
        refine ⟨k - 1, by omega, i + 1, by omega, .inr ⟨.tok (List.length h + 1 + 1), by simp, ?_⟩, rfl⟩
        rw [hfl, recS, ← List.append_assoc, ← List.append_assoc, List.map_append (l₂ := l[i].v)]
      · have hi : i = l.length := by omega
        subst hi
        rw [List.take_length] at h7
        generalize hv7 : getE e 7 = v7 at *
        first | have hb := hb | have hb := trivial
        repeat' (first | (simp -implicitDefEqProofs (disch := omega) only [hb, hAl, L18_0, h53, h54, h55, hv7, wC, initE, aop, Nat.reduceEqDiff, ↓reduceIte, Nat.reduceAdd, finish, resOf, tupOf, freezeL, closed, nam, namL, if_true, if_false, deref, boxAt, exAt, ldCells, oneL, oneCell, Nat.reduceLeDiff, evL, adopt, rigid, rigidL, trim, Int.reduceEq, Int.reduceMod, Int.reduceDiv, if_pos, if_neg, asI, forall_const, implies_true, chkD, chkO, chkW, effB, reB, vEq, beq_self_eq_true, Nat.reduceSub, Nat.reduceLT, Int.reduceSub, Int.reduceAdd, Int.reduceMul, Int.reduceLT, Int.reduceLE, Int.reduceToNat, optI, aslice, cutSl, cutMs, cutStr, cutOwn, cellsOf, one, elCells, lenOf, beqV, beqVL, strip, stripO, convS]) | ((first | rw [WP_condK] | rw [WP_opsG] | rw [WP_quiG] | rw [WP_dG]); refine And.intro (fun hb => ?_) (fun hb => ?_) <;> (first | have hd := dq1 hb | have hd := dq2 hb | have hd := dq3 hb | have hd := dq4 hb | skip)))
        exact out_freeze hasc hl h7
    · exact isEnc_long hasc (by omega)
theorem enc_big (A : List AV) (l : List Rc) (hA : RecsA A l) (hok : ∀ r ∈ l, Rc.ok r) (hv : ∀ r ∈ l, r.v.length ≤ 140737488351232) (hn : l.length ≤ 140737488351232) (h64 : 64 < l.length) : ∃ v, prun T F18 [.slice .none (some 2) A] = some v ∧ IsEnc v (encS l) := by
  suffices h : WP (fun v => IsEnc v (encS l)) (prun T F18 [.slice .none (some 2) A]) by
    obtain ⟨v, h1, h2⟩ := WP_ex h
    exact ⟨v, h1, h2⟩
  have hcl := hA.2.1
  have hAl := hA.1
  refine prun_wp ?_
  simp -implicitDefEqProofs (disch := omega) only [F18, hAl, wC, initE, aop, Nat.reduceEqDiff, ↓reduceIte, Nat.reduceAdd, finish, resOf, tupOf, AM.freeze, freeze1, freezeL, closed, nam, namL, if_true, if_false, deref, boxAt, exAt, ldCells, oneL, oneCell, Nat.reduceLeDiff, evL, adopt, rigid, rigidL, trim, Int.reduceEq, Int.reduceMod, Int.reduceDiv, if_pos, if_neg, asI, forall_const, implies_true, chkD, chkO, chkW, effB, reB, vEq, beq_self_eq_true, Nat.reduceSub, Nat.reduceLT, Int.reduceSub, Int.reduceAdd, Int.reduceMul, Int.reduceLT, Int.reduceLE, Int.reduceToNat, optI, aslice, cutSl, cutMs, cutStr, cutOwn, cellsOf, one, elCells, lenOf, beqV, beqVL, strip, stripO, convS]
  refine WP_loop (I := fun k e h => ∃ (i : Nat) (x : Int), k + i = l.length ∧ getE e 0 = .slice .none (some 2) A ∧ getE e 4 = i64 x ∧ getE e 10 = .slice .none (some 2) A ∧ getE e 11 = i64 l.length ∧ getE e 12 = i64 i ∧ ascB (l.take i) = true) ?_ l.length _ _ ⟨0, _, by omega, rfl, rfl, rfl, rfl, rfl, rfl⟩
  rintro k e h ⟨i, x, hk, h0, h4, h10, h11, h12, hasc⟩
  rw [trim_off]
  by_cases hlt : i < l.length
  · obtain ⟨w, hg, tx⟩ := hA.2.2 i hlt
    have txl := tx.len
    have txe := tx.els
    have txo := tx.one
    have hu := (hok l[i] (List.getElem_mem hlt)).1
    have hsz1 := sizeS_le l[i].t
    have hsz2 := sizeS_le l[i].v.length
    have hfl := flatS_take_succ hlt
    have hrl := recS_len l[i]
    have hle := flatS_take_le l (i + 1)
    have hvl := hv l[i] (List.getElem_mem hlt)
    have hbv := tx.beq
    by_cases hi0 : i = 0
    · subst hi0
      first | have hb := hb | have hb := trivial
      repeat' (first | (simp -implicitDefEqProofs (disch := omega) only [hb, hAl, txo, L18_1, h0, h4, h10, h11, h12, hg, txl, txe, call_size, p34, hbv, Bool.and_self, wC, wO, initE, aop, Nat.reduceEqDiff, ↓reduceIte, Nat.reduceAdd, finish, resOf, tupOf, AM.freeze, freeze1, freezeL, closed, nam, namL, if_true, if_false, deref, boxAt, exAt, ldCells, oneL, oneCell, Nat.reduceLeDiff, evL, adopt, rigid, rigidL, trim, Int.reduceEq, Int.reduceMod, Int.reduceDiv, if_pos, if_neg, asI, forall_const, implies_true, chkD, chkO, chkW, effB, reB, vEq, beq_self_eq_true, Nat.reduceSub, Nat.reduceLT, Int.reduceSub, Int.reduceAdd, Int.reduceMul, Int.reduceLT, Int.reduceLE, Int.reduceToNat, optI, aslice, cutSl, cutMs, cutStr, cutOwn]) | ((first | rw [WP_condK] | rw [WP_opsG] | rw [WP_quiG] | rw [WP_dG]); refine And.intro (fun hb => ?_) (fun hb => ?_) <;> (first | have hd := dq1 hb | have hd := dq2 hb | have hd := dq3 hb | have hd := dq4 hb | skip)))
      refine ⟨k - 1, by omega, 1, _, by omega, rfl, rfl, ?_⟩
      cases l with
      | nil => rfl
      | cons a r => rfl
    · obtain ⟨w', hg', tx'⟩ := hA.2.2 (i - 1) (by omega)
      have hbv' := tx'.beq
      first | have hb := hb | have hb := trivial
      repeat' (first | (simp -implicitDefEqProofs (disch := omega) only [hb, hAl, txo, L18_1, h0, h4, h10, h11, h12, hg, hg', tx'.one, txl, txe, hbv', call_size, p34, hbv, Bool.and_self, wC, wO, initE, aop, Nat.reduceEqDiff, ↓reduceIte, Nat.reduceAdd, finish, resOf, tupOf, AM.freeze, freeze1, freezeL, closed, nam, namL, if_true, if_false, deref, boxAt, exAt, ldCells, oneL, oneCell, Nat.reduceLeDiff, evL, adopt, rigid, rigidL, trim, Int.reduceEq, Int.reduceMod, Int.reduceDiv, if_pos, if_neg, asI, forall_const, implies_true, chkD, chkO, chkW, effB, reB, vEq, beq_self_eq_true, Nat.reduceSub, Nat.reduceLT, Int.reduceSub, Int.reduceAdd, Int.reduceMul, Int.reduceLT, Int.reduceLE, Int.reduceToNat, optI, aslice, cutSl, cutMs, cutStr, cutOwn]) | ((first | rw [WP_condK] | rw [WP_opsG] | rw [WP_quiG] | rw [WP_dG]); refine And.intro (fun hb => ?_) (fun hb => ?_) <;> (first | have hd := dq1 hb | have hd := dq2 hb | have hd := dq3 hb | have hd := dq4 hb | skip)))
      · refine isEnc_bad (asc_bad (i := i - 1) (by omega) ?_)
        simp only [show i - 1 + 1 = i by omega]
        omega
      · refine ⟨k - 1, by omega, i + 1, _, by omega, rfl, rfl, ?_⟩
        · have := ascB_take_succ (l := l) (i := i - 1) (by omega) (by rw [show i - 1 + 1 = i by omega]; exact hasc) (by simp only [show i - 1 + 1 = i by omega]; omega)
          rwa [show i - 1 + 2 = i + 1 by omega] at this
  · have hi : i = l.length := by omega
    subst hi
    rw [List.take_length] at hasc
    first | have hb := hb | have hb := trivial
    repeat' (first | (simp -implicitDefEqProofs (disch := omega) only [hb, hAl, L18_1, h0, h4, h10, h11, h12, wC, initE, aop, Nat.reduceEqDiff, ↓reduceIte, Nat.reduceAdd, finish, resOf, tupOf, AM.freeze, freeze1, freezeL, closed, nam, namL, if_true, if_false, deref, boxAt, exAt, ldCells, oneL, oneCell, Nat.reduceLeDiff, evL, adopt, rigid, rigidL, trim, Int.reduceEq, Int.reduceMod, Int.reduceDiv, if_pos, if_neg, asI, forall_const, implies_true, chkD, chkO, chkW, effB, reB, vEq, beq_self_eq_true, Nat.reduceSub, Nat.reduceLT, Int.reduceSub, Int.reduceAdd, Int.reduceMul, Int.reduceLT, Int.reduceLE, Int.reduceToNat, optI, aslice, cutSl, cutMs, cutStr, cutOwn, cellsOf, one, elCells, lenOf, beqV, beqVL, strip, stripO, convS]) | ((first | rw [WP_condK] | rw [WP_opsG] | rw [WP_quiG] | rw [WP_dG]); refine And.intro (fun hb => ?_) (fun hb => ?_) <;> (first | have hd := dq1 hb | have hd := dq2 hb | have hd := dq3 hb | have hd := dq4 hb | skip)))
    exact isEnc_long hasc (by omega)
theorem flatS_bound {l : List Rc} (hv : ∀ r ∈ l, r.v.length ≤ 140737488351232) : (flatS l).length ≤ l.length * 140737488351250 := by
  induction l with
  | nil => simp [flatS]
  | cons r l ih =>
    have h1 := ih fun q hq => hv q (List.mem_cons_of_mem _ hq)
    have h2 := hv r List.mem_cons_self
    have h3 := recS_len r
    have h4 := sizeS_le r.t
    have h5 := sizeS_le r.v.length
    have h6 : flatS (r :: l) = recS r ++ flatS l := by unfold flatS; rw [List.flatMap_cons]
    rw [h6, List.length_append, List.length_cons, Nat.add_mul]
    omega
theorem enc_okA (A : List AV) (l : List Rc) (hA : RecsA A l) (hok : ∀ r ∈ l, Rc.ok r) (hv : ∀ r ∈ l, r.v.length ≤ 140737488351232) (hn : l.length ≤ 140737488351232) : ∃ v, prun T F18 [.slice .none (some 2) A] = some v ∧ IsEnc v (encS l) := by
  by_cases h64 : 64 < l.length
  · exact enc_big A l hA hok hv hn h64
  · have h1 := flatS_bound hv
    have h2 : l.length * 140737488351250 ≤ 64 * 140737488351250 := Nat.mul_le_mul_right _ (by omega)
    exact enc_small A l hA hok (by omega) hn
theorem enc_ok (l : List Rc) (hok : ∀ r ∈ l, Rc.ok r) (hv : ∀ r ∈ l, r.v.length ≤ 140737488351232) (hn : l.length ≤ 140737488351232) : ∃ v, prun T F18 [.slice .none (some 2) (l.map Rc.av)] = some v ∧ IsEnc v (encS l) :=
  enc_okA _ l (recsA_rc l) hok hv hn
end Go.Proofs.Ytejnficfhoekiaa.AM

/- the reference's Encode. -/
namespace Go.Proofs.Ytejnficfhoekiaa.AM
open Go
set_option maxRecDepth 100000
set_option linter.unusedSimpArgs false
set_option linter.unusedVariables false
theorem long_take {l : List Rc} {i : Nat} (h : 65536 < (flatS (l.take i)).length) : ¬ (l.length ≤ 64 ∧ (flatS l).length ≤ 65536) := by
  have := flatS_take_le l i
  omega
theorem set_appl {α : Type} {h t : List α} {n : Nat} {x : α} (hn : n < h.length) : (h ++ t).set n x = h.set n x ++ t := List.set_append_left _ _ hn
theorem gs1 {α : Type} {h a : List α} {t : Nat} {x : α} (ht : t < h.length) : (h.set t x ++ a)[t]? = some x := by
  rw [get_appl (by rw [List.length_set]; exact ht), List.getElem?_set_self ht]
theorem gs2 {α : Type} {h a b : List α} {t : Nat} {x : α} (ht : t < h.length) : (h.set t x ++ a ++ b)[t]? = some x := by
  rw [List.append_assoc, gs1 ht]
theorem ss1 {α : Type} {h a : List α} {t : Nat} {x y : α} (ht : t < h.length) : (h.set t x ++ a).set t y = h.set t y ++ a := by
  rw [set_appl (by rw [List.length_set]; exact ht), List.set_set]
theorem ss2 {α : Type} {h a b : List α} {t : Nat} {x y : α} (ht : t < h.length) : (h.set t x ++ a ++ b).set t y = h.set t y ++ a ++ b := by
  rw [List.append_assoc, ss1 ht, List.append_assoc]
theorem renc_okA (A : List AV) (l : List Rc) (hA : RecsA A l) (hok : ∀ r ∈ l, Rc.ok r) (hv : ∀ r ∈ l, r.v.length ≤ 140737488351232) (hn : l.length ≤ 140737488351232) : ∃ v, prun T F21 [.slice .none (some 2) A] = some v ∧ IsEnc v (encS l) := by
  suffices h : WP (fun v => IsEnc v (encS l)) (prun T F21 [.slice .none (some 2) A]) by
    obtain ⟨v, h1, h2⟩ := WP_ex h
    exact ⟨v, h1, h2⟩
  have hcl := hA.2.1
  have hAl := hA.1
  refine prun_wp ?_
  simp -implicitDefEqProofs (disch := omega) only [F21, hAl, wC, initE, aop, Nat.reduceEqDiff, ↓reduceIte, Nat.reduceAdd, finish, resOf, tupOf, AM.freeze, freeze1, freezeL, closed, nam, namL, if_true, if_false, deref, boxAt, exAt, ldCells, oneL, oneCell, Nat.reduceLeDiff, evL, adopt, rigid, rigidL, trim, Int.reduceEq, Int.reduceMod, Int.reduceDiv, if_pos, if_neg, asI, forall_const, implies_true, chkD, chkO, chkW, effB, reB, vEq, beq_self_eq_true, Nat.reduceSub, Nat.reduceLT, Int.reduceSub, Int.reduceAdd, Int.reduceMul, Int.reduceLT, Int.reduceLE, Int.reduceToNat, optI, aslice, cutSl, cutMs, cutStr, cutOwn, cellsOf, one, elCells, lenOf, beqV, beqVL, strip, stripO, convS]
  refine WP_loop (I := fun k e h => ∃ i : Nat, k + i = l.length + 1 ∧ (i ≤ l.length ∨ i = 1) ∧ 1 ≤ i ∧ getE e 0 = .slice .none (some 2) A ∧ getE e 4 = i64 i ∧ ascB (l.take i) = true) ?_ l.length _ _ ⟨1, by omega, .inr rfl, by omega, rfl, rfl, ?_⟩
  · rintro k e h ⟨i, hk, hi1, hi0, h0, h4, hasc⟩
    rw [trim_off]
    by_cases hlt : i < l.length
    · obtain ⟨w, hg, tx⟩ := hA.2.2 i hlt
      have txl := tx.len
      have txe := tx.els
      have txo := tx.one
      obtain ⟨w', hg', tx'⟩ := hA.2.2 (i - 1) (by omega)
      have hbv' := tx'.beq
      first | have hb := hb | have hb := trivial
      repeat' (first | (simp -implicitDefEqProofs (disch := omega) only [hb, hAl, L21_1, h0, h4, hg, hg', wC, initE, aop, Nat.reduceEqDiff, ↓reduceIte, Nat.reduceAdd, finish, resOf, tupOf, AM.freeze, freeze1, freezeL, closed, nam, namL, if_true, if_false, deref, boxAt, exAt, ldCells, oneL, oneCell, Nat.reduceLeDiff, evL, adopt, rigid, rigidL, trim, Int.reduceEq, Int.reduceMod, Int.reduceDiv, if_pos, if_neg, asI, forall_const, implies_true, chkD, chkO, chkW, effB, reB, vEq, beq_self_eq_true, Nat.reduceSub, Nat.reduceLT, Int.reduceSub, Int.reduceAdd, Int.reduceMul, Int.reduceLT, Int.reduceLE, Int.reduceToNat, optI, aslice, cutSl, cutMs, cutStr, cutOwn, cellsOf, one, elCells, lenOf, beqV, beqVL, strip, stripO, convS]) | ((first | rw [WP_condK] | rw [WP_opsG] | rw [WP_quiG] | rw [WP_dG]); refine And.intro (fun hb => ?_) (fun hb => ?_) <;> (first | have hd := dq1 hb | have hd := dq2 hb | have hd := dq3 hb | have hd := dq4 hb | skip)))
      · refine isEnc_bad (asc_bad (i := i - 1) (by omega) ?_)
        simp only [show i - 1 + 1 = i by omega]
        omega
      · refine ⟨k - 1, by omega, i + 1, by omega, by omega, by omega, rfl, ?_⟩
        have := ascB_take_succ (l := l) (i := i - 1) (by omega) (by rw [show i - 1 + 1 = i by omega]; exact hasc) (by simp only [show i - 1 + 1 = i by omega]; omega)
        rwa [show i - 1 + 2 = i + 1 by omega] at this
    · have ht : l.take i = l := List.take_of_length_le (by omega)
      rw [ht] at hasc
      first | have hb := hb | have hb := trivial
      repeat' (first | (simp -implicitDefEqProofs (disch := omega) only [hb, hAl, L21_1, h0, h4, wC, initE, aop, Nat.reduceEqDiff, ↓reduceIte, Nat.reduceAdd, finish, resOf, tupOf, AM.freeze, freeze1, freezeL, closed, nam, namL, if_true, if_false, deref, boxAt, exAt, ldCells, oneL, oneCell, Nat.reduceLeDiff, evL, adopt, rigid, rigidL, trim, Int.reduceEq, Int.reduceMod, Int.reduceDiv, if_pos, if_neg, asI, forall_const, implies_true, chkD, chkO, chkW, effB, reB, vEq, beq_self_eq_true, Nat.reduceSub, Nat.reduceLT, Int.reduceSub, Int.reduceAdd, Int.reduceMul, Int.reduceLT, Int.reduceLE, Int.reduceToNat, optI, aslice, cutSl, cutMs, cutStr, cutOwn, cellsOf, one, elCells, lenOf, beqV, beqVL, strip, stripO, convS]) | ((first | rw [WP_condK] | rw [WP_opsG] | rw [WP_quiG] | rw [WP_dG]); refine And.intro (fun hb => ?_) (fun hb => ?_) <;> (first | have hd := dq1 hb | have hd := dq2 hb | have hd := dq3 hb | have hd := dq4 hb | skip)))
      · exact isEnc_long hasc (by omega)
      · refine WP_loop (I := fun k e h => ∃ i : Nat, k + i = l.length ∧ (flatS (l.take i)).length ≤ 65536 ∧ getE e 0 = .slice .none (some 2) A ∧ (∃ t, getE e 5 = .slice (.tok t) none ((flatS (l.take i)).map u8) ∧ h[t]? = some (.row none (flatS (l.take i)).length)) ∧ getE e 6 = i64 i) ?_ l.length _ _ ⟨0, by omega, Nat.zero_le _, rfl, ⟨_, rfl, ?_⟩, rfl⟩
        · rintro k e h ⟨i, hk, hs, h0, ⟨t, h5, ht5⟩, h6⟩
          rw [trim_off]
          by_cases hlt : i < l.length
          · obtain ⟨w, hg, tx⟩ := hA.2.2 i hlt
            have txl := tx.len
            have txe := tx.els
            have txo := tx.one
            have hu := (hok l[i] (List.getElem_mem hlt)).1
            have hfl := flatS_take_succ hlt
            have hrl := recS_len l[i]
            have hvl := hv l[i] (List.getElem_mem hlt)
            have hfl2 : (flatS (l.take (i + 1))).length = (flatS (l.take i)).length + (recS l[i]).length := by rw [hfl, List.length_append]
            have hbv := tx.beq
            have hsz1 := sizeS_le l[i].t
            have hsz2 := sizeS_le l[i].v.length
            have ln := numS_len l[i].t
            have ln2 := numS_len l[i].v.length
            obtain ⟨o1, ho1, hp1⟩ := call_num l[i].t hu
            have hu2 : U64 (l[i].v.length : Int) := by constructor <;> omega
            obtain ⟨o2, ho2, hp2⟩ := call_num l[i].v.length hu2
            have htl : t < h.length := (List.getElem?_eq_some_iff.1 ht5).1
            have hR : (recS l[i]).length = (numS l[i].t).length + (numS l[i].v.length).length + l[i].v.length := by
              unfold recS; rw [List.length_append, List.length_append]
            rw [hR] at hfl2
            rcases ho1 with rfl | rfl <;> rcases ho2 with rfl | rfl
            all_goals
              simp -implicitDefEqProofs (disch := omega) only [hAl, txo, L21_0, h0, h5, h6, ht5, hg, txl, txe, hp1, hp2, hbv, Bool.and_self, u8_len, aappend, List.getElem?_set_self, List.set_set, get_appl, set_appl, gs1, gs2, ss1, ss2, wC, wO, initE, aop, Nat.reduceEqDiff, ↓reduceIte, Nat.reduceAdd, finish, resOf, tupOf, AM.freeze, freeze1, freezeL, closed, nam, namL, if_true, if_false, deref, boxAt, exAt, ldCells, oneL, oneCell, Nat.reduceLeDiff, evL, adopt, rigid, rigidL, trim, Int.reduceEq, Int.reduceMod, Int.reduceDiv, if_pos, if_neg, asI, forall_const, implies_true, chkD, chkO, chkW, effB, reB, vEq, beq_self_eq_true, Nat.reduceSub, Nat.reduceLT, Int.reduceSub, Int.reduceAdd, Int.reduceMul, Int.reduceLT, Int.reduceLE, Int.reduceToNat, optI, aslice, cutSl, cutMs, cutStr, cutOwn]
              repeat' ((first | rw [WP_condK] | rw [WP_opsG] | rw [WP_quiG] | rw [WP_dG]); refine And.intro (fun hb => ?_) (fun hb => ?_) <;> (first | have hd := dq1 hb | have hd := dq2 hb | have hd := dq3 hb | have hd := dq4 hb | skip) <;> (try simp -implicitDefEqProofs (disch := omega) only [hb, hAl, txo, h0, h5, h6, ht5, hg, txl, txe, hp1, hp2, hbv, Bool.and_self, u8_len, aappend, List.getElem?_set_self, List.set_set, get_appl, set_appl, gs1, gs2, ss1, ss2, wC, wO, initE, aop, Nat.reduceEqDiff, ↓reduceIte, Nat.reduceAdd, finish, resOf, tupOf, AM.freeze, freeze1, freezeL, closed, nam, namL, if_true, if_false, deref, boxAt, exAt, ldCells, oneL, oneCell, Nat.reduceLeDiff, evL, adopt, rigid, rigidL, trim, Int.reduceEq, Int.reduceMod, Int.reduceDiv, if_pos, if_neg, asI, forall_const, implies_true, chkD, chkO, chkW, effB, reB, vEq, beq_self_eq_true, Nat.reduceSub, Nat.reduceLT, Int.reduceSub, Int.reduceAdd, Int.reduceMul, Int.reduceLT, Int.reduceLE, Int.reduceToNat, optI, aslice, cutSl, cutMs, cutStr, cutOwn]))
              all_goals first
              | exact isEnc_long hasc (long_take (i := i + 1) (by rw [hfl2]; omega))
              | refine ⟨k - 1, by omega, i + 1, by omega, by rw [hfl2]; omega, ⟨t, ?_, ?_⟩, rfl⟩
                · rw [hfl, recS, List.map_append, List.map_append, List.map_append]
                  simp only [List.append_assoc]
                · rw [hfl2, ← Nat.add_assoc, ← Nat.add_assoc]
                  first
                  | rw [List.getElem?_set_self htl]
                  | rw [gs1 htl]
                  | rw [gs2 htl]
          · have hi : i = l.length := by omega
            subst hi
            rw [List.take_length] at h5 hs
            first | have hb := hb | have hb := trivial
            repeat' (first | (simp -implicitDefEqProofs (disch := omega) only [hb, hAl, L21_0, h0, h5, h6, wC, initE, aop, Nat.reduceEqDiff, ↓reduceIte, Nat.reduceAdd, finish, resOf, tupOf, freezeL, closed, nam, namL, if_true, if_false, deref, boxAt, exAt, ldCells, oneL, oneCell, Nat.reduceLeDiff, evL, adopt, rigid, rigidL, trim, Int.reduceEq, Int.reduceMod, Int.reduceDiv, if_pos, if_neg, asI, forall_const, implies_true, chkD, chkO, chkW, effB, reB, vEq, beq_self_eq_true, Nat.reduceSub, Nat.reduceLT, Int.reduceSub, Int.reduceAdd, Int.reduceMul, Int.reduceLT, Int.reduceLE, Int.reduceToNat, optI, aslice, cutSl, cutMs, cutStr, cutOwn, cellsOf, one, elCells, lenOf, beqV, beqVL, strip, stripO, convS]) | ((first | rw [WP_condK] | rw [WP_opsG] | rw [WP_quiG] | rw [WP_dG]); refine And.intro (fun hb => ?_) (fun hb => ?_) <;> (first | have hd := dq1 hb | have hd := dq2 hb | have hd := dq3 hb | have hd := dq4 hb | skip)))
            exact out_freeze hasc (by omega) (.inr ⟨.tok t, by simp, rfl⟩)
        · simp
          rfl
  · cases l with
    | nil => rfl
    | cons a r => rfl
theorem renc_ok (l : List Rc) (hok : ∀ r ∈ l, Rc.ok r) (hv : ∀ r ∈ l, r.v.length ≤ 140737488351232) (hn : l.length ≤ 140737488351232) : ∃ v, prun T F21 [.slice .none (some 2) (l.map Rc.av)] = some v ∧ IsEnc v (encS l) :=
  renc_okA _ l (recsA_rc l) hok hv hn
end Go.Proofs.Ytejnficfhoekiaa.AM

/- bigsize's streams: what is known, the same records. -/
namespace Go.Proofs.Ytejnficfhoekiaa.AM
open Go
set_option maxRecDepth 100000
set_option linter.unusedSimpArgs false
set_option linter.unusedVariables false
theorem get_map {α β : Type} {f : α → β} {l : List α} {i : Nat} (h : i < l.length) : (l.map f)[i]? = some (f l[i]) := by rw [List.getElem?_map, List.getElem?_eq_getElem h]; rfl
theorem eqs {a b : List Int} (ha : Bytes a) (hb : Bytes b) : abin .eql (.string (strOfNums a)) (.string (strOfNums b)) = some (.bool (decide (a = b))) := by
  by_cases h : a = b
  · subst h; simp [abin, astr]
  · have : ¬ (strOfNums a).toList = (strOfNums b).toList := fun hh => h (str_inj ha hb hh)
    simp [abin, astr, h, this]
theorem neqs {a b : List Int} (ha : Bytes a) (hb : Bytes b) : abin .neq (.string (strOfNums a)) (.string (strOfNums b)) = some (.bool (!decide (a = b))) := by
  by_cases h : a = b
  · subst h; simp [abin, astr]
  · have : ¬ (strOfNums a).toList = (strOfNums b).toList := fun hh => h (str_inj ha hb hh)
    simp [abin, astr, h, this]
theorem mem_take_succ {ks : List Int} {x : Int} {i : Nat} (h : i < ks.length) (hn : x ∉ ks.take i) (hx : ks[i] ≠ x) : x ∉ ks.take (i + 1) := by
  rw [List.take_succ_eq_append_getElem h]
  simp only [List.mem_append, List.mem_singleton, not_or]
  exact ⟨hn, fun hh => hx hh.symm⟩
theorem has_ok (ks : List Int) (x : Int) (hn : ks.length ≤ 140737488351232) : prun T F48 [.slice .none none (ks.map u64), u64 x] = some (.sc (.bool (decide (x ∈ ks)))) := by
  refine WP_eq (prun_wp ?_)
  simp -implicitDefEqProofs (disch := omega) only [F48, wC, initE, aop, Nat.reduceEqDiff, ↓reduceIte, Nat.reduceAdd, finish, resOf, tupOf, AM.freeze, freeze1, freezeL, closed, nam, namL, if_true, if_false, deref, boxAt, exAt, ldCells, oneL, oneCell, Nat.reduceLeDiff, evL, adopt, rigid, rigidL, trim, Int.reduceEq, Int.reduceMod, Int.reduceDiv, if_pos, if_neg, asI, forall_const, implies_true, chkD, chkO, chkW, effB, reB, vEq, beq_self_eq_true, Nat.reduceSub, Nat.reduceLT, Int.reduceSub, Int.reduceAdd, Int.reduceMul, Int.reduceLT, Int.reduceLE, Int.reduceToNat, optI, aslice, cutSl, cutMs, cutStr, cutOwn, cellsOf, one, elCells, lenOf, beqV, beqVL, strip, stripO, convS]
  refine WP_loop (I := fun k e h => ∃ i : Nat, k + i = ks.length ∧ h = [] ∧ getE e 0 = .slice .none none (ks.map u64) ∧ getE e 1 = u64 x ∧ getE e 5 = i64 i ∧ x ∉ ks.take i) ?_ ks.length _ _ ⟨0, by omega, rfl, rfl, rfl, rfl, by simp⟩
  rintro k e h ⟨i, hk, rfl, h0, h1, h5, hm⟩
  rw [trim_same' (by simp)]
  by_cases hlt : i < ks.length
  · have hg := get_map (f := u64) hlt
    first | have hb := hb | have hb := trivial
    repeat' (first | (simp -implicitDefEqProofs (disch := omega) only [hb, L48_0, h0, h1, h5, hg, wC, initE, aop, Nat.reduceEqDiff, ↓reduceIte, Nat.reduceAdd, finish, resOf, tupOf, AM.freeze, freeze1, freezeL, closed, nam, namL, if_true, if_false, deref, boxAt, exAt, ldCells, oneL, oneCell, Nat.reduceLeDiff, evL, adopt, rigid, rigidL, trim, Int.reduceEq, Int.reduceMod, Int.reduceDiv, if_pos, if_neg, asI, forall_const, implies_true, chkD, chkO, chkW, effB, reB, vEq, beq_self_eq_true, Nat.reduceSub, Nat.reduceLT, Int.reduceSub, Int.reduceAdd, Int.reduceMul, Int.reduceLT, Int.reduceLE, Int.reduceToNat, optI, aslice, cutSl, cutMs, cutStr, cutOwn, cellsOf, one, elCells, lenOf, beqV, beqVL, strip, stripO, convS]) | ((first | rw [WP_condK] | rw [WP_opsG] | rw [WP_quiG] | rw [WP_dG]); refine And.intro (fun hb => ?_) (fun hb => ?_) <;> (first | have hd := dq1 hb | have hd := dq2 hb | have hd := dq3 hb | have hd := dq4 hb | skip)))
    · have : x ∈ ks := by rw [← hd]; exact List.getElem_mem _
      simp [this]
    · exact ⟨k - 1, by omega, i + 1, by omega, rfl, mem_take_succ hlt hm hd⟩
  · have hi : i = ks.length := by omega
    subst hi
    rw [List.take_length] at hm
    first | have hb := hb | have hb := trivial
    repeat' (first | (simp -implicitDefEqProofs (disch := omega) only [hb, L48_0, h0, h1, h5, wC, initE, aop, Nat.reduceEqDiff, ↓reduceIte, Nat.reduceAdd, finish, resOf, tupOf, AM.freeze, freeze1, freezeL, closed, nam, namL, if_true, if_false, deref, boxAt, exAt, ldCells, oneL, oneCell, Nat.reduceLeDiff, evL, adopt, rigid, rigidL, trim, Int.reduceEq, Int.reduceMod, Int.reduceDiv, if_pos, if_neg, asI, forall_const, implies_true, chkD, chkO, chkW, effB, reB, vEq, beq_self_eq_true, Nat.reduceSub, Nat.reduceLT, Int.reduceSub, Int.reduceAdd, Int.reduceMul, Int.reduceLT, Int.reduceLE, Int.reduceToNat, optI, aslice, cutSl, cutMs, cutStr, cutOwn, cellsOf, one, elCells, lenOf, beqV, beqVL, strip, stripO, convS]) | ((first | rw [WP_condK] | rw [WP_opsG] | rw [WP_quiG] | rw [WP_dG]); refine And.intro (fun hb => ?_) (fun hb => ?_) <;> (first | have hd := dq1 hb | have hd := dq2 hb | have hd := dq3 hb | have hd := dq4 hb | skip)))
    try simp [hm]
end Go.Proofs.Ytejnficfhoekiaa.AM

/- bigsize's streams: the reference's Decode. -/
namespace Go.Proofs.Ytejnficfhoekiaa.AM
open Go
set_option maxRecDepth 100000
set_option maxHeartbeats 4000000
set_option linter.unusedSimpArgs false
set_option linter.unusedVariables false
/-- the last of the records' types stands below -/
def topB (acc : List Rc) (x : Int) : Bool := match acc.getLast? with | none => true | some r => decide (r.t < x)
def decL (ks : List Int) : Nat → List Rc → List Int → List Rc × Int
  | _, acc, [] => (acc, 0)
  | 0, _, _ :: _ => ([], 3)
  | f + 1, acc, b :: s =>
    if (readS (b :: s)).2.2 ≠ 0 then ([], (readS (b :: s)).2.2)
    else if topB acc (readS (b :: s)).1 = false then ([], 11)
    else if (readS ((b :: s).drop (readS (b :: s)).2.1.toNat)).2.2 ≠ 0 then ([], (readS ((b :: s).drop (readS (b :: s)).2.1.toNat)).2.2)
    else if (((b :: s).drop (readS (b :: s)).2.1.toNat).drop (readS ((b :: s).drop (readS (b :: s)).2.1.toNat)).2.1.toNat).length < (readS ((b :: s).drop (readS (b :: s)).2.1.toNat)).1 then ([], 10)
    else if (readS (b :: s)).1 % 2 = 0 ∧ (readS (b :: s)).1 ∉ ks then ([], 12)
    else decL ks f (acc ++ [⟨(readS (b :: s)).1, (((b :: s).drop (readS (b :: s)).2.1.toNat).drop (readS ((b :: s).drop (readS (b :: s)).2.1.toNat)).2.1.toNat).take (readS ((b :: s).drop (readS (b :: s)).2.1.toNat)).1.toNat⟩])
      ((((b :: s).drop (readS (b :: s)).2.1.toNat).drop (readS ((b :: s).drop (readS (b :: s)).2.1.toNat)).2.1.toNat).drop (readS ((b :: s).drop (readS (b :: s)).2.1.toNat)).1.toNat)
def decS (ks : List Int) (b : List Int) : List Rc × Int := if 65536 < b.length then ([], 3) else decL ks 64 [] b
def IsDec (v : AV) (p : List Rc × Int) : Prop := (p.2 ≠ 0 ∧ p.1 = [] ∧ v = .tup [.nil, i64 p.2]) ∨ (p.2 = 0 ∧ ∃ o, (o = .fresh ∨ o = .none) ∧ v = .tup [.slice o (some 2) (p.1.map Rc.av), i64 0])
theorem decL_step (ks : List Int) (f : Nat) (acc : List Rc) (s : List Int) (hs : s ≠ []) (x n e y m g : Int) (s1 s2 : List Int) (h1 : readS s = (x, n, e)) (h2 : s.drop n.toNat = s1) (h3 : readS s1 = (y, m, g)) (h4 : s1.drop m.toNat = s2) : decL ks (f + 1) acc s = (if e ≠ 0 then ([], e) else if topB acc x = false then ([], 11) else if g ≠ 0 then ([], g) else if (s2.length : Int) < y then ([], 10) else if x % 2 = 0 ∧ x ∉ ks then ([], 12) else decL ks f (acc ++ [⟨x, s2.take y.toNat⟩]) (s2.drop y.toNat)) := by
  cases s with
  | nil => exact absurd rfl hs
  | cons b s => simp only [decL, h1, h2, h3, h4]
theorem decL_nil (ks : List Int) (f : Nat) (acc : List Rc) : decL ks f acc [] = (acc, 0) := by cases f <;> rfl
theorem decL_full (ks : List Int) (acc : List Rc) (s : List Int) (hs : s ≠ []) : decL ks 0 acc s = ([], 3) := by
  cases s with
  | nil => exact absurd rfl hs
  | cons b s => rfl
theorem u64_closed (l : List Int) : closedL (l.map u64) = true := by
  induction l with
  | nil => rfl
  | cons x l ih => simpa only [List.map_cons, closedL, namL, nam, Bool.true_and] using ih
theorem call_rread (s : List Int) (hs : Bytes s) (hn : s.length ≤ 65536) (h : Heap) : ag T 47 [.slice .none none (s.map u8)] h = some (rdT s, h) :=
  call_tup rfl t47 rfl rfl rfl (by have := u8_closed s; simp only [closedL, namL, nam, Bool.and_true, Bool.true_and] at this ⊢; exact this) (rread_ok s hs (by omega))
theorem call_has (ks : List Int) (x : Int) (hn : ks.length ≤ 140737488351232) (h : Heap) : ag T 48 [.slice .none none (ks.map u64), u64 x] h = some (.sc (.bool (decide (x ∈ ks))), h) :=
  call_sc rfl t48 rfl rfl rfl (by have := u64_closed ks; simp only [closedL, namL, nam, Bool.and_true, Bool.true_and] at this ⊢; exact this) (has_ok ks x hn)
theorem top_at {acc : List Rc} {x : Int} (h : 0 < acc.length) : topB acc x = decide ((acc[acc.length - 1]).t < x) := by
  unfold topB
  rw [List.getLast?_eq_getElem?, List.getElem?_eq_getElem (by omega)]
theorem dec_freeze {l : List Rc} {t : Nat} {h : Heap} {p : List Rc × Int} (hp : p = (l, 0)) : WP (fun v => IsDec v p) (freeze h (.tup [.slice (.tok t) (some 2) (l.map Rc.av), i64 0])) := by
  subst hp
  have hc := rc_closed l
  simp only [freeze, freezeL, freeze1, hc, if_true, closed, nam, Option.map_some]
  split
  · split
    · split
      · exact .inr ⟨rfl, _, .inl rfl, rfl⟩
      · exact .inr ⟨rfl, _, .inr rfl, rfl⟩
    · exact .inr ⟨rfl, _, .inr rfl, rfl⟩
  · exact .inr ⟨rfl, _, .inr rfl, rfl⟩
theorem isDec_bad {p : List Rc × Int} {e : Int} (he : e ≠ 0) (h : p = ([], e)) : IsDec (.tup [.nil, i64 e]) p := by subst h; exact .inl ⟨he, rfl, rfl⟩
theorem rdec_okK (K : AV) (b ks : List Int) (hK : ∀ x h, ag T 48 [K, u64 x] h = some (.sc (.bool (decide (x ∈ ks))), h)) (hby : Bytes b) (hB : b.length ≤ 140737488351232) : ∃ v, prun T F30 [.slice .none none (b.map u8), K] = some v ∧ IsDec v (decS ks b) := by
  suffices h : WP (fun v => IsDec v (decS ks b)) (prun T F30 [.slice .none none (b.map u8), K]) by
    obtain ⟨v, h1, h2⟩ := WP_ex h
    exact ⟨v, h1, h2⟩
  refine prun_wp ?_
  first | have hb := hb | have hb := trivial
  repeat' (first | (simp -implicitDefEqProofs (disch := omega) only [hb, F30, wC, initE, aop, Nat.reduceEqDiff, ↓reduceIte, Nat.reduceAdd, finish, resOf, tupOf, AM.freeze, freeze1, freezeL, closed, nam, namL, if_true, if_false, deref, boxAt, exAt, ldCells, oneL, oneCell, Nat.reduceLeDiff, evL, adopt, rigid, rigidL, trim, Int.reduceEq, Int.reduceMod, Int.reduceDiv, if_pos, if_neg, asI, forall_const, implies_true, chkD, chkO, chkW, effB, reB, vEq, beq_self_eq_true, Nat.reduceSub, Nat.reduceLT, Int.reduceSub, Int.reduceAdd, Int.reduceMul, Int.reduceLT, Int.reduceLE, Int.reduceToNat, optI, aslice, cutSl, cutMs, cutStr, cutOwn, cellsOf, one, elCells, lenOf, beqV, beqVL, strip, stripO, convS]) | ((first | rw [WP_condK] | rw [WP_opsG] | rw [WP_quiG] | rw [WP_dG]); refine And.intro (fun hb => ?_) (fun hb => ?_) <;> (first | have hd := dq1 hb | have hd := dq2 hb | have hd := dq3 hb | have hd := dq4 hb | skip)))
  · exact isDec_bad (by decide) (by unfold decS; rw [if_pos (by omega)])
  · refine WP_loop (I := fun k e h => ∃ (s : List Int) (acc : List Rc) (t : Nat), k = s.length ∧ s.length ≤ 65536 ∧ Bytes s ∧ acc.length ≤ 64 ∧ getE e 0 = .slice .none none (s.map u8) ∧ getE e 1 = K ∧ getE e 6 = .slice (.tok t) (some 2) (acc.map Rc.av) ∧ h[t]? = some (.row (some 2) acc.length) ∧ decL ks (64 - acc.length) acc s = decS ks b) ?_ b.length _ _ ⟨b, [], _, rfl, by omega, hby, by simp, rfl, rfl, rfl, rfl, ?_⟩
    · rintro k e h ⟨s, acc, t, hk, hsl, hs, hal, h0, h1, h6, ht, hdec⟩
      rw [trim_off]
      have htl : t < h.length := (List.getElem?_eq_some_iff.1 ht).1
      obtain ⟨x, n, e1, hr1⟩ : ∃ x n e1, readS s = (x, n, e1) := ⟨_, _, _, rfl⟩
      have hf1 := readS_fine s hs
      have hc1 := call_rread s hs hsl
      simp only [rdT, hr1] at hf1 hc1
      by_cases hs0 : s = []
      · subst hs0
        rw [decL_nil] at hdec
        first | have hb := hb | have hb := trivial
        repeat' (first | (simp -implicitDefEqProofs (disch := omega) only [hb, L30_0, h0, h1, h6, wC, initE, aop, Nat.reduceEqDiff, ↓reduceIte, Nat.reduceAdd, finish, resOf, tupOf, freezeL, closed, nam, namL, if_true, if_false, deref, boxAt, exAt, ldCells, oneL, oneCell, Nat.reduceLeDiff, evL, adopt, rigid, rigidL, trim, Int.reduceEq, Int.reduceMod, Int.reduceDiv, if_pos, if_neg, asI, forall_const, implies_true, chkD, chkO, chkW, effB, reB, vEq, beq_self_eq_true, Nat.reduceSub, Nat.reduceLT, Int.reduceSub, Int.reduceAdd, Int.reduceMul, Int.reduceLT, Int.reduceLE, Int.reduceToNat, optI, aslice, cutSl, cutMs, cutStr, cutOwn, cellsOf, one, elCells, lenOf, beqV, beqVL, strip, stripO, convS]) | ((first | rw [WP_condK] | rw [WP_opsG] | rw [WP_quiG] | rw [WP_dG]); refine And.intro (fun hb => ?_) (fun hb => ?_) <;> (first | have hd := dq1 hb | have hd := dq2 hb | have hd := dq3 hb | have hd := dq4 hb | skip)))
        exact dec_freeze hdec.symm
      · have hsp : 0 < s.length := List.length_pos_iff.2 hs0
        obtain ⟨s1, hs1⟩ : ∃ s1, s.drop n.toNat = s1 := ⟨_, rfl⟩
        have hsb1 : Bytes s1 := hs1 ▸ drop_bytes hs _
        have hl1 : s1.length = s.length - n.toNat := by rw [← hs1, List.length_drop]
        obtain ⟨y, m, e2, hr2⟩ : ∃ x n e1, readS s1 = (x, n, e1) := ⟨_, _, _, rfl⟩
        have hf2 := readS_fine s1 hsb1
        have hc2 := call_rread s1 hsb1 (by omega)
        simp only [rdT, hr2] at hf2 hc2
        obtain ⟨s2, hs2⟩ : ∃ s2, s1.drop m.toNat = s2 := ⟨_, rfl⟩
        have hsb2 : Bytes s2 := hs2 ▸ drop_bytes hsb1 _
        have hl2 : s2.length = s1.length - m.toNat := by rw [← hs2, List.length_drop]
        have htm : x.tmod 2 = x % 2 := Int.tmod_eq_emod_of_nonneg hf1.1.1
        have hh := fun h => hK x h
        by_cases hfull : acc.length = 64
        · rw [hfull, decL_full ks acc s hs0] at hdec
          first | have hb := hb | have hb := trivial
          repeat' (first | (simp -implicitDefEqProofs (disch := omega) only [hb, L30_0, h0, h1, h6, wC, initE, aop, Nat.reduceEqDiff, ↓reduceIte, Nat.reduceAdd, finish, resOf, tupOf, AM.freeze, freeze1, freezeL, closed, nam, namL, if_true, if_false, deref, boxAt, exAt, ldCells, oneL, oneCell, Nat.reduceLeDiff, evL, adopt, rigid, rigidL, trim, Int.reduceEq, Int.reduceMod, Int.reduceDiv, if_pos, if_neg, asI, forall_const, implies_true, chkD, chkO, chkW, effB, reB, vEq, beq_self_eq_true, Nat.reduceSub, Nat.reduceLT, Int.reduceSub, Int.reduceAdd, Int.reduceMul, Int.reduceLT, Int.reduceLE, Int.reduceToNat, optI, aslice, cutSl, cutMs, cutStr, cutOwn, cellsOf, one, elCells, lenOf, beqV, beqVL, strip, stripO, convS]) | ((first | rw [WP_condK] | rw [WP_opsG] | rw [WP_quiG] | rw [WP_dG]); refine And.intro (fun hb => ?_) (fun hb => ?_) <;> (first | have hd := dq1 hb | have hd := dq2 hb | have hd := dq3 hb | have hd := dq4 hb | skip)))
          exact isDec_bad (by decide) hdec.symm
        · rw [show 64 - acc.length = (64 - (acc.length + 1)) + 1 by omega, decL_step ks _ acc s hs0 x n e1 y m e2 s1 s2 hr1 hs1 hr2 hs2] at hdec
          have hfit : fitsB (List.take y.toNat s2).length 1 = true := fits1 (by rw [List.length_take]; omega)
          by_cases ha0 : acc.length = 0
          · have hTn : (0 : Nat) < 1 → ¬ topB acc x = false := fun _ => by rw [List.length_eq_zero_iff.1 ha0]; simp [topB]
            have hlast : True := trivial
            have hT0 := ha0
            first | have hb := hb | have hb := trivial
            repeat' (first | (simp -implicitDefEqProofs (disch := omega) only [hb, L30_0, h0, h1, h6, ht, hc1, hc2, hh, u8_drop, u8_take, hs1, hs2, p48, u8_len, elemsOf, aappend, setEls, elFits, stripEl, List.replicate_zero, List.replicate_succ, htm, hfit, get_appl, set_appl, hlast, hT0, wC, initE, aop, Nat.reduceEqDiff, ↓reduceIte, Nat.reduceAdd, finish, resOf, tupOf, AM.freeze, freeze1, freezeL, closed, nam, namL, if_true, if_false, deref, boxAt, exAt, ldCells, oneL, oneCell, Nat.reduceLeDiff, evL, adopt, rigid, rigidL, trim, Int.reduceEq, Int.reduceMod, Int.reduceDiv, if_pos, if_neg, asI, forall_const, implies_true, chkD, chkO, chkW, effB, reB, vEq, beq_self_eq_true, Nat.reduceSub, Nat.reduceLT, Int.reduceSub, Int.reduceAdd, Int.reduceMul, Int.reduceLT, Int.reduceLE, Int.reduceToNat, optI, aslice, cutSl, cutMs, cutStr, cutOwn, cellsOf, one, elCells, lenOf, beqV, beqVL, strip, stripO, convS]) | ((first | rw [WP_condK] | rw [WP_opsG] | rw [WP_quiG] | rw [WP_dG]); refine And.intro (fun hb => ?_) (fun hb => ?_) <;> (first | have hd := dq1 hb | have hd := dq2 hb | have hd := dq3 hb | have hd := dq4 hb | skip)))
            all_goals first
            | (rw [if_pos (by omega)] at hdec; exact isDec_bad (by omega) hdec.symm)
            | (rw [if_neg (by omega), if_neg (hTn (by omega)), if_pos (by omega)] at hdec; exact isDec_bad (by omega) hdec.symm)
            | (rw [if_neg (by omega), if_neg (hTn (by omega)), if_neg (by omega), if_pos (by omega)] at hdec; exact isDec_bad (by omega) hdec.symm)
            | (rw [if_neg (by omega), if_neg (hTn (by omega)), if_neg (by omega), if_neg (by omega), if_pos ⟨by omega, by assumption⟩] at hdec; exact isDec_bad (by omega) hdec.symm)
            | (refine ⟨(s2.drop y.toNat).length, by rw [List.length_drop]; omega, s2.drop y.toNat, acc ++ [⟨x, s2.take y.toNat⟩], t, rfl, by rw [List.length_drop]; omega, drop_bytes hsb2 _, by rw [List.length_append, List.length_singleton]; omega, rfl, by rw [List.map_append]; rfl, ?_, ?_⟩
               · rw [gs1 htl, List.length_append, List.length_singleton]
                 try rw [ha0]
               · rw [List.length_append, List.length_singleton]
                 first
                 | (rw [if_neg (by omega), if_neg (hTn (by omega)), if_neg (by omega), if_neg (by omega), if_neg (fun hh => by have := hh.1; omega)] at hdec; exact hdec)
                 | (rw [if_neg (by omega), if_neg (hTn (by omega)), if_neg (by omega), if_neg (by omega), if_neg (fun hh => hh.2 (by assumption))] at hdec; exact hdec))
          · have hT := top_at (acc := acc) (x := x) (by omega)
            have hTn : (acc[acc.length - 1]).t < x → ¬ topB acc x = false := fun hh => by rw [hT, decide_eq_true hh]; decide
            have hlast := get_rc (l := acc) (i := acc.length - 1) (by omega)
            have hT0 : True := trivial
            first | have hb := hb | have hb := trivial
            repeat' (first | (simp -implicitDefEqProofs (disch := omega) only [hb, L30_0, h0, h1, h6, ht, hc1, hc2, hh, u8_drop, u8_take, hs1, hs2, p48, u8_len, elemsOf, aappend, setEls, elFits, stripEl, List.replicate_zero, List.replicate_succ, htm, hfit, get_appl, set_appl, hlast, hT0, wC, initE, aop, Nat.reduceEqDiff, ↓reduceIte, Nat.reduceAdd, finish, resOf, tupOf, AM.freeze, freeze1, freezeL, closed, nam, namL, if_true, if_false, deref, boxAt, exAt, ldCells, oneL, oneCell, Nat.reduceLeDiff, evL, adopt, rigid, rigidL, trim, Int.reduceEq, Int.reduceMod, Int.reduceDiv, if_pos, if_neg, asI, forall_const, implies_true, chkD, chkO, chkW, effB, reB, vEq, beq_self_eq_true, Nat.reduceSub, Nat.reduceLT, Int.reduceSub, Int.reduceAdd, Int.reduceMul, Int.reduceLT, Int.reduceLE, Int.reduceToNat, optI, aslice, cutSl, cutMs, cutStr, cutOwn, cellsOf, one, elCells, lenOf, beqV, beqVL, strip, stripO, convS]) | ((first | rw [WP_condK] | rw [WP_opsG] | rw [WP_quiG] | rw [WP_dG]); refine And.intro (fun hb => ?_) (fun hb => ?_) <;> (first | have hd := dq1 hb | have hd := dq2 hb | have hd := dq3 hb | have hd := dq4 hb | skip)))
            all_goals first
            | (rw [if_pos (by omega)] at hdec; exact isDec_bad (by omega) hdec.symm)
            | (rw [if_neg (by omega), if_pos (by rw [hT]; exact decide_eq_false (by omega))] at hdec; exact isDec_bad (by omega) hdec.symm)
            | (rw [if_neg (by omega), if_neg (hTn (by omega)), if_pos (by omega)] at hdec; exact isDec_bad (by omega) hdec.symm)
            | (rw [if_neg (by omega), if_neg (hTn (by omega)), if_neg (by omega), if_pos (by omega)] at hdec; exact isDec_bad (by omega) hdec.symm)
            | (rw [if_neg (by omega), if_neg (hTn (by omega)), if_neg (by omega), if_neg (by omega), if_pos ⟨by omega, by assumption⟩] at hdec; exact isDec_bad (by omega) hdec.symm)
            | (refine ⟨(s2.drop y.toNat).length, by rw [List.length_drop]; omega, s2.drop y.toNat, acc ++ [⟨x, s2.take y.toNat⟩], t, rfl, by rw [List.length_drop]; omega, drop_bytes hsb2 _, by rw [List.length_append, List.length_singleton]; omega, rfl, by rw [List.map_append]; rfl, ?_, ?_⟩
               · rw [gs1 htl, List.length_append, List.length_singleton]
                 try rw [ha0]
               · rw [List.length_append, List.length_singleton]
                 first
                 | (rw [if_neg (by omega), if_neg (hTn (by omega)), if_neg (by omega), if_neg (by omega), if_neg (fun hh => by have := hh.1; omega)] at hdec; exact hdec)
                 | (rw [if_neg (by omega), if_neg (hTn (by omega)), if_neg (by omega), if_neg (by omega), if_neg (fun hh => hh.2 (by assumption))] at hdec; exact hdec))
    · unfold decS; rw [if_neg (by omega)]; rfl
theorem rdec_ok (b ks : List Int) (hby : Bytes b) (hB : b.length ≤ 140737488351232) (hn : ks.length ≤ 140737488351232) : ∃ v, prun T F30 [.slice .none none (b.map u8), .slice .none none (ks.map u64)] = some v ∧ IsDec v (decS ks b) :=
  rdec_okK _ b ks (fun x h => call_has ks x hn h) hby hB
theorem has_nil (x : Int) (h : Heap) : ag T 48 [.nil, u64 x] h = some (.sc (.bool (decide (x ∈ ([] : List Int)))), h) := by
  refine call_sc rfl t48 rfl rfl rfl rfl (WP_eq (prun_wp ?_))
  simp -implicitDefEqProofs (disch := omega) only [F48, wC, wO, initE, aop, Nat.reduceEqDiff, ↓reduceIte, Nat.reduceAdd, finish, resOf, tupOf, AM.freeze, freeze1, freezeL, closed, nam, namL, if_true, if_false, deref, boxAt, exAt, ldCells, oneL, oneCell, Nat.reduceLeDiff, evL, adopt, rigid, rigidL, trim, Int.reduceEq, Int.reduceMod, Int.reduceDiv, if_pos, if_neg, asI, forall_const, implies_true, chkD, chkO, chkW, effB, reB, vEq, beq_self_eq_true, Nat.reduceSub, Nat.reduceLT, Int.reduceSub, Int.reduceAdd, Int.reduceMul, Int.reduceLT, Int.reduceLE, Int.reduceToNat, optI, aslice, cutSl, cutMs, cutStr, cutOwn]
  refine WP_loop (I := fun k e h => h = [] ∧ getE e 0 = .nil ∧ getE e 5 = i64 0) ?_ 0 _ _ ⟨rfl, rfl, rfl⟩
  rintro k e h ⟨rfl, h0, h5⟩
  rw [trim_same' (by simp)]
  first | have hb := hb | have hb := trivial
  repeat' (first | (simp -implicitDefEqProofs (disch := omega) only [hb, L48_0, h0, h5, wC, wO, initE, aop, Nat.reduceEqDiff, ↓reduceIte, Nat.reduceAdd, finish, resOf, tupOf, AM.freeze, freeze1, freezeL, closed, nam, namL, if_true, if_false, deref, boxAt, exAt, ldCells, oneL, oneCell, Nat.reduceLeDiff, evL, adopt, rigid, rigidL, trim, Int.reduceEq, Int.reduceMod, Int.reduceDiv, if_pos, if_neg, asI, forall_const, implies_true, chkD, chkO, chkW, effB, reB, vEq, beq_self_eq_true, Nat.reduceSub, Nat.reduceLT, Int.reduceSub, Int.reduceAdd, Int.reduceMul, Int.reduceLT, Int.reduceLE, Int.reduceToNat, optI, aslice, cutSl, cutMs, cutStr, cutOwn]) | ((first | rw [WP_condK] | rw [WP_opsG] | rw [WP_quiG] | rw [WP_dG]); refine And.intro (fun hb => ?_) (fun hb => ?_) <;> (first | have hd := dq1 hb | have hd := dq2 hb | have hd := dq3 hb | have hd := dq4 hb | skip)))
  simp
theorem rdec_okN (b : List Int) (hby : Bytes b) (hB : b.length ≤ 140737488351232) : ∃ v, prun T F30 [.slice .none none (b.map u8), .nil] = some v ∧ IsDec v (decS [] b) :=
  rdec_okK _ b [] has_nil hby hB
end Go.Proofs.Ytejnficfhoekiaa.AM

/- bigsize's streams: Contains; Decode. -/
namespace Go.Proofs.Ytejnficfhoekiaa.AM
open Go
set_option maxRecDepth 100000
set_option maxHeartbeats 4000000
set_option linter.unusedSimpArgs false
set_option linter.unusedVariables false
theorem WP_roll {T : Tab} {keep : List Nat} {gc : Bool} {b : AC} {m : Nat} {Q : Res → Prop} {e : Env} {h : Heap} (hs : WP (fun p => WP (LQ (fun _ e h => WP Q (axl T keep gc b m e h)) Q 1) (ax T b p.1 p.2)) (trim keep gc m e h)) : WP Q (axl T keep gc b m e h) := by
  rw [axl_eq]
  obtain ⟨p, h1, h2⟩ := WP_ex hs
  rw [h1, Option.bind_some]
  obtain ⟨⟨x, e', h'⟩, h3, h4⟩ := WP_ex h2
  rw [h3, Option.bind_some]
  cases x with
  | normal =>
    rw [nextR_normal]
    obtain ⟨n', hn, hi'⟩ := h4
    exact hi'
  | exit i => exact h4
  | ret => exact h4
theorem index_ok (ks : List Int) (x : Int) (hn : ks.length ≤ 140737488351232) : ∃ j : Int, prun T F56 [.slice .none none (ks.map u64), u64 x] = some (i64 j) ∧ (0 ≤ j ↔ x ∈ ks) := by
  suffices h : WP (fun v => ∃ j : Int, v = i64 j ∧ (0 ≤ j ↔ x ∈ ks)) (prun T F56 [.slice .none none (ks.map u64), u64 x]) by
    obtain ⟨v, h1, j, rfl, h3⟩ := WP_ex h
    exact ⟨j, h1, h3⟩
  refine prun_wp ?_
  simp -implicitDefEqProofs (disch := omega) only [F56, wC, initE, aop, Nat.reduceEqDiff, ↓reduceIte, Nat.reduceAdd, finish, resOf, tupOf, AM.freeze, freeze1, freezeL, closed, nam, namL, if_true, if_false, deref, boxAt, exAt, ldCells, oneL, oneCell, Nat.reduceLeDiff, evL, adopt, rigid, rigidL, trim, Int.reduceEq, Int.reduceMod, Int.reduceDiv, if_pos, if_neg, asI, forall_const, implies_true, chkD, chkO, chkW, effB, reB, vEq, beq_self_eq_true, Nat.reduceSub, Nat.reduceLT, Int.reduceSub, Int.reduceAdd, Int.reduceMul, Int.reduceLT, Int.reduceLE, Int.reduceToNat, optI, aslice, cutSl, cutMs, cutStr, cutOwn, cellsOf, one, elCells, lenOf, beqV, beqVL, strip, stripO, convS]
  refine WP_loop (I := fun k e h => ∃ i : Nat, k + i = ks.length ∧ h = [] ∧ getE e 0 = .slice .none none (ks.map u64) ∧ getE e 1 = u64 x ∧ getE e 7 = i64 ks.length ∧ getE e 8 = i64 i ∧ x ∉ ks.take i) ?_ ks.length _ _ ⟨0, by omega, rfl, rfl, rfl, rfl, rfl, by simp⟩
  rintro k e h ⟨i, hk, rfl, h0, h1, h7, h8, hm⟩
  rw [trim_same' (by simp)]
  by_cases hlt : i < ks.length
  · have hg := get_map (f := u64) hlt
    first | have hb := hb | have hb := trivial
    repeat' (first | (simp -implicitDefEqProofs (disch := omega) only [hb, L56_0, h0, h1, h7, h8, hg, wC, initE, aop, Nat.reduceEqDiff, ↓reduceIte, Nat.reduceAdd, finish, resOf, tupOf, AM.freeze, freeze1, freezeL, closed, nam, namL, if_true, if_false, deref, boxAt, exAt, ldCells, oneL, oneCell, Nat.reduceLeDiff, evL, adopt, rigid, rigidL, trim, Int.reduceEq, Int.reduceMod, Int.reduceDiv, if_pos, if_neg, asI, forall_const, implies_true, chkD, chkO, chkW, effB, reB, vEq, beq_self_eq_true, Nat.reduceSub, Nat.reduceLT, Int.reduceSub, Int.reduceAdd, Int.reduceMul, Int.reduceLT, Int.reduceLE, Int.reduceToNat, optI, aslice, cutSl, cutMs, cutStr, cutOwn, cellsOf, one, elCells, lenOf, beqV, beqVL, strip, stripO, convS]) | ((first | rw [WP_condK] | rw [WP_opsG] | rw [WP_quiG] | rw [WP_dG]); refine And.intro (fun hb => ?_) (fun hb => ?_) <;> (first | have hd := dq1 hb | have hd := dq2 hb | have hd := dq3 hb | have hd := dq4 hb | skip)))
    · exact ⟨i, rfl, by constructor; (· intro _; rw [hd]; exact List.getElem_mem _); (· intro _; omega)⟩
    · exact ⟨k - 1, by omega, i + 1, by omega, rfl, mem_take_succ hlt hm fun hh => hd hh.symm⟩
  · have hi : i = ks.length := by omega
    subst hi
    rw [List.take_length] at hm
    first | have hb := hb | have hb := trivial
    repeat' (first | (simp -implicitDefEqProofs (disch := omega) only [hb, L56_0, h0, h1, h7, h8, wC, initE, aop, Nat.reduceEqDiff, ↓reduceIte, Nat.reduceAdd, finish, resOf, tupOf, AM.freeze, freeze1, freezeL, closed, nam, namL, if_true, if_false, deref, boxAt, exAt, ldCells, oneL, oneCell, Nat.reduceLeDiff, evL, adopt, rigid, rigidL, trim, Int.reduceEq, Int.reduceMod, Int.reduceDiv, if_pos, if_neg, asI, forall_const, implies_true, chkD, chkO, chkW, effB, reB, vEq, beq_self_eq_true, Nat.reduceSub, Nat.reduceLT, Int.reduceSub, Int.reduceAdd, Int.reduceMul, Int.reduceLT, Int.reduceLE, Int.reduceToNat, optI, aslice, cutSl, cutMs, cutStr, cutOwn, cellsOf, one, elCells, lenOf, beqV, beqVL, strip, stripO, convS]) | ((first | rw [WP_condK] | rw [WP_opsG] | rw [WP_quiG] | rw [WP_dG]); refine And.intro (fun hb => ?_) (fun hb => ?_) <;> (first | have hd := dq1 hb | have hd := dq2 hb | have hd := dq3 hb | have hd := dq4 hb | skip)))
    exact ⟨-1, rfl, by constructor; (· intro hh; omega); (· intro hh; exact absurd hh hm)⟩
theorem contains_ok (ks : List Int) (x : Int) (hn : ks.length ≤ 140737488351232) : prun T F41 [.slice .none none (ks.map u64), u64 x] = some (.sc (.bool (decide (x ∈ ks)))) := by
  obtain ⟨j, hj, hj2⟩ := index_ok ks x hn
  have hc : ∀ h, ag T 56 [.slice .none none (ks.map u64), u64 x] h = some (i64 j, h) := fun h => call_sc rfl t56 rfl rfl rfl (by have := u64_closed ks; simp only [closedL, namL, nam, Bool.and_true, Bool.true_and] at this ⊢; exact this) hj
  refine WP_eq (prun_wp ?_)
  first | have hb := hb | have hb := trivial
  repeat' (first | (simp -implicitDefEqProofs (disch := omega) only [hb, F41, hc, wC, initE, aop, Nat.reduceEqDiff, ↓reduceIte, Nat.reduceAdd, finish, resOf, tupOf, AM.freeze, freeze1, freezeL, closed, nam, namL, if_true, if_false, deref, boxAt, exAt, ldCells, oneL, oneCell, Nat.reduceLeDiff, evL, adopt, rigid, rigidL, trim, Int.reduceEq, Int.reduceMod, Int.reduceDiv, if_pos, if_neg, asI, forall_const, implies_true, chkD, chkO, chkW, effB, reB, vEq, beq_self_eq_true, Nat.reduceSub, Nat.reduceLT, Int.reduceSub, Int.reduceAdd, Int.reduceMul, Int.reduceLT, Int.reduceLE, Int.reduceToNat, optI, aslice, cutSl, cutMs, cutStr, cutOwn, cellsOf, one, elCells, lenOf, beqV, beqVL, strip, stripO, convS]) | ((first | rw [WP_condK] | rw [WP_opsG] | rw [WP_quiG] | rw [WP_dG]); refine And.intro (fun hb => ?_) (fun hb => ?_) <;> (first | have hd := dq1 hb | have hd := dq2 hb | have hd := dq3 hb | have hd := dq4 hb | skip)))
  all_goals simp [hj2]
theorem call_read (s : List Int) (hs : Bytes s) (hn : s.length ≤ 65536) (h : Heap) : ag T 40 [.slice .none none (s.map u8)] h = some (rdT s, h) :=
  call_tup rfl t40 rfl rfl rfl (by have := u8_closed s; simp only [closedL, namL, nam, Bool.and_true, Bool.true_and] at this ⊢; exact this) (read_ok s hs (by omega))
theorem call_contains (ks : List Int) (x : Int) (hn : ks.length ≤ 140737488351232) (h : Heap) : ag T 41 [.slice .none none (ks.map u64), u64 x] h = some (.sc (.bool (decide (x ∈ ks))), h) :=
  call_sc rfl t41 rfl rfl rfl (by have := u64_closed ks; simp only [closedL, namL, nam, Bool.and_true, Bool.true_and] at this ⊢; exact this) (contains_ok ks x hn)
theorem contains_nil (x : Int) (h : Heap) : ag T 41 [.nil, u64 x] h = some (.sc (.bool (decide (x ∈ ([] : List Int)))), h) := by
  have k1 : ∀ h, ag T 56 [.nil, u64 x] h = some (i64 (-1), h) := fun h => call_sc rfl t56 rfl rfl rfl rfl (WP_eq (prun_wp (by
    simp -implicitDefEqProofs (disch := omega) only [F56, wC, wO, initE, aop, Nat.reduceEqDiff, ↓reduceIte, Nat.reduceAdd, finish, resOf, tupOf, AM.freeze, freeze1, freezeL, closed, nam, namL, if_true, if_false, deref, boxAt, exAt, ldCells, oneL, oneCell, Nat.reduceLeDiff, evL, adopt, rigid, rigidL, trim, Int.reduceEq, Int.reduceMod, Int.reduceDiv, if_pos, if_neg, asI, forall_const, implies_true, chkD, chkO, chkW, effB, reB, vEq, beq_self_eq_true, Nat.reduceSub, Nat.reduceLT, Int.reduceSub, Int.reduceAdd, Int.reduceMul, Int.reduceLT, Int.reduceLE, Int.reduceToNat, optI, aslice, cutSl, cutMs, cutStr, cutOwn]
    refine WP_loop (I := fun k e h => getE e 7 = i64 0 ∧ getE e 8 = i64 0 ∧ h = []) ?_ 0 _ _ ⟨rfl, rfl, rfl⟩
    rintro n e h ⟨h7, h8, rfl⟩
    rw [trim_same' (by simp)]
    first | have hb := hb | have hb := trivial
    repeat' (first | (simp -implicitDefEqProofs (disch := omega) only [hb, L56_0, h7, h8, wC, wO, initE, aop, Nat.reduceEqDiff, ↓reduceIte, Nat.reduceAdd, finish, resOf, tupOf, AM.freeze, freeze1, freezeL, closed, nam, namL, if_true, if_false, deref, boxAt, exAt, ldCells, oneL, oneCell, Nat.reduceLeDiff, evL, adopt, rigid, rigidL, trim, Int.reduceEq, Int.reduceMod, Int.reduceDiv, if_pos, if_neg, asI, forall_const, implies_true, chkD, chkO, chkW, effB, reB, vEq, beq_self_eq_true, Nat.reduceSub, Nat.reduceLT, Int.reduceSub, Int.reduceAdd, Int.reduceMul, Int.reduceLT, Int.reduceLE, Int.reduceToNat, optI, aslice, cutSl, cutMs, cutStr, cutOwn]) | ((first | rw [WP_condK] | rw [WP_opsG] | rw [WP_quiG] | rw [WP_dG]); refine And.intro (fun hb => ?_) (fun hb => ?_) <;> (first | have hd := dq1 hb | have hd := dq2 hb | have hd := dq3 hb | have hd := dq4 hb | skip))))))
  refine call_sc rfl t41 rfl rfl rfl rfl (WP_eq (prun_wp ?_))
  first | have hb := hb | have hb := trivial
  repeat' (first | (simp -implicitDefEqProofs (disch := omega) only [hb, F41, k1, wC, wO, initE, aop, Nat.reduceEqDiff, ↓reduceIte, Nat.reduceAdd, finish, resOf, tupOf, AM.freeze, freeze1, freezeL, closed, nam, namL, if_true, if_false, deref, boxAt, exAt, ldCells, oneL, oneCell, Nat.reduceLeDiff, evL, adopt, rigid, rigidL, trim, Int.reduceEq, Int.reduceMod, Int.reduceDiv, if_pos, if_neg, asI, forall_const, implies_true, chkD, chkO, chkW, effB, reB, vEq, beq_self_eq_true, Nat.reduceSub, Nat.reduceLT, Int.reduceSub, Int.reduceAdd, Int.reduceMul, Int.reduceLT, Int.reduceLE, Int.reduceToNat, optI, aslice, cutSl, cutMs, cutStr, cutOwn]) | ((first | rw [WP_condK] | rw [WP_opsG] | rw [WP_quiG] | rw [WP_dG]); refine And.intro (fun hb => ?_) (fun hb => ?_) <;> (first | have hd := dq1 hb | have hd := dq2 hb | have hd := dq3 hb | have hd := dq4 hb | skip)))
  simp
end Go.Proofs.Ytejnficfhoekiaa.AM

/- bigsize's streams: Decode. -/
namespace Go.Proofs.Ytejnficfhoekiaa.AM
open Go
set_option maxRecDepth 100000
set_option maxHeartbeats 4000000
set_option linter.unusedSimpArgs false
set_option linter.unusedVariables false
theorem head3_ok (m0 : Nat) (Q : Res → Prop) (e : Env) (h : Heap) (h25 : getE e 25 = i64 2)
    (hq2 : ∀ e', getE e' 0 = getE e 0 → getE e' 1 = getE e 1 → getE e' 6 = getE e 6 → getE e' 7 = getE e 7 → getE e' 8 = getE e 8 → getE e' 9 = getE e 9 → Q (.exit 2, e', h)) :
    WP Q (axl T [0, 1, 6, 7, 8, 9, 25] false L27_0 m0 e h) := by
  refine WP_roll ?_
  rw [trim_off]
  first | have hb := hb | have hb := trivial
  repeat' (first | (simp -implicitDefEqProofs (disch := omega) only [hb, L27_0, h25, wC, initE, aop, Nat.reduceEqDiff, ↓reduceIte, Nat.reduceAdd, finish, resOf, tupOf, AM.freeze, freeze1, freezeL, closed, nam, namL, if_true, if_false, deref, boxAt, exAt, ldCells, oneL, oneCell, Nat.reduceLeDiff, evL, adopt, rigid, rigidL, trim, Int.reduceEq, Int.reduceMod, Int.reduceDiv, if_pos, if_neg, asI, forall_const, implies_true, chkD, chkO, chkW, effB, reB, vEq, beq_self_eq_true, Nat.reduceSub, Nat.reduceLT, Int.reduceSub, Int.reduceAdd, Int.reduceMul, Int.reduceLT, Int.reduceLE, Int.reduceToNat, optI, aslice, cutSl, cutMs, cutStr, cutOwn, cellsOf, one, elCells, lenOf, beqV, beqVL, strip, stripO, convS]) | ((first | rw [WP_condK] | rw [WP_opsG] | rw [WP_quiG] | rw [WP_dG]); refine And.intro (fun hb => ?_) (fun hb => ?_) <;> (first | have hd := dq1 hb | have hd := dq2 hb | have hd := dq3 hb | have hd := dq4 hb | skip)))
  exact hq2 _ rfl rfl rfl rfl rfl rfl
/-- the second number ahead of a record -/
theorem head2_ok (b : List Int) (accv : AV) (a1 mm : Nat) (x y e2 : Int) (kn : AV) (id m0 : Nat) (keep : List Nat) (hk : keep = [0, 1, 6, 7, 8, 9, 25])
    (hl1 : a1 ≤ b.length) (hB : b.length ≤ 65536) (hn2 : e2 = 0 → a1 + mm ≤ b.length)
    (hc2 : ∀ h, ag T 40 [.slice .none none ((b.drop a1).map u8)] h = some (.tup [u64 y, i64 mm, i64 e2], h))
    (Q : Res → Prop) (e : Env) (h : Heap) (hcell : h[id]? = some (.cells [u64 x, u64 0]))
    (h0 : getE e 0 = .slice .none none (b.map u8)) (h1 : getE e 1 = kn) (h6 : getE e 6 = accv) (h7 : getE e 7 = i64 0) (h8 : getE e 8 = i64 a1) (h9 : getE e 9 = .ptr id 0) (h25 : getE e 25 = i64 1)
    (hq1 : ∀ e' h', getE e' 7 = i64 e2 → e2 ≠ 0 → Q (.exit 0, e', h'))
    (hq2 : ∀ e', e2 = 0 → getE e' 0 = .slice .none none (b.map u8) → getE e' 1 = kn → getE e' 6 = accv → getE e' 7 = i64 0 → getE e' 8 = i64 ((a1 + mm : Nat) : Int) → getE e' 9 = .ptr id 0 → Q (.exit 2, e', h.set id (.cells [u64 x, u64 y]))) :
    WP Q (axl T keep false L27_0 m0 e h) := by
  subst hk
  have hA1 : ((a1 : Int) + (mm : Int)) = ((a1 + mm : Nat) : Int) := (Int.natCast_add a1 mm).symm
  have hidl : id < h.length := (List.getElem?_eq_some_iff.1 hcell).1
  refine WP_roll ?_
  rw [trim_off]
  first | have hb := hb | have hb := trivial
  repeat' (first | (simp -implicitDefEqProofs (disch := omega) only [hb, L27_0, h0, h1, h6, h7, h8, h9, h25, hc2, u8_drop, hA1, hcell, wC, initE, aop, Nat.reduceEqDiff, ↓reduceIte, Nat.reduceAdd, finish, resOf, tupOf, AM.freeze, freeze1, freezeL, closed, nam, namL, if_true, if_false, deref, boxAt, exAt, ldCells, oneL, oneCell, Nat.reduceLeDiff, evL, adopt, rigid, rigidL, trim, Int.reduceEq, Int.reduceMod, Int.reduceDiv, if_pos, if_neg, asI, forall_const, implies_true, chkD, chkO, chkW, effB, reB, vEq, beq_self_eq_true, Nat.reduceSub, Nat.reduceLT, Int.reduceSub, Int.reduceAdd, Int.reduceMul, Int.reduceLT, Int.reduceLE, Int.reduceToNat, optI, aslice, cutSl, cutMs, cutStr, cutOwn, cellsOf, one, elCells, lenOf, beqV, beqVL, strip, stripO, convS]) | ((first | rw [WP_condK] | rw [WP_opsG] | rw [WP_quiG] | rw [WP_dG]); refine And.intro (fun hb => ?_) (fun hb => ?_) <;> (first | have hd := dq1 hb | have hd := dq2 hb | have hd := dq3 hb | have hd := dq4 hb | skip)))
  · exact hq1 _ _ rfl hd
  · refine ⟨0, by omega, ?_⟩
    exact head3_ok m0 Q _ _ rfl fun e' g0 g1 g6 g7 g8 g9 => hq2 e' hd g0 g1 g6 g7 g8 g9
/-- the two numbers ahead of a record -/
theorem head_ok (b : List Int) (acc : List Rc) (a nn mm : Nat) (x y e1 e2 : Int) (kn : AV) (t id m0 : Nat) (keep : List Nat) (hk : keep = [0, 1, 6, 7, 8, 9, 25])
    (hl1 : a ≤ b.length) (hB : b.length ≤ 65536) (hn1 : e1 = 0 → a + nn ≤ b.length) (hn2 : e1 = 0 → e2 = 0 → a + nn + mm ≤ b.length) (hal : acc.length ≤ 64)
    (hc1 : ∀ h, ag T 40 [.slice .none none ((b.drop a).map u8)] h = some (.tup [u64 x, i64 nn, i64 e1], h))
    (hc2 : e1 = 0 → ∀ h, ag T 40 [.slice .none none ((b.drop (a + nn)).map u8)] h = some (.tup [u64 y, i64 mm, i64 e2], h))
    (Q : Res → Prop) (e : Env) (h : Heap) (hcell : h[id]? = some (.cells [u64 0, u64 0]))
    (h0 : getE e 0 = .slice .none none (b.map u8)) (h1 : getE e 1 = kn) (h6 : getE e 6 = .slice (.tok t) (some 2) (acc.map Rc.av)) (h7 : getE e 7 = i64 0) (h8 : getE e 8 = i64 a) (h9 : getE e 9 = .ptr id 0) (h25 : getE e 25 = i64 0)
    (hq1 : ∀ e' h' f, getE e' 7 = i64 f → (e1 ≠ 0 ∧ f = e1 ∨ e1 = 0 ∧ topB acc x = false ∧ f = 11 ∨ e1 = 0 ∧ topB acc x = true ∧ e2 ≠ 0 ∧ f = e2) → Q (.exit 0, e', h'))
    (hq2 : ∀ e', e1 = 0 → topB acc x = true → e2 = 0 → getE e' 0 = .slice .none none (b.map u8) → getE e' 1 = kn → getE e' 6 = .slice (.tok t) (some 2) (acc.map Rc.av) → getE e' 7 = i64 0 → getE e' 8 = i64 ((a + nn + mm : Nat) : Int) → getE e' 9 = .ptr id 0 → Q (.exit 2, e', h.set id (.cells [u64 x, u64 y]))) :
    WP Q (axl T keep false L27_0 m0 e h) := by
  subst hk
  have hA1 : ((a : Int) + (nn : Int)) = ((a + nn : Nat) : Int) := (Int.natCast_add a nn).symm
  have hA2 : (((a + nn : Nat) : Int) + (mm : Int)) = ((a + nn + mm : Nat) : Int) := (Int.natCast_add _ _).symm
  have hidl : id < h.length := (List.getElem?_eq_some_iff.1 hcell).1
  refine WP_roll ?_
  rw [trim_off]
  have htop : topB acc x = true ∨ (topB acc x = false) := by cases topB acc x <;> simp
  by_cases ha0 : acc.length = 0
  · have hT : topB acc x = true := by rw [List.length_eq_zero_iff.1 ha0]; rfl
    first | have hb := hb | have hb := trivial
    repeat' (first | (simp -implicitDefEqProofs (disch := omega) only [hb, L27_0, h0, h1, h6, h7, h8, h9, h25, ha0, hc1, u8_drop, hA1, hcell, wC, initE, aop, Nat.reduceEqDiff, ↓reduceIte, Nat.reduceAdd, finish, resOf, tupOf, AM.freeze, freeze1, freezeL, closed, nam, namL, if_true, if_false, deref, boxAt, exAt, ldCells, oneL, oneCell, Nat.reduceLeDiff, evL, adopt, rigid, rigidL, trim, Int.reduceEq, Int.reduceMod, Int.reduceDiv, if_pos, if_neg, asI, forall_const, implies_true, chkD, chkO, chkW, effB, reB, vEq, beq_self_eq_true, Nat.reduceSub, Nat.reduceLT, Int.reduceSub, Int.reduceAdd, Int.reduceMul, Int.reduceLT, Int.reduceLE, Int.reduceToNat, optI, aslice, cutSl, cutMs, cutStr, cutOwn, cellsOf, one, elCells, lenOf, beqV, beqVL, strip, stripO, convS]) | ((first | rw [WP_condK] | rw [WP_opsG] | rw [WP_quiG] | rw [WP_dG]); refine And.intro (fun hb => ?_) (fun hb => ?_) <;> (first | have hd := dq1 hb | have hd := dq2 hb | have hd := dq3 hb | have hd := dq4 hb | skip)))
    · exact hq1 _ _ _ rfl (.inl ⟨hd, rfl⟩)
    · refine ⟨0, by omega, ?_⟩
      refine head2_ok b (.slice (.tok t) (some 2) (acc.map Rc.av)) (a + nn) mm x y e2 kn id m0 _ rfl (hn1 hd) hB (hn2 hd) (hc2 hd) Q _ _ (List.getElem?_set_self hidl) rfl rfl rfl rfl rfl rfl rfl ?_ ?_
      · exact fun e' h' h7 hh => hq1 e' h' _ h7 (.inr (.inr ⟨hd, hT, hh, rfl⟩))
      · intro e' he2 g0 g1 g6 g7 g8 g9
        rw [List.set_set]
        exact hq2 e' hd hT he2 g0 g1 g6 g7 g8 g9
  · have hT := top_at (acc := acc) (x := x) (by omega)
    have hlast := get_rc (l := acc) (i := acc.length - 1) (by omega)
    first | have hb := hb | have hb := trivial
    repeat' (first | (simp -implicitDefEqProofs (disch := omega) only [hb, L27_0, h0, h1, h6, h7, h8, h9, h25, hlast, hc1, u8_drop, hA1, hcell, wC, initE, aop, Nat.reduceEqDiff, ↓reduceIte, Nat.reduceAdd, finish, resOf, tupOf, AM.freeze, freeze1, freezeL, closed, nam, namL, if_true, if_false, deref, boxAt, exAt, ldCells, oneL, oneCell, Nat.reduceLeDiff, evL, adopt, rigid, rigidL, trim, Int.reduceEq, Int.reduceMod, Int.reduceDiv, if_pos, if_neg, asI, forall_const, implies_true, chkD, chkO, chkW, effB, reB, vEq, beq_self_eq_true, Nat.reduceSub, Nat.reduceLT, Int.reduceSub, Int.reduceAdd, Int.reduceMul, Int.reduceLT, Int.reduceLE, Int.reduceToNat, optI, aslice, cutSl, cutMs, cutStr, cutOwn, cellsOf, one, elCells, lenOf, beqV, beqVL, strip, stripO, convS]) | ((first | rw [WP_condK] | rw [WP_opsG] | rw [WP_quiG] | rw [WP_dG]); refine And.intro (fun hb => ?_) (fun hb => ?_) <;> (first | have hd := dq1 hb | have hd := dq2 hb | have hd := dq3 hb | have hd := dq4 hb | skip)))
    · exact hq1 _ _ _ rfl (.inl ⟨hd, rfl⟩)
    · exact hq1 _ _ _ rfl (.inr (.inl ⟨by assumption, by rw [hT]; exact decide_eq_false (by omega), rfl⟩))
    · rename_i he1 _
      have he1 : e1 = 0 := by assumption
      refine ⟨0, by omega, ?_⟩
      refine head2_ok b (.slice (.tok t) (some 2) (acc.map Rc.av)) (a + nn) mm x y e2 kn id m0 _ rfl (hn1 he1) hB (hn2 he1) (hc2 he1) Q _ _ (List.getElem?_set_self hidl) rfl rfl rfl rfl rfl rfl rfl ?_ ?_
      · exact fun e' h' h7 hh => hq1 e' h' _ h7 (.inr (.inr ⟨he1, by rw [hT]; exact decide_eq_true (by omega), hh, rfl⟩))
      · intro e' he2 g0 g1 g6 g7 g8 g9
        rw [List.set_set]
        exact hq2 e' he1 (by rw [hT]; exact decide_eq_true (by omega)) he2 g0 g1 g6 g7 g8 g9
end Go.Proofs.Ytejnficfhoekiaa.AM

/- bigsize's streams: Decode. -/
namespace Go.Proofs.Ytejnficfhoekiaa.AM
open Go
set_option maxRecDepth 100000
set_option maxHeartbeats 4000000
set_option linter.unusedSimpArgs false
set_option linter.unusedVariables false
theorem gh2 {α : Type} {h a b : List α} {t : Nat} (ht : t < h.length) : (h ++ a ++ b)[t]? = h[t]? := by rw [List.append_assoc, get_appl ht]
theorem sh2 {α : Type} {h a b : List α} {t : Nat} {x : α} (ht : t < h.length) : (h ++ a ++ b).set t x = h.set t x ++ a ++ b := by rw [List.append_assoc, set_appl ht, List.append_assoc]
theorem gsl {α : Type} {h : List α} {t : Nat} {x c d : α} : (h.set t x ++ [c] ++ [d])[h.length]? = some c := by
  have := gA (h.set t x) c d
  rwa [List.length_set] at this
theorem dec_okK (K : AV) (b ks : List Int) (hK : ∀ x h, ag T 41 [K, u64 x] h = some (.sc (.bool (decide (x ∈ ks))), h)) (hby : Bytes b) (hB : b.length ≤ 140737488351232) : ∃ v, prun T F27 [.slice .none none (b.map u8), K] = some v ∧ IsDec v (decS ks b) := by
  suffices h : WP (fun v => IsDec v (decS ks b)) (prun T F27 [.slice .none none (b.map u8), K]) by
    obtain ⟨v, h1, h2⟩ := WP_ex h
    exact ⟨v, h1, h2⟩
  refine prun_wp ?_
  first | have hb := hb | have hb := trivial
  repeat' (first | (simp -implicitDefEqProofs (disch := omega) only [hb, F27, wC, initE, aop, Nat.reduceEqDiff, ↓reduceIte, Nat.reduceAdd, finish, resOf, tupOf, AM.freeze, freeze1, freezeL, closed, nam, namL, if_true, if_false, deref, boxAt, exAt, ldCells, oneL, oneCell, Nat.reduceLeDiff, evL, adopt, rigid, rigidL, trim, Int.reduceEq, Int.reduceMod, Int.reduceDiv, if_pos, if_neg, asI, forall_const, implies_true, chkD, chkO, chkW, effB, reB, vEq, beq_self_eq_true, Nat.reduceSub, Nat.reduceLT, Int.reduceSub, Int.reduceAdd, Int.reduceMul, Int.reduceLT, Int.reduceLE, Int.reduceToNat, optI, aslice, cutSl, cutMs, cutStr, cutOwn, cellsOf, one, elCells, lenOf, beqV, beqVL, strip, stripO, convS]) | ((first | rw [WP_condK] | rw [WP_opsG] | rw [WP_quiG] | rw [WP_dG]); refine And.intro (fun hb => ?_) (fun hb => ?_) <;> (first | have hd := dq1 hb | have hd := dq2 hb | have hd := dq3 hb | have hd := dq4 hb | skip)))
  · exact isDec_bad (by decide) (by unfold decS; rw [if_pos (by omega)])
  · refine WP_loop (I := fun k e h => ∃ (a : Nat) (acc : List Rc) (t : Nat), k + a = b.length ∧ acc.length ≤ 64 ∧ getE e 0 = .slice .none none (b.map u8) ∧ getE e 1 = K ∧ getE e 6 = .slice (.tok t) (some 2) (acc.map Rc.av) ∧ getE e 7 = i64 0 ∧ getE e 8 = i64 a ∧ h[t]? = some (.row (some 2) acc.length) ∧ decL ks (64 - acc.length) acc (b.drop a) = decS ks b) ?_ b.length _ _ ⟨0, [], _, rfl, by simp, rfl, rfl, rfl, rfl, rfl, rfl, ?_⟩
    · rintro k e h ⟨a, acc, t, hk, hal, h0, h1, h6, h7, h8, ht, hdec⟩
      rw [trim_off]
      have htl : t < h.length := (List.getElem?_eq_some_iff.1 ht).1
      obtain ⟨x, n, e1, hr1⟩ : ∃ x n e1, readS (b.drop a) = (x, n, e1) := ⟨_, _, _, rfl⟩
      have hs1 := drop_bytes hby a
      have hf1 := readS_fine _ hs1
      have hl1 : (b.drop a).length = b.length - a := List.length_drop
      have hc1 := call_read (b.drop a) hs1 (by omega)
      simp only [rdT, hr1] at hf1 hc1
      obtain ⟨nn, rfl⟩ : ∃ nn : Nat, n = nn := ⟨n.toNat, by omega⟩
      by_cases hs0 : a = b.length
      · subst hs0
        rw [List.drop_length, decL_nil] at hdec
        first | have hb := hb | have hb := trivial
        repeat' (first | (simp -implicitDefEqProofs (disch := omega) only [hb, L27_1, h0, h1, h6, h7, h8, wC, initE, aop, Nat.reduceEqDiff, ↓reduceIte, Nat.reduceAdd, finish, resOf, tupOf, freezeL, closed, nam, namL, if_true, if_false, deref, boxAt, exAt, ldCells, oneL, oneCell, Nat.reduceLeDiff, evL, adopt, rigid, rigidL, trim, Int.reduceEq, Int.reduceMod, Int.reduceDiv, if_pos, if_neg, asI, forall_const, implies_true, chkD, chkO, chkW, effB, reB, vEq, beq_self_eq_true, Nat.reduceSub, Nat.reduceLT, Int.reduceSub, Int.reduceAdd, Int.reduceMul, Int.reduceLT, Int.reduceLE, Int.reduceToNat, optI, aslice, cutSl, cutMs, cutStr, cutOwn, cellsOf, one, elCells, lenOf, beqV, beqVL, strip, stripO, convS]) | ((first | rw [WP_condK] | rw [WP_opsG] | rw [WP_quiG] | rw [WP_dG]); refine And.intro (fun hb => ?_) (fun hb => ?_) <;> (first | have hd := dq1 hb | have hd := dq2 hb | have hd := dq3 hb | have hd := dq4 hb | skip)))
        exact dec_freeze hdec.symm
      · have hsne : b.drop a ≠ [] := by intro hh; have := congrArg List.length hh; simp at this; omega
        obtain ⟨y, m, e2, hr2⟩ : ∃ x n e1, readS (b.drop (a + nn)) = (x, n, e1) := ⟨_, _, _, rfl⟩
        have hs2 := drop_bytes hby (a + nn)
        have hf2 := readS_fine _ hs2
        have hl2 : (b.drop (a + nn)).length = b.length - (a + nn) := List.length_drop
        have hc2 := call_read (b.drop (a + nn)) hs2 (by omega)
        simp only [rdT, hr2] at hf2 hc2
        obtain ⟨mm, rfl⟩ : ∃ mm : Nat, m = mm := ⟨m.toNat, by omega⟩
        obtain ⟨yy, rfl⟩ : ∃ yy : Nat, y = yy := ⟨y.toNat, by omega⟩
        have hA1 : ((a : Int) + (nn : Int)) = ((a + nn : Nat) : Int) := (Int.natCast_add a nn).symm
        have hA2 : (((a + nn : Nat) : Int) + (mm : Int)) = ((a + nn + mm : Nat) : Int) := (Int.natCast_add _ _).symm
        have hA3 : (((a + nn + mm : Nat) : Int) + (yy : Int)) = ((a + nn + mm + yy : Nat) : Int) := (Int.natCast_add _ _).symm
        have htm : x.tmod 2 = x % 2 := Int.tmod_eq_emod_of_nonneg hf1.1.1
        have hh := fun h => hK x h
        have hl3 : (b.drop (a + nn + mm)).length = b.length - (a + nn + mm) := List.length_drop
        by_cases hfull : acc.length = 64
        · rw [hfull, decL_full ks acc _ hsne] at hdec
          first | have hb := hb | have hb := trivial
          repeat' (first | (simp -implicitDefEqProofs (disch := omega) only [hb, L27_1, h0, h1, h6, h7, h8, wC, initE, aop, Nat.reduceEqDiff, ↓reduceIte, Nat.reduceAdd, finish, resOf, tupOf, AM.freeze, freeze1, freezeL, closed, nam, namL, if_true, if_false, deref, boxAt, exAt, ldCells, oneL, oneCell, Nat.reduceLeDiff, evL, adopt, rigid, rigidL, trim, Int.reduceEq, Int.reduceMod, Int.reduceDiv, if_pos, if_neg, asI, forall_const, implies_true, chkD, chkO, chkW, effB, reB, vEq, beq_self_eq_true, Nat.reduceSub, Nat.reduceLT, Int.reduceSub, Int.reduceAdd, Int.reduceMul, Int.reduceLT, Int.reduceLE, Int.reduceToNat, optI, aslice, cutSl, cutMs, cutStr, cutOwn, cellsOf, one, elCells, lenOf, beqV, beqVL, strip, stripO, convS]) | ((first | rw [WP_condK] | rw [WP_opsG] | rw [WP_quiG] | rw [WP_dG]); refine And.intro (fun hb => ?_) (fun hb => ?_) <;> (first | have hd := dq1 hb | have hd := dq2 hb | have hd := dq3 hb | have hd := dq4 hb | skip)))
          exact isDec_bad (by decide) hdec.symm
        · rw [show 64 - acc.length = (64 - (acc.length + 1)) + 1 by omega, decL_step ks _ acc _ hsne x nn e1 yy mm e2 (b.drop (a + nn)) (b.drop (a + nn + mm)) hr1 (by rw [List.drop_drop]; rfl) hr2 (by rw [List.drop_drop]; rfl)] at hdec
          have hfit : fitsB (List.take yy (b.drop (a + nn + mm))).length 1 = true := fits1 (by rw [List.length_take]; omega)
          have hstep : ∀ f, (e1 ≠ 0 ∧ f = e1 ∨ e1 = 0 ∧ topB acc x = false ∧ f = 11 ∨ e1 = 0 ∧ topB acc x = true ∧ e2 ≠ 0 ∧ f = e2) → f ≠ 0 ∧ ([], f) = decS ks b := by
            rintro f (⟨q1, rfl⟩ | ⟨q1, q2, rfl⟩ | ⟨q1, q2, q3, rfl⟩)
            · rw [if_pos q1] at hdec; exact ⟨q1, hdec⟩
            · rw [if_neg (by omega), if_pos q2] at hdec; exact ⟨by decide, hdec⟩
            · rw [if_neg (by omega), if_neg (by rw [q2]; decide), if_pos q3] at hdec; exact ⟨q3, hdec⟩
          have hbl : b.length ≤ 65536 := by omega
          first | have hb := hb | have hb := trivial
          repeat' (first | (simp -implicitDefEqProofs (disch := omega) only [hb, L27_1, h0, h1, h6, h7, h8, wC, initE, aop, Nat.reduceEqDiff, ↓reduceIte, Nat.reduceAdd, finish, resOf, tupOf, AM.freeze, freeze1, freezeL, closed, nam, namL, if_true, if_false, deref, boxAt, exAt, ldCells, oneL, oneCell, Nat.reduceLeDiff, evL, adopt, rigid, rigidL, trim, Int.reduceEq, Int.reduceMod, Int.reduceDiv, if_pos, if_neg, asI, forall_const, implies_true, chkD, chkO, chkW, effB, reB, vEq, beq_self_eq_true, Nat.reduceSub, Nat.reduceLT, Int.reduceSub, Int.reduceAdd, Int.reduceMul, Int.reduceLT, Int.reduceLE, Int.reduceToNat, optI, aslice, cutSl, cutMs, cutStr, cutOwn, cellsOf, one, elCells, lenOf, beqV, beqVL, strip, stripO, convS]) | ((first | rw [WP_condK] | rw [WP_opsG] | rw [WP_quiG] | rw [WP_dG]); refine And.intro (fun hb => ?_) (fun hb => ?_) <;> (first | have hd := dq1 hb | have hd := dq2 hb | have hd := dq3 hb | have hd := dq4 hb | skip)))
          refine head_ok b acc a nn mm x yy e1 e2 K t h.length _ _ rfl (by omega) hbl (by omega) (by omega) hal hc1 (fun _ => hc2) _ _ _ (by rw [get_app0]; rfl) rfl rfl rfl rfl rfl rfl rfl ?_ ?_
          · intro e' h' f g7 hs
            obtain ⟨hf0, hfd⟩ := hstep f hs
            first | have hb := hb | have hb := trivial
            repeat' (first | (simp -implicitDefEqProofs (disch := omega) only [hb, g7, wC, initE, aop, Nat.reduceEqDiff, ↓reduceIte, Nat.reduceAdd, finish, resOf, tupOf, AM.freeze, freeze1, freezeL, closed, nam, namL, if_true, if_false, deref, boxAt, exAt, ldCells, oneL, oneCell, Nat.reduceLeDiff, evL, adopt, rigid, rigidL, trim, Int.reduceEq, Int.reduceMod, Int.reduceDiv, if_pos, if_neg, asI, forall_const, implies_true, chkD, chkO, chkW, effB, reB, vEq, beq_self_eq_true, Nat.reduceSub, Nat.reduceLT, Int.reduceSub, Int.reduceAdd, Int.reduceMul, Int.reduceLT, Int.reduceLE, Int.reduceToNat, optI, aslice, cutSl, cutMs, cutStr, cutOwn, cellsOf, one, elCells, lenOf, beqV, beqVL, strip, stripO, convS]) | ((first | rw [WP_condK] | rw [WP_opsG] | rw [WP_quiG] | rw [WP_dG]); refine And.intro (fun hb => ?_) (fun hb => ?_) <;> (first | have hd := dq1 hb | have hd := dq2 hb | have hd := dq3 hb | have hd := dq4 hb | skip)))
            exact isDec_bad hf0 hfd.symm
          · intro e' q1 q2 q3 g0 g1 g6 g7 g8 g9
            rw [if_neg (by omega), if_neg (by rw [q2]; decide), if_neg (by omega)] at hdec
            rw [set_app0]
            have hval : List.drop (a + nn + mm) (List.take (a + nn + mm + yy) (List.map u8 b)) = (List.take yy (b.drop (a + nn + mm))).map u8 := by
              rw [← List.map_take, ← List.map_drop, List.drop_take, show a + nn + mm + yy - (a + nn + mm) = yy by omega]
            have hcl := fun h => call_clone8 .none (List.take yy (b.drop (a + nn + mm))) h (by rw [List.length_take]; omega)
            have hbv := beqVL_u8 (List.take yy (b.drop (a + nn + mm)))
            have hbb := beqVL_u8 b
            first | have hb := hb | have hb := trivial
            repeat' (first | (simp -implicitDefEqProofs (disch := omega) only [hb, g0, g1, g6, g7, g8, g9, hh, get_app0, get_app, p41, hl3, htm, hA3, hval, hcl, hbv, hbb, Bool.and_self, gA, gh2, sh2, gsl, ht, elemsOf, aappend, setEls, elFits, stripEl, List.replicate_zero, List.replicate_succ, wC, initE, aop, Nat.reduceEqDiff, ↓reduceIte, Nat.reduceAdd, finish, resOf, tupOf, AM.freeze, freeze1, freezeL, closed, nam, namL, if_true, if_false, deref, boxAt, exAt, ldCells, oneL, oneCell, Nat.reduceLeDiff, evL, adopt, rigid, rigidL, trim, Int.reduceEq, Int.reduceMod, Int.reduceDiv, if_pos, if_neg, asI, forall_const, implies_true, chkD, chkO, chkW, effB, reB, vEq, beq_self_eq_true, Nat.reduceSub, Nat.reduceLT, Int.reduceSub, Int.reduceAdd, Int.reduceMul, Int.reduceLT, Int.reduceLE, Int.reduceToNat, optI, aslice, cutSl, cutMs, cutStr, cutOwn, cellsOf, one, elCells, lenOf, beqV, beqVL, strip, stripO, convS]) | ((first | rw [WP_condK] | rw [WP_opsG] | rw [WP_quiG] | rw [WP_dG]); refine And.intro (fun hb => ?_) (fun hb => ?_) <;> (first | have hd := dq1 hb | have hd := dq2 hb | have hd := dq3 hb | have hd := dq4 hb | skip)))
            all_goals first
            | (rw [if_pos (by omega)] at hdec; exact isDec_bad (by decide) hdec.symm)
            | (rw [if_neg (by omega), if_pos ⟨by omega, by assumption⟩] at hdec; exact isDec_bad (by decide) hdec.symm)
            | (refine ⟨b.length - (a + nn + mm + yy), by omega, a + nn + mm + yy, acc ++ [⟨x, List.take yy (b.drop (a + nn + mm))⟩], t, by omega, by rw [List.length_append, List.length_singleton]; omega, by rw [List.map_append]; rfl, rfl, ?_, ?_⟩
               · rw [gs2 htl, List.length_append, List.length_singleton]
               · rw [List.length_append, List.length_singleton]
                 rw [Int.toNat_natCast, List.drop_drop] at hdec
                 first
                 | (rw [if_neg (by omega), if_neg (fun hh => by have := hh.1; omega)] at hdec; exact hdec)
                 | (rw [if_neg (by omega), if_neg (fun hh => hh.2 (by assumption))] at hdec; exact hdec))
    · unfold decS; rw [if_neg (by omega)]; rfl
theorem dec_ok (b ks : List Int) (hby : Bytes b) (hB : b.length ≤ 140737488351232) (hn : ks.length ≤ 140737488351232) : ∃ v, prun T F27 [.slice .none none (b.map u8), .slice .none none (ks.map u64)] = some v ∧ IsDec v (decS ks b) :=
  dec_okK _ b ks (fun x h => call_contains ks x hn h) hby hB
theorem dec_okN (b : List Int) (hby : Bytes b) (hB : b.length ≤ 140737488351232) : ∃ v, prun T F27 [.slice .none none (b.map u8), .nil] = some v ∧ IsDec v (decS [] b) :=
  dec_okK _ b [] contains_nil hby hB
end Go.Proofs.Ytejnficfhoekiaa.AM

/- bigsize's calls. -/
namespace Go.Proofs.Ytejnficfhoekiaa.AM
open Go
set_option maxRecDepth 100000
set_option maxHeartbeats 4000000
set_option linter.unusedSimpArgs false
set_option linter.unusedVariables false
theorem closed2 {o : AOwn} {a b : List Int} (ho : stripO o = .none) : closedL ([AV.slice o none (a.map u8), AV.slice .none none (b.map u64)].map strip) = true := by
  have h1 := u8_closed a
  have h2 := u64_closed b
  simp only [List.map_cons, List.map_nil, strip, ho, show stripO .none = .none from rfl, closedL, namL, nam, Bool.and_true, Bool.true_and] at h1 h2 ⊢
  rw [h1, h2]; rfl
theorem call_dec (o : AOwn) (ho : stripO o = .none) (b ks : List Int) (hby : Bytes b) (hB : b.length ≤ 140737488351232) (hn : ks.length ≤ 140737488351232) : ∃ v, IsDec v (decS ks b) ∧ ∀ h, ag T 27 [.slice o none (b.map u8), .slice .none none (ks.map u64)] h = some (Go.Proofs.Ytejnficfhoekiaa.AM.adopt v h) := by
  obtain ⟨v, hv, hi⟩ := dec_ok b ks hby hB hn
  exact ⟨v, hi, fun h => call_pure (T := T) rfl t27 rfl rfl (closed2 ho) (by simp only [List.map_cons, List.map_nil, strip, ho]; exact hv)⟩
theorem call_rdec (b ks : List Int) (hby : Bytes b) (hB : b.length ≤ 140737488351232) (hn : ks.length ≤ 140737488351232) : ∃ v, IsDec v (decS ks b) ∧ ∀ h, ag T 30 [.slice .none none (b.map u8), .slice .none none (ks.map u64)] h = some (Go.Proofs.Ytejnficfhoekiaa.AM.adopt v h) := by
  obtain ⟨v, hv, hi⟩ := rdec_ok b ks hby hB hn
  exact ⟨v, hi, fun h => call_pure (T := T) rfl t30 rfl rfl (closed2 rfl) (by simp only [List.map_cons, List.map_nil, strip, stripO]; exact hv)⟩
theorem call_enc (l : List Rc) (hok : ∀ r ∈ l, Rc.ok r) (hv : ∀ r ∈ l, r.v.length ≤ 140737488351232) (hn : l.length ≤ 140737488351232) : ∃ v, IsEnc v (encS l) ∧ ∀ o, stripO o = .none → ∀ h, ag T 18 [.slice o (some 2) (l.map Rc.av)] h = some (Go.Proofs.Ytejnficfhoekiaa.AM.adopt v h) := by
  obtain ⟨v, hw, hi⟩ := enc_ok l hok hv hn
  refine ⟨v, hi, fun o ho h => call_pure (T := T) rfl t18 rfl rfl ?_ (by simp only [List.map_cons, List.map_nil, strip, ho]; exact hw)⟩
  have h1 := rc_closed l
  simp only [List.map_cons, List.map_nil, strip, ho, closedL, namL, nam, Bool.and_true, Bool.true_and] at h1 ⊢
  exact h1
theorem call_renc (l : List Rc) (hok : ∀ r ∈ l, Rc.ok r) (hv : ∀ r ∈ l, r.v.length ≤ 140737488351232) (hn : l.length ≤ 140737488351232) : ∃ v, IsEnc v (encS l) ∧ ∀ o, stripO o = .none → ∀ h, ag T 21 [.slice o (some 2) (l.map Rc.av)] h = some (Go.Proofs.Ytejnficfhoekiaa.AM.adopt v h) := by
  obtain ⟨v, hw, hi⟩ := renc_ok l hok hv hn
  refine ⟨v, hi, fun o ho h => call_pure (T := T) rfl t21 rfl rfl ?_ (by simp only [List.map_cons, List.map_nil, strip, ho]; exact hw)⟩
  have h1 := rc_closed l
  simp only [List.map_cons, List.map_nil, strip, ho, closedL, namL, nam, Bool.and_true, Bool.true_and] at h1 ⊢
  exact h1
theorem call_encA (A : List AV) (l : List Rc) (hA : RecsA A l) (hok : ∀ r ∈ l, Rc.ok r) (hv : ∀ r ∈ l, r.v.length ≤ 140737488351232) (hn : l.length ≤ 140737488351232) : ∃ v, IsEnc v (encS l) ∧ ∀ o, stripO o = .none → ∀ h, ag T 18 [.slice o (some 2) A] h = some (Go.Proofs.Ytejnficfhoekiaa.AM.adopt v h) := by
  obtain ⟨v, hw, hi⟩ := enc_okA A l hA hok hv hn
  refine ⟨v, hi, fun o ho h => call_pure (T := T) rfl t18 rfl rfl ?_ (by simp only [List.map_cons, List.map_nil, strip, ho]; exact hw)⟩
  have h1 := hA.2.1
  simp only [List.map_cons, List.map_nil, strip, ho, closedL, namL, nam, Bool.and_true, Bool.true_and] at h1 ⊢
  exact h1
theorem call_rencA (A : List AV) (l : List Rc) (hA : RecsA A l) (hok : ∀ r ∈ l, Rc.ok r) (hv : ∀ r ∈ l, r.v.length ≤ 140737488351232) (hn : l.length ≤ 140737488351232) : ∃ v, IsEnc v (encS l) ∧ ∀ o, stripO o = .none → ∀ h, ag T 21 [.slice o (some 2) A] h = some (Go.Proofs.Ytejnficfhoekiaa.AM.adopt v h) := by
  obtain ⟨v, hw, hi⟩ := renc_okA A l hA hok hv hn
  refine ⟨v, hi, fun o ho h => call_pure (T := T) rfl t21 rfl rfl ?_ (by simp only [List.map_cons, List.map_nil, strip, ho]; exact hw)⟩
  have h1 := hA.2.1
  simp only [List.map_cons, List.map_nil, strip, ho, closedL, namL, nam, Bool.and_true, Bool.true_and] at h1 ⊢
  exact h1
theorem call_decN (b : List Int) (hby : Bytes b) (hB : b.length ≤ 140737488351232) : ∃ v, IsDec v (decS [] b) ∧ ∀ h, ag T 27 [.slice .none none (b.map u8), .nil] h = some (Go.Proofs.Ytejnficfhoekiaa.AM.adopt v h) := by
  obtain ⟨v, hv, hi⟩ := dec_okN b hby hB
  exact ⟨v, hi, fun h => call_pure (T := T) (args := [.slice .none none (b.map u8), .nil]) rfl t27 rfl rfl (by have := u8_closed b; simp only [List.map_cons, List.map_nil, strip, stripO, closedL, namL, nam, Bool.and_true, Bool.true_and] at this ⊢; exact this) hv⟩
theorem call_rdecN (b : List Int) (hby : Bytes b) (hB : b.length ≤ 140737488351232) : ∃ v, IsDec v (decS [] b) ∧ ∀ h, ag T 30 [.slice .none none (b.map u8), .nil] h = some (Go.Proofs.Ytejnficfhoekiaa.AM.adopt v h) := by
  obtain ⟨v, hv, hi⟩ := rdec_okN b hby hB
  exact ⟨v, hi, fun h => call_pure (T := T) (args := [.slice .none none (b.map u8), .nil]) rfl t30 rfl rfl (by have := u8_closed b; simp only [List.map_cons, List.map_nil, strip, stripO, closedL, namL, nam, Bool.and_true, Bool.true_and] at this ⊢; exact this) hv⟩
theorem ag_any {f : Nat} {F : AFn} {args : List AV} {v : Value} (hx : T.ext f = none) (hf : T.fn f = some F) (hp : F.pure = true) (hl : args.length = F.np) (hm : args.map strip = args) (hc : closedL args = true) (hr : ag T f args [] = some (.sc v, [])) (h : Heap) : ag T f args h = some (.sc v, h) := by
  rw [ag_pure hx hf hp args hl] at hr ⊢
  simp only [pcall, prep, hm, if_pos hc, Option.bind_some, Bool.false_eq_true, if_false, Option.bind_eq_some_iff] at hr ⊢
  obtain ⟨w, h1, h2⟩ := hr
  refine ⟨w, h1, ?_⟩
  unfold adopt at h2 ⊢
  split at h2
  · cases h2
  · cases h2
  · cases h2; rfl
theorem v_le_flat : ∀ {l : List Rc} {r : Rc}, r ∈ l → r.v.length ≤ (flatS l).length
  | q :: l, r, h => by
    have h6 : flatS (q :: l) = recS q ++ flatS l := by unfold flatS; rw [List.flatMap_cons]
    rw [h6, List.length_append]
    rcases List.mem_cons.1 h with rfl | h
    · unfold recS
      simp only [List.length_append]
      omega
    · have := v_le_flat h
      omega
end Go.Proofs.Ytejnficfhoekiaa.AM

/- bigsize's streams: Find. -/
namespace Go.Proofs.Ytejnficfhoekiaa.AM
open Go
set_option maxRecDepth 100000
set_option maxHeartbeats 4000000
set_option linter.unusedSimpArgs false
set_option linter.unusedVariables false
theorem ag_wp {T : Tab} {f : Nat} {F : AFn} {args : List AV} {h : Heap} {Q : AV × Heap → Prop} (hx : T.ext f = none) (hf : T.fn f = some F) (hp : F.pure = false) (hl : args.length = F.np) (hq : WP (BQ (fin F.res) Q) (ax T F.body (initE 0 args) h)) : WP Q (ag T f args h) := by
  rw [ag_gen hx hf hp args hl, WP_bind]
  exact hq
def findS (t : Int) (l : List Rc) : Option Rc := l.find? fun r => decide (r.t = t)
theorem findS_hit {l : List Rc} {t : Int} {i : Nat} (hi : i < l.length) (hm : findS t (l.take i) = none) (h : l[i].t = t) : findS t l = some l[i] := by
  have e : findS t (l.take i ++ l[i] :: l.drop (i + 1)) = some l[i] := by
    unfold findS at hm ⊢
    rw [List.find?_append, hm, List.find?_cons_of_pos (by simp [h])]
    rfl
  rwa [← List.drop_eq_getElem_cons hi, List.take_append_drop] at e
theorem findS_miss {l : List Rc} {t : Int} {i : Nat} (hi : i < l.length) (hm : findS t (l.take i) = none) (h : ¬ l[i].t = t) : findS t (l.take (i + 1)) = none := by
  unfold findS at hm ⊢
  rw [List.take_succ_eq_append_getElem hi, List.find?_append, hm]
  simp [h]
theorem k27 (r : Rc) (t : Int) : ag T 58 [.agg [u64 r.t, .slice .none none (r.v.map u8)], .ptr 0 0] [.cells [u64 t]] = some (.bool (decide (r.t = t)), [.cells [u64 t], .cells [u64 r.t, .slice .none none (r.v.map u8)]]) := by
  have hb := beqVL_u8 r.v
  refine WP_eq (ag_wp rfl t58 rfl rfl ?_)
  first | have hb := hb | have hb := trivial
  repeat' (first | (simp -implicitDefEqProofs (disch := omega) only [hb, F58, hb, wC, initE, aop, Nat.reduceEqDiff, ↓reduceIte, Nat.reduceAdd, finish, resOf, tupOf, AM.freeze, freeze1, freezeL, closed, nam, namL, if_true, if_false, deref, boxAt, exAt, ldCells, oneL, oneCell, Nat.reduceLeDiff, evL, adopt, rigid, rigidL, trim, Int.reduceEq, Int.reduceMod, Int.reduceDiv, if_pos, if_neg, asI, forall_const, implies_true, chkD, chkO, chkW, effB, reB, vEq, beq_self_eq_true, Nat.reduceSub, Nat.reduceLT, Int.reduceSub, Int.reduceAdd, Int.reduceMul, Int.reduceLT, Int.reduceLE, Int.reduceToNat, optI, aslice, cutSl, cutMs, cutStr, cutOwn, cellsOf, one, elCells, lenOf, beqV, beqVL, strip, stripO, convS]) | ((first | rw [WP_condK] | rw [WP_opsG] | rw [WP_quiG] | rw [WP_dG]); refine And.intro (fun hb => ?_) (fun hb => ?_) <;> (first | have hd := dq1 hb | have hd := dq2 hb | have hd := dq3 hb | have hd := dq4 hb | skip)))
theorem idxf_ok (l : List Rc) (t : Int) (hn : l.length ≤ 140737488351232) : ∃ (j : Int) (r : Heap), ag T 57 [.slice .none (some 2) (l.map Rc.av), .func (.func 58) [] [.ptr 0 0]] [.cells [u64 t]] = some (i64 j, .cells [u64 t] :: r) ∧ ((∃ (i : Nat) (hi : i < l.length), j = i ∧ findS t l = some l[i]) ∨ (j = -1 ∧ findS t l = none)) := by
  suffices h : WP (fun p => ∃ (j : Int) (r : Heap), p = (i64 j, .cells [u64 t] :: r) ∧ ((∃ (i : Nat) (hi : i < l.length), j = i ∧ findS t l = some l[i]) ∨ (j = -1 ∧ findS t l = none))) (ag T 57 [.slice .none (some 2) (l.map Rc.av), .func (.func 58) [] [.ptr 0 0]] [.cells [u64 t]]) by
    obtain ⟨p, h1, j, r, rfl, h2⟩ := WP_ex h
    exact ⟨j, r, h1, h2⟩
  have hcl := rc_closed l
  refine ag_wp rfl t57 rfl rfl ?_
  simp -implicitDefEqProofs (disch := omega) only [F57, wC, initE, aop, Nat.reduceEqDiff, ↓reduceIte, Nat.reduceAdd, finish, resOf, tupOf, AM.freeze, freeze1, freezeL, closed, nam, namL, if_true, if_false, deref, boxAt, exAt, ldCells, oneL, oneCell, Nat.reduceLeDiff, evL, adopt, rigid, rigidL, trim, Int.reduceEq, Int.reduceMod, Int.reduceDiv, if_pos, if_neg, asI, forall_const, implies_true, chkD, chkO, chkW, effB, reB, vEq, beq_self_eq_true, Nat.reduceSub, Nat.reduceLT, Int.reduceSub, Int.reduceAdd, Int.reduceMul, Int.reduceLT, Int.reduceLE, Int.reduceToNat, optI, aslice, cutSl, cutMs, cutStr, cutOwn, cellsOf, one, elCells, lenOf, beqV, beqVL, strip, stripO, convS]
  refine WP_loop (I := fun k e h => ∃ (i : Nat) (r : Heap), k + i = l.length ∧ h = .cells [u64 t] :: r ∧ getE e 0 = .slice .none (some 2) (l.map Rc.av) ∧ getE e 1 = .func (.func 58) [] [.ptr 0 0] ∧ getE e 7 = i64 l.length ∧ getE e 8 = i64 i ∧ findS t (l.take i) = none) ?_ l.length _ _ ⟨0, [], by omega, rfl, rfl, rfl, rfl, rfl, rfl⟩
  rintro k e h ⟨i, r, hk, rfl, h0, h1, h7, h8, hm⟩
  have hbl : below 1 (.slice .none (some 2) (l.map Rc.av)) = true := closed_below' 1 _ (by simp only [closed, nam, Bool.true_and]; exact hcl)
  rw [trim_take (by simp only [List.all_cons, List.all_nil, h0, h1, h7, h8, hbl]; rfl) (by simp [belowO, namL, nam])]
  by_cases hlt : i < l.length
  · have hg := get_rc hlt
    have hk27 := k27 l[i] t
    have hbv := beqVL_u8 l[i].v
    first | have hb := hb | have hb := trivial
    repeat' (first | (simp -implicitDefEqProofs (disch := omega) only [hb, L57_0, h0, h1, h7, h8, hg, hk27, hbv, wC, initE, aop, Nat.reduceEqDiff, ↓reduceIte, Nat.reduceAdd, finish, resOf, tupOf, AM.freeze, freeze1, freezeL, closed, nam, namL, if_true, if_false, deref, boxAt, exAt, ldCells, oneL, oneCell, Nat.reduceLeDiff, evL, adopt, rigid, rigidL, trim, Int.reduceEq, Int.reduceMod, Int.reduceDiv, if_pos, if_neg, asI, forall_const, implies_true, chkD, chkO, chkW, effB, reB, vEq, beq_self_eq_true, Nat.reduceSub, Nat.reduceLT, Int.reduceSub, Int.reduceAdd, Int.reduceMul, Int.reduceLT, Int.reduceLE, Int.reduceToNat, optI, aslice, cutSl, cutMs, cutStr, cutOwn, cellsOf, one, elCells, lenOf, beqV, beqVL, strip, stripO, convS]) | ((first | rw [WP_condK] | rw [WP_opsG] | rw [WP_quiG] | rw [WP_dG]); refine And.intro (fun hb => ?_) (fun hb => ?_) <;> (first | have hd := dq1 hb | have hd := dq2 hb | have hd := dq3 hb | have hd := dq4 hb | skip)))
    · exact ⟨i, _, rfl, .inl ⟨i, hlt, rfl, findS_hit hlt hm hd⟩⟩
    · exact ⟨k - 1, by omega, i + 1, _, by omega, rfl, rfl, findS_miss hlt hm hd⟩
  · have hi : i = l.length := by omega
    subst hi
    rw [List.take_length] at hm
    first | have hb := hb | have hb := trivial
    repeat' (first | (simp -implicitDefEqProofs (disch := omega) only [hb, L57_0, h0, h1, h7, h8, wC, initE, aop, Nat.reduceEqDiff, ↓reduceIte, Nat.reduceAdd, finish, resOf, tupOf, AM.freeze, freeze1, freezeL, closed, nam, namL, if_true, if_false, deref, boxAt, exAt, ldCells, oneL, oneCell, Nat.reduceLeDiff, evL, adopt, rigid, rigidL, trim, Int.reduceEq, Int.reduceMod, Int.reduceDiv, if_pos, if_neg, asI, forall_const, implies_true, chkD, chkO, chkW, effB, reB, vEq, beq_self_eq_true, Nat.reduceSub, Nat.reduceLT, Int.reduceSub, Int.reduceAdd, Int.reduceMul, Int.reduceLT, Int.reduceLE, Int.reduceToNat, optI, aslice, cutSl, cutMs, cutStr, cutOwn, cellsOf, one, elCells, lenOf, beqV, beqVL, strip, stripO, convS]) | ((first | rw [WP_condK] | rw [WP_opsG] | rw [WP_quiG] | rw [WP_dG]); refine And.intro (fun hb => ?_) (fun hb => ?_) <;> (first | have hd := dq1 hb | have hd := dq2 hb | have hd := dq3 hb | have hd := dq4 hb | skip)))
    exact ⟨-1, _, rfl, .inr ⟨rfl, hm⟩⟩
def findT (t : Int) (l : List Rc) : AV := match findS t l with
  | none => .tup [.nil, .bool false]
  | some r => .tup [.slice .fresh none (r.v.map u8), .bool true]
theorem findS_mem {l : List Rc} {t : Int} {r : Rc} (h : findS t l = some r) : r ∈ l ∧ r.t = t := by
  unfold findS at h
  exact ⟨List.mem_of_find?_eq_some h, by simpa using List.find?_some h⟩
theorem find_ok (l : List Rc) (t : Int) (hv : ∀ r ∈ l, r.v.length ≤ 140737488351232) (hn : l.length ≤ 140737488351232) : prun T F44 [.slice .none (some 2) (l.map Rc.av), u64 t] = some (findT t l) := by
  obtain ⟨j, r, h1, h2⟩ := idxf_ok l t hn
  refine WP_eq (prun_wp ?_)
  rcases h2 with ⟨i, hi, rfl, hf⟩ | ⟨rfl, hf⟩
  · have hg := get_rc hi
    have hc := fun h => call_clone8 .none l[i].v h (by have := hv l[i] (List.getElem_mem hi); omega)
    have hb := beqVL_u8 l[i].v
    have hcl : namL (fun _ => false) (l[i].v.map u8) = true := u8_closed l[i].v
    simp only [findT, hf]
    first | have hb := hb | have hb := trivial
    repeat' (first | (simp -implicitDefEqProofs (disch := omega) only [hb, F44, h1, hg, hc, hb, get_app0, wC, initE, aop, Nat.reduceEqDiff, ↓reduceIte, Nat.reduceAdd, finish, resOf, tupOf, AM.freeze, freeze1, freezeL, closed, nam, namL, if_true, if_false, deref, boxAt, exAt, ldCells, oneL, oneCell, Nat.reduceLeDiff, evL, adopt, rigid, rigidL, trim, Int.reduceEq, Int.reduceMod, Int.reduceDiv, if_pos, if_neg, asI, forall_const, implies_true, chkD, chkO, chkW, effB, reB, vEq, beq_self_eq_true, Nat.reduceSub, Nat.reduceLT, Int.reduceSub, Int.reduceAdd, Int.reduceMul, Int.reduceLT, Int.reduceLE, Int.reduceToNat, optI, aslice, cutSl, cutMs, cutStr, cutOwn, cellsOf, one, elCells, lenOf, beqV, beqVL, strip, stripO, convS]) | ((first | rw [WP_condK] | rw [WP_opsG] | rw [WP_quiG] | rw [WP_dG]); refine And.intro (fun hb => ?_) (fun hb => ?_) <;> (first | have hd := dq1 hb | have hd := dq2 hb | have hd := dq3 hb | have hd := dq4 hb | skip)))
    all_goals simp [freeze, freeze1, freezeL, hcl, closed, nam, WP, get_app0]
  · simp only [findT, hf]
    first | have hb := hb | have hb := trivial
    repeat' (first | (simp -implicitDefEqProofs (disch := omega) only [hb, F44, h1, wC, initE, aop, Nat.reduceEqDiff, ↓reduceIte, Nat.reduceAdd, finish, resOf, tupOf, AM.freeze, freeze1, freezeL, closed, nam, namL, if_true, if_false, deref, boxAt, exAt, ldCells, oneL, oneCell, Nat.reduceLeDiff, evL, adopt, rigid, rigidL, trim, Int.reduceEq, Int.reduceMod, Int.reduceDiv, if_pos, if_neg, asI, forall_const, implies_true, chkD, chkO, chkW, effB, reB, vEq, beq_self_eq_true, Nat.reduceSub, Nat.reduceLT, Int.reduceSub, Int.reduceAdd, Int.reduceMul, Int.reduceLT, Int.reduceLE, Int.reduceToNat, optI, aslice, cutSl, cutMs, cutStr, cutOwn, cellsOf, one, elCells, lenOf, beqV, beqVL, strip, stripO, convS]) | ((first | rw [WP_condK] | rw [WP_opsG] | rw [WP_quiG] | rw [WP_dG]); refine And.intro (fun hb => ?_) (fun hb => ?_) <;> (first | have hd := dq1 hb | have hd := dq2 hb | have hd := dq3 hb | have hd := dq4 hb | skip)))
end Go.Proofs.Ytejnficfhoekiaa.AM

/- Bits, digits of five bits, in plain Lean. -/
namespace Go.Proofs.Ytejnficfhoekiaa.AM
open Go
set_option linter.unusedVariables false
set_option linter.unusedSimpArgs false
def val (l : List Bool) : Nat := l.foldl (fun x b => 2 * x + b.toNat) 0
def bitsN : Nat → Nat → List Bool
  | 0, _ => []
  | k + 1, x => (x / 2 ^ k % 2 == 1) :: bitsN k x
theorem val_from : ∀ (l : List Bool) (x : Nat), l.foldl (fun x b => 2 * x + b.toNat) x = x * 2 ^ l.length + val l
  | [], x => by simp [val]
  | b :: l, x => by
    unfold val
    rw [List.foldl_cons, List.foldl_cons, val_from l, val_from l (2 * 0 + b.toNat), List.length_cons, Nat.pow_succ, Nat.add_mul, Nat.mul_comm 2 x, Nat.mul_assoc, Nat.mul_comm 2 (2 ^ l.length)]
    simp
    omega
theorem val_append (a b : List Bool) : val (a ++ b) = val a * 2 ^ b.length + val b := by
  show (a ++ b).foldl _ 0 = _
  rw [List.foldl_append, val_from]
  rfl
theorem val_cons (b : Bool) (l : List Bool) : val (b :: l) = b.toNat * 2 ^ l.length + val l := by
  have := val_append [b] l
  rw [List.singleton_append] at this
  rw [this]
  simp [val]
theorem val_lt : ∀ (l : List Bool), val l < 2 ^ l.length
  | [] => by simp [val]
  | b :: l => by
    have := val_lt l
    rw [val_cons, List.length_cons, Nat.pow_succ]
    cases b <;> simp <;> omega
theorem bitsN_len (k x : Nat) : (bitsN k x).length = k := by
  induction k with
  | zero => rfl
  | succ k ih => simp [bitsN, ih]
theorem val_bitsN (k x : Nat) : val (bitsN k x) = x % 2 ^ k := by
  induction k with
  | zero => simp [bitsN, val, Nat.mod_one]
  | succ k ih =>
    rw [bitsN, val_cons, ih, bitsN_len, Nat.pow_succ, Nat.mod_mul]
    rcases Nat.mod_two_eq_zero_or_one (x / 2 ^ k) with h | h <;> rw [h] <;> simp <;> omega
theorem val_inj : ∀ {a b : List Bool}, a.length = b.length → val a = val b → a = b
  | [], [], _, _ => rfl
  | [], _ :: _, h, _ => by simp at h
  | _ :: _, [], h, _ => by simp at h
  | x :: a, y :: b, h, hv => by
    have hl : a.length = b.length := by simpa using h
    rw [val_cons, val_cons, hl] at hv
    have ha := val_lt a
    have hb := val_lt b
    rw [hl] at ha
    have hp : 0 < 2 ^ b.length := Nat.pow_pos (by omega)
    have hxy : x = y := by cases x <;> cases y <;> simp at hv ⊢ <;> omega
    subst hxy
    rw [val_inj hl (by omega)]
theorem bitsN_val (l : List Bool) : bitsN l.length (val l) = l := val_inj (bitsN_len _ _) (by rw [val_bitsN, Nat.mod_eq_of_lt (val_lt l)])
theorem val_take (l : List Bool) (k : Nat) (hk : k ≤ l.length) : val (l.take k) = val l / 2 ^ (l.length - k) := by
  have h := val_append (l.take k) (l.drop k)
  rw [List.take_append_drop, List.length_drop] at h
  have hlt := val_lt (l.drop k)
  rw [List.length_drop] at hlt
  rw [h, Nat.mul_comm, Nat.mul_add_div (Nat.pow_pos (by omega)), Nat.div_eq_of_lt hlt, Nat.add_zero]
theorem val_drop (l : List Bool) (k : Nat) (hk : k ≤ l.length) : val (l.drop k) = val l % 2 ^ (l.length - k) := by
  have h := val_append (l.take k) (l.drop k)
  rw [List.take_append_drop, List.length_drop] at h
  have hlt := val_lt (l.drop k)
  rw [List.length_drop] at hlt
  rw [h, Nat.mul_comm, Nat.mul_add_mod, Nat.mod_eq_of_lt hlt]
theorem val_zeros (n : Nat) : val (List.replicate n false) = 0 := by
  induction n with
  | zero => rfl
  | succ n ih => rw [List.replicate_succ, val_cons, ih]; simp
theorem val_zero : ∀ (l : List Bool), val l = 0 → ∀ b ∈ l, b = false
  | [], _, b, hb => by cases hb
  | x :: l, h, b, hb => by
    rw [val_cons] at h
    have hp : 0 < 2 ^ l.length := Nat.pow_pos (by omega)
    have hx : x = false := by cases x <;> simp at h ⊢
    subst hx
    rcases List.mem_cons.1 hb with rfl | hb
    · rfl
    · exact val_zero l (by simpa using h) b hb
theorem val_step (l : List Bool) (b : Bool) : val (l ++ [b]) = 2 * val l + b.toNat := by
  rw [val_append]; simp [val]; omega
/-- the bits of bytes -/
def bits8 : List Int → List Bool
  | [] => []
  | c :: l => bitsN 8 c.toNat ++ bits8 l
theorem bits8_len : ∀ (l : List Int), (bits8 l).length = 8 * l.length
  | [] => rfl
  | c :: l => by rw [bits8, List.length_append, bitsN_len, bits8_len l, List.length_cons]; omega
theorem bits8_append : ∀ (a b : List Int), bits8 (a ++ b) = bits8 a ++ bits8 b
  | [], b => rfl
  | c :: a, b => by rw [List.cons_append, bits8, bits8, bits8_append a b, List.append_assoc]
/-- the digits of five bits, the last one filled up -/
def five : List Bool → List Nat
  | [] => []
  | a :: b :: c :: d :: e :: r => val [a, b, c, d, e] :: five r
  | [a, b, c, d] => [val [a, b, c, d] * 2]
  | [a, b, c] => [val [a, b, c] * 4]
  | [a, b] => [val [a, b] * 8]
  | [a] => [val [a] * 16]
theorem five_long (l : List Bool) (h : 5 ≤ l.length) : five l = val (l.take 5) :: five (l.drop 5) := by
  match l, h with
  | a :: b :: c :: d :: e :: r, _ => simp [five]
theorem five_short (l : List Bool) (h0 : 0 < l.length) (h : l.length < 5) : five l = [val l * 2 ^ (5 - l.length)] := by
  match l, h0, h with
  | [a], _, _ => rfl
  | [a, b], _, _ => rfl
  | [a, b, c], _, _ => rfl
  | [a, b, c, d], _, _ => rfl
theorem five_lt : ∀ (n : Nat) (l : List Bool), l.length ≤ n → ∀ d ∈ five l, d < 32
  | n, [], _, d, h => by simp [five] at h
  | n, [a], _, d, h => by simp [five] at h; have := val_lt [a]; simp at this; omega
  | n, [a, b], _, d, h => by simp [five] at h; have := val_lt [a, b]; simp at this; omega
  | n, [a, b, c], _, d, h => by simp [five] at h; have := val_lt [a, b, c]; simp at this; omega
  | n, [a, b, c, e], _, d, h => by simp [five] at h; have := val_lt [a, b, c, e]; simp at this; omega
  | 0, a :: b :: c :: f :: e :: r, hn, d, h => by simp at hn
  | n + 1, a :: b :: c :: f :: e :: r, hn, d, h => by
    rw [five] at h
    rcases List.mem_cons.1 h with rfl | h
    · have := val_lt [a, b, c, f, e]; simpa using this
    · exact five_lt n r (by simp at hn; omega) d h
theorem five_len (n : Nat) : ∀ (l : List Bool), l.length ≤ n → 5 * (five l).length < l.length + 5 ∧ l.length ≤ 5 * (five l).length := by
  induction n with
  | zero => intro l h; cases l with | nil => simp [five] | cons _ _ => simp at h
  | succ n ih =>
    intro l h
    by_cases h5 : 5 ≤ l.length
    · rw [five_long l h5]
      have := ih (l.drop 5) (by rw [List.length_drop]; omega)
      rw [List.length_drop] at this
      rw [List.length_cons]
      omega
    · by_cases h0 : 0 < l.length
      · rw [five_short l h0 (by omega)]; simp; omega
      · cases l with | nil => simp [five] | cons _ _ => simp at h0
/-- the bits of digits -/
def bits5 : List Nat → List Bool
  | [] => []
  | d :: l => bitsN 5 d ++ bits5 l
theorem bits5_len : ∀ (l : List Nat), (bits5 l).length = 5 * l.length
  | [] => rfl
  | c :: l => by rw [bits5, List.length_append, bitsN_len, bits5_len l, List.length_cons]; omega
theorem bits5_append : ∀ (a b : List Nat), bits5 (a ++ b) = bits5 a ++ bits5 b
  | [], b => rfl
  | c :: a, b => by rw [List.cons_append, bits5, bits5, bits5_append a b, List.append_assoc]
/-- the bytes of whole eights, and what is left -/
def eight : List Bool → List Int × List Bool
  | a :: b :: c :: d :: e :: f :: g :: h :: r => (((val [a, b, c, d, e, f, g, h] : Nat) : Int) :: (eight r).1, (eight r).2)
  | l => ([], l)
theorem eight_long (l : List Bool) (h : 8 ≤ l.length) : eight l = (((val (l.take 8) : Nat) : Int) :: (eight (l.drop 8)).1, (eight (l.drop 8)).2) := by
  match l, h with
  | a :: b :: c :: d :: e :: f :: g :: i :: r, _ => simp [eight]
theorem eight_short (l : List Bool) (h : l.length < 8) : eight l = ([], l) := by
  match l, h with
  | [], _ => rfl
  | [_], _ => rfl
  | [_, _], _ => rfl
  | [_, _, _], _ => rfl
  | [_, _, _, _], _ => rfl
  | [_, _, _, _, _], _ => rfl
  | [_, _, _, _, _, _], _ => rfl
  | [_, _, _, _, _, _, _], _ => rfl
theorem eight_fine (n : Nat) : ∀ (l : List Bool), l.length ≤ n → bits8 (eight l).1 ++ (eight l).2 = l ∧ (eight l).2.length < 8 ∧ Bytes (eight l).1 := by
  induction n with
  | zero => intro l h; cases l with | nil => exact ⟨rfl, by simp [eight], fun c hc => by simp [eight] at hc⟩ | cons _ _ => simp at h
  | succ n ih =>
    intro l h
    by_cases h8 : 8 ≤ l.length
    · rw [eight_long l h8]
      obtain ⟨h1, h2, h3⟩ := ih (l.drop 8) (by rw [List.length_drop]; omega)
      refine ⟨?_, h2, fun c hc => ?_⟩
      · show bitsN 8 (val (l.take 8) : Int).toNat ++ bits8 _ ++ _ = l
        have hb := bitsN_val (l.take 8)
        rw [List.length_take, Nat.min_eq_left h8] at hb
        rw [Int.toNat_natCast, hb, List.append_assoc, h1, List.take_append_drop]
      · rcases List.mem_cons.1 hc with rfl | hc
        · have := val_lt (l.take 8)
          rw [List.length_take, Nat.min_eq_left h8] at this
          omega
        · exact h3 c hc
    · rw [eight_short l (by omega)]
      exact ⟨rfl, by show l.length < 8; omega, fun c hc => by cases hc⟩
theorem eight_bits8 : ∀ (l : List Int) (r : List Bool), Bytes l → r.length < 8 → eight (bits8 l ++ r) = (l, r)
  | [], r, _, hr => eight_short r hr
  | c :: l, r, hl, hr => by
    have hc := hl c List.mem_cons_self
    have hlen : 8 ≤ (bits8 (c :: l) ++ r).length := by rw [List.length_append, bits8_len, List.length_cons]; omega
    rw [eight_long _ hlen, bits8, List.append_assoc]
    have ht : (bitsN 8 c.toNat ++ (bits8 l ++ r)).take 8 = bitsN 8 c.toNat := by
      have := @List.take_left _ (bitsN 8 c.toNat) (bits8 l ++ r)
      rwa [bitsN_len] at this
    have hd : (bitsN 8 c.toNat ++ (bits8 l ++ r)).drop 8 = bits8 l ++ r := by
      have := @List.drop_left _ (bitsN 8 c.toNat) (bits8 l ++ r)
      rwa [bitsN_len] at this
    rw [ht, hd, eight_bits8 l r (fun x hx => hl x (List.mem_cons_of_mem _ hx)) hr, val_bitsN]
    have : ((c.toNat % 2 ^ 8 : Nat) : Int) = c := by omega
    rw [this]
/-- digits back: the bits that they fill up -/
theorem five_back (n : Nat) : ∀ (l : List Bool), l.length ≤ n → ∃ z, z < 5 ∧ bits5 (five l) = l ++ List.replicate z false ∧ l.length + z = 5 * (five l).length := by
  induction n with
  | zero => intro l h; cases l with | nil => exact ⟨0, by omega, rfl, rfl⟩ | cons _ _ => simp at h
  | succ n ih =>
    intro l h
    by_cases h5 : 5 ≤ l.length
    · obtain ⟨z, hz, hb, hl⟩ := ih (l.drop 5) (by rw [List.length_drop]; omega)
      rw [five_long l h5]
      refine ⟨z, hz, ?_, ?_⟩
      · have hb5 := bitsN_val (l.take 5)
        rw [List.length_take, Nat.min_eq_left h5] at hb5
        rw [bits5, hb5, hb, ← List.append_assoc, List.take_append_drop]
      · rw [List.length_drop] at hl
        rw [List.length_cons]
        omega
    · by_cases h0 : 0 < l.length
      · rw [five_short l h0 (by omega)]
        refine ⟨5 - l.length, by omega, ?_, by simp; omega⟩
        rw [bits5, bits5, List.append_nil]
        have e : val (l ++ List.replicate (5 - l.length) false) = val l * 2 ^ (5 - l.length) := by rw [val_append, val_zeros, List.length_replicate, Nat.add_zero]
        rw [← e]
        have hb := bitsN_val (l ++ List.replicate (5 - l.length) false)
        rwa [List.length_append, List.length_replicate, show l.length + (5 - l.length) = 5 by omega] at hb
      · cases l with | nil => exact ⟨0, by omega, rfl, rfl⟩ | cons _ _ => simp at h0
theorem five_bits5 : ∀ (l : List Nat), (∀ d ∈ l, d < 32) → five (bits5 l) = l
  | [], _ => rfl
  | d :: l, h => by
    have hd := h d List.mem_cons_self
    rw [five_long _ (by rw [bits5_len, List.length_cons]; omega), bits5]
    have ht : (bitsN 5 d ++ bits5 l).take 5 = bitsN 5 d := by
      have := @List.take_left _ (bitsN 5 d) (bits5 l)
      rwa [bitsN_len] at this
    have hdr : (bitsN 5 d ++ bits5 l).drop 5 = bits5 l := by
      have := @List.drop_left _ (bitsN 5 d) (bits5 l)
      rwa [bitsN_len] at this
    rw [ht, hdr, five_bits5 l (fun x hx => h x (List.mem_cons_of_mem _ hx)), val_bitsN, Nat.mod_eq_of_lt (by omega)]
/-- digits to bytes -/
def unS (ds : List Nat) : Option (List Int) := if (eight (bits5 ds)).2.length < 5 ∧ val (eight (bits5 ds)).2 = 0 then some (eight (bits5 ds)).1 else none
theorem unS_five (l : List Int) (hl : Bytes l) : unS (five (bits8 l)) = some l := by
  obtain ⟨z, hz, hb, _⟩ := five_back _ (bits8 l) (Nat.le_refl _)
  unfold unS
  rw [hb, eight_bits8 l _ hl (by rw [List.length_replicate]; omega)]
  rw [if_pos ⟨by rw [List.length_replicate]; omega, val_zeros z⟩]
theorem zeros_of : ∀ (l : List Bool), val l = 0 → l = List.replicate l.length false := fun l h => List.eq_replicate_iff.2 ⟨rfl, val_zero l h⟩
theorem five_pad (n : Nat) : ∀ (l : List Bool) (z : Nat), l.length ≤ n → z < 5 → (l.length + z) % 5 = 0 → five (l ++ List.replicate z false) = five l := by
  induction n with
  | zero =>
    intro l z h hz hm
    cases l with
    | nil => obtain rfl : z = 0 := by simp at hm; omega
             rfl
    | cons _ _ => simp at h
  | succ n ih =>
    intro l z h hz hm
    by_cases h5 : 5 ≤ l.length
    · have hlen : 5 ≤ (l ++ List.replicate z false).length := by rw [List.length_append]; omega
      rw [five_long _ hlen, five_long l h5, List.take_append_of_le_length h5, List.drop_append_of_le_length h5, ih (l.drop 5) z (by rw [List.length_drop]; omega) hz (by rw [List.length_drop]; omega)]
    · by_cases h0 : 0 < l.length
      · have hz5 : l.length + z = 5 := by omega
        rw [five_short l h0 (by omega), five_long _ (by rw [List.length_append, List.length_replicate]; omega)]
        have ht : (l ++ List.replicate z false).take 5 = l ++ List.replicate z false := List.take_of_length_le (by rw [List.length_append, List.length_replicate]; omega)
        have hd : (l ++ List.replicate z false).drop 5 = [] := List.drop_eq_nil_of_le (by rw [List.length_append, List.length_replicate]; omega)
        rw [ht, hd, five, val_append, val_zeros, List.length_replicate, show 5 - l.length = z by omega, Nat.add_zero]
      · cases l with
        | nil => obtain rfl : z = 0 := by simp at hm; omega
                 rfl
        | cons _ _ => simp at h0
theorem five_unS (ds : List Nat) (hd : ∀ d ∈ ds, d < 32) {l : List Int} (h : unS ds = some l) : five (bits8 l) = ds := by
  unfold unS at h
  split at h
  · rename_i hc
    obtain ⟨h1, h2, h3⟩ := eight_fine _ (bits5 ds) (Nat.le_refl _)
    cases h
    rw [zeros_of _ hc.2] at h1
    have hlen : (bits8 (eight (bits5 ds)).1).length + (eight (bits5 ds)).2.length = 5 * ds.length := by
      have := congrArg List.length h1
      rw [List.length_append, List.length_replicate, bits5_len] at this
      exact this
    rw [← five_pad _ _ (eight (bits5 ds)).2.length (Nat.le_refl _) hc.1 (by omega), h1, five_bits5 ds hd]
  · cases h
theorem unS_bytes {ds : List Nat} {l : List Int} (h : unS ds = some l) : Bytes l ∧ 8 * l.length ≤ 5 * ds.length := by
  unfold unS at h
  split at h
  · cases h
    obtain ⟨h1, h2, h3⟩ := eight_fine _ (bits5 ds) (Nat.le_refl _)
    have := congrArg List.length h1
    rw [List.length_append, bits8_len, bits5_len] at this
    exact ⟨h3, by omega⟩
  · cases h
end Go.Proofs.Ytejnficfhoekiaa.AM

/- The thirty two digits; texts. -/
namespace Go.Proofs.Ytejnficfhoekiaa.AM
open Go
set_option linter.unusedVariables false
set_option linter.unusedSimpArgs false
set_option maxRecDepth 100000
def digs : List Int := [113, 112, 122, 114, 121, 57, 120, 56, 103, 102, 50, 116, 118, 100, 119, 48, 115, 51, 106, 110, 53, 52, 107, 104, 99, 101, 54, 109, 117, 97, 55, 108]
def digI (d : Nat) : Int := digs.getD d 0
def digT (ds : List Nat) : List Int := ds.map digI
/-- which digit a byte is; -1: none -/
def dgt (c : Int) : Int := Lib.indexByte (strOfNums digs).data.toList c.toNat.toUInt8
abbrev digB : ByteArray := bs [113, 112, 122, 114, 121, 57, 120, 56, 103, 102, 50, 116, 118, 100, 119, 48, 115, 51, 106, 110, 53, 52, 107, 104, 99, 101, 54, 109, 117, 97, 55, 108]
theorem digB_eq : digB = strOfNums digs := by decide +kernel
theorem st_data (l : List Int) : (strOfNums l).data.toList = l.map fun n => UInt8.ofNat n.toNat := by rw [strOfNums_data]
theorem st_size (l : List Int) : (strOfNums l).size = l.length := by
  show (strOfNums l).data.size = _
  rw [← Array.length_toList, st_data, List.length_map]
theorem u8_nat {c : Int} (h : 0 ≤ c ∧ c ≤ 255) : ((UInt8.ofNat c.toNat).toNat : Int) = c := by
  simp only [UInt8.toNat_ofNat']
  omega
theorem st_get {l : List Int} (hl : Bytes l) {i : Nat} (hi : i < l.length) : ((strOfNums l).data.toList[i]?).map (fun b => AV.int .u8 (b.toNat : Int)) = some (u8 l[i]) := by
  rw [st_data, List.getElem?_map, List.getElem?_eq_getElem hi]
  simp only [Option.map_some, u8_nat (hl _ (List.getElem_mem hi))]
theorem st_els {l : List Int} (hl : Bytes l) : strEls (strOfNums l) = l.map u8 := by
  unfold strEls
  rw [st_data, List.map_map]
  refine List.map_congr_left fun c hc => ?_
  show AV.int .u8 _ = _
  rw [u8_nat (hl c hc)]
theorem st_of (s : ByteArray) : ∃ l, Bytes l ∧ s = strOfNums l := by
  refine ⟨s.data.toList.map fun b => (b.toNat : Int), fun c hc => ?_, ?_⟩
  · obtain ⟨b, _, rfl⟩ := List.mem_map.1 hc
    have := b.toNat_lt
    omega
  · apply ByteArray.ext
    apply Array.toList_inj.1
    rw [st_data, List.map_map]
    conv => lhs; rw [← List.map_id s.data.toList]
    refine List.map_congr_left fun b _ => ?_
    simp
theorem st_eq {a b : List Int} (ha : Bytes a) (hb : Bytes b) : abin .eql (.string (strOfNums a)) (.string (strOfNums b)) = some (.bool (decide (a = b))) := by
  simp only [abin, astr]
  congr 2
  by_cases h : a = b
  · subst h; simp
  · rw [decide_eq_false h, beq_eq_false_iff_ne]
    exact fun hh => h (str_inj ha hb hh)
theorem st_ne {a b : List Int} (ha : Bytes a) (hb : Bytes b) : abin .neq (.string (strOfNums a)) (.string (strOfNums b)) = some (.bool (!decide (a = b))) := by
  have := st_eq ha hb
  simp only [abin, astr, Option.some.injEq, Value.bool.injEq] at this ⊢
  rw [this]
theorem st_add {a b : List Int} (h : a.length + b.length ≤ 9223372036854775807) : abin .add (.string (strOfNums a)) (.string (strOfNums b)) = some (.string (strOfNums (a ++ b))) := by
  simp only [abin, astr, st_size, if_pos h, str_append]
theorem st_cut (l : List Int) (i j : Nat) : (strOfNums l).extract i j = strOfNums ((l.take j).drop i) := by
  apply ByteArray.ext
  apply Array.toList_inj.1
  rw [st_data]
  simp only [ByteArray.data_extract, Array.toList_extract, List.extract_eq_take_drop, st_data]
  rw [List.drop_take]
  simp [List.map_take, List.map_drop]
theorem digs_bytes : Bytes digs := by unfold Bytes; decide +kernel
theorem digI_byte (d : Nat) : 0 ≤ digI d ∧ digI d ≤ 255 := by
  by_cases h : d < digs.length
  · have := digs_bytes _ (List.getElem_mem h)
    unfold digI
    rw [List.getD_eq_getElem?_getD, List.getElem?_eq_getElem h]
    exact this
  · unfold digI
    rw [List.getD_eq_getElem?_getD, List.getElem?_eq_none (by omega)]
    simp
theorem digT_bytes (ds : List Nat) : Bytes (digT ds) := fun c hc => by
  obtain ⟨d, _, rfl⟩ := List.mem_map.1 hc
  exact digI_byte d
theorem get_dig {d : Nat} (h : d < 32) : (digB.data.toList[d]?).map (fun b => AV.int .u8 (b.toNat : Int)) = some (u8 (digI d)) := by
  rw [digB_eq]
  have := st_get digs_bytes (i := d) h
  rw [this]
  unfold digI
  rw [List.getD_eq_getElem?_getD, List.getElem?_eq_getElem h]
  rfl
theorem dgt_all : ∀ c : Fin 256, -1 ≤ dgt (c.val : Int) ∧ dgt (c.val : Int) < 32 ∧ (0 ≤ dgt (c.val : Int) → digI (dgt (c.val : Int)).toNat = c.val) ∧ (List.range 32).foldl (fun (d : Int) k => if digI k = c.val then (k : Int) else d) (-1) = dgt (c.val : Int) := by decide +kernel
theorem dgt_fine {c : Int} (h : 0 ≤ c ∧ c ≤ 255) : -1 ≤ dgt c ∧ dgt c < 32 ∧ (0 ≤ dgt c → digI (dgt c).toNat = c) ∧ (List.range 32).foldl (fun (d : Int) k => if digI k = c then (k : Int) else d) (-1) = dgt c := by
  have := dgt_all ⟨c.toNat, by omega⟩
  simp only [show ((c.toNat : Nat) : Int) = c by omega] at this
  exact this
theorem dgt_dig : ∀ d : Fin 32, dgt (digI d.val) = d.val := by decide +kernel
/-- the digits of a text -/
def undig : List Int → Option (List Nat)
  | [] => some []
  | c :: l => if dgt c < 0 then none else (undig l).map ((dgt c).toNat :: ·)
theorem undig_dig : ∀ (ds : List Nat), (∀ d ∈ ds, d < 32) → undig (digT ds) = some ds
  | [], _ => rfl
  | d :: ds, h => by
    have hd := dgt_dig ⟨d, h d List.mem_cons_self⟩
    simp only at hd
    show undig (digI d :: digT ds) = _
    rw [undig, hd, if_neg (by omega), undig_dig ds (fun x hx => h x (List.mem_cons_of_mem _ hx))]
    simp
theorem dig_undig : ∀ (l : List Int) (ds : List Nat), Bytes l → undig l = some ds → digT ds = l ∧ (∀ d ∈ ds, d < 32) ∧ ds.length = l.length
  | [], ds, _, h => by cases h; exact ⟨rfl, fun d hd => (by cases hd), rfl⟩
  | c :: l, ds, hl, h => by
    have hc := hl c List.mem_cons_self
    obtain ⟨h1, h2, h3, _⟩ := dgt_fine hc
    rw [undig] at h
    split at h
    · cases h
    · obtain ⟨r, hr, rfl⟩ := Option.map_eq_some_iff.1 h
      obtain ⟨g1, g2, g3⟩ := dig_undig l r (fun x hx => hl x (List.mem_cons_of_mem _ hx)) hr
      refine ⟨?_, fun d hd => ?_, by simp [g3]⟩
      · show digI _ :: digT r = _
        rw [h3 (by omega), g1]
      · rcases List.mem_cons.1 hd with rfl | hd
        · omega
        · exact g2 d hd
/-- bytes as a text of digits, and back -/
def digitsS (l : List Int) : List Int := digT (five (bits8 l))
def unS2 (s : List Int) : Option (List Int) := (undig s).bind unS
theorem unS2_digits (l : List Int) (hl : Bytes l) : unS2 (digitsS l) = some l := by
  unfold unS2 digitsS
  rw [undig_dig _ (five_lt _ _ (Nat.le_refl _)), Option.bind_some, unS_five l hl]
theorem digits_unS2 {s l : List Int} (hs : Bytes s) (h : unS2 s = some l) : digitsS l = s := by
  obtain ⟨ds, hd, hu⟩ := Option.bind_eq_some_iff.1 h
  obtain ⟨g1, g2, g3⟩ := dig_undig s ds hs hd
  unfold digitsS
  rw [five_unS ds g2 hu, g1]
theorem unS2_bytes {s l : List Int} (hs : Bytes s) (h : unS2 s = some l) : Bytes l ∧ 8 * l.length ≤ 5 * s.length := by
  obtain ⟨ds, hd, hu⟩ := Option.bind_eq_some_iff.1 h
  obtain ⟨g1, g2, g3⟩ := dig_undig s ds hs hd
  rw [← g3]
  exact unS_bytes hu
theorem digitsS_bytes (l : List Int) : Bytes (digitsS l) := digT_bytes _
theorem digitsS_len (l : List Int) : 5 * (digitsS l).length < 8 * l.length + 5 := by
  have := (five_len _ (bits8 l) (Nat.le_refl _)).1
  rw [bits8_len] at this
  unfold digitsS digT
  rw [List.length_map]
  exact this
end Go.Proofs.Ytejnficfhoekiaa.AM

/- invoice: invoices as plain values. -/
namespace Go.Proofs.Ytejnficfhoekiaa.AM
open Go
set_option maxRecDepth 100000
set_option maxHeartbeats 4000000
set_option linter.unusedSimpArgs false
set_option linter.unusedVariables false
abbrev H32 := {l : List Int // l.length = 32}
def zero32 : H32 := ⟨List.replicate 32 0, by simp⟩
/-- an invoice -/
@[ext] structure Iv where
  n : Int
  k : Int
  h : H32
  s : H32
  a : Int
  e : Int
  t : List Int
  deriving DecidableEq
def Iv.zero : Iv := ⟨0, 0, zero32, zero32, 0, 0, []⟩
def ivC (i : Iv) : List AV := i64 i.n :: i64 i.k :: (i.h.1.map u8 ++ (i.s.1.map u8 ++ [i64 i.a, i64 i.e, .sc (.string (strOfNums i.t))]))
def ivR (i : Iv) : List AV := [i64 i.a, i64 i.e, .sc (.string (strOfNums i.t))]
theorem l32 (x : H32) : (x.1.map u8).length = 32 := by rw [List.length_map]; exact x.2
theorem hg32 (x : H32) (r : List AV) (j : Nat) : (x.1.map u8 ++ r)[32 + j]? = r[j]? := by rw [List.getElem?_append_right (by rw [l32]; omega), l32]; congr 1; omega
theorem hd32 (x : H32) (r : List AV) (j : Nat) : (x.1.map u8 ++ r).drop (32 + j) = r.drop j := by rw [List.drop_append, List.drop_eq_nil_of_le (by rw [l32]; omega), l32, List.nil_append]; congr 1; omega
theorem ht32 (x : H32) (r : List AV) : (x.1.map u8 ++ r).take 32 = x.1.map u8 := List.take_left' (l32 x)
theorem hs32 (x : H32) (r : List AV) (j : Nat) (v : AV) : (x.1.map u8 ++ r).set (32 + j) v = x.1.map u8 ++ r.set j v := by rw [List.set_append_right _ _ (by rw [l32]; omega), l32]; congr 2; omega
theorem iv_len (i : Iv) : (ivC i).length = 69 := by simp only [ivC, List.length_cons, List.length_append, l32, List.length_nil]
theorem ig0 (i : Iv) : (ivC i)[0]? = some (i64 i.n) := rfl
theorem ig1 (i : Iv) : (ivC i)[1]? = some (i64 i.k) := rfl
theorem ig66 (i : Iv) : (ivC i)[66]? = some (i64 i.a) := (hg32 i.h _ 32).trans (hg32 i.s _ 0)
theorem ig67 (i : Iv) : (ivC i)[67]? = some (i64 i.e) := (hg32 i.h _ 33).trans (hg32 i.s _ 1)
theorem ig68 (i : Iv) : (ivC i)[68]? = some (.sc (.string (strOfNums i.t))) := (hg32 i.h _ 34).trans (hg32 i.s _ 2)
theorem id2 (i : Iv) : (ivC i).drop 2 = i.h.1.map u8 ++ (i.s.1.map u8 ++ ivR i) := rfl
theorem id34 (i : Iv) : (ivC i).drop 34 = i.s.1.map u8 ++ ivR i := hd32 i.h (i.s.1.map u8 ++ ivR i) 0
theorem id66 (i : Iv) : (ivC i).drop 66 = ivR i := by
  have h := congrArg (List.drop 32) (id34 i)
  rw [List.drop_drop] at h
  exact h.trans (hd32 i.s (ivR i) 0)
theorem id67 (i : Iv) : (ivC i).drop 67 = [i64 i.e, .sc (.string (strOfNums i.t))] := by
  have h := congrArg (List.drop 1) (id66 i)
  rw [List.drop_drop] at h
  exact h
theorem id68 (i : Iv) : (ivC i).drop 68 = [.sc (.string (strOfNums i.t))] := by
  have h := congrArg (List.drop 2) (id66 i)
  rw [List.drop_drop] at h
  exact h
theorem id0 (i : Iv) : (ivC i).drop 0 = ivC i := rfl
theorem id1 (i : Iv) : (ivC i).drop 1 = i64 i.k :: (i.h.1.map u8 ++ (i.s.1.map u8 ++ ivR i)) := rfl
theorem iR0 (i : Iv) : (ivR i)[0]? = some (i64 i.a) := rfl
theorem iR1 (i : Iv) : (ivR i)[1]? = some (i64 i.e) := rfl
theorem iR2 (i : Iv) : (ivR i)[2]? = some (.sc (.string (strOfNums i.t))) := rfl
theorem it2 (i : Iv) : ((ivC i).drop 2).take 32 = i.h.1.map u8 := ht32 i.h _
theorem it34 (i : Iv) : ((ivC i).drop 34).take 32 = i.s.1.map u8 := by rw [id34]; exact ht32 i.s _
theorem iset0 (i : Iv) (x : Int) : (ivC i).set 0 (i64 x) = ivC { i with n := x } := rfl
theorem iset1 (i : Iv) (x : Int) : (ivC i).set 1 (i64 x) = ivC { i with k := x } := rfl
theorem iset66 (i : Iv) (x : Int) : (ivC i).set 66 (i64 x) = ivC { i with a := x } := by
  have e1 := hs32 i.s (ivR i) 0 (i64 x)
  have e2 := (hs32 i.h (i.s.1.map u8 ++ ivR i) 32 (i64 x)).trans (congrArg _ e1)
  exact congrArg (fun z => i64 i.n :: i64 i.k :: z) e2
theorem iset67 (i : Iv) (x : Int) : (ivC i).set 67 (i64 x) = ivC { i with e := x } := by
  have e1 := hs32 i.s (ivR i) 1 (i64 x)
  have e2 := (hs32 i.h (i.s.1.map u8 ++ ivR i) 33 (i64 x)).trans (congrArg _ e1)
  exact congrArg (fun z => i64 i.n :: i64 i.k :: z) e2
theorem iset68 (i : Iv) (x : List Int) : (ivC i).set 68 (.sc (.string (strOfNums x))) = ivC { i with t := x } := by
  have e1 := hs32 i.s (ivR i) 2 (.sc (.string (strOfNums x)))
  have e2 := (hs32 i.h (i.s.1.map u8 ++ ivR i) 34 (.sc (.string (strOfNums x)))).trans (congrArg _ e1)
  exact congrArg (fun z => i64 i.n :: i64 i.k :: z) e2
theorem spl {cs xs : List AV} {o : Nat} (h : o + xs.length ≤ cs.length) : splice cs o xs = cs.take o ++ (xs ++ cs.drop (o + xs.length)) := by rw [← splice_eq h, setAt_sp h]
theorem ik34 (i : Iv) : (ivC i).take 34 = i64 i.n :: i64 i.k :: i.h.1.map u8 := congrArg (fun z => i64 i.n :: i64 i.k :: z) (ht32 i.h _)
theorem isp2 (i : Iv) (x : H32) : splice (ivC i) 2 (x.1.map u8) = ivC { i with h := x } := by
  rw [spl (by rw [l32, iv_len]; omega), l32, id34]; rfl
theorem isp34 (i : Iv) (x : H32) : splice (ivC i) 34 (x.1.map u8) = ivC { i with s := x } := by
  rw [spl (by rw [l32, iv_len]; omega), l32, id66, ik34]
  simp only [ivC, ivR, List.append_assoc, List.cons_append, List.nil_append]
theorem isp0 (i j : Iv) : splice (ivC i) 0 (ivC j) = ivC j := by
  rw [spl (by rw [iv_len, iv_len]; omega), iv_len, List.drop_eq_nil_of_le (by rw [iv_len]; omega), List.append_nil]; rfl
theorem isp32 (x y : H32) : splice (x.1.map u8) 0 (y.1.map u8) = y.1.map u8 := by
  rw [spl (by rw [l32, l32]; omega), l32, List.drop_eq_nil_of_le (by rw [l32]; omega), List.append_nil]; rfl
theorem itk (i : Iv) : (ivC i).take 69 = ivC i := List.take_of_length_le (by rw [iv_len]; omega)
theorem itk32 (x : H32) : (x.1.map u8).take 32 = x.1.map u8 := List.take_of_length_le (by rw [l32]; omega)
theorem bs_nil : bs [] = strOfNums [] := rfl
theorem z69 : ([(.int .i64 0), (.int .i64 0), (.int .u8 0), (.int .u8 0), (.int .u8 0), (.int .u8 0), (.int .u8 0), (.int .u8 0), (.int .u8 0), (.int .u8 0), (.int .u8 0), (.int .u8 0), (.int .u8 0), (.int .u8 0), (.int .u8 0), (.int .u8 0), (.int .u8 0), (.int .u8 0), (.int .u8 0), (.int .u8 0), (.int .u8 0), (.int .u8 0), (.int .u8 0), (.int .u8 0), (.int .u8 0), (.int .u8 0), (.int .u8 0), (.int .u8 0), (.int .u8 0), (.int .u8 0), (.int .u8 0), (.int .u8 0), (.int .u8 0), (.int .u8 0), (.int .u8 0), (.int .u8 0), (.int .u8 0), (.int .u8 0), (.int .u8 0), (.int .u8 0), (.int .u8 0), (.int .u8 0), (.int .u8 0), (.int .u8 0), (.int .u8 0), (.int .u8 0), (.int .u8 0), (.int .u8 0), (.int .u8 0), (.int .u8 0), (.int .u8 0), (.int .u8 0), (.int .u8 0), (.int .u8 0), (.int .u8 0), (.int .u8 0), (.int .u8 0), (.int .u8 0), (.int .u8 0), (.int .u8 0), (.int .u8 0), (.int .u8 0), (.int .u8 0), (.int .u8 0), (.int .u8 0), (.int .u8 0), (.int .i64 0), (.int .i64 0), (.sc (.string (strOfNums [])))] : List AV) = ivC Iv.zero := rfl
theorem z32 : ([(.int .u8 0), (.int .u8 0), (.int .u8 0), (.int .u8 0), (.int .u8 0), (.int .u8 0), (.int .u8 0), (.int .u8 0), (.int .u8 0), (.int .u8 0), (.int .u8 0), (.int .u8 0), (.int .u8 0), (.int .u8 0), (.int .u8 0), (.int .u8 0), (.int .u8 0), (.int .u8 0), (.int .u8 0), (.int .u8 0), (.int .u8 0), (.int .u8 0), (.int .u8 0), (.int .u8 0), (.int .u8 0), (.int .u8 0), (.int .u8 0), (.int .u8 0), (.int .u8 0), (.int .u8 0), (.int .u8 0), (.int .u8 0)] : List AV) = zero32.1.map u8 := rfl
theorem namL_appI {p : Nat → Bool} : ∀ (a b : List AV), namL p (a ++ b) = (namL p a && namL p b)
  | [], b => by simp [namL]
  | x :: a, b => by simp only [List.cons_append, namL, namL_appI a b, Bool.and_assoc]
theorem oneL_app : ∀ (a b : List AV), oneL (a ++ b) = (oneL a && oneL b)
  | [], b => by simp [oneL]
  | x :: a, b => by simp only [List.cons_append, oneL, oneL_app a b, Bool.and_assoc]
theorem oneL_u8I : ∀ (l : List Int), oneL (l.map u8) = true
  | [] => rfl
  | x :: l => by simp only [List.map_cons, oneL, oneL_u8I l, Bool.and_true]; rfl
theorem strip_u8 : ∀ (l : List Int), (l.map u8).map strip = l.map u8
  | [] => rfl
  | x :: l => by simp only [List.map_cons, strip_u8 l]; rfl
theorem namL_u8 (p : Nat → Bool) : ∀ (l : List Int), namL p (l.map u8) = true
  | [] => rfl
  | x :: l => by simp only [List.map_cons, namL, nam, namL_u8 p l, Bool.and_true]
theorem iv_nam (p : Nat → Bool) (i : Iv) : namL p (ivC i) = true := by
  simp only [ivC, namL, namL_appI, namL_u8, nam, Bool.true_and, Bool.and_true]
theorem iv_one (i : Iv) : oneL (ivC i) = true := by
  simp only [ivC, oneL, oneL_app, oneL_u8I, one_int, one_str, Bool.true_and, Bool.and_true]
theorem iv_strip (i : Iv) : (ivC i).map strip = ivC i := by
  simp only [ivC, List.map_cons, List.map_append, strip_u8, strip_sc, List.map_nil]
theorem iv_closed (i : Iv) : closedL (ivC i) = true := iv_nam _ i
theorem beqVL_app : ∀ (a b : List AV), beqVL a a = true → beqVL b b = true → beqVL (a ++ b) (a ++ b) = true
  | [], b, _, h => h
  | x :: a, b, h, k => by
    simp only [List.cons_append, beqVL, Bool.and_eq_true] at h ⊢
    exact ⟨h.1, beqVL_app a b h.2 k⟩
theorem beq_i64 (x : Int) : beqV (i64 x) (i64 x) = true := by simp [beqV, vEq]
theorem beq_str (x : ByteArray) : beqV (.sc (.string x)) (.sc (.string x)) = true := by simp [beqV, vEq]
theorem iv_beq (i : Iv) : beqVL (ivC i) (ivC i) = true := by
  simp only [ivC, beqVL, beq_i64, Bool.true_and]
  refine beqVL_app _ _ (beqVL_u8 _) (beqVL_app _ _ (beqVL_u8 _) ?_)
  simp only [beqVL, beq_i64, beq_str, Bool.and_self]
theorem rigidL_app : ∀ (a b : List AV), rigidL (a ++ b) = (rigidL a && rigidL b)
  | [], b => by simp [rigidL]
  | x :: a, b => by simp only [List.cons_append, rigidL, rigidL_app a b, Bool.and_assoc]
theorem rigidL_u8 : ∀ (l : List Int), rigidL (l.map u8) = true
  | [] => rfl
  | x :: l => by simp only [List.map_cons, rigidL, rigidL_u8 l, Bool.and_true]; rfl
theorem iv_rigid (i : Iv) : rigidL (ivC i) = true := by
  simp only [ivC, rigidL, rigidL_app, rigidL_u8, rigid, Bool.true_and, Bool.and_true]
theorem eqC : ∀ (a b : List Int), a.length = b.length → eqCells (a.map u8) (b.map u8) = some (decide (a = b))
  | [], [], _ => rfl
  | x :: a, y :: b, h => by
    simp only [List.map_cons, eqCells, if_true, eqC a b (by simpa using h), Option.map_some, Option.some.injEq]
    by_cases hx : x = y <;> by_cases ha : a = b <;> simp [hx, ha]
theorem eqC32 (x y : H32) : eqCells (x.1.map u8) (y.1.map u8) = some (decide (x = y)) := by
  rw [eqC _ _ (by rw [x.2, y.2])]
  congr 1
  by_cases h : x = y
  · simp [h]
  · have : ¬ x.1 = y.1 := fun hh => h (Subtype.ext hh)
    simp [h, this]
/-- how two invoices are compared -/
def ivK : List LK := .int :: .int :: (List.replicate 32 .int ++ (List.replicate 32 .int ++ [.int, .int, .str]))
theorem eqV_ints : ∀ (a b : List Int) (ks : List LK) (x y : List AV), a.length = b.length → eqAV (List.replicate a.length .int ++ ks) (a.map u8 ++ x) (b.map u8 ++ y) = (eqAV ks x y).map fun r => decide (a = b) && r
  | [], [], ks, x, y, _ => by cases h : eqAV ks x y <;> simp [h]
  | p :: a, q :: b, ks, x, y, h => by
    have ih := eqV_ints a b ks x y (by simpa using h)
    simp only [List.length_cons, List.replicate_succ, List.cons_append, List.map_cons, eqAV, if_true, ih, Option.map_map]
    congr 1
    funext r
    by_cases hx : p = q <;> by_cases ha : a = b <;> simp [hx, ha]
theorem iv_eq (i j : Iv) (hi : Bytes i.t) (hj : Bytes j.t) : eqAV ivK (ivC i) (ivC j) = some (decide (i = j)) := by
  have e1 := eqV_ints i.h.1 j.h.1 (List.replicate 32 .int ++ [.int, .int, .str]) (i.s.1.map u8 ++ ivR i) (j.s.1.map u8 ++ ivR j) (by rw [i.h.2, j.h.2])
  have e2 := eqV_ints i.s.1 j.s.1 [.int, .int, .str] (ivR i) (ivR j) (by rw [i.s.2, j.s.2])
  rw [i.h.2] at e1
  rw [i.s.2] at e2
  have e3 : eqAV [.int, .int, .str] (ivR i) (ivR j) = some (decide (i.a = j.a) && (decide (i.e = j.e) && decide (i.t = j.t))) := by
    simp only [ivR, eqAV, if_true, Option.map_some, Bool.and_true]
    congr 1
    have : ((strOfNums i.t).toList == (strOfNums j.t).toList) = decide (i.t = j.t) := by
      by_cases h : i.t = j.t
      · rw [h]; simp
      · rw [decide_eq_false h, beq_eq_false_iff_ne]
        exact fun hh => h (str_inj hi hj hh)
    rw [this]
    by_cases h1 : i.a = j.a <;> by_cases h2 : i.e = j.e <;> simp [h1, h2]
  show eqAV (.int :: .int :: (List.replicate 32 .int ++ (List.replicate 32 .int ++ [.int, .int, .str]))) (i64 i.n :: i64 i.k :: (i.h.1.map u8 ++ (i.s.1.map u8 ++ ivR i))) (i64 j.n :: i64 j.k :: (j.h.1.map u8 ++ (j.s.1.map u8 ++ ivR j))) = _
  simp only [eqAV, if_true, e1, e2, e3, Option.map_some, Option.some.injEq]
  obtain ⟨n, k, h, s, a, e, t⟩ := i
  obtain ⟨n', k', h', s', a', e', t'⟩ := j
  simp only [Iv.mk.injEq]
  by_cases q1 : n = n' <;> by_cases q2 : k = k' <;> by_cases q3 : h = h' <;> by_cases q4 : s = s' <;> by_cases q5 : a = a' <;> by_cases q6 : e = e' <;> by_cases q7 : t = t' <;> simp_all [Subtype.ext_iff]
theorem ivK_eq : ([.int, .int, .int, .int, .int, .int, .int, .int, .int, .int, .int, .int, .int, .int, .int, .int, .int, .int, .int, .int, .int, .int, .int, .int, .int, .int, .int, .int, .int, .int, .int, .int, .int, .int, .int, .int, .int, .int, .int, .int, .int, .int, .int, .int, .int, .int, .int, .int, .int, .int, .int, .int, .int, .int, .int, .int, .int, .int, .int, .int, .int, .int, .int, .int, .int, .int, .int, .int, .str] : List LK) = ivK := rfl
set_option linter.defProp false in
def wV := (And.intro (And.intro (And.intro (And.intro (And.intro @z69 @z32) (And.intro @bs_nil @iv_strip)) (And.intro (And.intro @iv_one @iv_nam) (And.intro @iv_closed (And.intro @iv_rigid @iv_len)))) (And.intro (And.intro (And.intro @ig0 @ig1) (And.intro @ig66 (And.intro @ig67 @ig68))) (And.intro (And.intro @iR0 @iR1) (And.intro @iR2 (And.intro @id0 @id1))))) (And.intro (And.intro (And.intro (And.intro @id2 @id34) (And.intro @id66 (And.intro @id67 @id68))) (And.intro (And.intro @it2 @it34) (And.intro @itk (And.intro @itk32 @iset0)))) (And.intro (And.intro (And.intro @iset1 @iset66) (And.intro @iset67 (And.intro @iset68 @isp0))) (And.intro (And.intro @isp2 @isp34) (And.intro @isp32 (And.intro @l32 @ht32))))))
end Go.Proofs.Ytejnficfhoekiaa.AM

/- invoice: May. -/
namespace Go.Proofs.Ytejnficfhoekiaa.AM
open Go
set_option maxRecDepth 100000
set_option maxHeartbeats 4000000
set_option linter.unusedSimpArgs false
set_option linter.unusedVariables false
def okT (t : List Int) : Prop := ∀ c ∈ t, 32 ≤ c ∧ c ≤ 126
instance (t : List Int) : Decidable (okT t) := by unfold okT; infer_instance
def MayI (i : Iv) : Prop := 0 ≤ i.n ∧ i.n ≤ 7 ∧ 1 ≤ i.k ∧ i.k ≤ 3 ∧ 1 ≤ i.a ∧ 0 ≤ i.e ∧ i.e ≤ 2147483647 ∧ (i.h = zero32 ↔ i.k = 3) ∧ i.t.length ≤ 64 ∧ okT i.t
instance (i : Iv) : Decidable (MayI i) := by unfold MayI; infer_instance
theorem call_within (x a b : Int) (h : Heap) : ag T 24 [i64 x, i64 a, i64 b] h = some (.bool (decide (a ≤ x) && decide (x ≤ b)), h) := by
  refine call_sc rfl t24 rfl rfl rfl rfl ?_
  refine WP_eq (prun_wp ?_)
  first | have hb := hb | have hb := trivial
  repeat' (first | (simp -implicitDefEqProofs (disch := omega) only [hb, F24, wC, initE, aop, Nat.reduceEqDiff, ↓reduceIte, Nat.reduceAdd, finish, resOf, tupOf, AM.freeze, freeze1, freezeL, closed, nam, namL, if_true, if_false, deref, boxAt, exAt, ldCells, oneL, oneCell, Nat.reduceLeDiff, evL, adopt, rigid, rigidL, trim, Int.reduceEq, Int.reduceMod, Int.reduceDiv, if_pos, if_neg, asI, forall_const, implies_true, chkD, chkO, chkW, effB, reB, vEq, beq_self_eq_true, Nat.reduceSub, Nat.reduceLT, Int.reduceSub, Int.reduceAdd, Int.reduceMul, Int.reduceLT, Int.reduceLE, Int.reduceToNat, optI, aslice, cutSl, cutMs, cutStr, cutOwn, cellsOf, one, elCells, lenOf, beqV, beqVL, strip, stripO, convS]) | ((first | rw [WP_condK] | rw [WP_opsG] | rw [WP_quiG] | rw [WP_dG]); refine And.intro (fun hb => ?_) (fun hb => ?_) <;> (first | have hd := dq1 hb | have hd := dq2 hb | have hd := dq3 hb | have hd := dq4 hb | skip)))
  all_goals simp_all
theorem okT_bad {t : List Int} {j : Nat} (h : j < t.length) (hb : t[j] < 32 ∨ 126 < t[j]) : ¬ okT t := fun hh => by
  have := hh _ (List.getElem_mem h)
  omega
theorem okT_all {t : List Int} (h : ∀ j (hj : j < t.length), 32 ≤ t[j] ∧ t[j] ≤ 126) : okT t := fun c hc => by
  obtain ⟨j, hj, rfl⟩ := List.mem_iff_getElem.1 hc
  exact h j hj
theorem may_bool (i : Iv) (q1 : 0 ≤ i.n) (q2 : i.n ≤ 7) (q3 : 1 ≤ i.k) (q4 : i.k ≤ 3) (q5 : 1 ≤ i.a) (q6 : 0 ≤ i.e) (q7 : i.e ≤ 2147483647) (q9 : i.t.length ≤ 64) (q10 : okT i.t) : (decide (i.h = zero32) == decide (i.k = 3)) = decide (MayI i) := by
  by_cases h1 : i.h = zero32 <;> by_cases h2 : i.k = 3
  · rw [decide_eq_true h1, decide_eq_true h2, decide_eq_true (show MayI i from ⟨q1, q2, q3, q4, q5, q6, q7, ⟨fun _ => h2, fun _ => h1⟩, q9, q10⟩)]; rfl
  · rw [decide_eq_true h1, decide_eq_false h2, decide_eq_false (fun h : MayI i => h2 (h.2.2.2.2.2.2.2.1.1 h1))]; rfl
  · rw [decide_eq_false h1, decide_eq_true h2, decide_eq_false (fun h : MayI i => h1 (h.2.2.2.2.2.2.2.1.2 h2))]; rfl
  · rw [decide_eq_false h1, decide_eq_false h2, decide_eq_true (show MayI i from ⟨q1, q2, q3, q4, q5, q6, q7, ⟨fun h => absurd h h1, fun h => absurd h h2⟩, q9, q10⟩)]; rfl
theorem may_ok (i : Iv) (ht : Bytes i.t) (hn : i.t.length ≤ 140737488351232) : prun T F9 [.agg (ivC i)] = some (.sc (.bool (decide (MayI i)))) := by
  refine WP_eq (prun_wp ?_)
  have e1 := st_size i.t
  have e2 := st_els ht
  have e3 := eqC32 i.h zero32
  first | have hb := hb | have hb := trivial
  repeat' (first | (simp -implicitDefEqProofs (disch := omega) only [hb, F9, wV, call_within, e1, e2, wC, wO, initE, aop, Nat.reduceEqDiff, ↓reduceIte, Nat.reduceAdd, finish, resOf, tupOf, AM.freeze, freeze1, freezeL, closed, nam, namL, if_true, if_false, deref, boxAt, exAt, ldCells, oneL, oneCell, Nat.reduceLeDiff, evL, adopt, rigid, rigidL, trim, Int.reduceEq, Int.reduceMod, Int.reduceDiv, if_pos, if_neg, asI, forall_const, implies_true, chkD, chkO, chkW, effB, reB, vEq, beq_self_eq_true, Nat.reduceSub, Nat.reduceLT, Int.reduceSub, Int.reduceAdd, Int.reduceMul, Int.reduceLT, Int.reduceLE, Int.reduceToNat, optI, aslice, cutSl, cutMs, cutStr, cutOwn]) | ((first | rw [WP_condK] | rw [WP_opsG] | rw [WP_quiG] | rw [WP_dG]); refine And.intro (fun hb => ?_) (fun hb => ?_) <;> (first | have hd := dq1 hb | have hd := dq2 hb | have hd := dq3 hb | have hd := dq4 hb | skip)))
  · refine congrArg (fun b => AV.sc (Value.bool b)) (Eq.symm (decide_eq_false ?_))
    rintro ⟨q1, q2, q3, q4, q5, q6, q7, q8, q9, q10⟩
    omega
  · rename_i b0 b1 b2 b3 b4 b5
    simp only [Bool.not_eq_false', Bool.and_eq_true, decide_eq_true_eq, decide_eq_false_iff_not] at b1 b2 b5
    refine WP_loop (I := fun k e h => ∃ (j : Nat), k + j = i.t.length ∧ j ≤ i.t.length ∧ h = [.row none i.t.length] ∧ getE e 1 = .ref (ivC i) ∧ getE e 34 = .slice (.tok 0) none (i.t.map u8) ∧ getE e 35 = i64 i.t.length ∧ getE e 36 = i64 j ∧ ∀ j' (hj : j' < i.t.length), j' < j → 32 ≤ i.t[j'] ∧ i.t[j'] ≤ 126) ?_ i.t.length _ _ ?_
    rotate_left
    · exact ⟨0, by omega, by omega, rfl, rfl, rfl, rfl, rfl, fun j' hj h0 => by omega⟩
    rintro k e h ⟨j, hk, hj, rfl, h1, h34, h35, h36, hall⟩
    rw [trim_same' (by simp)]
    by_cases hlt : j < i.t.length
    · have hg := get_u8 (l := i.t) (i := j) hlt
      by_cases h32 : i.t[j] < 32
      · first | have hb := hb | have hb := trivial
        repeat' (first | (simp -implicitDefEqProofs (disch := omega) only [hb, L9_0, h1, h34, h35, h36, hg, wC, wO, initE, aop, Nat.reduceEqDiff, ↓reduceIte, Nat.reduceAdd, finish, resOf, tupOf, AM.freeze, freeze1, freezeL, closed, nam, namL, if_true, if_false, deref, boxAt, exAt, ldCells, oneL, oneCell, Nat.reduceLeDiff, evL, adopt, rigid, rigidL, trim, Int.reduceEq, Int.reduceMod, Int.reduceDiv, if_pos, if_neg, asI, forall_const, implies_true, chkD, chkO, chkW, effB, reB, vEq, beq_self_eq_true, Nat.reduceSub, Nat.reduceLT, Int.reduceSub, Int.reduceAdd, Int.reduceMul, Int.reduceLT, Int.reduceLE, Int.reduceToNat, optI, aslice, cutSl, cutMs, cutStr, cutOwn]) | ((first | rw [WP_condK] | rw [WP_opsG] | rw [WP_quiG] | rw [WP_dG]); refine And.intro (fun hb => ?_) (fun hb => ?_) <;> (first | have hd := dq1 hb | have hd := dq2 hb | have hd := dq3 hb | have hd := dq4 hb | skip)))
        refine congrArg (fun b => AV.sc (Value.bool b)) (Eq.symm (decide_eq_false ?_))
        rintro ⟨q1, q2, q3, q4, q5, q6, q7, q8, q9, q10⟩
        exact okT_bad hlt (.inl h32) q10
      · by_cases h126 : i.t[j] > 126
        · first | have hb := hb | have hb := trivial
          repeat' (first | (simp -implicitDefEqProofs (disch := omega) only [hb, L9_0, h1, h34, h35, h36, hg, wC, wO, initE, aop, Nat.reduceEqDiff, ↓reduceIte, Nat.reduceAdd, finish, resOf, tupOf, AM.freeze, freeze1, freezeL, closed, nam, namL, if_true, if_false, deref, boxAt, exAt, ldCells, oneL, oneCell, Nat.reduceLeDiff, evL, adopt, rigid, rigidL, trim, Int.reduceEq, Int.reduceMod, Int.reduceDiv, if_pos, if_neg, asI, forall_const, implies_true, chkD, chkO, chkW, effB, reB, vEq, beq_self_eq_true, Nat.reduceSub, Nat.reduceLT, Int.reduceSub, Int.reduceAdd, Int.reduceMul, Int.reduceLT, Int.reduceLE, Int.reduceToNat, optI, aslice, cutSl, cutMs, cutStr, cutOwn]) | ((first | rw [WP_condK] | rw [WP_opsG] | rw [WP_quiG] | rw [WP_dG]); refine And.intro (fun hb => ?_) (fun hb => ?_) <;> (first | have hd := dq1 hb | have hd := dq2 hb | have hd := dq3 hb | have hd := dq4 hb | skip)))
          refine congrArg (fun b => AV.sc (Value.bool b)) (Eq.symm (decide_eq_false ?_))
          rintro ⟨q1, q2, q3, q4, q5, q6, q7, q8, q9, q10⟩
          exact okT_bad hlt (.inr h126) q10
        · first | have hb := hb | have hb := trivial
          repeat' (first | (simp -implicitDefEqProofs (disch := omega) only [hb, L9_0, h1, h34, h35, h36, hg, wC, wO, initE, aop, Nat.reduceEqDiff, ↓reduceIte, Nat.reduceAdd, finish, resOf, tupOf, AM.freeze, freeze1, freezeL, closed, nam, namL, if_true, if_false, deref, boxAt, exAt, ldCells, oneL, oneCell, Nat.reduceLeDiff, evL, adopt, rigid, rigidL, trim, Int.reduceEq, Int.reduceMod, Int.reduceDiv, if_pos, if_neg, asI, forall_const, implies_true, chkD, chkO, chkW, effB, reB, vEq, beq_self_eq_true, Nat.reduceSub, Nat.reduceLT, Int.reduceSub, Int.reduceAdd, Int.reduceMul, Int.reduceLT, Int.reduceLE, Int.reduceToNat, optI, aslice, cutSl, cutMs, cutStr, cutOwn]) | ((first | rw [WP_condK] | rw [WP_opsG] | rw [WP_quiG] | rw [WP_dG]); refine And.intro (fun hb => ?_) (fun hb => ?_) <;> (first | have hd := dq1 hb | have hd := dq2 hb | have hd := dq3 hb | have hd := dq4 hb | skip)))
          refine ⟨k - 1, by omega, j + 1, by omega, by omega, rfl, fun j' hj' hlt' => ?_⟩
          by_cases hjj : j' = j
          · subst hjj; omega
          · exact hall j' hj' (by omega)
    · obtain rfl : j = i.t.length := by omega
      have e4 : i.h.val.length = 32 := i.h.2
      first | have hb := hb | have hb := trivial
      repeat' (first | (simp -implicitDefEqProofs (disch := omega) only [hb, L9_0, wV, e3, e4, rigidL_u8, rigid, h1, h34, h35, h36, wC, wO, initE, aop, Nat.reduceEqDiff, ↓reduceIte, Nat.reduceAdd, finish, resOf, tupOf, AM.freeze, freeze1, freezeL, closed, nam, namL, if_true, if_false, deref, boxAt, exAt, ldCells, oneL, oneCell, Nat.reduceLeDiff, evL, adopt, rigid, rigidL, trim, Int.reduceEq, Int.reduceMod, Int.reduceDiv, if_pos, if_neg, asI, forall_const, implies_true, chkD, chkO, chkW, effB, reB, vEq, beq_self_eq_true, Nat.reduceSub, Nat.reduceLT, Int.reduceSub, Int.reduceAdd, Int.reduceMul, Int.reduceLT, Int.reduceLE, Int.reduceToNat, optI, aslice, cutSl, cutMs, cutStr, cutOwn]) | ((first | rw [WP_condK] | rw [WP_opsG] | rw [WP_quiG] | rw [WP_dG]); refine And.intro (fun hb => ?_) (fun hb => ?_) <;> (first | have hd := dq1 hb | have hd := dq2 hb | have hd := dq3 hb | have hd := dq4 hb | skip)))
      refine congrArg (fun b => AV.sc (Value.bool b)) (may_bool i ?_ ?_ ?_ ?_ ?_ ?_ ?_ ?_ (okT_all fun j hj => hall j hj hj)) <;> omega
  · refine congrArg (fun b => AV.sc (Value.bool b)) (Eq.symm (decide_eq_false ?_))
    rintro ⟨q1, q2, q3, q4, q5, q6, q7, q8, q9, q10⟩
    simp at hb
    omega
  · refine congrArg (fun b => AV.sc (Value.bool b)) (Eq.symm (decide_eq_false ?_))
    rintro ⟨q1, q2, q3, q4, q5, q6, q7, q8, q9, q10⟩
    omega
  · refine congrArg (fun b => AV.sc (Value.bool b)) (Eq.symm (decide_eq_false ?_))
    rintro ⟨q1, q2, q3, q4, q5, q6, q7, q8, q9, q10⟩
    simp at hb
    omega
  · refine congrArg (fun b => AV.sc (Value.bool b)) (Eq.symm (decide_eq_false ?_))
    rintro ⟨q1, q2, q3, q4, q5, q6, q7, q8, q9, q10⟩
    simp at hb
    omega
theorem rmay_ok (i : Iv) (ht : Bytes i.t) (hn : i.t.length ≤ 140737488351232) : prun T F10 [.agg (ivC i)] = some (.sc (.bool (decide (MayI i)))) := by
  refine WP_eq (prun_wp ?_)
  have e1 := st_size i.t
  have e3 := eqC32 i.h zero32
  have e4 : i.h.val.length = 32 := i.h.2
  first | have hb := hb | have hb := trivial
  repeat' (first | (simp -implicitDefEqProofs (disch := omega) only [hb, F10, wV, e1, e3, e4, rigidL_u8, rigid, wC, wO, initE, aop, Nat.reduceEqDiff, ↓reduceIte, Nat.reduceAdd, finish, resOf, tupOf, AM.freeze, freeze1, freezeL, closed, nam, namL, if_true, if_false, deref, boxAt, exAt, ldCells, oneL, oneCell, Nat.reduceLeDiff, evL, adopt, rigid, rigidL, trim, Int.reduceEq, Int.reduceMod, Int.reduceDiv, if_pos, if_neg, asI, forall_const, implies_true, chkD, chkO, chkW, effB, reB, vEq, beq_self_eq_true, Nat.reduceSub, Nat.reduceLT, Int.reduceSub, Int.reduceAdd, Int.reduceMul, Int.reduceLT, Int.reduceLE, Int.reduceToNat, optI, aslice, cutSl, cutMs, cutStr, cutOwn]) | ((first | rw [WP_condK] | rw [WP_opsG] | rw [WP_quiG] | rw [WP_dG]); refine And.intro (fun hb => ?_) (fun hb => ?_) <;> (first | have hd := dq1 hb | have hd := dq2 hb | have hd := dq3 hb | have hd := dq4 hb | skip)))
  · refine congrArg (fun b => AV.sc (Value.bool b)) (Eq.symm (decide_eq_false ?_))
    rintro ⟨q1, q2, q3, q4, q5, q6, q7, q8, q9, q10⟩
    omega
  · refine WP_loop (I := fun k e h => ∃ (j : Nat), k + j = i.t.length ∧ j ≤ i.t.length ∧ h = [] ∧ getE e 1 = .ref (ivC i) ∧ getE e 3 = i64 j ∧ ∀ j' (hj : j' < i.t.length), j' < j → 32 ≤ i.t[j'] ∧ i.t[j'] ≤ 126) ?_ i.t.length _ _ ?_
    rotate_left
    · exact ⟨0, by omega, by omega, rfl, rfl, rfl, fun j' hj h0 => by omega⟩
    have hA := may_bool i (by omega) (by omega) (by omega) (by omega) (by omega) (by omega) (by omega) (by omega)
    rename_i b9 b0 hb
    rintro k e h ⟨j, hk, hj, rfl, h1, h3, hall⟩
    rw [trim_same' (by simp)]
    by_cases hlt : j < i.t.length
    · obtain ⟨w, f1, f2⟩ : ∃ w : UInt8, (strOfNums i.t).data.toList[j]? = some w ∧ (w.toNat : Int) = i.t[j] := by
        have hg := st_get ht hlt
        obtain ⟨w, hw, he⟩ := Option.map_eq_some_iff.1 hg
        exact ⟨w, hw, by simpa using he⟩
      by_cases h32 : i.t[j] < 32
      · first | have hb := hb | have hb := trivial
        repeat' (first | (simp -implicitDefEqProofs (disch := omega) only [hb, L10_0, wV, e1, h1, h3, f1, f2, wC, wO, initE, aop, Nat.reduceEqDiff, ↓reduceIte, Nat.reduceAdd, finish, resOf, tupOf, AM.freeze, freeze1, freezeL, closed, nam, namL, if_true, if_false, deref, boxAt, exAt, ldCells, oneL, oneCell, Nat.reduceLeDiff, evL, adopt, rigid, rigidL, trim, Int.reduceEq, Int.reduceMod, Int.reduceDiv, if_pos, if_neg, asI, forall_const, implies_true, chkD, chkO, chkW, effB, reB, vEq, beq_self_eq_true, Nat.reduceSub, Nat.reduceLT, Int.reduceSub, Int.reduceAdd, Int.reduceMul, Int.reduceLT, Int.reduceLE, Int.reduceToNat, optI, aslice, cutSl, cutMs, cutStr, cutOwn]) | ((first | rw [WP_condK] | rw [WP_opsG] | rw [WP_quiG] | rw [WP_dG]); refine And.intro (fun hb => ?_) (fun hb => ?_) <;> (first | have hd := dq1 hb | have hd := dq2 hb | have hd := dq3 hb | have hd := dq4 hb | skip)))
        refine congrArg (fun b => AV.sc (Value.bool b)) (Eq.symm (decide_eq_false ?_))
        rintro ⟨q1, q2, q3, q4, q5, q6, q7, q8, q9, q10⟩
        exact okT_bad hlt (.inl h32) q10
      · by_cases h126 : i.t[j] > 126
        · first | have hb := hb | have hb := trivial
          repeat' (first | (simp -implicitDefEqProofs (disch := omega) only [hb, L10_0, wV, e1, h1, h3, f1, f2, wC, wO, initE, aop, Nat.reduceEqDiff, ↓reduceIte, Nat.reduceAdd, finish, resOf, tupOf, AM.freeze, freeze1, freezeL, closed, nam, namL, if_true, if_false, deref, boxAt, exAt, ldCells, oneL, oneCell, Nat.reduceLeDiff, evL, adopt, rigid, rigidL, trim, Int.reduceEq, Int.reduceMod, Int.reduceDiv, if_pos, if_neg, asI, forall_const, implies_true, chkD, chkO, chkW, effB, reB, vEq, beq_self_eq_true, Nat.reduceSub, Nat.reduceLT, Int.reduceSub, Int.reduceAdd, Int.reduceMul, Int.reduceLT, Int.reduceLE, Int.reduceToNat, optI, aslice, cutSl, cutMs, cutStr, cutOwn]) | ((first | rw [WP_condK] | rw [WP_opsG] | rw [WP_quiG] | rw [WP_dG]); refine And.intro (fun hb => ?_) (fun hb => ?_) <;> (first | have hd := dq1 hb | have hd := dq2 hb | have hd := dq3 hb | have hd := dq4 hb | skip)))
          refine congrArg (fun b => AV.sc (Value.bool b)) (Eq.symm (decide_eq_false ?_))
          rintro ⟨q1, q2, q3, q4, q5, q6, q7, q8, q9, q10⟩
          exact okT_bad hlt (.inr h126) q10
        · first | have hb := hb | have hb := trivial
          repeat' (first | (simp -implicitDefEqProofs (disch := omega) only [hb, L10_0, wV, e1, h1, h3, f1, f2, wC, wO, initE, aop, Nat.reduceEqDiff, ↓reduceIte, Nat.reduceAdd, finish, resOf, tupOf, AM.freeze, freeze1, freezeL, closed, nam, namL, if_true, if_false, deref, boxAt, exAt, ldCells, oneL, oneCell, Nat.reduceLeDiff, evL, adopt, rigid, rigidL, trim, Int.reduceEq, Int.reduceMod, Int.reduceDiv, if_pos, if_neg, asI, forall_const, implies_true, chkD, chkO, chkW, effB, reB, vEq, beq_self_eq_true, Nat.reduceSub, Nat.reduceLT, Int.reduceSub, Int.reduceAdd, Int.reduceMul, Int.reduceLT, Int.reduceLE, Int.reduceToNat, optI, aslice, cutSl, cutMs, cutStr, cutOwn]) | ((first | rw [WP_condK] | rw [WP_opsG] | rw [WP_quiG] | rw [WP_dG]); refine And.intro (fun hb => ?_) (fun hb => ?_) <;> (first | have hd := dq1 hb | have hd := dq2 hb | have hd := dq3 hb | have hd := dq4 hb | skip)))
          refine ⟨k - 1, by omega, j + 1, by omega, by omega, rfl, fun j' hj' hlt' => ?_⟩
          by_cases hjj : j' = j
          · subst hjj; omega
          · exact hall j' hj' (by omega)
    · obtain rfl : j = i.t.length := by omega
      have hA := hA (okT_all fun j hj => hall j hj hj)
      first | have hb := hb | have hb := trivial
      repeat' (first | (simp -implicitDefEqProofs (disch := omega) only [hb, L10_0, wV, e1, h1, h3, wC, wO, initE, aop, Nat.reduceEqDiff, ↓reduceIte, Nat.reduceAdd, finish, resOf, tupOf, AM.freeze, freeze1, freezeL, closed, nam, namL, if_true, if_false, deref, boxAt, exAt, ldCells, oneL, oneCell, Nat.reduceLeDiff, evL, adopt, rigid, rigidL, trim, Int.reduceEq, Int.reduceMod, Int.reduceDiv, if_pos, if_neg, asI, forall_const, implies_true, chkD, chkO, chkW, effB, reB, vEq, beq_self_eq_true, Nat.reduceSub, Nat.reduceLT, Int.reduceSub, Int.reduceAdd, Int.reduceMul, Int.reduceLT, Int.reduceLE, Int.reduceToNat, optI, aslice, cutSl, cutMs, cutStr, cutOwn]) | ((first | rw [WP_condK] | rw [WP_opsG] | rw [WP_quiG] | rw [WP_dG]); refine And.intro (fun hb => ?_) (fun hb => ?_) <;> (first | have hd := dq1 hb | have hd := dq2 hb | have hd := dq3 hb | have hd := dq4 hb | skip)))
      have hE : decide (i.h = zero32) = decide (i.k = 3) := by assumption
      rw [← hA, hE]
      simp
  · refine congrArg (fun b => AV.sc (Value.bool b)) (Eq.symm (decide_eq_false ?_))
    rintro ⟨q1, q2, q3, q4, q5, q6, q7, q8, q9, q10⟩
    exact hd (decide_eq_decide.2 q8)
  · refine congrArg (fun b => AV.sc (Value.bool b)) (Eq.symm (decide_eq_false ?_))
    rintro ⟨q1, q2, q3, q4, q5, q6, q7, q8, q9, q10⟩
    omega
  · refine congrArg (fun b => AV.sc (Value.bool b)) (Eq.symm (decide_eq_false ?_))
    rintro ⟨q1, q2, q3, q4, q5, q6, q7, q8, q9, q10⟩
    omega
  · refine congrArg (fun b => AV.sc (Value.bool b)) (Eq.symm (decide_eq_false ?_))
    rintro ⟨q1, q2, q3, q4, q5, q6, q7, q8, q9, q10⟩
    omega
  · refine congrArg (fun b => AV.sc (Value.bool b)) (Eq.symm (decide_eq_false ?_))
    rintro ⟨q1, q2, q3, q4, q5, q6, q7, q8, q9, q10⟩
    omega
  · refine congrArg (fun b => AV.sc (Value.bool b)) (Eq.symm (decide_eq_false ?_))
    rintro ⟨q1, q2, q3, q4, q5, q6, q7, q8, q9, q10⟩
    omega
  · refine congrArg (fun b => AV.sc (Value.bool b)) (Eq.symm (decide_eq_false ?_))
    rintro ⟨q1, q2, q3, q4, q5, q6, q7, q8, q9, q10⟩
    omega
  · refine congrArg (fun b => AV.sc (Value.bool b)) (Eq.symm (decide_eq_false ?_))
    rintro ⟨q1, q2, q3, q4, q5, q6, q7, q8, q9, q10⟩
    omega
end Go.Proofs.Ytejnficfhoekiaa.AM

/- invoice's Digits. -/
namespace Go.Proofs.Ytejnficfhoekiaa.AM
open Go
set_option maxRecDepth 100000
set_option maxHeartbeats 4000000
set_option linter.unusedSimpArgs false
set_option linter.unusedVariables false
theorem shl_1 (n : Nat) (hn : n < 64) : abin .shl (.int .u64 1) (.int .i64 (n : Int)) = some (.int .u64 ((2 ^ n : Nat) : Int)) := by
  have h := shl_c .u64 .i64 1 n (by simp [IntKind.bits]; omega)
  have hp : (2 : Nat) ^ n < 2 ^ 64 := Nat.pow_lt_pow_right (by omega) hn
  have hp0 : 0 < (2 : Nat) ^ n := Nat.pow_pos (by omega)
  rw [h]
  have e : (1 : Int) * 2 ^ n = ((2 ^ n : Nat) : Int) := by rw [Int.one_mul, Int.natCast_pow]; rfl
  rw [e, IntWalk.u64_in _ ⟨by omega, by omega⟩]
theorem shr_n (k : IntKind) (x n : Nat) (hn : n ≤ k.bits) : abin .shr (.int k (x : Int)) (.int .i64 (n : Int)) = some (.int k ((x / 2 ^ n : Nat) : Int)) := by
  rw [shr_c k .i64 x n hn, Int.fdiv_eq_ediv_of_nonneg _ (by exact Int.pow_nonneg (by omega))]
  rw [Int.natCast_ediv, Int.natCast_pow]
  rfl
theorem and_mask (x n : Nat) (hx : x < 2 ^ 64) (hn : n < 64) : abin .and (.int .u64 (x : Int)) (.int .u64 (((2 ^ n : Nat) : Int) - 1)) = some (.int .u64 ((x % 2 ^ n : Nat) : Int)) := by
  simp only [abin, aint, abit, if_true, Option.map_some, Option.some.injEq, Value.int.injEq, true_and]
  have hp : (2 : Nat) ^ n < 2 ^ 64 := Nat.pow_lt_pow_right (by omega) hn
  have hp0 : 0 < (2 : Nat) ^ n := Nat.pow_pos (by omega)
  have e : (BitVec.ofInt IntKind.u64.bits (x : Int) &&& BitVec.ofInt IntKind.u64.bits (((2 ^ n : Nat) : Int) - 1)).toNat = x % 2 ^ n := by
    show (BitVec.ofInt 64 (x : Int) &&& BitVec.ofInt 64 (((2 ^ n : Nat) : Int) - 1)).toNat = _
    rw [BitVec.toNat_and, BitVec.toNat_ofInt, BitVec.toNat_ofInt]
    have e1 : ((x : Int) % (2 ^ 64 : Nat)).toNat = x := by omega
    have e2 : ((((2 ^ n : Nat) : Int) - 1) % (2 ^ 64 : Nat)).toNat = 2 ^ n - 1 := by omega
    rw [e1, e2, Nat.and_two_pow_sub_one_eq_mod]
  have hm : x % 2 ^ n < 2 ^ n := Nat.mod_lt _ hp0
  rw [e, IntKind.wrap_u64]
  omega
theorem and_31 (x : Nat) (hx : x < 2 ^ 64) : abin .and (.int .u64 (x : Int)) (.int .u64 31) = some (.int .u64 ((x % 32 : Nat) : Int)) := and_mask x 5 hx (by omega)
theorem or_low (x c k : Nat) (h : x * 2 ^ k + c < 2 ^ 64) (hc : c < 2 ^ k) : abin .or (.int .u64 ((x * 2 ^ k : Nat) : Int)) (.int .u64 (c : Int)) = some (.int .u64 ((x * 2 ^ k + c : Nat) : Int)) := by
  simp only [abin, aint, abit, if_true, Option.map_some, Option.some.injEq, Value.int.injEq, true_and]
  have e : (BitVec.ofInt IntKind.u64.bits ((x * 2 ^ k : Nat) : Int) ||| BitVec.ofInt IntKind.u64.bits (c : Int)).toNat = x * 2 ^ k + c := by
    show (BitVec.ofInt 64 ((x * 2 ^ k : Nat) : Int) ||| BitVec.ofInt 64 (c : Int)).toNat = _
    rw [BitVec.toNat_or, BitVec.toNat_ofInt, BitVec.toNat_ofInt]
    have e1 : (((x * 2 ^ k : Nat) : Int) % (2 ^ 64 : Nat)).toNat = x <<< k := by
      rw [Nat.shiftLeft_eq]
      omega
    have e2 : ((c : Int) % (2 ^ 64 : Nat)).toNat = c := by omega
    rw [e1, e2, ← Nat.shiftLeft_add_eq_or_of_lt hc, Nat.shiftLeft_eq]
  rw [e, IntKind.wrap_u64]
  omega
theorem shl_n (k2 : IntKind) (x n : Nat) (hn : n < 64) (hx : x * 2 ^ n < 2 ^ 64) : abin .shl (.int .u64 (x : Int)) (.int k2 (n : Int)) = some (.int .u64 ((x * 2 ^ n : Nat) : Int)) := by
  rw [shl_c .u64 k2 x n (by simp [IntKind.bits]; omega)]
  have e : (x : Int) * 2 ^ n = ((x * 2 ^ n : Nat) : Int) := by rw [Int.natCast_mul, Int.natCast_pow]; rfl
  rw [e, IntWalk.u64_in _ ⟨by omega, by omega⟩]
theorem get_dig2 {d : Nat} (h : d < 32) : ∃ w : UInt8, digB.data.toList[d]? = some w ∧ (w.toNat : Int) = digI d := by
  have hg := get_dig h
  obtain ⟨w, hw, he⟩ := Option.map_eq_some_iff.1 hg
  refine ⟨w, hw, ?_⟩
  simpa using he
theorem mod_div (x m : Nat) : x % 2 ^ (m + 5) / 2 ^ m = x / 2 ^ m % 32 := by
  rw [Nat.pow_add, Nat.mod_mul_right_div_self]
theorem digits_ok (b : List Int) (hb : Bytes b) (hn : b.length ≤ 1000000000000) : prun T F12 [.slice .none none (b.map u8)] = some (.sc (.string (strOfNums (digitsS b)))) := by
  refine WP_eq (prun_wp ?_)
  have hq : ((b.length : Int) * 8).tdiv 5 = ((8 * b.length / 5 : Nat) : Int) := by
    rw [Int.tdiv_eq_ediv_of_nonneg (by omega)]; omega
  first | have hb := hb | have hb := trivial
  repeat' (first | (simp -implicitDefEqProofs (disch := omega) only [hb, F12, hq, wC, initE, aop, Nat.reduceEqDiff, ↓reduceIte, Nat.reduceAdd, finish, resOf, tupOf, AM.freeze, freeze1, freezeL, closed, nam, namL, if_true, if_false, deref, boxAt, exAt, ldCells, oneL, oneCell, Nat.reduceLeDiff, evL, adopt, rigid, rigidL, trim, Int.reduceEq, Int.reduceMod, Int.reduceDiv, if_pos, if_neg, asI, forall_const, implies_true, chkD, chkO, chkW, effB, reB, vEq, beq_self_eq_true, Nat.reduceSub, Nat.reduceLT, Int.reduceSub, Int.reduceAdd, Int.reduceMul, Int.reduceLT, Int.reduceLE, Int.reduceToNat, optI, aslice, cutSl, cutMs, cutStr, cutOwn, cellsOf, one, elCells, lenOf, beqV, beqVL, strip, stripO, convS]) | ((first | rw [WP_condK] | rw [WP_opsG] | rw [WP_quiG] | rw [WP_dG]); refine And.intro (fun hb => ?_) (fun hb => ?_) <;> (first | have hd := dq1 hb | have hd := dq2 hb | have hd := dq3 hb | have hd := dq4 hb | skip)))
  refine WP_loop (I := fun k e h => ∃ (j : Nat) (p : List Bool) (out : List Int), k + j = b.length ∧ j ≤ b.length ∧ h = [.row none out.length] ∧ getE e 3 = .slice (.tok 0) none (out.map u8) ∧ getE e 4 = u64 ((val p : Nat) : Int) ∧ getE e 5 = i64 ((p.length : Nat) : Int) ∧ getE e 14 = .slice .none none (b.map u8) ∧ getE e 15 = i64 b.length ∧ getE e 16 = i64 j ∧ p.length < 5 ∧ digitsS b = out ++ digT (five (p ++ bits8 (b.drop j)))) ?_ b.length _ _ ?_
  rotate_left
  · exact ⟨0, [], [], by omega, by omega, rfl, rfl, rfl, rfl, rfl, rfl, rfl, by simp, rfl⟩
  rintro k e h ⟨j, p, out, hk, hj, rfl, h3, h4, h5, h14, h15, h16, hp5, hd⟩
  rw [trim_same' (by simp)]
  have hvp := val_lt p
  have hvp5 : val p < 16 := Nat.lt_of_lt_of_le hvp (Nat.pow_le_pow_right (by omega) (show p.length ≤ 4 by omega))
  by_cases hlt : j < b.length
  · have hg := get_u8 (l := b) (i := j) hlt
    obtain ⟨y0, y1⟩ := bytes_get hb (i := j) hlt
    obtain ⟨c, hc⟩ := Int.eq_ofNat_of_zero_le y0
    have hc255 : c < 256 := by omega
    obtain ⟨q, hq⟩ : ∃ q, q = p ++ bitsN 8 c := ⟨_, rfl⟩
    have hvq : val q = val p * 256 + c := by rw [hq, val_append, val_bitsN, bitsN_len, Nat.mod_eq_of_lt (by omega)]
    have hql : q.length = p.length + 8 := by rw [hq, List.length_append, bitsN_len]
    have hvq64 : val q < 4096 := by omega
    have hdq : digitsS b = out ++ digT (five (q ++ bits8 (b.drop (j + 1)))) := by
      rw [hd, List.drop_eq_getElem_cons hlt, bits8, hc, Int.toNat_natCast, hq, List.append_assoc]
    have e1 : abin .shl (.int .u64 (val p : Int)) (.int .u64 8) = some (.int .u64 ((val p * 2 ^ 8 : Nat) : Int)) := shl_n .u64 (val p) 8 (by omega) (by omega)
    have e2 := or_low (val p) c 8 (by omega) (by omega)
    rw [show val p * 2 ^ 8 + c = val q by omega] at e2
    rw [hc] at hg
    first | have hb := hb | have hb := trivial
    repeat' (first | (simp -implicitDefEqProofs (disch := omega) only [hb, L12_1, h3, h4, h5, h14, h15, h16, hg, e1, e2, wC, initE, aop, Nat.reduceEqDiff, ↓reduceIte, Nat.reduceAdd, finish, resOf, tupOf, AM.freeze, freeze1, freezeL, closed, nam, namL, if_true, if_false, deref, boxAt, exAt, ldCells, oneL, oneCell, Nat.reduceLeDiff, evL, adopt, rigid, rigidL, trim, Int.reduceEq, Int.reduceMod, Int.reduceDiv, if_pos, if_neg, asI, forall_const, implies_true, chkD, chkO, chkW, effB, reB, vEq, beq_self_eq_true, Nat.reduceSub, Nat.reduceLT, Int.reduceSub, Int.reduceAdd, Int.reduceMul, Int.reduceLT, Int.reduceLE, Int.reduceToNat, optI, aslice, cutSl, cutMs, cutStr, cutOwn, cellsOf, one, elCells, lenOf, beqV, beqVL, strip, stripO, convS]) | ((first | rw [WP_condK] | rw [WP_opsG] | rw [WP_quiG] | rw [WP_dG]); refine And.intro (fun hb => ?_) (fun hb => ?_) <;> (first | have hd := dq1 hb | have hd := dq2 hb | have hd := dq3 hb | have hd := dq4 hb | skip)))
    refine WP_loop (I := fun k2 e h => ∃ (n : Nat) (out2 : List Int), k2 = n / 5 ∧ n ≤ q.length ∧ h = [.row none out2.length] ∧ getE e 3 = .slice (.tok 0) none (out2.map u8) ∧ getE e 4 = u64 ((val q : Nat) : Int) ∧ getE e 5 = i64 ((n : Nat) : Int) ∧ getE e 14 = .slice .none none (b.map u8) ∧ getE e 15 = i64 b.length ∧ getE e 16 = i64 j ∧ digitsS b = out2 ++ digT (five (q.drop (q.length - n) ++ bits8 (b.drop (j + 1))))) ?_ (q.length / 5) _ _ ?_
    rotate_left
    · exact ⟨q.length, out, rfl, Nat.le_refl _, rfl, rfl, rfl, by rw [hql]; rfl, rfl, rfl, rfl, by rw [Nat.sub_self, List.drop_zero]; exact hdq⟩
    rintro k2 e h ⟨n, out2, hk2, hnq, rfl, h3, h4, h5, h14, h15, h16, hd2⟩
    rw [trim_same' (by simp)]
    have holen : out2.length ≤ 2 * b.length + 2 := by
      have h1 := congrArg List.length hd2
      rw [List.length_append] at h1
      have h2 := digitsS_len b
      omega
    by_cases hn5 : 5 ≤ n
    · obtain ⟨m, rfl⟩ : ∃ m, n = m + 5 := ⟨n - 5, by omega⟩
      have e1 : abin .shr (.int .u64 (val q : Int)) (.int .i64 (m : Int)) = some (.int .u64 ((val q / 2 ^ m : Nat) : Int)) := shr_n .u64 (val q) m (by simp [IntKind.bits]; omega)
      have hle : val q / 2 ^ m ≤ val q := Nat.div_le_self _ _
      have e2 := and_31 (val q / 2 ^ m) (by omega)
      obtain ⟨w, e3, e5⟩ := get_dig2 (d := val q / 2 ^ m % 32) (by omega)
      have e4 : (((m + 5 : Nat) : Int) - 5) = (m : Int) := by omega
      have ef : fitsB (out2.length + 1) 1 = true := by simp [fitsB]; omega
      first | have hb := hb | have hb := trivial
      repeat' (first | (simp -implicitDefEqProofs (disch := omega) only [hb, L12_0, h3, h4, h5, h14, h15, h16, e1, e2, e3, e5, e4, ef, aappend, elemsOf, setEls, elFits_sc, stripEl_sc, one_int, List.replicate_succ, List.replicate_zero, wC, initE, aop, Nat.reduceEqDiff, ↓reduceIte, Nat.reduceAdd, finish, resOf, tupOf, AM.freeze, freeze1, freezeL, closed, nam, namL, if_true, if_false, deref, boxAt, exAt, ldCells, oneL, oneCell, Nat.reduceLeDiff, evL, adopt, rigid, rigidL, trim, Int.reduceEq, Int.reduceMod, Int.reduceDiv, if_pos, if_neg, asI, forall_const, implies_true, chkD, chkO, chkW, effB, reB, vEq, beq_self_eq_true, Nat.reduceSub, Nat.reduceLT, Int.reduceSub, Int.reduceAdd, Int.reduceMul, Int.reduceLT, Int.reduceLE, Int.reduceToNat, optI, aslice, cutSl, cutMs, cutStr, cutOwn, cellsOf, one, elCells, lenOf, beqV, beqVL, strip, stripO, convS]) | ((first | rw [WP_condK] | rw [WP_opsG] | rw [WP_quiG] | rw [WP_dG]); refine And.intro (fun hb => ?_) (fun hb => ?_) <;> (first | have hd := dq1 hb | have hd := dq2 hb | have hd := dq3 hb | have hd := dq4 hb | skip)))
      refine ⟨m / 5, by omega, m, out2 ++ [digI (val q / 2 ^ m % 32)], rfl, by omega, by simp, by simp, rfl, ?_⟩
      rw [hd2]
      obtain ⟨R, hR⟩ : ∃ R, R = bits8 (b.drop (j + 1)) := ⟨_, rfl⟩
      rw [← hR]
      have hl5 : (q.drop (q.length - (m + 5))).length = m + 5 := by rw [List.length_drop]; omega
      rw [five_long (q.drop (q.length - (m + 5)) ++ R) (by rw [List.length_append]; omega), List.take_append_of_le_length (by omega), List.drop_append_of_le_length (by omega), List.drop_drop, show q.length - (m + 5) + 5 = q.length - m by omega]
      have hv : val ((q.drop (q.length - (m + 5))).take 5) = val q / 2 ^ m % 32 := by
        rw [val_take _ 5 (by omega), hl5, val_drop _ _ (by omega), show q.length - (q.length - (m + 5)) = m + 5 by omega, Nat.add_sub_cancel, mod_div]
      rw [hv]
      simp [digT]
    · have e1 := shl_1 n (by omega)
      have e2 := and_mask (val q) n (by omega) (by omega)
      have hp : (2 : Nat) ^ n < 2 ^ 64 := Nat.pow_lt_pow_right (by omega) (by omega)
      have hp0 : 0 < (2 : Nat) ^ n := Nat.pow_pos (by omega)
      first | have hb := hb | have hb := trivial
      repeat' (first | (simp -implicitDefEqProofs (disch := omega) only [hb, L12_0, h3, h4, h5, h14, h15, h16, e1, e2, wC, initE, aop, Nat.reduceEqDiff, ↓reduceIte, Nat.reduceAdd, finish, resOf, tupOf, AM.freeze, freeze1, freezeL, closed, nam, namL, if_true, if_false, deref, boxAt, exAt, ldCells, oneL, oneCell, Nat.reduceLeDiff, evL, adopt, rigid, rigidL, trim, Int.reduceEq, Int.reduceMod, Int.reduceDiv, if_pos, if_neg, asI, forall_const, implies_true, chkD, chkO, chkW, effB, reB, vEq, beq_self_eq_true, Nat.reduceSub, Nat.reduceLT, Int.reduceSub, Int.reduceAdd, Int.reduceMul, Int.reduceLT, Int.reduceLE, Int.reduceToNat, optI, aslice, cutSl, cutMs, cutStr, cutOwn, cellsOf, one, elCells, lenOf, beqV, beqVL, strip, stripO, convS]) | ((first | rw [WP_condK] | rw [WP_opsG] | rw [WP_quiG] | rw [WP_dG]); refine And.intro (fun hb => ?_) (fun hb => ?_) <;> (first | have hd := dq1 hb | have hd := dq2 hb | have hd := dq3 hb | have hd := dq4 hb | skip)))
      exact ⟨k - 1, by omega, j + 1, q.drop (q.length - n), out2, by omega, by omega, rfl, rfl, by rw [val_drop _ _ (by omega), show q.length - (q.length - n) = n by omega], by rw [List.length_drop, show q.length - (q.length - n) = n by omega], rfl, by rw [List.length_drop]; omega, hd2⟩
  · obtain rfl : j = b.length := by omega
    rw [List.drop_length, bits8, List.append_nil] at hd
    have holen : out.length ≤ 2 * b.length + 2 := by
      have h1 := congrArg List.length hd
      rw [List.length_append] at h1
      have h2 := digitsS_len b
      omega
    by_cases hp0 : 0 < p.length
    · have hpow : val p * 2 ^ (5 - p.length) < 32 := by
        have h2 : val p * 2 ^ (5 - p.length) < 2 ^ p.length * 2 ^ (5 - p.length) := Nat.mul_lt_mul_of_pos_right hvp (Nat.pow_pos (by omega))
        rwa [← Nat.pow_add, show p.length + (5 - p.length) = 5 by omega] at h2
      have e1 := shl_n .i64 (val p) (5 - p.length) (by omega) (by omega)
      rw [show ((5 - p.length : Nat) : Int) = 5 - (p.length : Int) by omega] at e1
      obtain ⟨w, e3, e5⟩ := get_dig2 hpow
      have ef : fitsB (out.length + 1) 1 = true := by simp [fitsB]; omega
      have e6 := byteEls_u8 (out ++ [digI (val p * 2 ^ (5 - p.length))])
      rw [List.map_append, List.map_singleton] at e6
      rw [five_short p hp0 hp5] at hd
      first | have hb := hb | have hb := trivial
      repeat' (first | (simp -implicitDefEqProofs (disch := omega) only [hb, L12_1, h3, h4, h5, h14, h15, h16, e1, e3, e5, ef, aappend, elemsOf, setEls, elFits_sc, stripEl_sc, one_int, List.replicate_succ, List.replicate_zero, convS_slice, e6, wC, initE, aop, Nat.reduceEqDiff, ↓reduceIte, Nat.reduceAdd, finish, resOf, tupOf, AM.freeze, freeze1, freezeL, closed, nam, namL, if_true, if_false, deref, boxAt, exAt, ldCells, oneL, oneCell, Nat.reduceLeDiff, evL, adopt, rigid, rigidL, trim, Int.reduceEq, Int.reduceMod, Int.reduceDiv, if_pos, if_neg, asI, forall_const, implies_true, chkD, chkO, chkW, effB, reB, vEq, beq_self_eq_true, Nat.reduceSub, Nat.reduceLT, Int.reduceSub, Int.reduceAdd, Int.reduceMul, Int.reduceLT, Int.reduceLE, Int.reduceToNat, optI, aslice, cutSl, cutMs, cutStr, cutOwn, cellsOf, one, elCells, lenOf, beqV, beqVL, strip, stripO, convS]) | ((first | rw [WP_condK] | rw [WP_opsG] | rw [WP_quiG] | rw [WP_dG]); refine And.intro (fun hb => ?_) (fun hb => ?_) <;> (first | have hd := dq1 hb | have hd := dq2 hb | have hd := dq3 hb | have hd := dq4 hb | skip)))
      rw [hd]
      rfl
    · have hpn : p = [] := List.length_eq_zero_iff.1 (by omega)
      subst hpn
      have e6 := byteEls_u8 out
      rw [five] at hd
      first | have hb := hb | have hb := trivial
      repeat' (first | (simp -implicitDefEqProofs (disch := omega) only [hb, L12_1, h3, h4, h5, h14, h15, h16, elemsOf, e6, wC, initE, aop, Nat.reduceEqDiff, ↓reduceIte, Nat.reduceAdd, finish, resOf, tupOf, AM.freeze, freeze1, freezeL, closed, nam, namL, if_true, if_false, deref, boxAt, exAt, ldCells, oneL, oneCell, Nat.reduceLeDiff, evL, adopt, rigid, rigidL, trim, Int.reduceEq, Int.reduceMod, Int.reduceDiv, if_pos, if_neg, asI, forall_const, implies_true, chkD, chkO, chkW, effB, reB, vEq, beq_self_eq_true, Nat.reduceSub, Nat.reduceLT, Int.reduceSub, Int.reduceAdd, Int.reduceMul, Int.reduceLT, Int.reduceLE, Int.reduceToNat, optI, aslice, cutSl, cutMs, cutStr, cutOwn, cellsOf, one, elCells, lenOf, beqV, beqVL, strip, stripO, convS]) | ((first | rw [WP_condK] | rw [WP_opsG] | rw [WP_quiG] | rw [WP_dG]); refine And.intro (fun hb => ?_) (fun hb => ?_) <;> (first | have hd := dq1 hb | have hd := dq2 hb | have hd := dq3 hb | have hd := dq4 hb | skip)))
      rw [hd]
      simp [digT]
end Go.Proofs.Ytejnficfhoekiaa.AM

/- invoice: numbers out of bytes; the reference's find. -/
namespace Go.Proofs.Ytejnficfhoekiaa.AM
open Go
set_option maxRecDepth 100000
set_option maxHeartbeats 4000000
set_option linter.unusedSimpArgs false
set_option linter.unusedVariables false
/-- the number of bytes, as it lies in an int -/
def numW (l : List Int) : Int := IntKind.i64.wrap (be l)
theorem wr_step (x c : Int) : IntKind.i64.wrap (IntKind.i64.wrap (IntKind.i64.wrap x * 256) + c) = IntKind.i64.wrap (x * 256 + c) := by
  simp only [IntKind.wrap_i64]
  omega
theorem wr_mul (x : Int) : IntKind.i64.wrap (IntKind.i64.wrap x * 256) = IntKind.i64.wrap (x * 256) := by
  simp only [IntKind.wrap_i64]
  omega
theorem or_i64 (y c : Int) (c0 : 0 ≤ c) (c1 : c ≤ 255) : abin .or (.int .i64 (IntKind.i64.wrap (y * 256))) (.int .i64 c) = some (.int .i64 (IntKind.i64.wrap (y * 256 + c))) := by
  obtain ⟨b, rfl⟩ := Int.eq_ofNat_of_zero_le c0
  simp only [abin, aint, abit, if_true, Option.map_some, Option.some.injEq, Value.int.injEq, true_and]
  obtain ⟨m, hm⟩ : ∃ m : Nat, (y % (2 ^ 56 : Nat)).toNat = m := ⟨_, rfl⟩
  have e : (BitVec.ofInt IntKind.i64.bits (IntKind.i64.wrap (y * 256)) ||| BitVec.ofInt IntKind.i64.bits (b : Int)).toNat = m * 256 + b := by
    show (BitVec.ofInt 64 (IntKind.i64.wrap (y * 256)) ||| BitVec.ofInt 64 (b : Int)).toNat = _
    rw [BitVec.toNat_or, BitVec.toNat_ofInt, BitVec.toNat_ofInt]
    have e1 : (IntKind.i64.wrap (y * 256) % (2 ^ 64 : Nat)).toNat = m <<< 8 := by
      rw [Nat.shiftLeft_eq, IntKind.wrap_i64]
      omega
    have e2 : ((b : Int) % (2 ^ 64 : Nat)).toNat = b := by omega
    rw [e1, e2, ← Nat.shiftLeft_add_eq_or_of_lt (show b < 2 ^ 8 by omega), Nat.shiftLeft_eq]
  rw [e, IntKind.wrap_i64, IntKind.wrap_i64]
  omega
theorem number_ok (l : List Int) (hl : Bytes l) (hn : l.length ≤ 4611686018427387904) : prun T F45 [.slice .none none (l.map u8)] = some (.sc (.int .i64 (numW l))) := by
  refine WP_eq (prun_wp ?_)
  first | have hb := hb | have hb := trivial
  repeat' (first | (simp -implicitDefEqProofs (disch := omega) only [hb, F45, wC, initE, aop, Nat.reduceEqDiff, ↓reduceIte, Nat.reduceAdd, finish, resOf, tupOf, AM.freeze, freeze1, freezeL, closed, nam, namL, if_true, if_false, deref, boxAt, exAt, ldCells, oneL, oneCell, Nat.reduceLeDiff, evL, adopt, rigid, rigidL, trim, Int.reduceEq, Int.reduceMod, Int.reduceDiv, if_pos, if_neg, asI, forall_const, implies_true, chkD, chkO, chkW, effB, reB, vEq, beq_self_eq_true, Nat.reduceSub, Nat.reduceLT, Int.reduceSub, Int.reduceAdd, Int.reduceMul, Int.reduceLT, Int.reduceLE, Int.reduceToNat, optI, aslice, cutSl, cutMs, cutStr, cutOwn, cellsOf, one, elCells, lenOf, beqV, beqVL, strip, stripO, convS]) | ((first | rw [WP_condK] | rw [WP_opsG] | rw [WP_quiG] | rw [WP_dG]); refine And.intro (fun hb => ?_) (fun hb => ?_) <;> (first | have hd := dq1 hb | have hd := dq2 hb | have hd := dq3 hb | have hd := dq4 hb | skip)))
  refine WP_loop (I := fun k e h => ∃ i : Nat, k + i = l.length ∧ i ≤ l.length ∧ h = [] ∧ getE e 3 = i64 (IntKind.i64.wrap (be (l.take i))) ∧ getE e 6 = .slice .none none (l.map u8) ∧ getE e 7 = i64 l.length ∧ getE e 8 = i64 i) ?_ l.length _ _ ?_
  rotate_left
  · exact ⟨0, by omega, by omega, rfl, rfl, rfl, rfl, rfl⟩
  rintro k e h ⟨i, hk, hi, rfl, h3, h6, h7, h8⟩
  rw [trim_same' (by simp)]
  by_cases hlt : i < l.length
  · have hg := get_u8 (l := l) (i := i) hlt
    obtain ⟨y0, y1⟩ := bytes_get hl (i := i) hlt
    obtain ⟨B, hB⟩ : ∃ B, be (l.take i) = B := ⟨_, rfl⟩
    have e3 := be_take_succ (s := l) (i := i) hlt
    rw [hB] at h3 e3
    have e1 : abin .shl (.int .i64 (IntKind.i64.wrap B)) (.int .u64 8) = some (.int .i64 (IntKind.i64.wrap (B * 256))) := by
      have := shl_c .i64 .u64 (IntKind.i64.wrap B) 8 (by simp [IntKind.bits])
      rw [show ((8 : Nat) : Int) = 8 from rfl] at this
      rw [this, show (2 : Int) ^ 8 = 256 by decide, wr_mul]
    have e2 := or_i64 B l[i] y0 y1
    first | have hb := hb | have hb := trivial
    repeat' (first | (simp -implicitDefEqProofs (disch := omega) only [hb, L45_0, h3, h6, h7, h8, hg, e1, e2, wC, initE, aop, Nat.reduceEqDiff, ↓reduceIte, Nat.reduceAdd, finish, resOf, tupOf, AM.freeze, freeze1, freezeL, closed, nam, namL, if_true, if_false, deref, boxAt, exAt, ldCells, oneL, oneCell, Nat.reduceLeDiff, evL, adopt, rigid, rigidL, trim, Int.reduceEq, Int.reduceMod, Int.reduceDiv, if_pos, if_neg, asI, forall_const, implies_true, chkD, chkO, chkW, effB, reB, vEq, beq_self_eq_true, Nat.reduceSub, Nat.reduceLT, Int.reduceSub, Int.reduceAdd, Int.reduceMul, Int.reduceLT, Int.reduceLE, Int.reduceToNat, optI, aslice, cutSl, cutMs, cutStr, cutOwn, cellsOf, one, elCells, lenOf, beqV, beqVL, strip, stripO, convS]) | ((first | rw [WP_condK] | rw [WP_opsG] | rw [WP_quiG] | rw [WP_dG]); refine And.intro (fun hb => ?_) (fun hb => ?_) <;> (first | have hd := dq1 hb | have hd := dq2 hb | have hd := dq3 hb | have hd := dq4 hb | skip)))
    exact ⟨k - 1, by omega, i + 1, by omega, by omega, by rw [e3], rfl⟩
  · obtain rfl : i = l.length := by omega
    rw [List.take_length] at h3
    first | have hb := hb | have hb := trivial
    repeat' (first | (simp -implicitDefEqProofs (disch := omega) only [hb, L45_0, h3, h6, h7, h8, wC, initE, aop, Nat.reduceEqDiff, ↓reduceIte, Nat.reduceAdd, finish, resOf, tupOf, AM.freeze, freeze1, freezeL, closed, nam, namL, if_true, if_false, deref, boxAt, exAt, ldCells, oneL, oneCell, Nat.reduceLeDiff, evL, adopt, rigid, rigidL, trim, Int.reduceEq, Int.reduceMod, Int.reduceDiv, if_pos, if_neg, asI, forall_const, implies_true, chkD, chkO, chkW, effB, reB, vEq, beq_self_eq_true, Nat.reduceSub, Nat.reduceLT, Int.reduceSub, Int.reduceAdd, Int.reduceMul, Int.reduceLT, Int.reduceLE, Int.reduceToNat, optI, aslice, cutSl, cutMs, cutStr, cutOwn, cellsOf, one, elCells, lenOf, beqV, beqVL, strip, stripO, convS]) | ((first | rw [WP_condK] | rw [WP_opsG] | rw [WP_quiG] | rw [WP_dG]); refine And.intro (fun hb => ?_) (fun hb => ?_) <;> (first | have hd := dq1 hb | have hd := dq2 hb | have hd := dq3 hb | have hd := dq4 hb | skip)))
    rfl
theorem rnumber_ok (l : List Int) (hl : Bytes l) (hn : l.length ≤ 4611686018427387904) : prun T F32 [.slice .none none (l.map u8)] = some (.sc (.int .i64 (numW l))) := by
  refine WP_eq (prun_wp ?_)
  first | have hb := hb | have hb := trivial
  repeat' (first | (simp -implicitDefEqProofs (disch := omega) only [hb, F32, wC, initE, aop, Nat.reduceEqDiff, ↓reduceIte, Nat.reduceAdd, finish, resOf, tupOf, AM.freeze, freeze1, freezeL, closed, nam, namL, if_true, if_false, deref, boxAt, exAt, ldCells, oneL, oneCell, Nat.reduceLeDiff, evL, adopt, rigid, rigidL, trim, Int.reduceEq, Int.reduceMod, Int.reduceDiv, if_pos, if_neg, asI, forall_const, implies_true, chkD, chkO, chkW, effB, reB, vEq, beq_self_eq_true, Nat.reduceSub, Nat.reduceLT, Int.reduceSub, Int.reduceAdd, Int.reduceMul, Int.reduceLT, Int.reduceLE, Int.reduceToNat, optI, aslice, cutSl, cutMs, cutStr, cutOwn, cellsOf, one, elCells, lenOf, beqV, beqVL, strip, stripO, convS]) | ((first | rw [WP_condK] | rw [WP_opsG] | rw [WP_quiG] | rw [WP_dG]); refine And.intro (fun hb => ?_) (fun hb => ?_) <;> (first | have hd := dq1 hb | have hd := dq2 hb | have hd := dq3 hb | have hd := dq4 hb | skip)))
  refine WP_loop (I := fun k e h => ∃ i : Nat, k + i = l.length ∧ i ≤ l.length ∧ h = [] ∧ getE e 0 = .slice .none none (l.map u8) ∧ getE e 3 = i64 (IntKind.i64.wrap (be (l.take i))) ∧ getE e 4 = i64 i) ?_ l.length _ _ ?_
  rotate_left
  · exact ⟨0, by omega, by omega, rfl, rfl, rfl, rfl⟩
  rintro k e h ⟨i, hk, hi, rfl, h0, h3, h4⟩
  rw [trim_same' (by simp)]
  by_cases hlt : i < l.length
  · have hg := get_u8 (l := l) (i := i) hlt
    obtain ⟨y0, y1⟩ := bytes_get hl (i := i) hlt
    obtain ⟨B, hB⟩ : ∃ B, be (l.take i) = B := ⟨_, rfl⟩
    have e3 := be_take_succ (s := l) (i := i) hlt
    rw [hB] at h3 e3
    have e1 := wr_step B l[i]
    first | have hb := hb | have hb := trivial
    repeat' (first | (simp -implicitDefEqProofs (disch := omega) only [hb, L32_0, h0, h3, h4, hg, e1, wC, initE, aop, Nat.reduceEqDiff, ↓reduceIte, Nat.reduceAdd, finish, resOf, tupOf, AM.freeze, freeze1, freezeL, closed, nam, namL, if_true, if_false, deref, boxAt, exAt, ldCells, oneL, oneCell, Nat.reduceLeDiff, evL, adopt, rigid, rigidL, trim, Int.reduceEq, Int.reduceMod, Int.reduceDiv, if_pos, if_neg, asI, forall_const, implies_true, chkD, chkO, chkW, effB, reB, vEq, beq_self_eq_true, Nat.reduceSub, Nat.reduceLT, Int.reduceSub, Int.reduceAdd, Int.reduceMul, Int.reduceLT, Int.reduceLE, Int.reduceToNat, optI, aslice, cutSl, cutMs, cutStr, cutOwn, cellsOf, one, elCells, lenOf, beqV, beqVL, strip, stripO, convS]) | ((first | rw [WP_condK] | rw [WP_opsG] | rw [WP_quiG] | rw [WP_dG]); refine And.intro (fun hb => ?_) (fun hb => ?_) <;> (first | have hd := dq1 hb | have hd := dq2 hb | have hd := dq3 hb | have hd := dq4 hb | skip)))
    exact ⟨k - 1, by omega, i + 1, by omega, by omega, by rw [e3], rfl⟩
  · obtain rfl : i = l.length := by omega
    rw [List.take_length] at h3
    first | have hb := hb | have hb := trivial
    repeat' (first | (simp -implicitDefEqProofs (disch := omega) only [hb, L32_0, h0, h3, h4, wC, initE, aop, Nat.reduceEqDiff, ↓reduceIte, Nat.reduceAdd, finish, resOf, tupOf, AM.freeze, freeze1, freezeL, closed, nam, namL, if_true, if_false, deref, boxAt, exAt, ldCells, oneL, oneCell, Nat.reduceLeDiff, evL, adopt, rigid, rigidL, trim, Int.reduceEq, Int.reduceMod, Int.reduceDiv, if_pos, if_neg, asI, forall_const, implies_true, chkD, chkO, chkW, effB, reB, vEq, beq_self_eq_true, Nat.reduceSub, Nat.reduceLT, Int.reduceSub, Int.reduceAdd, Int.reduceMul, Int.reduceLT, Int.reduceLE, Int.reduceToNat, optI, aslice, cutSl, cutMs, cutStr, cutOwn, cellsOf, one, elCells, lenOf, beqV, beqVL, strip, stripO, convS]) | ((first | rw [WP_condK] | rw [WP_opsG] | rw [WP_quiG] | rw [WP_dG]); refine And.intro (fun hb => ?_) (fun hb => ?_) <;> (first | have hd := dq1 hb | have hd := dq2 hb | have hd := dq3 hb | have hd := dq4 hb | skip)))
    rfl
/-- what the reference's find hands back -/
def findR (t n : Int) (l : List Rc) : AV := match findS t l with
  | some r => .tup [.slice .none none (r.v.map u8), .bool (decide (n < 0) || decide ((r.v.length : Int) = n))]
  | none => .tup [.nil, .bool false]
theorem rfind_ok (l : List Rc) (t n : Int) (hv : ∀ r ∈ l, r.v.length ≤ 140737488351232) (hn : l.length ≤ 140737488351232) : prun T F31 [.slice .none (some 2) (l.map Rc.av), u64 t, i64 n] = some (findR t n l) := by
  refine WP_eq (prun_wp ?_)
  first | have hb := hb | have hb := trivial
  repeat' (first | (simp -implicitDefEqProofs (disch := omega) only [hb, F31, wC, initE, aop, Nat.reduceEqDiff, ↓reduceIte, Nat.reduceAdd, finish, resOf, tupOf, AM.freeze, freeze1, freezeL, closed, nam, namL, if_true, if_false, deref, boxAt, exAt, ldCells, oneL, oneCell, Nat.reduceLeDiff, evL, adopt, rigid, rigidL, trim, Int.reduceEq, Int.reduceMod, Int.reduceDiv, if_pos, if_neg, asI, forall_const, implies_true, chkD, chkO, chkW, effB, reB, vEq, beq_self_eq_true, Nat.reduceSub, Nat.reduceLT, Int.reduceSub, Int.reduceAdd, Int.reduceMul, Int.reduceLT, Int.reduceLE, Int.reduceToNat, optI, aslice, cutSl, cutMs, cutStr, cutOwn, cellsOf, one, elCells, lenOf, beqV, beqVL, strip, stripO, convS]) | ((first | rw [WP_condK] | rw [WP_opsG] | rw [WP_quiG] | rw [WP_dG]); refine And.intro (fun hb => ?_) (fun hb => ?_) <;> (first | have hd := dq1 hb | have hd := dq2 hb | have hd := dq3 hb | have hd := dq4 hb | skip)))
  refine WP_loop (I := fun k e h => ∃ i : Nat, k + i = l.length ∧ i ≤ l.length ∧ h = [] ∧ getE e 0 = .slice .none (some 2) (l.map Rc.av) ∧ getE e 1 = u64 t ∧ getE e 2 = i64 n ∧ getE e 8 = i64 i ∧ findS t (l.take i) = none) ?_ l.length _ _ ?_
  rotate_left
  · exact ⟨0, by omega, by omega, rfl, rfl, rfl, rfl, rfl, rfl⟩
  rintro k e h ⟨i, hk, hi, rfl, h0, h1, h2, h8, hf⟩
  rw [trim_same' (by simp)]
  by_cases hlt : i < l.length
  · have hg := get_rc (l := l) (i := i) hlt
    by_cases heq : l[i].t = t
    · have hr := findS_hit hlt hf heq
      have hu := u8_closed l[i].v
      first | have hb := hb | have hb := trivial
      repeat' (first | (simp -implicitDefEqProofs (disch := omega) only [hb, L31_0, h0, h1, h2, h8, hg, heq, hu, wC, initE, aop, Nat.reduceEqDiff, ↓reduceIte, Nat.reduceAdd, finish, resOf, tupOf, AM.freeze, freeze1, freezeL, closed, nam, namL, if_true, if_false, deref, boxAt, exAt, ldCells, oneL, oneCell, Nat.reduceLeDiff, evL, adopt, rigid, rigidL, trim, Int.reduceEq, Int.reduceMod, Int.reduceDiv, if_pos, if_neg, asI, forall_const, implies_true, chkD, chkO, chkW, effB, reB, vEq, beq_self_eq_true, Nat.reduceSub, Nat.reduceLT, Int.reduceSub, Int.reduceAdd, Int.reduceMul, Int.reduceLT, Int.reduceLE, Int.reduceToNat, optI, aslice, cutSl, cutMs, cutStr, cutOwn, cellsOf, one, elCells, lenOf, beqV, beqVL, strip, stripO, convS]) | ((first | rw [WP_condK] | rw [WP_opsG] | rw [WP_quiG] | rw [WP_dG]); refine And.intro (fun hb => ?_) (fun hb => ?_) <;> (first | have hd := dq1 hb | have hd := dq2 hb | have hd := dq3 hb | have hd := dq4 hb | skip)))
      all_goals simp [findR, hr, hd]
    · have hr := findS_miss hlt hf heq
      first | have hb := hb | have hb := trivial
      repeat' (first | (simp -implicitDefEqProofs (disch := omega) only [hb, L31_0, h0, h1, h2, h8, hg, heq, wC, initE, aop, Nat.reduceEqDiff, ↓reduceIte, Nat.reduceAdd, finish, resOf, tupOf, AM.freeze, freeze1, freezeL, closed, nam, namL, if_true, if_false, deref, boxAt, exAt, ldCells, oneL, oneCell, Nat.reduceLeDiff, evL, adopt, rigid, rigidL, trim, Int.reduceEq, Int.reduceMod, Int.reduceDiv, if_pos, if_neg, asI, forall_const, implies_true, chkD, chkO, chkW, effB, reB, vEq, beq_self_eq_true, Nat.reduceSub, Nat.reduceLT, Int.reduceSub, Int.reduceAdd, Int.reduceMul, Int.reduceLT, Int.reduceLE, Int.reduceToNat, optI, aslice, cutSl, cutMs, cutStr, cutOwn, cellsOf, one, elCells, lenOf, beqV, beqVL, strip, stripO, convS]) | ((first | rw [WP_condK] | rw [WP_opsG] | rw [WP_quiG] | rw [WP_dG]); refine And.intro (fun hb => ?_) (fun hb => ?_) <;> (first | have hd := dq1 hb | have hd := dq2 hb | have hd := dq3 hb | have hd := dq4 hb | skip)))
      exact ⟨k - 1, by omega, i + 1, by omega, by omega, rfl, hr⟩
  · obtain rfl : i = l.length := by omega
    rw [List.take_length] at hf
    first | have hb := hb | have hb := trivial
    repeat' (first | (simp -implicitDefEqProofs (disch := omega) only [hb, L31_0, h0, h1, h2, h8, wC, initE, aop, Nat.reduceEqDiff, ↓reduceIte, Nat.reduceAdd, finish, resOf, tupOf, AM.freeze, freeze1, freezeL, closed, nam, namL, if_true, if_false, deref, boxAt, exAt, ldCells, oneL, oneCell, Nat.reduceLeDiff, evL, adopt, rigid, rigidL, trim, Int.reduceEq, Int.reduceMod, Int.reduceDiv, if_pos, if_neg, asI, forall_const, implies_true, chkD, chkO, chkW, effB, reB, vEq, beq_self_eq_true, Nat.reduceSub, Nat.reduceLT, Int.reduceSub, Int.reduceAdd, Int.reduceMul, Int.reduceLT, Int.reduceLE, Int.reduceToNat, optI, aslice, cutSl, cutMs, cutStr, cutOwn, cellsOf, one, elCells, lenOf, beqV, beqVL, strip, stripO, convS]) | ((first | rw [WP_condK] | rw [WP_opsG] | rw [WP_quiG] | rw [WP_dG]); refine And.intro (fun hb => ?_) (fun hb => ?_) <;> (first | have hd := dq1 hb | have hd := dq2 hb | have hd := dq3 hb | have hd := dq4 hb | skip)))
    simp [findR, hf]
end Go.Proofs.Ytejnficfhoekiaa.AM

/- the reference's Digits. -/
namespace Go.Proofs.Ytejnficfhoekiaa.AM
open Go
set_option maxRecDepth 100000
set_option maxHeartbeats 4000000
set_option linter.unusedSimpArgs false
set_option linter.unusedVariables false
theorem bitsN_get : ∀ (n x i : Nat), i < n → (bitsN n x)[i]? = some (x / 2 ^ (n - 1 - i) % 2 == 1)
  | 0, _, _, h => by omega
  | n + 1, x, 0, _ => by simp [bitsN]
  | n + 1, x, i + 1, h => by
    rw [bitsN, List.getElem?_cons_succ, bitsN_get n x i (by omega), show n + 1 - 1 - (i + 1) = n - 1 - i by omega]
theorem bits8_get : ∀ (l : List Int) (k : Nat) (h : k / 8 < l.length), (bits8 l)[k]? = some (l[k / 8].toNat / 2 ^ (7 - k % 8) % 2 == 1)
  | [], k, h => by simp at h
  | c :: l, k, h => by
    rw [bits8]
    by_cases hk : k < 8
    · rw [List.getElem?_append_left (by rw [bitsN_len]; exact hk), bitsN_get 8 _ k hk]
      have e : k / 8 = 0 := by omega
      have e2 : k % 8 = k := by omega
      simp [e, e2]
    · have hl : (bitsN 8 c.toNat).length = 8 := bitsN_len _ _
      rw [List.getElem?_append_right (by omega), hl]
      have e : k / 8 = (k - 8) / 8 + 1 := by omega
      have e2 : (k - 8) % 8 = k % 8 := by omega
      have h2 : (k - 8) / 8 < l.length := by rw [List.length_cons] at h; omega
      rw [bits8_get l (k - 8) h2, e2]
      simp [e]
theorem tmod_2 (x : Nat) : (x : Int).tmod 2 = ((x % 2 : Nat) : Int) := by rw [Int.tmod_eq_emod_of_nonneg (by omega)]; omega
theorem rdigits_ok (b : List Int) (hb : Bytes b) (hn : b.length ≤ 1000000000000) : prun T F15 [.slice .none none (b.map u8)] = some (.sc (.string (strOfNums (digitsS b)))) := by
  refine WP_eq (prun_wp ?_)
  have hlb := bits8_len b
  first | have hb := hb | have hb := trivial
  repeat' (first | (simp -implicitDefEqProofs (disch := omega) only [hb, F15, wC, initE, aop, Nat.reduceEqDiff, ↓reduceIte, Nat.reduceAdd, finish, resOf, tupOf, AM.freeze, freeze1, freezeL, closed, nam, namL, if_true, if_false, deref, boxAt, exAt, ldCells, oneL, oneCell, Nat.reduceLeDiff, evL, adopt, rigid, rigidL, trim, Int.reduceEq, Int.reduceMod, Int.reduceDiv, if_pos, if_neg, asI, forall_const, implies_true, chkD, chkO, chkW, effB, reB, vEq, beq_self_eq_true, Nat.reduceSub, Nat.reduceLT, Int.reduceSub, Int.reduceAdd, Int.reduceMul, Int.reduceLT, Int.reduceLE, Int.reduceToNat, optI, aslice, cutSl, cutMs, cutStr, cutOwn, cellsOf, one, elCells, lenOf, beqV, beqVL, strip, stripO, convS]) | ((first | rw [WP_condK] | rw [WP_opsG] | rw [WP_quiG] | rw [WP_dG]); refine And.intro (fun hb => ?_) (fun hb => ?_) <;> (first | have hd := dq1 hb | have hd := dq2 hb | have hd := dq3 hb | have hd := dq4 hb | skip)))
  refine WP_loop (I := fun k e h => ∃ (a : Nat) (out : List Int), k = (8 * b.length + 5 - a) / 5 ∧ a ≤ 8 * b.length + 4 ∧ h = [] ∧ getE e 0 = .slice .none none (b.map u8) ∧ getE e 3 = .str (strOfNums out) ∧ getE e 4 = i64 ((a : Nat) : Int) ∧ digitsS b = out ++ digT (five ((bits8 b).drop a))) ?_ ((8 * b.length + 5) / 5) _ _ ?_
  rotate_left
  · exact ⟨0, [], rfl, by omega, rfl, rfl, rfl, rfl, rfl⟩
  rintro k e h ⟨a, out, hk, ha, rfl, h0, h3, h4, hd⟩
  rw [trim_same' (by simp)]
  have holen : out.length ≤ 2 * b.length + 2 := by
    have h1 := congrArg List.length hd
    rw [List.length_append] at h1
    have h2 := digitsS_len b
    omega
  by_cases hlt : a < 8 * b.length
  · obtain ⟨Z, hZ⟩ : ∃ Z, Z = (bits8 b).drop a ++ List.replicate 5 false := ⟨_, rfl⟩
    have hZl : Z.length = 8 * b.length - a + 5 := by rw [hZ, List.length_append, List.length_drop, hlb, List.length_replicate]
    first | have hb := hb | have hb := trivial
    repeat' (first | (simp -implicitDefEqProofs (disch := omega) only [hb, L15_1, h0, h3, h4, wC, initE, aop, Nat.reduceEqDiff, ↓reduceIte, Nat.reduceAdd, finish, resOf, tupOf, AM.freeze, freeze1, freezeL, closed, nam, namL, if_true, if_false, deref, boxAt, exAt, ldCells, oneL, oneCell, Nat.reduceLeDiff, evL, adopt, rigid, rigidL, trim, Int.reduceEq, Int.reduceMod, Int.reduceDiv, if_pos, if_neg, asI, forall_const, implies_true, chkD, chkO, chkW, effB, reB, vEq, beq_self_eq_true, Nat.reduceSub, Nat.reduceLT, Int.reduceSub, Int.reduceAdd, Int.reduceMul, Int.reduceLT, Int.reduceLE, Int.reduceToNat, optI, aslice, cutSl, cutMs, cutStr, cutOwn, cellsOf, one, elCells, lenOf, beqV, beqVL, strip, stripO, convS]) | ((first | rw [WP_condK] | rw [WP_opsG] | rw [WP_quiG] | rw [WP_dG]); refine And.intro (fun hb => ?_) (fun hb => ?_) <;> (first | have hd := dq1 hb | have hd := dq2 hb | have hd := dq3 hb | have hd := dq4 hb | skip)))
    refine WP_loop (I := fun k2 e h => ∃ (i : Nat), k2 + i = 5 ∧ h = [] ∧ getE e 0 = .slice .none none (b.map u8) ∧ getE e 3 = .str (strOfNums out) ∧ getE e 4 = i64 ((a : Nat) : Int) ∧ getE e 5 = i64 ((val (Z.take i) : Nat) : Int) ∧ getE e 6 = i64 (((a + i : Nat) : Nat) : Int)) ?_ 5 _ _ ?_
    rotate_left
    · exact ⟨0, rfl, rfl, rfl, rfl, rfl, rfl, rfl⟩
    rintro k2 e h ⟨i, hki, rfl, h0, h3, h4, h5, h6⟩
    rw [trim_same' (by simp)]
    have hvi := val_lt (Z.take i)
    rw [List.length_take] at hvi
    have hvi2 : 2 ^ min i Z.length ≤ 2 ^ 5 := Nat.pow_le_pow_right (by omega) (by omega)
    by_cases hi5 : i < 5
    · have hg : Z[i]? = some (Z[i]'(by omega)) := List.getElem?_eq_getElem (by omega)
      have hts : Z.take (i + 1) = Z.take i ++ [Z[i]'(by omega)] := List.take_succ_eq_append_getElem (by omega)
      have hvs : val (Z.take (i + 1)) = 2 * val (Z.take i) + (Z[i]'(by omega)).toNat := by rw [hts, val_step]
      have e1 : ((a + i : Nat) : Int).tdiv 8 = (((a + i) / 8 : Nat) : Int) := by rw [Int.tdiv_eq_ediv_of_nonneg (by omega)]; omega
      have e2 : ((a + i : Nat) : Int).tmod 8 = (((a + i) % 8 : Nat) : Int) := by rw [Int.tmod_eq_emod_of_nonneg (by omega)]; omega
      have e3 : 7 - (((a + i) % 8 : Nat) : Int) = ((7 - (a + i) % 8 : Nat) : Int) := by omega
      by_cases hin : a + i < 8 * b.length
      · have hg2 := get_u8 (l := b) (i := (a + i) / 8) (by omega)
        obtain ⟨y0, y1⟩ := bytes_get hb (i := (a + i) / 8) (by omega)
        obtain ⟨c, hc⟩ := Int.eq_ofNat_of_zero_le y0
        rw [hc] at hg2
        have e4 := shr_n .u8 c (7 - (a + i) % 8) (by simp [IntKind.bits]; omega)
        obtain ⟨x, hx⟩ : ∃ x, c / 2 ^ (7 - (a + i) % 8) = x := ⟨_, rfl⟩
        rw [hx] at e4
        have e5 := tmod_2 x
        have hbit := bits8_get b (a + i) (by omega)
        rw [hc, Int.toNat_natCast, hx] at hbit
        have hzb : Z[i]? = (bits8 b)[a + i]? := by rw [hZ, List.getElem?_append_left (by rw [List.length_drop]; omega), List.getElem?_drop]
        rw [hg, hbit] at hzb
        have hzb2 := Option.some.inj hzb
        first | have hb := hb | have hb := trivial
        repeat' (first | (simp -implicitDefEqProofs (disch := omega) only [hb, L15_0, h0, h3, h4, h5, h6, hg2, e1, e2, e3, e4, e5, wC, initE, aop, Nat.reduceEqDiff, ↓reduceIte, Nat.reduceAdd, finish, resOf, tupOf, AM.freeze, freeze1, freezeL, closed, nam, namL, if_true, if_false, deref, boxAt, exAt, ldCells, oneL, oneCell, Nat.reduceLeDiff, evL, adopt, rigid, rigidL, trim, Int.reduceEq, Int.reduceMod, Int.reduceDiv, if_pos, if_neg, asI, forall_const, implies_true, chkD, chkO, chkW, effB, reB, vEq, beq_self_eq_true, Nat.reduceSub, Nat.reduceLT, Int.reduceSub, Int.reduceAdd, Int.reduceMul, Int.reduceLT, Int.reduceLE, Int.reduceToNat, optI, aslice, cutSl, cutMs, cutStr, cutOwn, cellsOf, one, elCells, lenOf, beqV, beqVL, strip, stripO, convS]) | ((first | rw [WP_condK] | rw [WP_opsG] | rw [WP_quiG] | rw [WP_dG]); refine And.intro (fun hb => ?_) (fun hb => ?_) <;> (first | have hd := dq1 hb | have hd := dq2 hb | have hd := dq3 hb | have hd := dq4 hb | skip)))
        · have hx1 : x % 2 = 1 := by omega
          rw [hx1] at hzb2
          rw [hzb2] at hvs
          exact ⟨k2 - 1, by omega, i + 1, by omega, by rw [hvs]; rfl, rfl⟩
        · have hx1 : x % 2 = 0 := by omega
          rw [hx1] at hzb2
          rw [hzb2] at hvs
          exact ⟨k2 - 1, by omega, i + 1, by omega, by rw [hvs]; rfl, rfl⟩
      · have hzb : Z[i]? = some false := by
          rw [hZ, List.getElem?_append_right (by rw [List.length_drop]; omega), List.getElem?_replicate, if_pos (by rw [List.length_drop]; omega)]
        rw [hg] at hzb
        have hzb2 := Option.some.inj hzb
        rw [hzb2] at hvs
        first | have hb := hb | have hb := trivial
        repeat' (first | (simp -implicitDefEqProofs (disch := omega) only [hb, L15_0, h0, h3, h4, h5, h6, wC, initE, aop, Nat.reduceEqDiff, ↓reduceIte, Nat.reduceAdd, finish, resOf, tupOf, AM.freeze, freeze1, freezeL, closed, nam, namL, if_true, if_false, deref, boxAt, exAt, ldCells, oneL, oneCell, Nat.reduceLeDiff, evL, adopt, rigid, rigidL, trim, Int.reduceEq, Int.reduceMod, Int.reduceDiv, if_pos, if_neg, asI, forall_const, implies_true, chkD, chkO, chkW, effB, reB, vEq, beq_self_eq_true, Nat.reduceSub, Nat.reduceLT, Int.reduceSub, Int.reduceAdd, Int.reduceMul, Int.reduceLT, Int.reduceLE, Int.reduceToNat, optI, aslice, cutSl, cutMs, cutStr, cutOwn, cellsOf, one, elCells, lenOf, beqV, beqVL, strip, stripO, convS]) | ((first | rw [WP_condK] | rw [WP_opsG] | rw [WP_quiG] | rw [WP_dG]); refine And.intro (fun hb => ?_) (fun hb => ?_) <;> (first | have hd := dq1 hb | have hd := dq2 hb | have hd := dq3 hb | have hd := dq4 hb | skip)))
        exact ⟨k2 - 1, by omega, i + 1, by omega, by rw [hvs]; rfl, rfl⟩
    · obtain rfl : i = 5 := by omega
      have hv32 : val (Z.take 5) < 32 := by omega
      obtain ⟨d, hd5⟩ : ∃ d, val (Z.take 5) = d := ⟨_, rfl⟩
      rw [hd5] at h5 hv32
      have hf : five ((bits8 b).drop a) = d :: five ((bits8 b).drop (a + 5)) := by
        by_cases hl5 : 5 ≤ ((bits8 b).drop a).length
        · rw [five_long _ hl5, List.drop_drop, ← hd5, hZ, List.take_append_of_le_length hl5]
        · have hl0 : 0 < ((bits8 b).drop a).length := by rw [List.length_drop]; omega
          have hnil : (bits8 b).drop (a + 5) = [] := List.drop_eq_nil_of_le (by rw [List.length_drop] at hl5; omega)
          rw [five_short _ hl0 (by omega), hnil, five, ← hd5, hZ, List.take_append, List.take_of_length_le (by omega), val_append, List.take_replicate, val_zeros, List.length_replicate, Nat.add_zero, Nat.min_eq_left (by omega)]
      have e1 : digB.extract d (d + 1) = strOfNums [digI d] := by
        rw [digB_eq, st_cut]
        congr 1
        have h32 : d < digs.length := hv32
        rw [List.drop_take, show d + 1 - d = 1 by omega, List.drop_eq_getElem_cons h32, List.take_succ_cons, List.take_zero]
        simp [digI, List.getD_eq_getElem?_getD, List.getElem?_eq_getElem h32]
      have hsz : digB.size = 32 := by decide +kernel
      have e2 := st_add (a := out) (b := [digI d]) (by simp; omega)
      first | have hb := hb | have hb := trivial
      repeat' (first | (simp -implicitDefEqProofs (disch := omega) only [hb, L15_0, h0, h3, h4, h5, h6, e1, e2, hsz, wC, initE, aop, Nat.reduceEqDiff, ↓reduceIte, Nat.reduceAdd, finish, resOf, tupOf, AM.freeze, freeze1, freezeL, closed, nam, namL, if_true, if_false, deref, boxAt, exAt, ldCells, oneL, oneCell, Nat.reduceLeDiff, evL, adopt, rigid, rigidL, trim, Int.reduceEq, Int.reduceMod, Int.reduceDiv, if_pos, if_neg, asI, forall_const, implies_true, chkD, chkO, chkW, effB, reB, vEq, beq_self_eq_true, Nat.reduceSub, Nat.reduceLT, Int.reduceSub, Int.reduceAdd, Int.reduceMul, Int.reduceLT, Int.reduceLE, Int.reduceToNat, optI, aslice, cutSl, cutMs, cutStr, cutOwn, cellsOf, one, elCells, lenOf, beqV, beqVL, strip, stripO, convS]) | ((first | rw [WP_condK] | rw [WP_opsG] | rw [WP_quiG] | rw [WP_dG]); refine And.intro (fun hb => ?_) (fun hb => ?_) <;> (first | have hd := dq1 hb | have hd := dq2 hb | have hd := dq3 hb | have hd := dq4 hb | skip)))
      exact ⟨(8 * b.length + 5 - (a + 5)) / 5, by omega, a + 5, out ++ [digI d], rfl, by omega, rfl, rfl, by rw [hd, hf]; simp [digT]⟩
  · have hf : (bits8 b).drop a = [] := List.drop_eq_nil_of_le (by omega)
    rw [hf, five] at hd
    first | have hb := hb | have hb := trivial
    repeat' (first | (simp -implicitDefEqProofs (disch := omega) only [hb, L15_1, h0, h3, h4, wC, initE, aop, Nat.reduceEqDiff, ↓reduceIte, Nat.reduceAdd, finish, resOf, tupOf, AM.freeze, freeze1, freezeL, closed, nam, namL, if_true, if_false, deref, boxAt, exAt, ldCells, oneL, oneCell, Nat.reduceLeDiff, evL, adopt, rigid, rigidL, trim, Int.reduceEq, Int.reduceMod, Int.reduceDiv, if_pos, if_neg, asI, forall_const, implies_true, chkD, chkO, chkW, effB, reB, vEq, beq_self_eq_true, Nat.reduceSub, Nat.reduceLT, Int.reduceSub, Int.reduceAdd, Int.reduceMul, Int.reduceLT, Int.reduceLE, Int.reduceToNat, optI, aslice, cutSl, cutMs, cutStr, cutOwn, cellsOf, one, elCells, lenOf, beqV, beqVL, strip, stripO, convS]) | ((first | rw [WP_condK] | rw [WP_opsG] | rw [WP_quiG] | rw [WP_dG]); refine And.intro (fun hb => ?_) (fun hb => ?_) <;> (first | have hd := dq1 hb | have hd := dq2 hb | have hd := dq3 hb | have hd := dq4 hb | skip)))
    rw [hd]
    simp [digT]
end Go.Proofs.Ytejnficfhoekiaa.AM

/- invoice: high; Encode. -/
namespace Go.Proofs.Ytejnficfhoekiaa.AM
open Go
set_option maxRecDepth 100000
set_option maxHeartbeats 1000000
set_option linter.unusedSimpArgs false
set_option linter.unusedVariables false
theorem tailS_get (x : Int) : ∀ (n j : Nat) (h : j < n), (tailS n x)[j]? = some (x / 256 ^ (n - 1 - j) % 256)
  | 0, j, h => by omega
  | n + 1, 0, _ => by simp [tailS]
  | n + 1, j + 1, h => by
    rw [tailS, List.getElem?_cons_succ, tailS_get x n j (by omega), show n + 1 - 1 - (j + 1) = n - 1 - j by omega]
theorem high_byte (x m : Nat) : IntKind.u8.wrap (((x / 2 ^ (8 * m)) : Nat) : Int) = (x : Int) / 256 ^ m % 256 := by
  rw [w_u8, Nat.pow_mul, Int.natCast_ediv, Int.natCast_pow]
  rfl
theorem high_ok (n : Nat) (x : Nat) (hn : 1 ≤ n ∧ n ≤ 8) (hx : x ≤ 9223372036854775807) : prun T F17 [i64 n, i64 x] = some (.slice .full none ((tailS n x).map u8)) := by
  refine WP_eq (prun_wp ?_)
  have hl := tailS_len n x
  have hz : List.replicate n (u8 0) = (List.replicate n (0 : Int)).map u8 := by simp
  first | have hb := hb | have hb := trivial
  repeat' (first | (simp -implicitDefEqProofs (disch := omega) only [hb, F17, hz, wC, wO, initE, aop, Nat.reduceEqDiff, ↓reduceIte, Nat.reduceAdd, finish, resOf, tupOf, AM.freeze, freeze1, freezeL, closed, nam, namL, if_true, if_false, deref, boxAt, exAt, ldCells, oneL, oneCell, Nat.reduceLeDiff, evL, adopt, rigid, rigidL, trim, Int.reduceEq, Int.reduceMod, Int.reduceDiv, if_pos, if_neg, asI, forall_const, implies_true, chkD, chkO, chkW, effB, reB, vEq, beq_self_eq_true, Nat.reduceSub, Nat.reduceLT, Int.reduceSub, Int.reduceAdd, Int.reduceMul, Int.reduceLT, Int.reduceLE, Int.reduceToNat, optI, aslice, cutSl, cutMs, cutStr, cutOwn]) | ((first | rw [WP_condK] | rw [WP_opsG] | rw [WP_quiG] | rw [WP_dG]); refine And.intro (fun hb => ?_) (fun hb => ?_) <;> (first | have hd := dq1 hb | have hd := dq2 hb | have hd := dq3 hb | have hd := dq4 hb | skip)))
  refine WP_loop (I := fun k e h => ∃ (j : Nat) (c : List Int), k + j = n ∧ c = (tailS n x).take j ++ List.replicate (n - j) 0 ∧ h = [.cells (c.map u8)] ∧ getE e 0 = i64 n ∧ getE e 1 = i64 x ∧ getE e 5 = .ms 0 0 none n ∧ getE e 10 = i64 n ∧ getE e 11 = i64 j) ?_ n _ _ ?_
  rotate_left
  · exact ⟨0, List.replicate n 0, rfl, by simp, rfl, rfl, rfl, rfl, rfl, rfl⟩
  rintro k e h ⟨j, c, hk, hc, rfl, h0, h1, h5, h10, h11⟩
  rw [trim_same' (by simp)]
  have hcl : c.length = n := by rw [hc, List.length_append, List.length_take, List.length_replicate, hl]; omega
  have hcm : (c.map u8).length = n := by rw [List.length_map, hcl]
  by_cases hlt : j < n
  · have e1 := shr_n .i64 x (8 * (n - 1 - j)) (by simp [IntKind.bits]; omega)
    rw [show ((8 * (n - 1 - j) : Nat) : Int) = 8 * ((n : Int) - 1 - j) by omega] at e1
    have e2 := high_byte x (n - 1 - j)
    have hg := tailS_get x n j hlt
    rw [List.getElem?_eq_getElem (by omega)] at hg
    have hgj := Option.some.inj hg
    obtain ⟨y, hy⟩ : ∃ y, (x : Int) / 256 ^ (n - 1 - j) % 256 = y := ⟨_, rfl⟩
    rw [hy] at e2 hgj
    have e3 : (c.map u8).set j (u8 y) = (c.set j y).map u8 := by rw [List.map_set]
    have e4 : c.set j y = (tailS n x).take (j + 1) ++ List.replicate (n - (j + 1)) 0 := by
      rw [hc, List.set_append_right _ _ (by rw [List.length_take]; omega), List.length_take, Nat.min_eq_left (by omega), Nat.sub_self, show n - j = (n - (j + 1)) + 1 by omega, List.replicate_succ, List.set_cons_zero, List.take_succ_eq_append_getElem (by omega), hgj, List.append_assoc]
      rfl
    first | have hb := hb | have hb := trivial
    repeat' (first | (simp -implicitDefEqProofs (disch := omega) only [hb, L17_0, h0, h1, h5, h10, h11, e1, e2, e3, hcm, wC, wO, initE, aop, Nat.reduceEqDiff, ↓reduceIte, Nat.reduceAdd, finish, resOf, tupOf, AM.freeze, freeze1, freezeL, closed, nam, namL, if_true, if_false, deref, boxAt, exAt, ldCells, oneL, oneCell, Nat.reduceLeDiff, evL, adopt, rigid, rigidL, trim, Int.reduceEq, Int.reduceMod, Int.reduceDiv, if_pos, if_neg, asI, forall_const, implies_true, chkD, chkO, chkW, effB, reB, vEq, beq_self_eq_true, Nat.reduceSub, Nat.reduceLT, Int.reduceSub, Int.reduceAdd, Int.reduceMul, Int.reduceLT, Int.reduceLE, Int.reduceToNat, optI, aslice, cutSl, cutMs, cutStr, cutOwn]) | ((first | rw [WP_condK] | rw [WP_opsG] | rw [WP_quiG] | rw [WP_dG]); refine And.intro (fun hb => ?_) (fun hb => ?_) <;> (first | have hd := dq1 hb | have hd := dq2 hb | have hd := dq3 hb | have hd := dq4 hb | skip)))
    exact ⟨k - 1, by omega, j + 1, c.set j y, by omega, e4, rfl, rfl⟩
  · obtain rfl : j = n := by omega
    rw [List.take_of_length_le (by omega), Nat.sub_self, List.replicate_zero, List.append_nil] at hc
    subst hc
    have e2 : msEls [AObj.box true ((tailS j x).map u8)] 0 0 none j = some ((tailS j x).map u8) := by
      simp only [msEls, boxAt, List.getElem?_cons_zero, Option.bind_some, kz, Option.getD_none, Nat.mul_one, Nat.zero_add, hcm, Nat.le_refl, if_true, List.drop_zero, chunks]
      rw [List.take_of_length_le (by omega)]
    have e3 : msOwn [AObj.box true ((tailS j x).map u8)] 0 0 none j = .full := by
      simp [msOwn, boxAt, kz, hl, exAt]
    have hcl2 := u8_closed (tailS j x)
    first | have hb := hb | have hb := trivial
    repeat' (first | (simp -implicitDefEqProofs (disch := omega) only [hb, L17_0, h0, h1, h5, h10, h11, hcm, e2, e3, hcl2, wC, wO, initE, aop, Nat.reduceEqDiff, ↓reduceIte, Nat.reduceAdd, finish, resOf, tupOf, AM.freeze, freeze1, freezeL, closed, nam, namL, if_true, if_false, deref, boxAt, exAt, ldCells, oneL, oneCell, Nat.reduceLeDiff, evL, adopt, rigid, rigidL, trim, Int.reduceEq, Int.reduceMod, Int.reduceDiv, if_pos, if_neg, asI, forall_const, implies_true, chkD, chkO, chkW, effB, reB, vEq, beq_self_eq_true, Nat.reduceSub, Nat.reduceLT, Int.reduceSub, Int.reduceAdd, Int.reduceMul, Int.reduceLT, Int.reduceLE, Int.reduceToNat, optI, aslice, cutSl, cutMs, cutStr, cutOwn]) | ((first | rw [WP_condK] | rw [WP_opsG] | rw [WP_quiG] | rw [WP_dG]); refine And.intro (fun hb => ?_) (fun hb => ?_) <;> (first | have hd := dq1 hb | have hd := dq2 hb | have hd := dq3 hb | have hd := dq4 hb | skip)))
theorem call_high (n : Nat) (x : Int) (hn : 1 ≤ n ∧ n ≤ 8) (h0 : 0 ≤ x) (h1 : x ≤ 9223372036854775807) (h : Heap) : ag T 17 [i64 n, i64 x] h = some (.slice .full none ((tailS n x).map u8), h) := by
  obtain ⟨m, rfl⟩ := Int.eq_ofNat_of_zero_le h0
  exact call_pure (T := T) (h := h) (args := [i64 n, i64 m]) rfl t17 rfl rfl rfl (high_ok n m hn (by omega))
end Go.Proofs.Ytejnficfhoekiaa.AM

/- The digest, in plain Lean: words, rounds, bytes. -/
namespace Go.Proofs.Ytejnficfhoekiaa.AM
open Go
set_option linter.unusedVariables false
set_option linter.unusedSimpArgs false
abbrev Wd := BitVec 64
def nw (l : List Wd) (i : Nat) : Wd := l.getD i 0#64
def nn (l : List Nat) (i : Nat) : Nat := l.getD i 0
/-- a word turned to the left -/
def rl (n : Nat) (w : Wd) : Wd := (w <<< n) ||| (w >>> (64 - n))
def kBy : List Nat := [0, 1, 62, 28, 27, 36, 44, 6, 55, 20, 3, 10, 43, 25, 39, 41, 45, 15, 21, 8, 18, 2, 61, 56, 14]
def kTo : List Nat := [0, 10, 20, 5, 15, 16, 1, 11, 21, 6, 7, 17, 2, 12, 22, 23, 8, 18, 3, 13, 14, 24, 9, 19, 4]
def kFrom : List Nat := [0, 6, 12, 18, 24, 3, 9, 10, 16, 22, 1, 7, 13, 19, 20, 4, 5, 11, 17, 23, 2, 8, 14, 15, 21]
def kCon : List Nat := [1, 32898, 9223372036854808714, 9223372039002292224, 32907, 2147483649, 9223372039002292353, 9223372036854808585, 138, 136, 2147516425, 2147483658, 2147516555, 9223372036854775947, 9223372036854808713, 9223372036854808579, 9223372036854808578, 9223372036854775936, 32778, 9223372039002259466, 9223372039002292353, 9223372036854808704, 2147483649, 9223372039002292232]
def k5 : List Nat := [0, 1, 2, 3, 4]
def k25 : List Nat := [0, 1, 2, 3, 4, 5, 6, 7, 8, 9, 10, 11, 12, 13, 14, 15, 16, 17, 18, 19, 20, 21, 22, 23, 24]
def k32 : List Nat := [0, 1, 2, 3, 4, 5, 6, 7, 8, 9, 10, 11, 12, 13, 14, 15, 16, 17, 18, 19, 20, 21, 22, 23, 24, 25, 26, 27, 28, 29, 30, 31]
def kCols (s : List Wd) : List Wd := k5.map fun x => nw s x ^^^ nw s (x + 5) ^^^ nw s (x + 10) ^^^ nw s (x + 15) ^^^ nw s (x + 20)
def kSums (c : List Wd) : List Wd := k5.map fun x => nw c ((x + 4) % 5) ^^^ rl 1 (nw c ((x + 1) % 5))
def kTurned (s d : List Wd) : List Wd := k25.map fun j => rl (nn kBy (nn kFrom j)) (nw s (nn kFrom j) ^^^ nw d (nn kFrom j % 5))
def kRows (b : List Wd) : List Wd := k25.map fun j => nw b j ^^^ (nw b (5 * (j / 5) + (j + 2) % 5) &&& ~~~ nw b (5 * (j / 5) + (j + 1) % 5))
def kHead (c : Wd) : List Wd → List Wd
  | [] => []
  | x :: l => (x ^^^ c) :: l
def kRound (s : List Wd) (c : Wd) : List Wd := kHead c (kRows (kTurned s (kSums (kCols s))))
def kPerm (s : List Wd) : List Wd := (kCon.map (BitVec.ofNat 64)).foldl kRound s
def kAdd (s : List Wd) (a : Nat) (b : Int) : List Wd := s.set (a / 8) (nw s (a / 8) ^^^ (BitVec.ofInt 64 b <<< (8 * (a % 8))))
/-- a byte is taken in, at a rate -/
def kStep (r : Nat) (p : List Wd × Nat) (b : Int) : List Wd × Nat := if p.2 + 1 = r then (kPerm (kAdd p.1 p.2 b), 0) else (kAdd p.1 p.2 b, p.2 + 1)
def kTake (l : List Int) : List Wd × Nat := l.foldl (kStep 136) (List.replicate 25 0#64, 0)
def kEnd (p : List Wd × Nat) : List Wd := kPerm (kAdd (kAdd p.1 p.2 6) 135 128)
def kByte (s : List Wd) (i : Nat) : Int := ((nw s (i / 8) >>> (8 * (i % 8))).toNat % 256 : Nat)
/-- the digest of bytes -/
def kSum (l : List Int) : List Int := k32.map (kByte (kEnd (kTake l)))
/-! ### the same over numbers, for the kernel -/
def nRl (n w : Nat) : Nat := ((w <<< n) % 18446744073709551616) ||| (w >>> (64 - n))
def nCols (s : List Nat) : List Nat := k5.map fun x => nn s x ^^^ nn s (x + 5) ^^^ nn s (x + 10) ^^^ nn s (x + 15) ^^^ nn s (x + 20)
def nSums (c : List Nat) : List Nat := k5.map fun x => nn c ((x + 4) % 5) ^^^ nRl 1 (nn c ((x + 1) % 5))
def nTurned (s d : List Nat) : List Nat := k25.map fun j => nRl (nn kBy (nn kFrom j)) (nn s (nn kFrom j) ^^^ nn d (nn kFrom j % 5))
def nRows (b : List Nat) : List Nat := k25.map fun j => nn b j ^^^ (nn b (5 * (j / 5) + (j + 2) % 5) &&& (18446744073709551615 - nn b (5 * (j / 5) + (j + 1) % 5)))
def nHead (c : Nat) : List Nat → List Nat
  | [] => []
  | x :: l => (x ^^^ c) :: l
def nRound (s : List Nat) (c : Nat) : List Nat := nHead c (nRows (nTurned s (nSums (nCols s))))
def nPerm (s : List Nat) : List Nat := kCon.foldl nRound s
def nAdd (s : List Nat) (a b : Nat) : List Nat := s.set (a / 8) (nn s (a / 8) ^^^ ((b <<< (8 * (a % 8))) % 18446744073709551616))
def nStep (r : Nat) (p : List Nat × Nat) (b : Nat) : List Nat × Nat := if p.2 + 1 = r then (nPerm (nAdd p.1 p.2 b), 0) else (nAdd p.1 p.2 b, p.2 + 1)
def nTake (l : List Nat) : List Nat × Nat := l.foldl (nStep 136) (List.replicate 25 0, 0)
def nEnd (p : List Nat × Nat) : List Nat := nPerm (nAdd (nAdd p.1 p.2 6) 135 128)
def nSum (l : List Nat) : List Nat := k32.map fun i => (nn (nEnd (nTake l)) (i / 8) >>> (8 * (i % 8))) % 256
/-! ### they are the same -/
abbrev wn (l : List Wd) : List Nat := l.map BitVec.toNat
theorem nn_wn (l : List Wd) (i : Nat) : nn (wn l) i = (nw l i).toNat := by
  simp only [nn, nw, wn, List.getD_eq_getElem?_getD, List.getElem?_map]
  cases l[i]? <;> rfl
theorem nRl_wn (n : Nat) (w : Wd) : nRl n w.toNat = (rl n w).toNat := by
  simp only [nRl, rl, BitVec.toNat_or, BitVec.toNat_shiftLeft, BitVec.toNat_ushiftRight]
theorem nCols_wn (s : List Wd) : nCols (wn s) = wn (kCols s) := by
  simp only [nCols, kCols, nn_wn, List.map_map]
  apply List.map_congr_left
  intro x _
  simp only [Function.comp, BitVec.toNat_xor]
theorem nSums_wn (s : List Wd) : nSums (wn s) = wn (kSums s) := by
  simp only [nSums, kSums, nn_wn, List.map_map]
  apply List.map_congr_left
  intro x _
  simp only [Function.comp, BitVec.toNat_xor, nRl_wn]
theorem nTurned_wn (s d : List Wd) : nTurned (wn s) (wn d) = wn (kTurned s d) := by
  simp only [nTurned, kTurned, nn_wn, List.map_map]
  apply List.map_congr_left
  intro x _
  simp only [Function.comp, ← BitVec.toNat_xor, nRl_wn]
theorem nRows_wn (s : List Wd) : nRows (wn s) = wn (kRows s) := by
  simp only [nRows, kRows, nn_wn, List.map_map]
  apply List.map_congr_left
  intro x _
  simp only [Function.comp, BitVec.toNat_xor, BitVec.toNat_and, BitVec.toNat_not]
theorem nHead_wn (c : Wd) : ∀ (s : List Wd), nHead c.toNat (wn s) = wn (kHead c s)
  | [] => rfl
  | x :: l => by simp only [nHead, kHead, wn, List.map_cons, BitVec.toNat_xor]
theorem nRound_wn (s : List Wd) (c : Wd) : nRound (wn s) c.toNat = wn (kRound s c) := by
  simp only [nRound, kRound, nCols_wn, nSums_wn, nTurned_wn, nRows_wn, nHead_wn]
theorem nFold_wn : ∀ (cs : List Nat) (s : List Wd), (∀ c ∈ cs, c < 2 ^ 64) → cs.foldl nRound (wn s) = wn ((cs.map (BitVec.ofNat 64)).foldl kRound s)
  | [], s, _ => rfl
  | c :: cs, s, h => by
    have hc : (BitVec.ofNat 64 c).toNat = c := by rw [BitVec.toNat_ofNat, Nat.mod_eq_of_lt (h c (by simp))]
    simp only [List.foldl_cons, List.map_cons]
    rw [← hc, nRound_wn, nFold_wn cs _ (fun x hx => h x (by simp [hx])), hc]
theorem nPerm_wn (s : List Wd) : nPerm (wn s) = wn (kPerm s) := nFold_wn _ _ (by decide)
theorem nAdd_wn (s : List Wd) (a : Nat) (b : Int) (h0 : 0 ≤ b) (h1 : b < 256) : nAdd (wn s) a b.toNat = wn (kAdd s a b) := by
  have hb : b.toNat = (BitVec.ofInt 64 b).toNat := by rw [BitVec.toNat_ofInt]; omega
  simp only [nAdd, kAdd, nn_wn, wn, List.map_set, BitVec.toNat_xor, BitVec.toNat_shiftLeft, hb]
theorem nStep_wn (r : Nat) (s : List Wd) (a : Nat) (b : Int) (h0 : 0 ≤ b) (h1 : b < 256) : nStep r (wn s, a) b.toNat = (wn (kStep r (s, a) b).1, (kStep r (s, a) b).2) := by
  simp only [nStep, kStep, nAdd_wn _ _ _ h0 h1, nPerm_wn]
  split <;> rfl
theorem nTake_wn : ∀ (l : List Int) (s : List Wd) (a : Nat), (∀ b ∈ l, 0 ≤ b ∧ b < 256) → (l.map Int.toNat).foldl (nStep 136) (wn s, a) = (wn (l.foldl (kStep 136) (s, a)).1, (l.foldl (kStep 136) (s, a)).2)
  | [], s, a, _ => rfl
  | b :: l, s, a, h => by
    simp only [List.map_cons, List.foldl_cons]
    rw [nStep_wn 136 s a b (h b (by simp)).1 (h b (by simp)).2]
    exact nTake_wn l _ _ fun x hx => h x (by simp [hx])
theorem kSum_nSum (l : List Int) (h : ∀ b ∈ l, 0 ≤ b ∧ b < 256) : kSum l = (nSum (l.map Int.toNat)).map Int.ofNat := by
  have h1 := nTake_wn l (List.replicate 25 0#64) 0 h
  have h2 : nEnd (nTake (l.map Int.toNat)) = wn (kEnd (kTake l)) := by
    unfold nEnd nTake kEnd kTake
    rw [show (List.replicate 25 (0 : Nat)) = wn (List.replicate 25 0#64) from rfl, h1]
    rw [show (6 : Nat) = (6 : Int).toNat from rfl, nAdd_wn _ _ _ (by decide) (by decide), show (128 : Nat) = (128 : Int).toNat from rfl, nAdd_wn _ _ _ (by decide) (by decide), nPerm_wn]
  unfold kSum nSum
  rw [h2, List.map_map]
  apply List.map_congr_left
  intro i _
  simp only [Function.comp, kByte, nn_wn, BitVec.toNat_ushiftRight]
  rfl
theorem kRound_len (s : List Wd) (c : Wd) : (kRound s c).length = 25 := rfl
theorem kFold_len : ∀ (cs : List Wd) (s : List Wd), s.length = 25 → (cs.foldl kRound s).length = 25
  | [], s, h => h
  | c :: cs, s, h => kFold_len cs _ (kRound_len s c)
theorem kPerm_len {s : List Wd} (h : s.length = 25) : (kPerm s).length = 25 := kFold_len _ s h
theorem kAdd_len {s : List Wd} (h : s.length = 25) (a : Nat) (b : Int) : (kAdd s a b).length = 25 := by rw [kAdd, List.length_set, h]
theorem kSum_len (l : List Int) : (kSum l).length = 32 := by simp [kSum, k32]
theorem kSum_byte (l : List Int) : ∀ b ∈ kSum l, 0 ≤ b ∧ b < 256 := by
  intro b hb
  simp only [kSum, List.mem_map] at hb
  obtain ⟨i, _, rfl⟩ := hb
  simp only [kByte]
  omega
end Go.Proofs.Ytejnficfhoekiaa.AM

/- A run with pure contracts in the place of functions that have them is a run of the machine. -/
namespace Go.Proofs.Ytejnficfhoekiaa.AM
open Go
set_option linter.unusedVariables false
theorem aexec_ax {T : Tab} {C : Cl} (hc : CLe C (Cω T)) (n : Nat) : ∀ (c : AC) (e : Env) (h : Heap), ole (aexec C n c e h) (ax T c e h)
  | .skip, e, h => by rw [ax_skip]; exact ole.refl _
  | .reg ops, e, h => by rw [ax_reg]; exact (aops_le hc _ _ _).map
  | .regQ ops, e, h => by rw [ax_regQ]; exact (aopsQ_le hc _ _ _).map
  | .regD ops st, e, h => by rw [ax_regD]; exact (runD_le hc _ _ _ _).bind fun r => chkR_le hc e ops st r
  | .seq a b, e, h => by
    rw [ax_seq]
    simp only [aexec]
    refine (aexec_ax hc n a e h).bind fun p => ?_
    obtain ⟨x, e', h'⟩ := p
    cases x
    · exact aexec_ax hc n b _ _
    · exact ole.refl _
    · exact ole.refl _
  | .cond c a b, e, h => by
    rw [ax_condK]
    simp only [aexec]
    split
    · rename_i hv; rw [hv]; exact aexec_ax hc n a e h
    · rename_i hv; rw [hv]; exact aexec_ax hc n b e h
    · exact fun r hr => by cases hr
  | .block id b, e, h => by rw [ax_block]; exact (aexec_ax hc n b e h).map
  | .loop keep gc b, e, h => by
    rw [ax_loop]
    simp only [aexec]
    have : ∀ (k m : Nat) (e : Env) (h : Heap), ole (aloop (aexec C n b) keep gc m k e h) (axl T keep gc b m e h) := by
      intro k m
      induction k with
      | zero => exact fun e h r hr => by simp [aloop] at hr
      | succ k ih =>
        intro e h
        rw [axl_eq]
        simp only [aloop]
        refine (ole.refl _).bind fun p => (aexec_ax hc n b _ _).bind fun q => ?_
        obtain ⟨x, e', h'⟩ := q
        cases x
        · exact ih _ _
        · exact ole.refl _
        · exact ole.refl _
    exact this _ _ _ _
  | .exit id, e, h => by rw [ax_exit]; exact ole.refl _
  | .scope b, e, h => by rw [ax_scope]; exact aexec_ax hc n b e h
  | .ret, e, h => by rw [ax_ret]; exact ole.refl _
/-- contracts in the place of functions -/
def Over (T : Tab) (x : Nat → Option (List AV → Option AV)) : Tab := ⟨fun f => (x f).or (T.ext f), T.fn, T.nat⟩
theorem over_le {T : Tab} {x : Nat → Option (List AV → Option AV)} (hp : ∀ f g, x f = some g → T.pure f = true ∧ ∀ args h, ole (pcall g args h) (ag T f args h)) : ∀ n, CLe ⟨gcall (Over T x) n, (Over T x).pure⟩ (Cω T) := by
  have hpure : (Over T x).pure = T.pure := by
    funext f
    cases hx : x f with
    | none => simp only [Tab.pure, Over, hx, Option.none_or]
    | some g =>
      rw [(hp f g hx).1]
      simp only [Tab.pure, Over, hx, Option.some_or, Option.isSome_some, Bool.true_or]
  intro n
  induction n with
  | zero => exact ⟨hpure, fun f args h r hr => by simp [gcall] at hr⟩
  | succ n ih =>
    refine ⟨hpure, fun f args h => ?_⟩
    simp only [gcall]
    cases hx : x f with
    | some g =>
      simp only [Over, hx, Option.some_or]
      exact (hp f g hx).2 args h
    | none =>
      simp only [Over, hx, Option.none_or]
      cases hx2 : T.ext f with
      | some g => simp only []; rw [ag_ext hx2]; exact ole.refl _
      | none =>
        simp only []
        cases hf : T.fn f with
        | none =>
          simp only []
          cases hn : T.nat f with
          | none => exact fun r hr => by simp at hr
          | some g => rw [ag_nat hx2 hf hn]; exact ole.refl _
        | some F =>
          simp only []
          split
          · rename_i hl
            cases hpu : F.pure with
            | true =>
              simp only [if_true]
              rw [ag_pure hx2 hf hpu args hl]
              refine pcall_le (fun a => ?_) args h
              unfold prun
              exact ((aexec_ax ih n F.body _ _).bind fun _ => ole.refl _).bind fun _ => ole.refl _
            | false =>
              simp only [Bool.false_eq_true, if_false]
              rw [ag_gen hx2 hf hpu args hl]
              exact (aexec_ax ih n F.body _ _).bind fun _ => ole.refl _
          · exact fun r hr => by simp at hr
theorem ag_of_over {T : Tab} {x : Nat → Option (List AV → Option AV)} (hp : ∀ f g, x f = some g → T.pure f = true ∧ ∀ args h, ole (pcall g args h) (ag T f args h)) {n f : Nat} {args : List AV} {h : Heap} {r : AV × Heap} (hr : gcall (Over T x) n f args h = some r) : ag T f args h = some r :=
  (over_le hp n).call f args h r hr
end Go.Proofs.Ytejnficfhoekiaa.AM

/- The rounds of the digest, as the machine runs them: by the kernel, over words that are not known. -/
namespace Go.Proofs.Ytejnficfhoekiaa.AM
open Go
set_option maxRecDepth 100000
set_option linter.unusedVariables false
set_option linter.unusedSimpArgs false
/-- operations on words, as the machine has them -/
def oI (op : BinOp) (a b : Int) : Int := match abin op (.int .u64 a) (.int .u64 b) with | some (.int _ n) => n | _ => 0
def uI (a : Int) : Int := match aun .xor (.int .u64 a) with | some (.int _ n) => n | _ => 0
def ni (l : List Int) (i : Nat) : Int := l.getD i 0
def iRl (n : Nat) (w : Int) : Int := oI .or (oI .shl w n) (oI .shr w (64 - n : Nat))
def iCols (s : List Int) : List Int := k5.map fun x => oI .xor (oI .xor (oI .xor (oI .xor (ni s x) (ni s (x + 5))) (ni s (x + 10))) (ni s (x + 15))) (ni s (x + 20))
def iSums (c : List Int) : List Int := k5.map fun x => oI .xor (ni c ((x + 4) % 5)) (iRl 1 (ni c ((x + 1) % 5)))
def iTurned (s d : List Int) : List Int := k25.map fun j => iRl (nn kBy (nn kFrom j)) (oI .xor (ni s (nn kFrom j)) (ni d (nn kFrom j % 5)))
def iRows (b : List Int) : List Int := k25.map fun j => oI .xor (ni b j) (oI .andNot (ni b (5 * (j / 5) + (j + 2) % 5)) (ni b (5 * (j / 5) + (j + 1) % 5)))
def iRowsR (b : List Int) : List Int := k25.map fun j => oI .xor (ni b j) (oI .and (uI (ni b (5 * (j / 5) + (j + 1) % 5))) (ni b (5 * (j / 5) + (j + 2) % 5)))
def iHead (c : Int) : List Int → List Int
  | [] => []
  | x :: l => oI .xor x c :: l
def iRound (s : List Int) (c : Int) : List Int := iHead c (iRows (iTurned s (iSums (iCols s))))
def iRoundR (s : List Int) (c : Int) : List Int := iHead c (iRowsR (iTurned s (iSums (iCols s))))
abbrev vI (l : List Int) : List AV := l.map fun n => .int .u64 n
def spgT : List AV := (kBy.map fun n => .int .i64 (n : Nat)) ++ ((kTo.map fun n => .int .i64 (n : Nat)) ++ (kCon.map fun n => .int .u64 (n : Nat)))
/-- a sponge's cells: its words, its tables, its rate and place -/
def spgC (s : List AV) (r a : Int) : List AV := s ++ (spgT ++ [.int .i64 r, .int .i64 a])
def tabC : List AV := (kBy.map fun n => .int .i64 (n : Nat)) ++ (kCon.map fun n => .int .u64 (n : Nat))
/-- 32 empty bytes -/
def Z32 : AObj := .cells (List.replicate 32 (.int .u8 0))
theorem mix_k (c r a s0 s1 s2 s3 s4 s5 s6 s7 s8 s9 s10 s11 s12 s13 s14 s15 s16 s17 s18 s19 s20 s21 s22 s23 s24 : Int) :
    (gcall T 60 67 [.ptr 2 0, .ptr 2 25, .ptr 2 50, .int .u64 c] [Z32, Z32, .cells (spgC (vI [s0, s1, s2, s3, s4, s5, s6, s7, s8, s9, s10, s11, s12, s13, s14, s15, s16, s17, s18, s19, s20, s21, s22, s23, s24]) r a)]).map (fun p => (p.1, p.2.take 3)) =
      some (.tup [], [Z32, Z32, .cells (spgC (vI (iRound [s0, s1, s2, s3, s4, s5, s6, s7, s8, s9, s10, s11, s12, s13, s14, s15, s16, s17, s18, s19, s20, s21, s22, s23, s24] c)) r a)]) := by kernel_rfl
/-! ### words -/
abbrev wI (l : List Wd) : List Int := l.map fun w => (w.toNat : Int)
theorem ofInt_nat (a : Wd) : BitVec.ofInt 64 (a.toNat : Int) = a := by
  rw [BitVec.ofInt_natCast, BitVec.ofNat_toNat, BitVec.setWidth_eq]
theorem wrap_nat (a : Wd) : IntKind.u64.wrap (a.toNat : Int) = a.toNat := by
  rw [IntKind.wrap_u64]
  have := a.isLt
  omega
theorem oI_xor (a b : Wd) : oI .xor a.toNat b.toNat = ((a ^^^ b).toNat : Int) := by
  show IntKind.u64.wrap ((BitVec.ofInt 64 (a.toNat : Int) ^^^ BitVec.ofInt 64 (b.toNat : Int)).toNat : Int) = _
  rw [ofInt_nat, ofInt_nat, wrap_nat]
theorem oI_or (a b : Wd) : oI .or a.toNat b.toNat = ((a ||| b).toNat : Int) := by
  show IntKind.u64.wrap ((BitVec.ofInt 64 (a.toNat : Int) ||| BitVec.ofInt 64 (b.toNat : Int)).toNat : Int) = _
  rw [ofInt_nat, ofInt_nat, wrap_nat]
theorem oI_and (a b : Wd) : oI .and a.toNat b.toNat = ((a &&& b).toNat : Int) := by
  show IntKind.u64.wrap ((BitVec.ofInt 64 (a.toNat : Int) &&& BitVec.ofInt 64 (b.toNat : Int)).toNat : Int) = _
  rw [ofInt_nat, ofInt_nat, wrap_nat]
theorem oI_andNot (a b : Wd) : oI .andNot a.toNat b.toNat = ((a &&& ~~~b).toNat : Int) := by
  show IntKind.u64.wrap ((BitVec.ofInt 64 (a.toNat : Int) &&& ~~~BitVec.ofInt 64 (b.toNat : Int)).toNat : Int) = _
  rw [ofInt_nat, ofInt_nat, wrap_nat]
theorem uI_not (a : Wd) : uI a.toNat = ((~~~a).toNat : Int) := by
  show IntKind.u64.wrap ((BitVec.ofInt 64 (18446744073709551615 : Int) ^^^ BitVec.ofInt 64 (a.toNat : Int)).toNat : Int) = _
  rw [ofInt_nat, wrap_nat, show BitVec.ofInt 64 (18446744073709551615 : Int) = BitVec.allOnes 64 from by kernel_rfl, BitVec.allOnes_xor]
theorem oI_shl (a : Wd) (n : Nat) (hn : n ≤ 64) : oI .shl a.toNat (n : Nat) = ((a <<< n).toNat : Int) := by
  have h0 : ¬ ((n : Int) < 0) := by omega
  show (match (if (n : Int) < 0 then none else some (Value.int .u64 (IntKind.u64.wrap ((a.toNat : Int) * 2 ^ min (n : Int).toNat 64)))) with | some (.int _ m) => m | _ => (0 : Int)) = _
  rw [if_neg h0]
  show IntKind.u64.wrap ((a.toNat : Int) * 2 ^ min (n : Int).toNat 64) = _
  have h1 : ((a.toNat * 2 ^ n : Nat) : Int) = (a.toNat : Int) * 2 ^ n := by rw [Int.natCast_mul, Int.natCast_pow]; rfl
  rw [Int.toNat_natCast, Nat.min_eq_left hn, IntKind.wrap_u64, BitVec.toNat_shiftLeft, Nat.shiftLeft_eq, ← h1]
  generalize a.toNat * 2 ^ n = x
  show (x : Int) % 18446744073709551616 = ((x % 18446744073709551616 : Nat) : Int)
  omega
theorem oI_shr (a : Wd) (n : Nat) (hn : n ≤ 64) : oI .shr a.toNat (n : Nat) = ((a >>> n).toNat : Int) := by
  have h0 : ¬ ((n : Int) < 0) := by omega
  show (match (if (n : Int) < 0 then none else some (Value.int .u64 ((a.toNat : Int).fdiv (2 ^ min (n : Int).toNat 64)))) with | some (.int _ m) => m | _ => (0 : Int)) = _
  rw [if_neg h0]
  show (a.toNat : Int).fdiv (2 ^ min (n : Int).toNat 64) = _
  rw [Int.toNat_natCast, Nat.min_eq_left hn, BitVec.toNat_ushiftRight, Nat.shiftRight_eq_div_pow, Int.fdiv_eq_ediv_of_nonneg _ (Int.le_of_lt (Int.pow_pos (by decide)))]
  norm_cast
theorem ni_w (s : List Wd) (i : Nat) : ni (wI s) i = ((nw s i).toNat : Int) := by
  simp only [ni, nw, wI, List.getD_eq_getElem?_getD, List.getElem?_map]
  cases s[i]? <;> rfl
theorem iRl_w (n : Nat) (hn : n ≤ 64) (w : Wd) : iRl n w.toNat = ((rl n w).toNat : Int) := by
  rw [iRl, oI_shl _ _ hn, oI_shr _ _ (by omega), oI_or]; rfl
theorem iCols_w (s : List Wd) : iCols (wI s) = wI (kCols s) := by
  simp only [iCols, kCols, ni_w, oI_xor, List.map_map, Function.comp_def]
theorem iSums_w (s : List Wd) : iSums (wI s) = wI (kSums s) := by
  simp only [iSums, kSums, ni_w, iRl_w 1 (by decide), oI_xor, List.map_map, Function.comp_def]
theorem by_le : ∀ x, nn kBy x ≤ 64 := by
  intro x
  unfold nn
  rw [List.getD_eq_getElem?_getD]
  cases h : kBy[x]? with
  | none => simp
  | some v =>
    have := List.mem_of_getElem? h
    have hall : ∀ v ∈ kBy, v ≤ 64 := by decide
    exact hall v this
theorem iTurned_w (s d : List Wd) : iTurned (wI s) (wI d) = wI (kTurned s d) := by
  simp only [iTurned, kTurned, ni_w, oI_xor, List.map_map, Function.comp_def]
  apply List.map_congr_left
  intro x _
  exact iRl_w _ (by_le _) _
theorem iRows_w (s : List Wd) : iRows (wI s) = wI (kRows s) := by
  simp only [iRows, kRows, ni_w, oI_xor, oI_andNot, List.map_map, Function.comp_def]
theorem iRowsR_w (s : List Wd) : iRowsR (wI s) = wI (kRows s) := by
  simp only [iRowsR, kRows, ni_w, uI_not, oI_xor, oI_and, List.map_map, Function.comp_def]
  apply List.map_congr_left
  intro x _
  rw [BitVec.and_comm]
theorem iHead_w (c : Wd) : ∀ s : List Wd, iHead c.toNat (wI s) = wI (kHead c s)
  | [] => rfl
  | x :: l => by simp only [iHead, kHead, wI, List.map_cons, oI_xor]
theorem iRound_w (s : List Wd) (c : Wd) : iRound (wI s) c.toNat = wI (kRound s c) := by
  simp only [iRound, kRound, iCols_w, iSums_w, iTurned_w, iRows_w, iHead_w]
theorem iRoundR_w (s : List Wd) (c : Wd) : iRoundR (wI s) c.toNat = wI (kRound s c) := by
  simp only [iRoundR, kRound, iCols_w, iSums_w, iTurned_w, iRowsR_w, iHead_w]
end Go.Proofs.Ytejnficfhoekiaa.AM

/- The digest, as the machine runs it: all rounds, bytes in, bytes out. -/
namespace Go.Proofs.Ytejnficfhoekiaa.AM
open Go
set_option maxRecDepth 100000
set_option maxHeartbeats 4000000
set_option linter.unusedVariables false
set_option linter.unusedSimpArgs false
theorem k_wp {f : Nat} {F : AFn} {args : List AV} {h : Heap} {Q : AV × Heap → Prop} (hx : T.ext f = none) (hf : T.fn f = some F) (hp : F.pure = false) (hl : args.length = F.np) (hw : WP (BQ (fin F.res) Q) (ax T F.body (initE 0 args) h)) : WP Q (ag T f args h) := by
  rw [ag_gen hx hf hp args hl, WP_bind]
  exact hw
abbrev wv (l : List Wd) : List AV := vI (wI l)
theorem words25 {s : List Wd} (h : s.length = 25) : s = k25.map (nw s) := by
  apply List.ext_getElem?
  intro i
  by_cases hi : i < 25
  · have h1 : s[i]? = some (nw s i) := by
      rw [nw, List.getD_eq_getElem?_getD, List.getElem?_eq_getElem (by omega)]; rfl
    rw [h1, List.getElem?_map]
    have h2 : k25[i]? = some i := by
      have : ∀ i, i < 25 → k25[i]? = some i := by decide
      exact this i hi
    rw [h2]; rfl
  · rw [List.getElem?_eq_none (by omega), List.getElem?_eq_none (by simp [k25]; omega)]
theorem call_mix (s : List Wd) (hs : s.length = 25) (c : Wd) (r a : Int) : ∃ g, ag T 67 [.ptr 2 0, .ptr 2 25, .ptr 2 50, .int .u64 c.toNat] [Z32, Z32, .cells (spgC (wv s) r a)] = some (.tup [], [Z32, Z32, .cells (spgC (wv (kRound s c)) r a)] ++ g) := by
  have hk := mix_k c.toNat r a (nw s 0).toNat (nw s 1).toNat (nw s 2).toNat (nw s 3).toNat (nw s 4).toNat (nw s 5).toNat (nw s 6).toNat (nw s 7).toNat (nw s 8).toNat (nw s 9).toNat (nw s 10).toNat (nw s 11).toNat (nw s 12).toNat (nw s 13).toNat (nw s 14).toNat (nw s 15).toNat (nw s 16).toNat (nw s 17).toNat (nw s 18).toNat (nw s 19).toNat (nw s 20).toNat (nw s 21).toNat (nw s 22).toNat (nw s 23).toNat (nw s 24).toNat
  have hw : ([((nw s 0).toNat : Int), (nw s 1).toNat, (nw s 2).toNat, (nw s 3).toNat, (nw s 4).toNat, (nw s 5).toNat, (nw s 6).toNat, (nw s 7).toNat, (nw s 8).toNat, (nw s 9).toNat, (nw s 10).toNat, (nw s 11).toNat, (nw s 12).toNat, (nw s 13).toNat, (nw s 14).toNat, (nw s 15).toNat, (nw s 16).toNat, (nw s 17).toNat, (nw s 18).toNat, (nw s 19).toNat, (nw s 20).toNat, (nw s 21).toNat, (nw s 22).toNat, (nw s 23).toNat, (nw s 24).toNat] : List Int) = wI s := by
    conv => rhs; rw [words25 hs]
    rfl
  rw [hw, iRound_w, Option.map_eq_some_iff] at hk
  obtain ⟨⟨v, h'⟩, hg, he⟩ := hk
  simp only [Prod.mk.injEq] at he
  obtain ⟨rfl, he⟩ := he
  refine ⟨h'.drop 3, ?_⟩
  rw [← he, List.take_append_drop]
  exact ag_of_gcall hg
theorem spg_len (s : List AV) (r a : Int) : (spgC s r a).length = s.length + 76 := by simp [spgC, spgT, kBy, kTo, kCon]
theorem spg_drop {s : List AV} (hs : s.length = 25) (r a : Int) (n : Nat) : (spgC s r a).drop (25 + n) = (spgT ++ [AV.int .i64 r, AV.int .i64 a]).drop n := by
  rw [spgC, List.drop_append, List.drop_of_length_le (by omega), List.nil_append]; congr 1; omega
def conC : List AV := kCon.map fun n => .int .u64 (n : Nat)
theorem spg_con {s : List AV} (hs : s.length = 25) (r a : Int) : ldCells (some 24) ((spgC s r a).drop 75) = some (.agg conC) := by
  rw [spg_drop hs r a 50]; rfl
theorem spg_rate {s : List AV} (hs : s.length = 25) (r a : Int) : (spgC s r a)[99]? = some (.int .i64 r) := by
  have := spg_drop hs r a 74
  have h2 := congrArg (·[0]?) this
  simp only [List.getElem?_drop, Nat.add_zero] at h2
  exact h2.trans rfl
theorem spg_at {s : List AV} (hs : s.length = 25) (r a : Int) : (spgC s r a)[100]? = some (.int .i64 a) := by
  have := spg_drop hs r a 75
  have h2 := congrArg (·[0]?) this
  simp only [List.getElem?_drop, Nat.add_zero] at h2
  exact h2.trans rfl
theorem spg_setAt {s : List AV} (hs : s.length = 25) (r a b : Int) : (spgC s r a).set 100 (.int .i64 b) = spgC s r b := by
  rw [spgC, List.set_append_right _ _ (by omega), hs]; rfl
theorem spg_set {s : List AV} (hs : s.length = 25) (r a : Int) (i : Nat) (hi : i < 25) (x : AV) : (spgC s r a).set i x = spgC (s.set i x) r a := by
  rw [spgC, List.set_append_left _ _ (by omega)]; rfl
theorem wv_len (s : List Wd) : (wv s).length = s.length := by simp [vI, wI]
theorem wv_below (p : Nat → Bool) : ∀ s : List Wd, namL p (wv s) = true
  | [] => rfl
  | w :: s => wv_below p s
theorem namL_app (p : Nat → Bool) : ∀ (a b : List AV), namL p (a ++ b) = (namL p a && namL p b)
  | [], b => by simp [namL]
  | x :: a, b => by simp only [List.cons_append, namL, namL_app p a b, Bool.and_assoc]
theorem spg_below (p : Nat → Bool) (s : List Wd) (r a : Int) : namL p (spgC (wv s) r a) = true := by
  rw [spgC, namL_app, namL_app, wv_below]; rfl
def kFold (n : Nat) (s : List Wd) : List Wd := ((kCon.take n).map (BitVec.ofNat 64)).foldl kRound s
theorem kFold_length {s : List Wd} (hs : s.length = 25) (n : Nat) : (kFold n s).length = 25 := kFold_len _ s hs
theorem kFold_succ (s : List Wd) (i : Nat) (hi : i < 24) : kFold (i + 1) s = kRound (kFold i s) (BitVec.ofNat 64 (nn kCon i)) := by
  have h1 : kCon.take (i + 1) = kCon.take i ++ [nn kCon i] := by
    have : ∀ i, i < 24 → kCon.take (i + 1) = kCon.take i ++ [nn kCon i] := by decide
    exact this i hi
  rw [kFold, h1, List.map_append, List.foldl_append]; rfl
theorem con_get (i : Nat) (hi : i < 24) : conC[i]? = some (.int .u64 ((BitVec.ofNat 64 (nn kCon i)).toNat : Int)) := by
  have h1 : ∀ i, i < 24 → kCon[i]? = some (BitVec.ofNat 64 (nn kCon i)).toNat := by decide
  rw [conC, List.getElem?_map, h1 i hi]; rfl
theorem all_ok (s : List Wd) (hs : s.length = 25) (r a : Int) : ag T 63 [.ptr 2 0] [Z32, Z32, .cells (spgC (wv s) r a)] = some (.tup [], [Z32, Z32, .cells (spgC (wv (kPerm s)) r 0)]) := by
  refine WP_eq (k_wp rfl t63 rfl rfl ?_)
  have h75 := spg_con (by rw [wv_len, hs] : (wv s).length = 25) r a
  first | have hb := hb | have hb := trivial
  repeat' (first | (simp -implicitDefEqProofs (disch := omega) only [hb, F63, h75, wC, initE, aop, Nat.reduceEqDiff, ↓reduceIte, Nat.reduceAdd, finish, resOf, tupOf, AM.freeze, freeze1, freezeL, closed, nam, namL, if_true, if_false, deref, boxAt, exAt, oneL, oneCell, Nat.reduceLeDiff, evL, adopt, rigid, rigidL, trim, Int.reduceEq, Int.reduceMod, Int.reduceDiv, if_pos, if_neg, asI, forall_const, implies_true, chkD, chkO, chkW, effB, reB, vEq, beq_self_eq_true, Nat.reduceSub, Nat.reduceLT, Int.reduceSub, Int.reduceAdd, Int.reduceMul, Int.reduceLT, Int.reduceLE, Int.reduceToNat, optI, aslice, cutSl, cutMs, cutStr, cutOwn, cellsOf, one, elCells, lenOf, beqV, beqVL, strip, stripO, convS]) | ((first | rw [WP_condK] | rw [WP_opsG] | rw [WP_quiG] | rw [WP_dG]); refine And.intro (fun hb => ?_) (fun hb => ?_) <;> (first | have hd := dq1 hb | have hd := dq2 hb | have hd := dq3 hb | have hd := dq4 hb | skip)))
  refine WP_loop (I := fun n e h => ∃ i g, i ≤ 24 ∧ n = 24 - i ∧ getE e 0 = .ptr 2 0 ∧ getE e 7 = .agg conC ∧ getE e 8 = i64 i ∧ h = [Z32, Z32, .cells (spgC (wv (kFold i s)) r a)] ++ g) ?_ 24 _ _ ⟨0, [], by omega, rfl, rfl, rfl, rfl, rfl⟩
  rintro n e h ⟨i, g, hi, rfl, h0, h7, h8, rfl⟩
  have hl := kFold_length hs i
  rw [trim_take (by simp only [List.all_cons, List.all_nil, h0, h7, h8]; rfl) (by simp only [List.cons_append, List.nil_append, List.length_cons, List.length_nil, List.take_succ_cons, List.take_zero, List.all_cons, List.all_nil, belowO, belowL, spg_below, Bool.and_true]; rfl)]
  by_cases h24 : i < 24
  · obtain ⟨g2, hm⟩ := call_mix (kFold i s) hl (BitVec.ofNat 64 (nn kCon i)) r a
    have hc := con_get i h24
    first | have hb := hb | have hb := trivial
    repeat' (first | (simp -implicitDefEqProofs (disch := omega) only [hb, L63_0, h0, h7, h8, h24, hc, hm, wC, initE, aop, Nat.reduceEqDiff, ↓reduceIte, Nat.reduceAdd, finish, resOf, tupOf, AM.freeze, freeze1, freezeL, closed, nam, namL, if_true, if_false, deref, boxAt, exAt, ldCells, oneL, oneCell, Nat.reduceLeDiff, evL, adopt, rigid, rigidL, trim, Int.reduceEq, Int.reduceMod, Int.reduceDiv, if_pos, if_neg, asI, forall_const, implies_true, chkD, chkO, chkW, effB, reB, vEq, beq_self_eq_true, Nat.reduceSub, Nat.reduceLT, Int.reduceSub, Int.reduceAdd, Int.reduceMul, Int.reduceLT, Int.reduceLE, Int.reduceToNat, optI, aslice, cutSl, cutMs, cutStr, cutOwn, cellsOf, one, elCells, lenOf, beqV, beqVL, strip, stripO, convS]) | ((first | rw [WP_condK] | rw [WP_opsG] | rw [WP_quiG] | rw [WP_dG]); refine And.intro (fun hb => ?_) (fun hb => ?_) <;> (first | have hd := dq1 hb | have hd := dq2 hb | have hd := dq3 hb | have hd := dq4 hb | skip)))
    exact ⟨23 - i, by omega, i + 1, g2, by omega, by omega, rfl, by rw [kFold_succ _ _ h24]⟩
  · obtain rfl : i = 24 := by omega
    have hn : (spgC (wv (kFold 24 s)) r a).length = 101 := by rw [spg_len, wv_len, hl]
    have hst := spg_setAt (by rw [wv_len, hl] : (wv (kFold 24 s)).length = 25) r a 0
    first | have hb := hb | have hb := trivial
    repeat' (first | (simp -implicitDefEqProofs (disch := omega) only [hb, L63_0, h0, h7, h8, hn, hst, wC, initE, aop, Nat.reduceEqDiff, ↓reduceIte, Nat.reduceAdd, finish, resOf, tupOf, AM.freeze, freeze1, freezeL, closed, nam, namL, if_true, if_false, deref, boxAt, exAt, ldCells, oneL, oneCell, Nat.reduceLeDiff, evL, adopt, rigid, rigidL, trim, Int.reduceEq, Int.reduceMod, Int.reduceDiv, if_pos, if_neg, asI, forall_const, implies_true, chkD, chkO, chkW, effB, reB, vEq, beq_self_eq_true, Nat.reduceSub, Nat.reduceLT, Int.reduceSub, Int.reduceAdd, Int.reduceMul, Int.reduceLT, Int.reduceLE, Int.reduceToNat, optI, aslice, cutSl, cutMs, cutStr, cutOwn, cellsOf, one, elCells, lenOf, beqV, beqVL, strip, stripO, convS]) | ((first | rw [WP_condK] | rw [WP_opsG] | rw [WP_quiG] | rw [WP_dG]); refine And.intro (fun hb => ?_) (fun hb => ?_) <;> (first | have hd := dq1 hb | have hd := dq2 hb | have hd := dq3 hb | have hd := dq4 hb | skip)))
    rfl
/-- a byte into a place -/
theorem wv_set (s : List Wd) (i : Nat) (w : Wd) : (wv s).set i (.int .u64 w.toNat) = wv (s.set i w) := by
  simp only [wv, vI, wI, List.map_set]
theorem wv_get {s : List Wd} {i : Nat} (hi : i < s.length) : (wv s)[i]? = some (.int .u64 (nw s i).toNat) := by
  simp only [wv, vI, wI, List.getElem?_map, nw, List.getD_eq_getElem?_getD, List.getElem?_eq_getElem hi, Option.map_some, Option.getD_some]
theorem spg_get {s : List Wd} (hs : s.length = 25) (r a : Int) {i : Nat} (hi : i < 25) : (spgC (wv s) r a)[i]? = some (.int .u64 (nw s i).toNat) := by
  rw [spgC, List.getElem?_append_left (by rw [wv_len]; omega), wv_get (by omega)]
theorem bin_xorW (a b : Wd) : abin .xor (.int .u64 a.toNat) (.int .u64 b.toNat) = some (.int .u64 (a ^^^ b).toNat) := by
  have := oI_xor a b
  show some (Value.int .u64 (oI .xor a.toNat b.toNat)) = _
  rw [this]
theorem bin_shlW (k : IntKind) (x : Int) (n : Nat) (hn : n ≤ 64) (h0 : 0 ≤ x) (h1 : x ≤ 255) : abin .shl (.int .u64 x) (.int k (n : Nat)) = some (.int .u64 (BitVec.ofInt 64 x <<< n).toNat) := by
  have hx : x = ((BitVec.ofInt 64 x).toNat : Int) := by rw [BitVec.toNat_ofInt]; omega
  have hn0 : ¬ ((n : Int) < 0) := by omega
  have := oI_shl (BitVec.ofInt 64 x) n hn
  rw [← hx] at this
  have e : abin .shl (.int .u64 x) (.int k (n : Nat)) = some (.int .u64 (oI .shl x n)) := by
    simp only [oI, abin, ashift, if_neg hn0]
  rw [e, this]
theorem bin_shrW (k : IntKind) (w : Wd) (n : Nat) (hn : n ≤ 64) : abin .shr (.int .u64 w.toNat) (.int k (n : Nat)) = some (.int .u64 (w >>> n).toNat) := by
  have hn0 : ¬ ((n : Int) < 0) := by omega
  have e : abin .shr (.int .u64 w.toNat) (.int k (n : Nat)) = some (.int .u64 (oI .shr w.toNat n)) := by
    simp only [oI, abin, ashift, if_neg hn0]
  rw [e, oI_shr _ _ hn]
theorem add_ok (s : List Wd) (hs : s.length = 25) (r a : Int) (i : Nat) (hi : i < 200) (b : Int) (h0 : 0 ≤ b) (h1 : b ≤ 255) : ag T 62 [.ptr 2 0, i64 i, u8 b] [Z32, Z32, .cells (spgC (wv s) r a)] = some (.tup [], [Z32, Z32, .cells (spgC (wv (kAdd s i b)) r a)]) := by
  refine WP_eq (k_wp rfl t62 rfl rfl ?_)
  have hq : ((i : Int).tdiv 8) = ((i / 8 : Nat) : Int) := by rw [Int.tdiv_eq_ediv_of_nonneg (by omega)]; omega
  have hm : ((i : Int).tmod 8) = ((i % 8 : Nat) : Int) := by rw [Int.tmod_eq_emod_of_nonneg (by omega)]; omega
  have h8 : (8 : Int) * ((i % 8 : Nat) : Int) = ((8 * (i % 8) : Nat) : Int) := by omega
  have hg := spg_get hs r a (i := i / 8) (by omega)
  have hsh := bin_shlW .i64 b (8 * (i % 8)) (by omega) h0 h1
  have hx := bin_xorW (nw s (i / 8)) (BitVec.ofInt 64 b <<< (8 * (i % 8)))
  have hw : IntKind.u64.wrap b = b := by rw [IntKind.wrap_u64]; omega
  have hset := spg_set (by rw [wv_len, hs] : (wv s).length = 25) r a (i / 8) (by omega) (.int .u64 ((nw s (i / 8)) ^^^ (BitVec.ofInt 64 b <<< (8 * (i % 8)))).toNat)
  rw [wv_set] at hset
  have hn : (spgC (wv s) r a).length = 101 := by rw [spg_len, wv_len, hs]
  first | have hb := hb | have hb := trivial
  repeat' (first | (simp -implicitDefEqProofs (disch := omega) only [hb, F62, hq, hm, h8, hg, hsh, hx, hw, hset, hn, wC, initE, aop, Nat.reduceEqDiff, ↓reduceIte, Nat.reduceAdd, finish, resOf, tupOf, AM.freeze, freeze1, freezeL, closed, nam, namL, if_true, if_false, deref, boxAt, exAt, ldCells, oneL, oneCell, Nat.reduceLeDiff, evL, adopt, rigid, rigidL, trim, Int.reduceEq, Int.reduceMod, Int.reduceDiv, if_pos, if_neg, asI, forall_const, implies_true, chkD, chkO, chkW, effB, reB, vEq, beq_self_eq_true, Nat.reduceSub, Nat.reduceLT, Int.reduceSub, Int.reduceAdd, Int.reduceMul, Int.reduceLT, Int.reduceLE, Int.reduceToNat, optI, aslice, cutSl, cutMs, cutStr, cutOwn, cellsOf, one, elCells, lenOf, beqV, beqVL, strip, stripO, convS]) | ((first | rw [WP_condK] | rw [WP_opsG] | rw [WP_quiG] | rw [WP_dG]); refine And.intro (fun hb => ?_) (fun hb => ?_) <;> (first | have hd := dq1 hb | have hd := dq2 hb | have hd := dq3 hb | have hd := dq4 hb | skip)))
  rfl
end Go.Proofs.Ytejnficfhoekiaa.AM

/- The digest, as the machine runs it: what is taken in. -/
namespace Go.Proofs.Ytejnficfhoekiaa.AM
open Go
set_option maxRecDepth 100000
set_option maxHeartbeats 4000000
set_option linter.unusedVariables false
set_option linter.unusedSimpArgs false
structure KS (p : List Wd × Nat) : Prop where
  len : p.1.length = 25
  lt : p.2 < 136
theorem KS.step {p : List Wd × Nat} (h : KS p) (b : Int) : KS (kStep 136 p b) := by
  unfold kStep
  split
  · exact ⟨kPerm_len (kAdd_len h.len _ _), by show (0 : Nat) < 136; omega⟩
  · have := h.lt
    exact ⟨kAdd_len h.len _ _, by show p.2 + 1 < 136; omega⟩
theorem KS.fold : ∀ (l : List Int) {p : List Wd × Nat}, KS p → KS (l.foldl (kStep 136) p)
  | [], p, h => h
  | b :: l, p, h => KS.fold l (h.step b)
theorem fold_snoc (l : List Int) (p : List Wd × Nat) {j : Nat} (hj : j < l.length) : (l.take (j + 1)).foldl (kStep 136) p = kStep 136 ((l.take j).foldl (kStep 136) p) l[j] := by
  rw [List.take_succ_eq_append_getElem hj, List.foldl_append]; rfl
def spH (p : List Wd × Nat) : Heap := [Z32, Z32, .cells (spgC (wv p.1) 136 p.2)]
theorem spH_below (p : List Wd × Nat) : ((spH p).take 3).all (belowO 3) = true := by
  simp only [spH, List.take_succ_cons, List.take_zero, List.all_cons, List.all_nil, belowO, belowL, spg_below, Bool.and_true]; rfl
theorem below_of (m : Nat) {x : AV} (h : closed x = true) : below m x = true := closed_below' m x h
theorem take_in (l : List Int) (hl : Bytes l) (hn : l.length ≤ 140737488351232) (p0 : List Wd × Nat) (hp : KS p0) (o : AOwn) (pv : AV) (en k i : Int) (keep : List Nat) (hkeep : keep = [0, 2, 10, 11, 12, 16, 17, 18]) (hcl : closed pv = true) (hcx : closed (.slice o none (l.map u8)) = true)
    (Q : Res → Prop) (e : Env) (h : Heap) (h0 : getE e 0 = .ptr 2 0) (h2 : getE e 2 = u8 en) (h10 : getE e 10 = pv) (h11 : getE e 11 = i64 k) (h12 : getE e 12 = i64 i) (h16 : getE e 16 = .slice o none (l.map u8)) (h17 : getE e 17 = i64 l.length) (h18 : getE e 18 = i64 0) (hh : h = spH p0)
    (hq : ∀ e', getE e' 0 = .ptr 2 0 → getE e' 2 = u8 en → getE e' 10 = pv → getE e' 11 = i64 k → getE e' 12 = i64 i → Q (.exit 2, e', spH (l.foldl (kStep 136) p0))) :
    WP Q (axl T keep true L52_0 3 e h) := by
  subst hkeep
  refine WP_loop (I := fun n e h => ∃ j, j ≤ l.length ∧ n = l.length - j ∧ getE e 0 = .ptr 2 0 ∧ getE e 2 = u8 en ∧ getE e 10 = pv ∧ getE e 11 = i64 k ∧ getE e 12 = i64 i ∧ getE e 16 = .slice o none (l.map u8) ∧ getE e 17 = i64 l.length ∧ getE e 18 = i64 j ∧ h = spH ((l.take j).foldl (kStep 136) p0)) ?_ l.length _ _ ⟨0, by omega, rfl, h0, h2, h10, h11, h12, h16, h17, h18, hh⟩
  rintro n e h ⟨j, hj, rfl, h0, h2, h10, h11, h12, h16, h17, h18, rfl⟩
  have b10 := below_of 3 hcl
  have b16 := below_of 3 hcx
  rw [trim_take (by simp only [List.all_cons, List.all_nil, h0, h2, h10, h11, h12, h16, h17, h18, b10, b16]; rfl) (spH_below _)]
  have hks := KS.fold (l.take j) hp
  by_cases hjl : j < l.length
  · have hfs := fold_snoc l p0 hjl
    generalize (l.take j).foldl (kStep 136) p0 = p at hks hfs ⊢
    obtain ⟨s, a⟩ := p
    have hs : s.length = 25 := hks.len
    have ha : a < 136 := hks.lt
    have hb := hl _ (List.getElem_mem hjl)
    have hgu := get_u8 hjl
    have hadd := add_ok s hs 136 a a (by omega) l[j] hb.1 hb.2
    have hs1 : (wv (kAdd s a l[j])).length = 25 := by rw [wv_len, kAdd_len hs]
    have f1 := spg_at (by rw [wv_len, hs] : (wv s).length = 25) 136 a
    have f2 := spg_at hs1 136 a
    have f3 := spg_setAt hs1 136 a ((a + 1 : Nat) : Int)
    have f4 := spg_at hs1 136 ((a + 1 : Nat) : Int)
    have f5 := spg_rate hs1 136 ((a + 1 : Nat) : Int)
    have f6 : (spgC (wv (kAdd s a l[j])) 136 a).length = 101 := by rw [spg_len, hs1]
    have hall := all_ok (kAdd s a l[j]) (kAdd_len hs _ _) 136 ((a + 1 : Nat) : Int)
    by_cases hr : a + 1 = 136
    · have hri : ((a + 1 : Nat) : Int) = 136 := by omega
      rw [hri] at f3 f4 f5 hall
      first | have hb := hb | have hb := trivial
      repeat' (first | (simp -implicitDefEqProofs (disch := omega) only [hb, L52_0, spH, h0, h2, h10, h11, h12, h16, h17, h18, hgu, hadd, f1, f2, f3, f4, f5, f6, hall, hri, wC, initE, aop, Nat.reduceEqDiff, ↓reduceIte, Nat.reduceAdd, finish, resOf, tupOf, AM.freeze, freeze1, freezeL, closed, nam, namL, if_true, if_false, deref, boxAt, exAt, ldCells, oneL, oneCell, Nat.reduceLeDiff, evL, adopt, rigid, rigidL, trim, Int.reduceEq, Int.reduceMod, Int.reduceDiv, if_pos, if_neg, asI, forall_const, implies_true, chkD, chkO, chkW, effB, reB, vEq, beq_self_eq_true, Nat.reduceSub, Nat.reduceLT, Int.reduceSub, Int.reduceAdd, Int.reduceMul, Int.reduceLT, Int.reduceLE, Int.reduceToNat, optI, aslice, cutSl, cutMs, cutStr, cutOwn, cellsOf, one, elCells, lenOf, beqV, beqVL, strip, stripO, convS]) | ((first | rw [WP_condK] | rw [WP_opsG] | rw [WP_quiG] | rw [WP_dG]); refine And.intro (fun hb => ?_) (fun hb => ?_) <;> (first | have hd := dq1 hb | have hd := dq2 hb | have hd := dq3 hb | have hd := dq4 hb | skip)))
      refine ⟨l.length - (j + 1), by omega, j + 1, by omega, rfl, rfl, ?_⟩
      rw [hfs]
      simp only [kStep, if_pos hr]
      rfl
    · have hri : ¬ ((a + 1 : Nat) : Int) = 136 := by omega
      first | have hb := hb | have hb := trivial
      repeat' (first | (simp -implicitDefEqProofs (disch := omega) only [hb, L52_0, spH, h0, h2, h10, h11, h12, h16, h17, h18, hgu, hadd, f1, f2, f3, f4, f5, f6, hall, hri, wC, initE, aop, Nat.reduceEqDiff, ↓reduceIte, Nat.reduceAdd, finish, resOf, tupOf, AM.freeze, freeze1, freezeL, closed, nam, namL, if_true, if_false, deref, boxAt, exAt, ldCells, oneL, oneCell, Nat.reduceLeDiff, evL, adopt, rigid, rigidL, trim, Int.reduceEq, Int.reduceMod, Int.reduceDiv, if_pos, if_neg, asI, forall_const, implies_true, chkD, chkO, chkW, effB, reB, vEq, beq_self_eq_true, Nat.reduceSub, Nat.reduceLT, Int.reduceSub, Int.reduceAdd, Int.reduceMul, Int.reduceLT, Int.reduceLE, Int.reduceToNat, optI, aslice, cutSl, cutMs, cutStr, cutOwn, cellsOf, one, elCells, lenOf, beqV, beqVL, strip, stripO, convS]) | ((first | rw [WP_condK] | rw [WP_opsG] | rw [WP_quiG] | rw [WP_dG]); refine And.intro (fun hb => ?_) (fun hb => ?_) <;> (first | have hd := dq1 hb | have hd := dq2 hb | have hd := dq3 hb | have hd := dq4 hb | skip)))
      refine ⟨l.length - (j + 1), by omega, j + 1, by omega, rfl, rfl, ?_⟩
      rw [hfs]
      simp only [kStep, if_neg hr]
  · obtain rfl : j = l.length := by omega
    first | have hb := hb | have hb := trivial
    repeat' (first | (simp -implicitDefEqProofs (disch := omega) only [hb, L52_0, h0, h2, h10, h11, h12, h16, h17, h18, wC, initE, aop, Nat.reduceEqDiff, ↓reduceIte, Nat.reduceAdd, finish, resOf, tupOf, AM.freeze, freeze1, freezeL, closed, nam, namL, if_true, if_false, deref, boxAt, exAt, ldCells, oneL, oneCell, Nat.reduceLeDiff, evL, adopt, rigid, rigidL, trim, Int.reduceEq, Int.reduceMod, Int.reduceDiv, if_pos, if_neg, asI, forall_const, implies_true, chkD, chkO, chkW, effB, reB, vEq, beq_self_eq_true, Nat.reduceSub, Nat.reduceLT, Int.reduceSub, Int.reduceAdd, Int.reduceMul, Int.reduceLT, Int.reduceLE, Int.reduceToNat, optI, aslice, cutSl, cutMs, cutStr, cutOwn, cellsOf, one, elCells, lenOf, beqV, beqVL, strip, stripO, convS]) | ((first | rw [WP_condK] | rw [WP_opsG] | rw [WP_quiG] | rw [WP_dG]); refine And.intro (fun hb => ?_) (fun hb => ?_) <;> (first | have hd := dq1 hb | have hd := dq2 hb | have hd := dq3 hb | have hd := dq4 hb | skip)))
    rw [List.take_length, show List.take 3 (spH (l.foldl (kStep 136) p0)) = spH (l.foldl (kStep 136) p0) from rfl]
    exact hq _ rfl rfl rfl rfl rfl
end Go.Proofs.Ytejnficfhoekiaa.AM
