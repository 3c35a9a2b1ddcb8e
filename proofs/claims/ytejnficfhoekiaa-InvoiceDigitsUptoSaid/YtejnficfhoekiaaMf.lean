import Derived.Test.YtejnficfhoekiaaMe
import Derived.Test.YtejnficfhoekiaaRows
import Derived.Deep.Slices
/- bigsize's streams: Encode, and the reference's. -/
namespace Go.Proofs.Ytejnficfhoekiaa.AM
open Go
set_option maxRecDepth 100000
set_option linter.unusedSimpArgs false
set_option linter.unusedVariables false
/-- a record -/
@[ext] structure Rc where
  t : Int
  v : List Int
  deriving DecidableEq
def Rc.av (r : Rc) : AV := .agg [u64 r.t, .slice .none none (r.v.map u8)]
def Rc.ok (r : Rc) : Prop := U64 r.t ∧ Bytes r.v
def recS (r : Rc) : List Int := numS r.t ++ numS r.v.length ++ r.v
def flatS (l : List Rc) : List Int := l.flatMap recS
def ascB : List Rc → Bool
  | [] => true
  | [_] => true
  | a :: b :: r => decide (a.t < b.t) && ascB (b :: r)
/-- the stream of records -/
def encS (l : List Rc) : List Int × Int := if ascB l = true then (if l.length ≤ 64 ∧ (flatS l).length ≤ 65536 then (flatS l, 0) else ([], 3)) else ([], 11)
theorem rc_closed : ∀ (l : List Rc), closedL (l.map Rc.av) = true
  | [] => rfl
  | r :: l => by
    have h1 := rc_closed l
    have h2 := u8_closed r.v
    simp only [closedL, List.map_cons, namL, Rc.av, nam, Bool.true_and, Bool.and_true] at h1 h2 ⊢
    rw [h1, h2]; rfl
theorem get_rc {l : List Rc} {i : Nat} (h : i < l.length) : (l.map Rc.av)[i]? = some (.agg [u64 l[i].t, .slice .none none (l[i].v.map u8)]) := by rw [List.getElem?_map, List.getElem?_eq_getElem h]; rfl
theorem beqVL_u8 : ∀ (l : List Int), beqVL (l.map u8) (l.map u8) = true
  | [] => rfl
  | x :: l => by simp only [List.map_cons, beqVL, beqVL_u8 l, beqV, vEq, beq_self_eq_true, Bool.and_self]
theorem ascB_at : ∀ {l : List Rc} {i : Nat} (h : i + 1 < l.length), ascB l = true → (l[i]).t < (l[i + 1]).t
  | [], i, h, _ => by simp at h
  | [_], i, h, _ => by simp at h
  | a :: b :: r, 0, h, ha => by simp only [ascB, Bool.and_eq_true, decide_eq_true_eq] at ha; exact ha.1
  | a :: b :: r, i + 1, h, ha => by
    simp only [ascB, Bool.and_eq_true] at ha
    exact ascB_at (l := b :: r) (i := i) (by simpa using h) ha.2
theorem ascB_of : ∀ {l : List Rc}, (∀ i (h : i + 1 < l.length), (l[i]).t < (l[i + 1]).t) → ascB l = true
  | [], _ => rfl
  | [_], _ => rfl
  | a :: b :: r, h => by
    simp only [ascB, Bool.and_eq_true, decide_eq_true_eq]
    exact ⟨h 0 (by simp), ascB_of (l := b :: r) fun i hi => h (i + 1) (by simpa using hi)⟩
theorem recS_len (r : Rc) : ((recS r).length : Int) = sizeS r.t + sizeS r.v.length + r.v.length := by
  have a := numS_len r.t
  have b := numS_len r.v.length
  unfold recS
  rw [List.length_append, List.length_append]
  omega
theorem flatS_take_succ {l : List Rc} {i : Nat} (h : i < l.length) : flatS (l.take (i + 1)) = flatS (l.take i) ++ recS l[i] := by
  unfold flatS
  rw [List.take_succ_eq_append_getElem h, List.flatMap_append, List.flatMap_singleton]
theorem flatS_take_le (l : List Rc) (i : Nat) : (flatS (l.take i)).length ≤ (flatS l).length := by
  have : flatS l = flatS (l.take i) ++ flatS (l.drop i) := by
    unfold flatS
    rw [← List.flatMap_append, List.take_append_drop]
  rw [this, List.length_append]; omega
def IsEnc (v : AV) (p : List Int × Int) : Prop := (p.2 ≠ 0 ∧ v = .tup [.nil, i64 p.2]) ∨ (p.2 = 0 ∧ ((p.1 = [] ∧ v = .tup [.nil, i64 0]) ∨ ∃ o, (o = .fresh ∨ o = .none) ∧ v = .tup [.slice o none (p.1.map u8), i64 0]))
/-- what has been written -/
def Out (v : AV) (D : List Int) : Prop := (v = .nil ∧ D = []) ∨ ∃ o, o ≠ .full ∧ v = .slice o none (D.map u8)
theorem out_put {v : AV} {D : List Int} (h : Out v D) (x : Int) (hx : U64 x) (hn : D.length ≤ 140737488200000) (hp : Heap) : ag T 35 [v, u64 x] hp = some (.slice (.tok hp.length) none ((D ++ numS x).map u8), hp ++ [.row none (D ++ numS x).length]) := by
  rcases h with ⟨rfl, rfl⟩ | ⟨o, ho, rfl⟩
  · rw [call_put_nil x hx hp]; simp
  · exact call_put o D x hx hn hp
theorem gA {α : Type} (h : List α) (a b : α) : (h ++ [a] ++ [b])[h.length]? = some a := by simp
theorem gB1 {α : Type} (h : List α) (a b c : α) : (h ++ [a] ++ [b] ++ [c])[h.length]? = some a := by simp
theorem gB2 {α : Type} (h : List α) (a b c : α) : (h ++ [a] ++ [b] ++ [c])[h.length + 1]? = some b := by simp
theorem gB3 {α : Type} (h : List α) (a b c : α) : (h ++ [a] ++ [b] ++ [c])[h.length + 1 + 1]? = some c := by rw [List.getElem?_append_right (by simp)]; simp
theorem gC1 {α : Type} (h : List α) (a b c d : α) : (h ++ [a] ++ [b] ++ [c] ++ [d])[h.length]? = some a := by simp
theorem gC2 {α : Type} (h : List α) (a b c d : α) : (h ++ [a] ++ [b] ++ [c] ++ [d])[h.length + 1]? = some b := by simp
theorem sB3 {α : Type} (h : List α) (a b c d : α) : (h ++ [a] ++ [b] ++ [c]).set (h.length + 1 + 1) d = h ++ [a] ++ [b] ++ [d] := by
  rw [List.set_append_right _ _ (by simp)]
  simp
theorem flatS_take (l : List Rc) : flatS (l.take l.length) = flatS l := by rw [List.take_length]
theorem ascB_take_succ {l : List Rc} {i : Nat} (h : i + 1 < l.length) (ha : ascB (l.take (i + 1)) = true) (hlt : l[i].t < l[i + 1].t) : ascB (l.take (i + 2)) = true := by
  refine ascB_of fun j hj => ?_
  rw [List.length_take] at hj
  rw [List.getElem_take, List.getElem_take]
  by_cases hji : j = i
  · subst hji; exact hlt
  · have := ascB_at (l := l.take (i + 1)) (i := j) (by rw [List.length_take]; omega) ha
    rwa [List.getElem_take, List.getElem_take] at this
theorem asc_bad {l : List Rc} {i : Nat} (h : i + 1 < l.length) (hle : l[i + 1].t ≤ l[i].t) : ascB l = false := by
  cases hb : ascB l with
  | false => rfl
  | true => have := ascB_at h hb; omega
theorem encS_bad {l : List Rc} (h : ascB l = false) : encS l = ([], 11) := by unfold encS; rw [h]; rfl
theorem encS_long {l : List Rc} (h : ascB l = true) (hl : ¬ (l.length ≤ 64 ∧ (flatS l).length ≤ 65536)) : encS l = ([], 3) := by unfold encS; rw [if_pos h, if_neg hl]
theorem encS_ok {l : List Rc} (h : ascB l = true) (hl : l.length ≤ 64 ∧ (flatS l).length ≤ 65536) : encS l = (flatS l, 0) := by unfold encS; rw [if_pos h, if_pos hl]
theorem isEnc_bad {l : List Rc} (h : ascB l = false) : IsEnc (AV.tup [AV.nil, AV.int IntKind.i64 11]) (encS l) := by
  rw [encS_bad h]; exact .inl ⟨by decide, rfl⟩
theorem isEnc_long {l : List Rc} (h : ascB l = true) (hl : ¬ (l.length ≤ 64 ∧ (flatS l).length ≤ 65536)) : IsEnc (AV.tup [AV.nil, AV.int IntKind.i64 3]) (encS l) := by
  rw [encS_long h hl]; exact .inl ⟨by decide, rfl⟩
theorem isEnc_out {l : List Rc} {v w : AV} {h : Heap} (ha : ascB l = true) (hl : l.length ≤ 64 ∧ (flatS l).length ≤ 65536) (hv : Out v (flatS l)) (hw : freeze h (.tup [v, i64 0]) = some w) : IsEnc w (encS l) := by
  rw [encS_ok ha hl]
  have hc := u8_closed (flatS l)
  rcases hv with ⟨rfl, h0⟩ | ⟨o, ho, rfl⟩
  · cases hw; exact .inr ⟨rfl, .inl ⟨h0, rfl⟩⟩
  · refine .inr ⟨rfl, .inr ?_⟩
    cases o with
    | none =>
      simp only [freeze, freezeL, freeze1, closed, nam, Bool.true_and] at hw
      rw [show namL (fun _ => false) ((flatS l).map u8) = true from hc] at hw
      cases hw; exact ⟨_, .inr rfl, rfl⟩
    | full => exact absurd rfl ho
    | fresh =>
      simp only [freeze, freezeL, freeze1, hc, if_true, closed, nam, Option.bind_some, Option.map_some] at hw
      cases hw; exact ⟨_, .inr rfl, rfl⟩
    | tok i =>
      simp only [freeze, freezeL, freeze1, hc, if_true, closed, nam, Option.map_some] at hw
      split at hw
      · split at hw
        · split at hw
          · cases hw; exact ⟨_, .inl rfl, rfl⟩
          · cases hw; exact ⟨_, .inr rfl, rfl⟩
        · cases hw; exact ⟨_, .inr rfl, rfl⟩
      · cases hw; exact ⟨_, .inr rfl, rfl⟩
theorem out_freeze {l : List Rc} {v : AV} {h : Heap} (ha : ascB l = true) (hl : l.length ≤ 64 ∧ (flatS l).length ≤ 65536) (hv : Out v (flatS l)) : WP (fun v => IsEnc v (encS l)) (freeze h (.tup [v, i64 0])) := by
  have hc := u8_closed (flatS l)
  have : ∃ w, freeze h (.tup [v, i64 0]) = some w := by
    rcases hv with ⟨rfl, h0⟩ | ⟨o, ho, rfl⟩
    · exact ⟨_, rfl⟩
    · cases o with
      | none =>
        simp only [freeze, freezeL, freeze1, closed, nam, Bool.true_and]
        rw [show namL (fun _ => false) ((flatS l).map u8) = true from hc]
        exact ⟨_, rfl⟩
      | full =>
        simp only [freeze, freezeL, freeze1, closed, nam, Bool.true_and]
        rw [show namL (fun _ => false) ((flatS l).map u8) = true from hc]
        exact ⟨_, rfl⟩
      | fresh =>
        simp only [freeze, freezeL, freeze1, hc, if_true, closed, nam, Option.bind_some, Option.map_some]
        exact ⟨_, rfl⟩
      | tok i =>
        simp only [freeze, freezeL, freeze1, hc, if_true, closed, nam, Option.map_some]
        split
        · split
          · split <;> exact ⟨_, rfl⟩
          · exact ⟨_, rfl⟩
        · exact ⟨_, rfl⟩
  obtain ⟨w, hw⟩ := this
  rw [hw]
  exact isEnc_out ha hl hv hw
/-- what may stand for bytes -/
structure Tx (v : AV) (l : List Int) : Prop where
  len : lenOf v = some l.length
  els : ∀ h, elemsOf h none v = some (l.map u8)
  one : Go.Proofs.Ytejnficfhoekiaa.AM.one v = true
  strip : Go.Proofs.Ytejnficfhoekiaa.AM.strip v = v
  cl : closed v = true
  cells : cellsOf v = some [v]
  beq : beqV v v = true
  str : ∀ h, convS h v = some (.str (strOfNums l))
theorem tx_nil : Tx .nil [] := ⟨rfl, fun _ => rfl, rfl, rfl, rfl, rfl, rfl, fun _ => rfl⟩
theorem tx_slice (l : List Int) : Tx (.slice .none none (l.map u8)) l := ⟨by simp [lenOf], fun _ => by simp [elemsOf], rfl, rfl, by have := u8_closed l; simp only [closed, nam, Bool.true_and]; exact this, rfl, by simp [beqV, beqVL_u8], fun _ => by simp [convS, elemsOf, byteEls_u8]⟩
theorem tx_full (l : List Int) : Tx (.slice .full none (l.map u8)) l := ⟨by simp [lenOf], fun _ => by simp [elemsOf], rfl, rfl, by have := u8_closed l; simp only [closed, nam, Bool.true_and]; exact this, rfl, by simp [beqV, beqVL_u8], fun _ => by simp [convS, elemsOf, byteEls_u8]⟩
/-- what may stand for records -/
def RecsA (A : List AV) (l : List Rc) : Prop := A.length = l.length ∧ closedL A = true ∧ ∀ i (h : i < l.length), ∃ w, A[i]? = some (.agg [u64 l[i].t, w]) ∧ Tx w l[i].v
theorem recsA_rc (l : List Rc) : RecsA (l.map Rc.av) l := ⟨by simp, rc_closed l, fun i h => ⟨_, get_rc h, tx_slice _⟩⟩
theorem enc_small (A : List AV) (l : List Rc) (hA : RecsA A l) (hok : ∀ r ∈ l, Rc.ok r) (hB : (flatS l).length ≤ 1152921504606846976) (hn : l.length ≤ 140737488351232) : ∃ v, prun T F18 [.slice .none (some 2) A] = some v ∧ IsEnc v (encS l) := by
  suffices h : WP (fun v => IsEnc v (encS l)) (prun T F18 [.slice .none (some 2) A]) by
    obtain ⟨v, h1, h2⟩ := WP_ex h
    exact ⟨v, h1, h2⟩
  have hcl := hA.2.1
  have hAl := hA.1
  refine prun_wp ?_
  simp -implicitDefEqProofs (disch := omega) only [F18, hAl, wC, initE, aop, Nat.reduceEqDiff, ↓reduceIte, Nat.reduceAdd, finish, resOf, tupOf, AM.freeze, freeze1, freezeL, closed, nam, namL, if_true, if_false, deref, boxAt, exAt, ldCells, oneL, oneCell, Nat.reduceLeDiff, evL, adopt, rigid, rigidL, trim, Int.reduceEq, Int.reduceMod, Int.reduceDiv, if_pos, if_neg, asI, forall_const, implies_true, chkD, chkO, chkW, effB, reB, vEq, beq_self_eq_true, Nat.reduceSub, Nat.reduceLT, Int.reduceSub, Int.reduceAdd, Int.reduceMul, Int.reduceLT, Int.reduceLE, Int.reduceToNat, optI, aslice, cutSl, cutMs, cutStr, cutOwn, cellsOf, one, elCells, lenOf, beqV, beqVL, strip, stripO, convS]
  refine WP_loop (I := fun k e h => ∃ i : Nat, k + i = l.length ∧ getE e 0 = .slice .none (some 2) A ∧ getE e 4 = i64 (flatS (l.take i)).length ∧ getE e 10 = .slice .none (some 2) A ∧ getE e 11 = i64 l.length ∧ getE e 12 = i64 i ∧ ascB (l.take i) = true) ?_ l.length _ _ ⟨0, by omega, rfl, rfl, rfl, rfl, rfl, rfl⟩
  rintro k e h ⟨i, hk, h0, h4, h10, h11, h12, hasc⟩
  rw [trim_off]
  by_cases hlt : i < l.length
  · obtain ⟨w, hg, tx⟩ := hA.2.2 i hlt
    have txl := tx.len
    have txe := tx.els
    have txo := tx.one
    have hu := (hok l[i] (List.getElem_mem hlt)).1
    have hsz1 := sizeS_le l[i].t
    have hsz2 := sizeS_le l[i].v.length
    have hfl := flatS_take_succ hlt
    have hrl := recS_len l[i]
    have hle := flatS_take_le l (i + 1)
    have hfl2 : (flatS (l.take (i + 1))).length = (flatS (l.take i)).length + (recS l[i]).length := by rw [hfl, List.length_append]
    have hbv := tx.beq
    by_cases hi0 : i = 0
    · subst hi0
      have hz : flatS (l.take 0) = [] := rfl
      have hz' : (flatS ([] : List Rc)).length = 0 := rfl
      rw [hz] at hfl2
      simp only [List.length_nil] at hfl2
      first | have hb := hb | have hb := trivial
      repeat' (first | (simp -implicitDefEqProofs (disch := omega) only [hb, hAl, txo, L18_1, h0, h4, h10, h11, h12, hg, txl, txe, call_size, p34, hbv, Bool.and_self, hz', wC, wO, initE, aop, Nat.reduceEqDiff, ↓reduceIte, Nat.reduceAdd, finish, resOf, tupOf, AM.freeze, freeze1, freezeL, closed, nam, namL, if_true, if_false, deref, boxAt, exAt, ldCells, oneL, oneCell, Nat.reduceLeDiff, evL, adopt, rigid, rigidL, trim, Int.reduceEq, Int.reduceMod, Int.reduceDiv, if_pos, if_neg, asI, forall_const, implies_true, chkD, chkO, chkW, effB, reB, vEq, beq_self_eq_true, Nat.reduceSub, Nat.reduceLT, Int.reduceSub, Int.reduceAdd, Int.reduceMul, Int.reduceLT, Int.reduceLE, Int.reduceToNat, optI, aslice, cutSl, cutMs, cutStr, cutOwn]) | ((first | rw [WP_condK] | rw [WP_opsG] | rw [WP_quiG] | rw [WP_dG]); refine And.intro (fun hb => ?_) (fun hb => ?_) <;> (first | have hd := dq1 hb | have hd := dq2 hb | have hd := dq3 hb | have hd := dq4 hb | skip)))
      refine ⟨k - 1, by omega, 1, by omega, ?_, rfl, ?_⟩
      · rw [hfl2]
        simp only [Int.natCast_zero, Int.zero_add, Int.natCast_add, hrl]
      · cases l with
        | nil => rfl
        | cons a r => rfl
    · obtain ⟨w', hg', tx'⟩ := hA.2.2 (i - 1) (by omega)
      have hbv' := tx'.beq
      first | have hb := hb | have hb := trivial
      repeat' (first | (simp -implicitDefEqProofs (disch := omega) only [hb, hAl, txo, L18_1, h0, h4, h10, h11, h12, hg, hg', tx'.one, txl, txe, hbv', call_size, p34, hbv, Bool.and_self, wC, wO, initE, aop, Nat.reduceEqDiff, ↓reduceIte, Nat.reduceAdd, finish, resOf, tupOf, AM.freeze, freeze1, freezeL, closed, nam, namL, if_true, if_false, deref, boxAt, exAt, ldCells, oneL, oneCell, Nat.reduceLeDiff, evL, adopt, rigid, rigidL, trim, Int.reduceEq, Int.reduceMod, Int.reduceDiv, if_pos, if_neg, asI, forall_const, implies_true, chkD, chkO, chkW, effB, reB, vEq, beq_self_eq_true, Nat.reduceSub, Nat.reduceLT, Int.reduceSub, Int.reduceAdd, Int.reduceMul, Int.reduceLT, Int.reduceLE, Int.reduceToNat, optI, aslice, cutSl, cutMs, cutStr, cutOwn]) | ((first | rw [WP_condK] | rw [WP_opsG] | rw [WP_quiG] | rw [WP_dG]); refine And.intro (fun hb => ?_) (fun hb => ?_) <;> (first | have hd := dq1 hb | have hd := dq2 hb | have hd := dq3 hb | have hd := dq4 hb | skip)))
      · refine isEnc_bad (asc_bad (i := i - 1) (by omega) ?_)
        simp only [show i - 1 + 1 = i by omega]
        omega
      · refine ⟨k - 1, by omega, i + 1, by omega, ?_, rfl, ?_⟩
        · rw [hfl2]
          simp only [Int.natCast_add, hrl]
        · have := ascB_take_succ (l := l) (i := i - 1) (by omega) (by rw [show i - 1 + 1 = i by omega]; exact hasc) (by simp only [show i - 1 + 1 = i by omega]; omega)
          rwa [show i - 1 + 2 = i + 1 by omega] at this
  · have hi : i = l.length := by omega
    subst hi
    rw [List.take_length] at h4 hasc
    first | have hb := hb | have hb := trivial
    repeat' (first | (simp -implicitDefEqProofs (disch := omega) only [hb, hAl, L18_1, h0, h4, h10, h11, h12, wC, initE, aop, Nat.reduceEqDiff, ↓reduceIte, Nat.reduceAdd, finish, resOf, tupOf, AM.freeze, freeze1, freezeL, closed, nam, namL, if_true, if_false, deref, boxAt, exAt, ldCells, oneL, oneCell, Nat.reduceLeDiff, evL, adopt, rigid, rigidL, trim, Int.reduceEq, Int.reduceMod, Int.reduceDiv, if_pos, if_neg, asI, forall_const, implies_true, chkD, chkO, chkW, effB, reB, vEq, beq_self_eq_true, Nat.reduceSub, Nat.reduceLT, Int.reduceSub, Int.reduceAdd, Int.reduceMul, Int.reduceLT, Int.reduceLE, Int.reduceToNat, optI, aslice, cutSl, cutMs, cutStr, cutOwn, cellsOf, one, elCells, lenOf, beqV, beqVL, strip, stripO, convS]) | ((first | rw [WP_condK] | rw [WP_opsG] | rw [WP_quiG] | rw [WP_dG]); refine And.intro (fun hb => ?_) (fun hb => ?_) <;> (first | have hd := dq1 hb | have hd := dq2 hb | have hd := dq3 hb | have hd := dq4 hb | skip)))
    · exact isEnc_long hasc (by omega)
    · have hl : l.length ≤ 64 ∧ (flatS l).length ≤ 65536 := by omega
      refine WP_loop (I := fun k e h => ∃ i : Nat, k + i = l.length ∧ Out (getE e 7) (flatS (l.take i)) ∧ getE e 53 = .slice .none (some 2) A ∧ getE e 54 = i64 l.length ∧ getE e 55 = i64 i) ?_ l.length _ _ ⟨0, by omega, .inl ⟨rfl, rfl⟩, rfl, rfl, rfl⟩
      rintro k e h ⟨i, hk, h7, h53, h54, h55⟩
      rw [trim_off]
      by_cases hlt : i < l.length
      · obtain ⟨w, hg, tx⟩ := hA.2.2 i hlt
        have txl := tx.len
        have txe := tx.els
        have txo := tx.one
        have hu := (hok l[i] (List.getElem_mem hlt)).1
        have hfl := flatS_take_succ hlt
        have hrl := recS_len l[i]
        have hle := flatS_take_le l (i + 1)
        have hfl2 : (flatS (l.take (i + 1))).length = (flatS (l.take i)).length + (recS l[i]).length := by rw [hfl, List.length_append]
        have hbv := tx.beq
        have hsz1 := sizeS_le l[i].t
        have hsz2 := sizeS_le l[i].v.length
        have ln := numS_len l[i].t
        have ln2 := numS_len l[i].v.length
        have hp1 := out_put h7 l[i].t hu (by omega)
        have hu2 : U64 (l[i].v.length : Int) := by constructor <;> omega
        have hp2 := fun (o : AOwn) (h : Heap) => call_put o (flatS (l.take i) ++ numS l[i].t) l[i].v.length hu2 (by rw [List.length_append]; omega) h
        generalize hv7 : getE e 7 = v7 at *
        first | have hb := hb | have hb := trivial
        repeat' (first | (simp -implicitDefEqProofs (disch := omega) only [hb, hAl, txo, L18_0, h53, h54, h55, hg, txl, txe, hv7, hp1, hp2, p35, hbv, Bool.and_self, gA, gB1, gB2, gB3, gC1, gC2, sB3, u8_len, aappend, wC, wO, initE, aop, Nat.reduceEqDiff, ↓reduceIte, Nat.reduceAdd, finish, resOf, tupOf, AM.freeze, freeze1, freezeL, closed, nam, namL, if_true, if_false, deref, boxAt, exAt, ldCells, oneL, oneCell, Nat.reduceLeDiff, evL, adopt, rigid, rigidL, trim, Int.reduceEq, Int.reduceMod, Int.reduceDiv, if_pos, if_neg, asI, forall_const, implies_true, chkD, chkO, chkW, effB, reB, vEq, beq_self_eq_true, Nat.reduceSub, Nat.reduceLT, Int.reduceSub, Int.reduceAdd, Int.reduceMul, Int.reduceLT, Int.reduceLE, Int.reduceToNat, optI, aslice, cutSl, cutMs, cutStr, cutOwn]) | ((first | rw [WP_condK] | rw [WP_opsG] | rw [WP_quiG] | rw [WP_dG]); refine And.intro (fun hb => ?_) (fun hb => ?_) <;> (first | have hd := dq1 hb | have hd := dq2 hb | have hd := dq3 hb | have hd := dq4 hb | skip)))
        refine ⟨k - 1, by omega, i + 1, by omega, .inr ⟨.tok (List.length h + 1 + 1), by simp, ?_⟩, rfl⟩
        rw [hfl, recS, ← List.append_assoc, ← List.append_assoc, List.map_append (l₂ := l[i].v)]
      · have hi : i = l.length := by omega
        subst hi
        rw [List.take_length] at h7
        generalize hv7 : getE e 7 = v7 at *
        first | have hb := hb | have hb := trivial
        repeat' (first | (simp -implicitDefEqProofs (disch := omega) only [hb, hAl, L18_0, h53, h54, h55, hv7, wC, initE, aop, Nat.reduceEqDiff, ↓reduceIte, Nat.reduceAdd, finish, resOf, tupOf, freezeL, closed, nam, namL, if_true, if_false, deref, boxAt, exAt, ldCells, oneL, oneCell, Nat.reduceLeDiff, evL, adopt, rigid, rigidL, trim, Int.reduceEq, Int.reduceMod, Int.reduceDiv, if_pos, if_neg, asI, forall_const, implies_true, chkD, chkO, chkW, effB, reB, vEq, beq_self_eq_true, Nat.reduceSub, Nat.reduceLT, Int.reduceSub, Int.reduceAdd, Int.reduceMul, Int.reduceLT, Int.reduceLE, Int.reduceToNat, optI, aslice, cutSl, cutMs, cutStr, cutOwn, cellsOf, one, elCells, lenOf, beqV, beqVL, strip, stripO, convS]) | ((first | rw [WP_condK] | rw [WP_opsG] | rw [WP_quiG] | rw [WP_dG]); refine And.intro (fun hb => ?_) (fun hb => ?_) <;> (first | have hd := dq1 hb | have hd := dq2 hb | have hd := dq3 hb | have hd := dq4 hb | skip)))
        exact out_freeze hasc hl h7
    · exact isEnc_long hasc (by omega)
theorem enc_big (A : List AV) (l : List Rc) (hA : RecsA A l) (hok : ∀ r ∈ l, Rc.ok r) (hv : ∀ r ∈ l, r.v.length ≤ 140737488351232) (hn : l.length ≤ 140737488351232) (h64 : 64 < l.length) : ∃ v, prun T F18 [.slice .none (some 2) A] = some v ∧ IsEnc v (encS l) := by
  suffices h : WP (fun v => IsEnc v (encS l)) (prun T F18 [.slice .none (some 2) A]) by
    obtain ⟨v, h1, h2⟩ := WP_ex h
    exact ⟨v, h1, h2⟩
  have hcl := hA.2.1
  have hAl := hA.1
  refine prun_wp ?_
  simp -implicitDefEqProofs (disch := omega) only [F18, hAl, wC, initE, aop, Nat.reduceEqDiff, ↓reduceIte, Nat.reduceAdd, finish, resOf, tupOf, AM.freeze, freeze1, freezeL, closed, nam, namL, if_true, if_false, deref, boxAt, exAt, ldCells, oneL, oneCell, Nat.reduceLeDiff, evL, adopt, rigid, rigidL, trim, Int.reduceEq, Int.reduceMod, Int.reduceDiv, if_pos, if_neg, asI, forall_const, implies_true, chkD, chkO, chkW, effB, reB, vEq, beq_self_eq_true, Nat.reduceSub, Nat.reduceLT, Int.reduceSub, Int.reduceAdd, Int.reduceMul, Int.reduceLT, Int.reduceLE, Int.reduceToNat, optI, aslice, cutSl, cutMs, cutStr, cutOwn, cellsOf, one, elCells, lenOf, beqV, beqVL, strip, stripO, convS]
  refine WP_loop (I := fun k e h => ∃ (i : Nat) (x : Int), k + i = l.length ∧ getE e 0 = .slice .none (some 2) A ∧ getE e 4 = i64 x ∧ getE e 10 = .slice .none (some 2) A ∧ getE e 11 = i64 l.length ∧ getE e 12 = i64 i ∧ ascB (l.take i) = true) ?_ l.length _ _ ⟨0, _, by omega, rfl, rfl, rfl, rfl, rfl, rfl⟩
  rintro k e h ⟨i, x, hk, h0, h4, h10, h11, h12, hasc⟩
  rw [trim_off]
  by_cases hlt : i < l.length
  · obtain ⟨w, hg, tx⟩ := hA.2.2 i hlt
    have txl := tx.len
    have txe := tx.els
    have txo := tx.one
    have hu := (hok l[i] (List.getElem_mem hlt)).1
    have hsz1 := sizeS_le l[i].t
    have hsz2 := sizeS_le l[i].v.length
    have hfl := flatS_take_succ hlt
    have hrl := recS_len l[i]
    have hle := flatS_take_le l (i + 1)
    have hvl := hv l[i] (List.getElem_mem hlt)
    have hbv := tx.beq
    by_cases hi0 : i = 0
    · subst hi0
      first | have hb := hb | have hb := trivial
      repeat' (first | (simp -implicitDefEqProofs (disch := omega) only [hb, hAl, txo, L18_1, h0, h4, h10, h11, h12, hg, txl, txe, call_size, p34, hbv, Bool.and_self, wC, wO, initE, aop, Nat.reduceEqDiff, ↓reduceIte, Nat.reduceAdd, finish, resOf, tupOf, AM.freeze, freeze1, freezeL, closed, nam, namL, if_true, if_false, deref, boxAt, exAt, ldCells, oneL, oneCell, Nat.reduceLeDiff, evL, adopt, rigid, rigidL, trim, Int.reduceEq, Int.reduceMod, Int.reduceDiv, if_pos, if_neg, asI, forall_const, implies_true, chkD, chkO, chkW, effB, reB, vEq, beq_self_eq_true, Nat.reduceSub, Nat.reduceLT, Int.reduceSub, Int.reduceAdd, Int.reduceMul, Int.reduceLT, Int.reduceLE, Int.reduceToNat, optI, aslice, cutSl, cutMs, cutStr, cutOwn]) | ((first | rw [WP_condK] | rw [WP_opsG] | rw [WP_quiG] | rw [WP_dG]); refine And.intro (fun hb => ?_) (fun hb => ?_) <;> (first | have hd := dq1 hb | have hd := dq2 hb | have hd := dq3 hb | have hd := dq4 hb | skip)))
      refine ⟨k - 1, by omega, 1, _, by omega, rfl, rfl, ?_⟩
      cases l with
      | nil => rfl
      | cons a r => rfl
    · obtain ⟨w', hg', tx'⟩ := hA.2.2 (i - 1) (by omega)
      have hbv' := tx'.beq
      first | have hb := hb | have hb := trivial
      repeat' (first | (simp -implicitDefEqProofs (disch := omega) only [hb, hAl, txo, L18_1, h0, h4, h10, h11, h12, hg, hg', tx'.one, txl, txe, hbv', call_size, p34, hbv, Bool.and_self, wC, wO, initE, aop, Nat.reduceEqDiff, ↓reduceIte, Nat.reduceAdd, finish, resOf, tupOf, AM.freeze, freeze1, freezeL, closed, nam, namL, if_true, if_false, deref, boxAt, exAt, ldCells, oneL, oneCell, Nat.reduceLeDiff, evL, adopt, rigid, rigidL, trim, Int.reduceEq, Int.reduceMod, Int.reduceDiv, if_pos, if_neg, asI, forall_const, implies_true, chkD, chkO, chkW, effB, reB, vEq, beq_self_eq_true, Nat.reduceSub, Nat.reduceLT, Int.reduceSub, Int.reduceAdd, Int.reduceMul, Int.reduceLT, Int.reduceLE, Int.reduceToNat, optI, aslice, cutSl, cutMs, cutStr, cutOwn]) | ((first | rw [WP_condK] | rw [WP_opsG] | rw [WP_quiG] | rw [WP_dG]); refine And.intro (fun hb => ?_) (fun hb => ?_) <;> (first | have hd := dq1 hb | have hd := dq2 hb | have hd := dq3 hb | have hd := dq4 hb | skip)))
      · refine isEnc_bad (asc_bad (i := i - 1) (by omega) ?_)
        simp only [show i - 1 + 1 = i by omega]
        omega
      · refine ⟨k - 1, by omega, i + 1, _, by omega, rfl, rfl, ?_⟩
        · have := ascB_take_succ (l := l) (i := i - 1) (by omega) (by rw [show i - 1 + 1 = i by omega]; exact hasc) (by simp only [show i - 1 + 1 = i by omega]; omega)
          rwa [show i - 1 + 2 = i + 1 by omega] at this
  · have hi : i = l.length := by omega
    subst hi
    rw [List.take_length] at hasc
    first | have hb := hb | have hb := trivial
    repeat' (first | (simp -implicitDefEqProofs (disch := omega) only [hb, hAl, L18_1, h0, h4, h10, h11, h12, wC, initE, aop, Nat.reduceEqDiff, ↓reduceIte, Nat.reduceAdd, finish, resOf, tupOf, AM.freeze, freeze1, freezeL, closed, nam, namL, if_true, if_false, deref, boxAt, exAt, ldCells, oneL, oneCell, Nat.reduceLeDiff, evL, adopt, rigid, rigidL, trim, Int.reduceEq, Int.reduceMod, Int.reduceDiv, if_pos, if_neg, asI, forall_const, implies_true, chkD, chkO, chkW, effB, reB, vEq, beq_self_eq_true, Nat.reduceSub, Nat.reduceLT, Int.reduceSub, Int.reduceAdd, Int.reduceMul, Int.reduceLT, Int.reduceLE, Int.reduceToNat, optI, aslice, cutSl, cutMs, cutStr, cutOwn, cellsOf, one, elCells, lenOf, beqV, beqVL, strip, stripO, convS]) | ((first | rw [WP_condK] | rw [WP_opsG] | rw [WP_quiG] | rw [WP_dG]); refine And.intro (fun hb => ?_) (fun hb => ?_) <;> (first | have hd := dq1 hb | have hd := dq2 hb | have hd := dq3 hb | have hd := dq4 hb | skip)))
    exact isEnc_long hasc (by omega)
theorem flatS_bound {l : List Rc} (hv : ∀ r ∈ l, r.v.length ≤ 140737488351232) : (flatS l).length ≤ l.length * 140737488351250 := by
  induction l with
  | nil => simp [flatS]
  | cons r l ih =>
    have h1 := ih fun q hq => hv q (List.mem_cons_of_mem _ hq)
    have h2 := hv r List.mem_cons_self
    have h3 := recS_len r
    have h4 := sizeS_le r.t
    have h5 := sizeS_le r.v.length
    have h6 : flatS (r :: l) = recS r ++ flatS l := by unfold flatS; rw [List.flatMap_cons]
    rw [h6, List.length_append, List.length_cons, Nat.add_mul]
    omega
theorem enc_okA (A : List AV) (l : List Rc) (hA : RecsA A l) (hok : ∀ r ∈ l, Rc.ok r) (hv : ∀ r ∈ l, r.v.length ≤ 140737488351232) (hn : l.length ≤ 140737488351232) : ∃ v, prun T F18 [.slice .none (some 2) A] = some v ∧ IsEnc v (encS l) := by
  by_cases h64 : 64 < l.length
  · exact enc_big A l hA hok hv hn h64
  · have h1 := flatS_bound hv
    have h2 : l.length * 140737488351250 ≤ 64 * 140737488351250 := Nat.mul_le_mul_right _ (by omega)
    exact enc_small A l hA hok (by omega) hn
theorem enc_ok (l : List Rc) (hok : ∀ r ∈ l, Rc.ok r) (hv : ∀ r ∈ l, r.v.length ≤ 140737488351232) (hn : l.length ≤ 140737488351232) : ∃ v, prun T F18 [.slice .none (some 2) (l.map Rc.av)] = some v ∧ IsEnc v (encS l) :=
  enc_okA _ l (recsA_rc l) hok hv hn
end Go.Proofs.Ytejnficfhoekiaa.AM

/- What comes in: bytes, numbers, hashes, records. -/
namespace Go.Proofs.Ytejnficfhoekiaa.AM
open Go
set_option linter.unusedSimpArgs false
set_option linter.unusedVariables false
theorem oc_slice {S : St} {xs : List AV} {a : Option Addr} {n c : Nat} (h : VL S xs (Value.slice a n c).cells.toList) : VL S xs [.slice a n c] := h
theorem oc_agg {S : St} {xs : List AV} {c : Array Value} (h : VL S xs (Value.agg c).cells.toList) : VL S [.agg xs] [.agg c] := VL_cons (by simp only [V]; exact ⟨c, rfl, h⟩) VL_nil
theorem okWide_array {P : Program} {w : World} {r : Reach} {base : Nat} {t : TypeId} {v : Value} {n : Nat} {e : TypeId} (ht : P.underlying t = some (.array n e)) (h : Value.okWide P w r base t v) : ∃ cs, v = .agg cs ∧ cs.size = P.cellsOf t := by
  simp only [Value.okWide, ht] at h
  obtain ⟨cs, h1, h2, _⟩ := h
  exact ⟨cs, h1, h2⟩
theorem wf_i64 {x : Int} (h : (Lit.int .i64 x).wf = true) : I64 x := by
  simp [Lit.wf, IntKind.min, IntKind.max, IntKind.bits, IntKind.signed] at h
  unfold I64
  omega
theorem wf_u64 {x : Int} (h : (Lit.int .u64 x).wf = true) : U64 x := by
  simp [Lit.wf, IntKind.min, IntKind.max, IntKind.bits, IntKind.signed] at h
  unfold U64
  omega
theorem wf_b {x : Int} (h : (Lit.int .u8 x).wf = true) : 0 ≤ x ∧ x ≤ 255 := by
  simp [Lit.wf, IntKind.min, IntKind.max, IntKind.bits, IntKind.signed] at h
  omega
theorem reads_i64 {P : Program} {t : TypeId} (ht : P.underlying t = some (.int .i64)) : Reads P t (fun xs => ∃ x, xs = [i64 x] ∧ I64 x) :=
  (Reads.int ht).imp fun xs ⟨x, h, w⟩ => ⟨x, h, wf_i64 w⟩
theorem reads_u64 {P : Program} {t : TypeId} (ht : P.underlying t = some (.int .u64)) : Reads P t (fun xs => ∃ x, xs = [u64 x] ∧ U64 x) :=
  (Reads.int ht).imp fun xs ⟨x, h, w⟩ => ⟨x, h, wf_u64 w⟩
theorem els_of {I : List AV → Prop} {α : Type} {k : Option Nat} {f : α → AV} {p : α → Prop} (hI : ∀ y, I y ∧ y.length = kz k ∧ oneL y = true → ∃ x, mkEl k y = f x ∧ p x) : ∀ {ys : List (List AV)}, (∀ y ∈ ys, I y ∧ y.length = kz k ∧ oneL y = true) → ∃ l : List α, ys.map (mkEl k) = l.map f ∧ l.length = ys.length ∧ ∀ x ∈ l, p x := by
  intro ys
  induction ys with
  | nil => intro _; exact ⟨[], rfl, rfl, by intro c hc; cases hc⟩
  | cons y ys ih =>
    intro h
    obtain ⟨l, h1, h2, h3⟩ := ih fun z hz => h z (List.mem_cons_of_mem _ hz)
    obtain ⟨x, hx, px⟩ := hI y (h y List.mem_cons_self)
    refine ⟨x :: l, by rw [List.map_cons, List.map_cons, h1, hx], by simp [h2], ?_⟩
    intro c hc
    rcases List.mem_cons.1 hc with rfl | hc
    · exact px
    · exact h3 c hc
theorem reads_sl {P : Program} {t e : TypeId} {k : Option Nat} {I : List AV → Prop} {α : Type} {f : α → AV} {p : α → Prop} (ht : P.underlying t = some (.slice e)) (hc : P.cellsOf e = kz k) (hz : 0 < kz k) (B : Nat) (hb : P.bytesOf e = B) (h : Reads P e I)
    (hI : ∀ y, I y ∧ y.length = kz k ∧ oneL y = true → ∃ x, mkEl k y = f x ∧ p x) : Reads P t (fun xs => ∃ l : List α, xs = [.slice .none k (l.map f)] ∧ (∀ x ∈ l, p x) ∧ l.length * B ≤ 140737488351232) :=
  (Reads.slice ht hc hz h).imp fun xs ⟨ys, h1, h2, h3⟩ => by
    obtain ⟨l, g1, g2, g3⟩ := els_of hI h3
    refine ⟨l, by rw [h1, g1], g3, ?_⟩
    rw [g2, ← hb]
    exact h2
theorem reads_bytes {P : Program} {t e : TypeId} (ht : P.underlying t = some (.slice e)) (he : P.underlying e = some (.int .u8)) (hc : P.cellsOf e = 1) (hb : P.bytesOf e = 1) : Reads P t (fun xs => ∃ l : List Int, xs = [.slice .none none (l.map u8)] ∧ Bytes l ∧ l.length ≤ 140737488351232) :=
  (reads_sl (k := none) (f := u8) (p := fun c => 0 ≤ c ∧ c ≤ 255) ht hc (by decide) 1 hb (Reads.int he) (fun y ⟨⟨x, hy, hw⟩, _, _⟩ => ⟨x, by rw [hy]; rfl, wf_b hw⟩)).imp fun xs ⟨l, h1, h2, h3⟩ => ⟨l, h1, h2, by omega⟩
theorem reads_nums {P : Program} {t e : TypeId} (ht : P.underlying t = some (.slice e)) (he : P.underlying e = some (.int .u64)) (hc : P.cellsOf e = 1) (hb : P.bytesOf e = 8) : Reads P t (fun xs => ∃ l : List Int, xs = [.slice .none none (l.map u64)] ∧ (∀ x ∈ l, U64 x) ∧ l.length * 8 ≤ 140737488351232) :=
  reads_sl (k := none) (f := u64) ht hc (by decide) 8 hb (Reads.int he) (fun y ⟨⟨x, hy, hw⟩, _, _⟩ => ⟨x, by rw [hy]; rfl, wf_u64 hw⟩)
theorem flat_bytes : ∀ {ys : List (List AV)}, (∀ y ∈ ys, (∃ x, y = [u8 x] ∧ (Lit.int .u8 x).wf = true) ∧ y.length = 1) → ∃ l : List Int, ys.flatten = l.map u8 ∧ l.length = ys.length ∧ Bytes l
  | [], _ => ⟨[], rfl, rfl, by intro c hc; cases hc⟩
  | y :: ys, h => by
    obtain ⟨l, h1, h2, h3⟩ := flat_bytes fun z hz => h z (List.mem_cons_of_mem _ hz)
    obtain ⟨⟨x, rfl, hx⟩, _⟩ := h y List.mem_cons_self
    refine ⟨x :: l, by rw [List.flatten_cons, h1]; rfl, by simp [h2], ?_⟩
    intro c hc
    rcases List.mem_cons.1 hc with rfl | hc
    · exact wf_b hx
    · exact h3 c hc
theorem reads_hash {P : Program} {t e : TypeId} {n : Nat} (ht : P.underlying t = some (.array n e)) (hc : P.cellsOf t = n * P.cellsOf e) (he : P.underlying e = some (.int .u8)) (hc1 : P.cellsOf e = 1) : Reads P t (fun xs => ∃ l : List Int, xs = l.map u8 ∧ l.length = n ∧ Bytes l) :=
  (Reads.array ht hc (Reads.int he)).imp fun xs ⟨ys, h1, h2, h3⟩ => by
    obtain ⟨l, g1, g2, g3⟩ := flat_bytes fun y hy => ⟨(h3 y hy).1, by rw [(h3 y hy).2, hc1]⟩
    exact ⟨l, by rw [h1, g1], by omega, g3⟩
theorem reads_rec {P : Program} {t t1 t2 e : TypeId} {f1 f2 : Field} (ht : P.underlying t = some (.struct #[f1, f2])) (hc : P.cellsOf t = 2) (o1 : f1.offset = 0) (o2 : f2.offset = 1) (g1 : f1.type = t1) (g2 : f2.type = t2)
    (h1 : P.underlying t1 = some (.int .u64)) (h2 : P.underlying t2 = some (.slice e)) (c1 : P.cellsOf t1 = 1) (c2 : P.cellsOf t2 = 1) (he : P.underlying e = some (.int .u8)) (hce : P.cellsOf e = 1) (hbe : P.bytesOf e = 1) :
    Reads P t (fun xs => ∃ r : Rc, xs = [u64 r.t, .slice .none none (r.v.map u8)] ∧ Rc.ok r ∧ r.v.length ≤ 140737488351232) := by
  subst g1; subst g2
  refine (Reads.struct (fs := [f1, f2]) ht (by rw [hc]; simp [c1, c2]) (ReadsF.cons (reads_u64 h1) o1 c1 (ReadsF.cons (a := 1) (reads_bytes h2 he hce hbe) (by rw [o2]) c2 ReadsF.nil))).imp ?_
  rintro xs ⟨x, y, rfl, ⟨n, rfl, hn⟩, z, w, rfl, ⟨l, rfl, hl, hll⟩, rfl⟩
  exact ⟨⟨n, l⟩, rfl, ⟨hn, hl⟩, hll⟩
theorem reads_recs {P : Program} {ts t t1 t2 e : TypeId} {f1 f2 : Field} (hs : P.underlying ts = some (.slice t)) (hb : P.bytesOf t = 32) (ht : P.underlying t = some (.struct #[f1, f2])) (hc : P.cellsOf t = 2) (o1 : f1.offset = 0) (o2 : f2.offset = 1) (g1 : f1.type = t1) (g2 : f2.type = t2)
    (h1 : P.underlying t1 = some (.int .u64)) (h2 : P.underlying t2 = some (.slice e)) (c1 : P.cellsOf t1 = 1) (c2 : P.cellsOf t2 = 1) (he : P.underlying e = some (.int .u8)) (hce : P.cellsOf e = 1) (hbe : P.bytesOf e = 1) :
    Reads P ts (fun xs => ∃ l : List Rc, xs = [.slice .none (some 2) (l.map Rc.av)] ∧ (∀ r ∈ l, Rc.ok r ∧ r.v.length ≤ 140737488351232) ∧ l.length * 32 ≤ 140737488351232) :=
  reads_sl (k := some 2) (f := Rc.av) (p := fun r => Rc.ok r ∧ r.v.length ≤ 140737488351232) hs hc (by decide) 32 hb (reads_rec ht hc o1 o2 g1 g2 h1 h2 c1 c2 he hce hbe) (fun y ⟨⟨r, hy, h1, h2⟩, _, _⟩ => ⟨r, by rw [hy]; rfl, h1, h2⟩)
end Go.Proofs.Ytejnficfhoekiaa.AM


/- What comes in, where it is small. -/
namespace Go.Proofs.Ytejnficfhoekiaa.AM
open Go Go.RowKit Go.Deep
set_option linter.unusedSimpArgs false
set_option linter.unusedVariables false
theorem bulk_len {H : Type} (l : List (DataW H)) : l.length ≤ Rows.uptoBulkAll l := by
  induction l with
  | nil => simp [Rows.uptoBulkAll]
  | cons x r ih =>
    have : 1 ≤ Rows.uptoBulk x := by
      cases x with
      | lit l => cases l <;> simp [Rows.uptoBulk]
      | _ => simp [Rows.uptoBulk]
    simp only [Rows.uptoBulkAll, List.length_cons]; omega
theorem slice_bulk {H : Type} {enc : TypeId × Value → H} {P : Program} {w : World} {base : Nat} {spare : Nat → Bool} {held : Bool} {fuel : Nat} {t e : TypeId} (ht : P.underlying t = some (.slice e)) {a : Option Addr} {len cap : Nat} {x : DataW H × List MemPlace}
    (h : DataW.trod enc P w base spare held fuel t [.slice a len cap] = some x) : len ≤ Rows.uptoBulk x.1 := by
  rcases open_slice ht h with ⟨hc, _⟩ | ⟨a, len', cap', m, n, D, Pl, hc, hb, hl, hm, hmm, rfl, hel⟩
  · cases hc; omega
  · cases hc
    have := bulk_len ((List.range len).map D)
    rw [List.length_map, List.length_range] at this
    simp only [Rows.uptoBulk]
    omega
theorem small_in {H : Type} {d0 : DataW H} {bytes : List UInt8} {gs : List (DataW H)} (hk : Rows.uptoSmall H (d0 :: .lit (.string bytes) :: gs) = true) : Rows.uptoBulk d0 ≤ 1048576 ∧ bytes.length ≤ 1048576 := by
  have h := of_decide_eq_true hk
  simp only [Rows.uptoBulkAll, Rows.uptoBulk] at h
  omega
theorem slice_len {S : St} {els : List AV} {a : Option Addr} {len cap : Nat} (h : VL S [.slice .none none els] [.slice a len cap]) : els.length = len := by
  simp only [VL, V] at h
  obtain ⟨u, us, hu, ⟨ao, cap', h1, _⟩, _⟩ := h
  cases hu
  cases h1
  rfl
theorem two_in {S : St} {H : Type} {enc : TypeId × Value → H} {P : Program} {w : World} {base : Nat} {spare : Nat → Bool} {held : Bool} {fuel : Nat} {t e : TypeId} (ht : P.underlying t = some (.slice e)) {a : Option Addr} {len cap : Nat} {x : DataW H × List MemPlace} {b : ByteArray} {gs : List (DataW H)} {l : List Int}
    (hk : Rows.uptoSmall H (x.1 :: .lit (.string b.data.toList) :: gs) = true) (h : DataW.trod enc P w base spare held fuel t [.slice a len cap] = some x) (hv : VL S [.slice .none none (l.map u8)] [.slice a len cap]) : l.length ≤ 1048576 ∧ b.size ≤ 1048576 := by
  have h1 := small_in hk
  have h2 := slice_bulk ht h
  have h3 := slice_len hv
  rw [List.length_map] at h3
  have h4 : b.data.toList.length = b.size := Array.length_toList
  omega
theorem call_idigits (l : List Int) (hb : Bytes l) (a : ByteArray) (h : l.length ≤ 1048576 ∧ a.size ≤ 1048576) : ag T 4 [.slice .none none (l.map u8), .sc (.string a)] [] = some (.bool true, []) := by
  obtain ⟨s, hs, rfl⟩ := st_of a
  rw [st_size] at h
  exact invoiceDigits_of call_lives l s hb hs h.1 h.2
end Go.Proofs.Ytejnficfhoekiaa.AM
