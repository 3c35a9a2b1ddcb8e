import Derived.Test.YtpnkldjbiinnpaaAm6
/- Each operation of the model does what the plain machine's does: cuts, addresses, parts. -/
namespace Go.Proofs.Ytpnkldjbiinnpaa.AM
open Go Go.RowKit
set_option linter.unusedVariables false
set_option linter.unusedSimpArgs false
theorem aggs_length (s : Nat) : ∀ (n : Nat) (cs : List AV), (aggs s n cs).length = n
  | 0, _ => rfl
  | n + 1, cs => by simp [aggs, aggs_length s n]
theorem chunks_length {k : Option Nat} {n : Nat} {cs : List AV} (h : n * kz k ≤ cs.length) : (chunks k n cs).length = n := by
  cases k with
  | none => simp only [chunks, kz, Option.getD_none, Nat.mul_one] at *; simp; omega
  | some s => exact aggs_length s n cs
theorem not_agg {S : St} {x : AV} {u : Value} (hv : V S x u) (h1 : u.oneCell' = true) : ∀ cs, x ≠ .agg cs := by
  rintro cs rfl
  simp only [V] at hv
  obtain ⟨arr, rfl, _⟩ := hv
  simp [Value.oneCell'] at h1
theorem V1_single {S : St} {x : AV} {u : Value} {b o : Nat} (hi : S.imm b o = some u) (hv : V S x u) (h1 : u.oneCell' = true) : V1 S none x b o := by
  have := not_agg hv h1
  cases x <;> simp only [V1] <;> first | exact ⟨rfl, u, hi, hv⟩ | exact ⟨trivial, u, hi, hv⟩ | exact absurd rfl (this _)
theorem aggs_VE {S : St} {s : Nat} {b : Nat} : ∀ (n : Nat) (cs : List AV) (o : Nat), VM S cs b o → n * s ≤ cs.length → VE S (some s) (aggs s n cs) b o
  | 0, cs, o, h, hl => by simp [aggs, VE]
  | n + 1, cs, o, h, hl => by
    rw [Nat.succ_mul] at hl
    simp only [aggs, VE]
    refine ⟨by rw [List.length_take]; congr 1; omega, h.take s, ?_⟩
    rw [List.length_take, Nat.min_eq_left (by omega)]
    exact aggs_VE n _ _ (h.drop s) (by rw [List.length_drop]; omega)
theorem chunks_VE {S : St} {h B W} (r : Rel S h B W) {k : Option Nat} {n : Nat} {cs : List AV} {b o : Nat} (hm : VM S cs b o) (hl : n * kz k ≤ cs.length) : VE S k (chunks k n cs) b o := by
  cases k with
  | some s => exact aggs_VE n cs o hm (by simpa [kz] using hl)
  | none =>
    simp only [chunks]
    refine VE.mk fun i y hy => ?_
    obtain ⟨u, h1, h2⟩ := (hm.take n).get hy
    simp only [kz, Option.getD_none, Nat.mul_one]
    exact V1_single h1 h2 (r.imm _ _ _ h1).2
section
variable {P : Program} {E : Env0} {o : Oper} {C : Cl} {e : Env} {h h' : Heap} {v : AV} {S : St} {B : Nat} {W : World} {a : Act}
theorem bounds_run {isS : Bool} {len cap : Nat} {lo hi mx : Option Value} {l h m : Nat}
    (hm : (mx = none ∧ m = cap) ∨ (∃ k, mx = some (.int k (m : Int)) ∧ m ≤ cap))
    (hh : (hi = none ∧ mx = none ∧ h = len) ∨ (∃ k, hi = some (.int k (h : Int)) ∧ h ≤ m))
    (hl : (lo = none ∧ l = 0) ∨ (∃ k, lo = some (.int k (l : Int)) ∧ l ≤ h)) :
    (Instr.sliceBounds isS len cap lo hi mx).run P W = .ok (l, h, m) W := by
  have sb : ∀ (k : IntKind) (n y : Nat) (c : BoundsCode), n ≤ y → (Instr.sliceBound (.int k (n : Int)) y c).run P W = .ok n W := by
    intro k n y c hn
    simp only [Instr.sliceBound, asIntOf, Sem.run_bind, Sem.run_pure, Result.andThen_ok]
    rw [if_pos ⟨by omega, by omega⟩]
    simp
  rcases hm with ⟨rfl, rfl⟩ | ⟨km, rfl, hm⟩
  · rcases hh with ⟨rfl, -, rfl⟩ | ⟨kh, rfl, hh⟩
    · rcases hl with ⟨rfl, rfl⟩ | ⟨kl, rfl, hl⟩
      · simp [Instr.sliceBounds]
      · simp [Instr.sliceBounds, sb _ _ _ _ hl]
    · rcases hl with ⟨rfl, rfl⟩ | ⟨kl, rfl, hl⟩
      · simp [Instr.sliceBounds, sb _ _ _ _ hh]
      · simp [Instr.sliceBounds, sb _ _ _ _ hh, sb _ _ _ _ hl]
  · rcases hh with ⟨rfl, hc, rfl⟩ | ⟨kh, rfl, hh⟩
    · cases hc
    · rcases hl with ⟨rfl, rfl⟩ | ⟨kl, rfl, hl⟩
      · simp [Instr.sliceBounds, sb _ _ _ _ hh, sb _ _ _ _ hm]
      · simp [Instr.sliceBounds, sb _ _ _ _ hh, sb _ _ _ _ hl, sb _ _ _ _ hm]
/-- a bound as the machine has it, and as the model has it -/
def BV (q : Option Int) (x : Option Value) : Prop := (q = none ∧ x = none) ∨ ∃ k n, q = some n ∧ x = some (.int k n)
theorem optI_BV (he : EnvR S e a E.nt) (hg : GlobOK E.gl S.imm) {x : Option Operand} {x' : Option Opd} (hc : compM E x = some x') {q : Option Int} (hq : optI e x' = some q) : BV q (x.map a.eval) := by
  cases x with
  | none => simp only [compM] at hc; cases hc; simp only [optI] at hq; cases hq; exact .inl ⟨rfl, rfl⟩
  | some x =>
    simp only [compM, Option.map_eq_some_iff] at hc
    obtain ⟨y, h1, rfl⟩ := hc
    simp only [optI, Option.map_eq_some_iff] at hq
    obtain ⟨n, h2, rfl⟩ := hq
    unfold asI at h2
    split at h2
    · rename_i k m hy; cases h2; exact .inr ⟨k, n, rfl, by rw [Option.map_some, eval_sc (evO_V he hg h1) hy]⟩
    · cases h2
theorem BV.lo {q : Option Int} {x : Option Value} (hb : BV q x) (h0 : 0 ≤ q.getD 0) {h : Nat} (hh : q.getD 0 ≤ h) : (x = none ∧ (q.getD 0).toNat = 0) ∨ (∃ k, x = some (.int k (((q.getD 0).toNat : Nat) : Int)) ∧ (q.getD 0).toNat ≤ h) := by
  rcases hb with ⟨rfl, rfl⟩ | ⟨k, n, rfl, rfl⟩
  · exact .inl ⟨rfl, rfl⟩
  · simp only [Option.getD_some] at *
    exact .inr ⟨k, by rw [Int.toNat_of_nonneg h0], by omega⟩
/-- a cut of a slice of whatever kind -/
theorem run_cut {t el : TypeId} {i : TypeInfo} (ht : P.underlying t = some (.slice el)) (hi : P.info? el = some i) (ao : Option Addr) (len cap : Nat) {lo hi' mx : Option Value} {l h m : Nat}
    (hb : (Instr.sliceBounds true len cap lo hi' mx).run P W = .ok (l, h, m) W) :
    (Instr.sliceAt t (.slice ao len cap) lo hi' mx).run P W = .ok (.slice (if m = l then ao else ao.map (·.add (l * i.size))) (h - l) (m - l)) W := by
  simp [Instr.sliceAt, Instr.slice, run_underlying' ht, run_sizeOf' hi, hb]
theorem VE_cut {k : Option Nat} {els : List AV} {ao : Option Addr} {l h m : Nat} (hv : els = [] ∨ ∃ b o, ao = some ⟨b, o, none⟩ ∧ VE S k els b o) (hlh : l ≤ h) (hhm : h ≤ m) :
    (els.take h).drop l = [] ∨ ∃ b o, (if m = l then ao else ao.map (·.add (l * kz k))) = some ⟨b, o, none⟩ ∧ VE S k ((els.take h).drop l) b o := by
  by_cases hn : (els.take h).drop l = []
  · exact .inl hn
  rcases hv with rfl | ⟨b, o, rfl, hv⟩
  · simp at hn
  · refine .inr ⟨b, o + l * kz k, ?_, (hv.take h).drop l⟩
    have : l < h := by
      have : (els.take h).drop l ≠ [] := hn
      rw [Ne, List.drop_eq_nil_iff, List.length_take] at this
      omega
    rw [if_neg (by omega), Option.map_some, add_at]
theorem cutSl_ok {t el : TypeId} {i : TypeInfo} (ht : P.underlying t = some (.slice el)) (hi : P.info? el = some i) {k : Option Nat} (hs : i.size = kz k) {w : AOwn} {els : List AV} {p : Value} (hp : V S (.slice w k els) p) {lo hi' mx : Option Int} {xlo xhi xmx : Option Value} (b1 : BV lo xlo) (b2 : BV hi' xhi) (b3 : BV mx xmx) (hx : cutSl w k els lo hi' mx = some v) :
    ∃ u, V S v u ∧ ∀ W, (Instr.sliceAt t p xlo xhi xmx).run P W = .ok u W := by
  simp only [V] at hp
  obtain ⟨ao, cap, rfl, hle, hown, hels⟩ := hp
  unfold cutSl at hx
  split at hx
  · rename_i m h
    split at hx
    · rename_i hc
      cases hx
      obtain ⟨c1, c2, c3, c4⟩ := hc
      rcases b3 with ⟨hh, _⟩ | ⟨km, m', hm, rfl⟩
      · cases hh
      cases hm
      rcases b2 with ⟨hh, _⟩ | ⟨kh, h', hm, rfl⟩
      · cases hh
      cases hm
      obtain ⟨h, rfl⟩ := Int.eq_ofNat_of_zero_le (show 0 ≤ h by omega)
      obtain ⟨m, rfl⟩ := Int.eq_ofNat_of_zero_le (show 0 ≤ m by omega)
      have hl := b1.lo c1 c2
      generalize (lo.getD 0).toNat = l at *
      have hb := fun W => bounds_run (P := P) (W := W) (isS := true) (len := els.length) (cap := cap) (m := m) (h := h) (l := l) (.inr ⟨km, rfl, by omega⟩) (.inr ⟨kh, rfl, by omega⟩) hl
      have hlh : l ≤ h := by rcases hl with ⟨_, rfl⟩ | ⟨_, _, hl⟩ <;> omega
      refine ⟨_, ?_, fun W => run_cut ht hi ao _ cap (hb W)⟩
      simp only [V, hs, Int.toNat_natCast]
      refine ⟨_, m - l, by rw [List.length_drop, List.length_take]; congr 1; omega, ?_, ?_, VE_cut (m := m) hels hlh (by omega)⟩
      · rw [List.length_drop, List.length_take]; omega
      · by_cases hmh : (m : Int) = h
        · rw [if_pos hmh]; simp only [OwnV]; rw [List.length_drop, List.length_take]; omega
        · rw [if_neg hmh]; trivial
    · cases hx
  · cases hx
  · rename_i h
    split at hx
    · rename_i hc
      cases hx
      obtain ⟨c1, c2, c3⟩ := hc
      rcases b3 with ⟨_, rfl⟩ | ⟨km, m', hm, _⟩
      rotate_left
      · cases hm
      rcases b2 with ⟨hh, _⟩ | ⟨kh, h', hm, rfl⟩
      · cases hh
      cases hm
      obtain ⟨h, rfl⟩ := Int.eq_ofNat_of_zero_le (show 0 ≤ h by omega)
      have hl := b1.lo c1 c2
      generalize (lo.getD 0).toNat = l at *
      have hb := fun W => bounds_run (P := P) (W := W) (isS := true) (len := els.length) (cap := cap) (m := cap) (h := h) (l := l) (.inl ⟨rfl, rfl⟩) (.inr ⟨kh, rfl, by omega⟩) hl
      have hlh : l ≤ h := by rcases hl with ⟨_, rfl⟩ | ⟨_, _, hl⟩ <;> omega
      refine ⟨_, ?_, fun W => run_cut ht hi ao _ cap (hb W)⟩
      simp only [V, hs, Int.toNat_natCast]
      refine ⟨_, cap - l, by rw [List.length_drop, List.length_take]; congr 1; omega, ?_, trivial, VE_cut (m := cap) hels hlh (by omega)⟩
      rw [List.length_drop, List.length_take]; omega
    · cases hx
  · rcases b3 with ⟨_, rfl⟩ | ⟨km, m', hm, _⟩
    rotate_left
    · cases hm
    rcases b2 with ⟨_, rfl⟩ | ⟨km, m', hm, _⟩
    rotate_left
    · cases hm
    split at hx
    · cases hx
      rcases b1 with ⟨_, rfl⟩ | ⟨km, m', hm, _⟩
      rotate_left
      · cases hm
      have hb := fun W => bounds_run (P := P) (W := W) (isS := true) (len := els.length) (cap := cap) (m := cap) (h := els.length) (l := 0) (lo := none) (.inl ⟨rfl, rfl⟩) (.inl ⟨rfl, rfl, rfl⟩) (.inl ⟨rfl, rfl⟩)
      refine ⟨_, ?_, fun W => run_cut ht hi ao _ cap (hb W)⟩
      have : (if cap = 0 then ao else ao.map (·.add (0 * i.size))) = ao := by
        split
        · rfl
        · cases ao <;> simp [Addr.add]
      rw [this]
      simp only [V]
      exact ⟨ao, cap, rfl, hle, hown, hels⟩
    · rename_i l
      split at hx
      · rename_i hc
        cases hx
        obtain ⟨c1, c2⟩ := hc
        have hl := b1.lo (h := els.length) (by simpa using c1) (by simpa using c2)
        obtain ⟨l, rfl⟩ := Int.eq_ofNat_of_zero_le c1
        simp only [Option.getD_some, Int.toNat_natCast] at hl
        have hlh : l ≤ els.length := by omega
        have hb := fun W => bounds_run (P := P) (W := W) (isS := true) (len := els.length) (cap := cap) (m := cap) (h := els.length) (l := l) (.inl ⟨rfl, rfl⟩) (.inl ⟨rfl, rfl, rfl⟩) hl
        refine ⟨_, ?_, fun W => run_cut ht hi ao _ cap (hb W)⟩
        have hcut := VE_cut (m := cap) hels hlh hle
        rw [List.take_length] at hcut
        simp only [V, hs, Int.toNat_natCast]
        refine ⟨_, cap - l, by rw [List.length_drop], ?_, ?_, hcut⟩
        · rw [List.length_drop]; omega
        · cases w <;> simp only [cutOwn, OwnV] at *
          rw [List.length_drop]; omega
      · cases hx
theorem cutMs_ok {id off b N cap : Nat} {k : Option Nat} {len : Nat} (q1 : S.blk id 0 = some b) (q2 : S.sz b = some N) (q3 : len ≤ cap) (q4 : off + cap * kz k ≤ N) {lo hi' mx : Option Int} {xlo xhi xmx : Option Value} (b1 : BV lo xlo) (b2 : BV hi' xhi) (b3 : BV mx xmx) (hx : cutMs id off k len lo hi' mx = some v) (isS : Bool) :
    ∃ l h, (∀ W, (Instr.sliceBounds isS len cap xlo xhi xmx).run P W = .ok (l, h, cap) W) ∧ l ≤ h ∧ h ≤ cap ∧ V S v (.slice (if cap = l then some ⟨b, off, none⟩ else some ⟨b, off + l * kz k, none⟩) (h - l) (cap - l)) := by
  unfold cutMs at hx
  simp only at hx
  split at hx
  · rename_i hc
    obtain ⟨c0, c1, c2, c3⟩ := hc
    subst c0
    rcases b3 with ⟨_, rfl⟩ | ⟨km, m', hm, _⟩
    rotate_left
    · cases hm
    obtain ⟨h, hh⟩ : ∃ h : Nat, hi'.getD (len : Int) = h := ⟨_, (Int.toNat_of_nonneg (by omega)).symm⟩
    rw [hh] at c2 c3 hx
    have hl := b1.lo c1 c2
    have hle : h ≤ len := by omega
    have hhi : (xhi = none ∧ (none : Option Value) = none ∧ h = len) ∨ (∃ k, xhi = some (.int k (h : Int)) ∧ h ≤ cap) := by
      rcases b2 with ⟨rfl, rfl⟩ | ⟨kh, h', rfl, rfl⟩
      · left; simp at hh; exact ⟨rfl, rfl, by omega⟩
      · right; simp at hh; subst hh; exact ⟨kh, rfl, by omega⟩
    have e1 : (h : Int) - lo.getD 0 = ((h - (lo.getD 0).toNat : Nat) : Int) := by omega
    have e2 : (lo.getD 0 = (h : Int)) ↔ (lo.getD 0).toNat = h := by omega
    have hlh : (lo.getD 0).toNat ≤ h := by omega
    rw [e1, Int.toNat_natCast] at hx
    simp only [e2] at hx
    generalize (lo.getD 0).toNat = l at *
    refine ⟨l, h, fun W => bounds_run (.inl ⟨rfl, rfl⟩) hhi hl, hlh, by omega, ?_⟩
    split at hx
    · rename_i hlh'
      cases hx
      simp only [V]
      subst hlh'
      exact ⟨_, cap - l, by rw [Nat.sub_self]; rfl, Nat.zero_le _, trivial, .inl trivial⟩
    · rename_i hlh'
      cases hx
      simp only [V]
      rw [if_neg (by omega)]
      refine ⟨b, N, cap - l, q1, q2, by omega, ?_, rfl⟩
      rw [Nat.sub_mul]
      have : l * kz k ≤ cap * kz k := Nat.mul_le_mul_right _ (by omega)
      omega
  · cases hx
theorem ex_slice {t : TypeId} {x : Operand} {lo hi mx : Option Operand} (hop : o.op = .slice t x lo hi mx) {u : TypeDesc} (ht : P.underlying t = some u) {sk : SK} {k : Option Nat}
    (hk : (u = .string ∧ sk = .str) ∨ (∃ el i, u = .slice el ∧ sk = .slice ∧ P.info? el = some i ∧ i.size = kz k) ∨ (∃ n el i, u = .array n el ∧ sk = .arr n ∧ P.info? el = some i ∧ i.size = kz k))
    {x' : Opd} {lo' hi' mx' : Option Opd} (h1 : compO E x = some x') (h2 : compM E lo = some lo') (h3 : compM E hi = some hi') (h4 : compM E mx = some mx') (hx : aop C (.slice sk k x' lo' hi' mx') e h = some (v, h')) (r : Rel S h B W) (he : EnvR S e a E.nt) (hg : GlobOK E.gl S.imm) : h' = h ∧ ExS P o a S v := by
  simp only [aop, Option.bind_eq_some_iff, Option.map_eq_some_iff, Prod.mk.injEq] at hx
  obtain ⟨lo1, g1, hi1, g2, mx1, g3, w, hb, rfl, rfl⟩ := hx
  have b1 := optI_BV he hg h2 g1
  have b2 := optI_BV he hg h3 g2
  have b3 := optI_BV he hg h4 g3
  have hv := evO_V he hg h1
  suffices hs : ∃ u, V S w u ∧ ∀ W, (Instr.sliceAt t (a.eval x) (lo.map a.eval) (hi.map a.eval) (mx.map a.eval)).run P W = .ok u W by
    obtain ⟨u, s2, s1⟩ := hs
    exact ⟨rfl, .mk (u := u) (fun W => by simp [execOp, hop, s1]) s2⟩
  unfold aslice at hb
  split at hb
  · rename_i s hs
    rcases hk with ⟨rfl, _⟩ | ⟨el, i, _, hsk, _⟩ | ⟨n, el, i, _, hsk, _⟩
    · rw [hs] at hv
      simp only [V] at hv
      rw [hv]
      split at hb
      · rename_i hmx
        subst hmx
        rcases b3 with ⟨_, hm⟩ | ⟨km, m', hm, _⟩
        rotate_left
        · cases hm
        rw [hm]
        unfold cutStr at hb
        simp only at hb
        split at hb
        · rename_i hc
          cases hb
          obtain ⟨c1, c2, c3⟩ := hc
          obtain ⟨hh, hhe⟩ : ∃ hh : Nat, hi1.getD (s.size : Int) = hh := ⟨_, (Int.toNat_of_nonneg (by omega)).symm⟩
          rw [hhe] at c2 c3
          rw [hhe, Int.toNat_natCast]
          have hl := b1.lo c1 c2
          have hhi : (hi.map a.eval = none ∧ (none : Option Value) = none ∧ hh = s.size) ∨ (∃ k, hi.map a.eval = some (.int k (hh : Int)) ∧ hh ≤ s.size) := by
            rcases b2 with ⟨rfl, hb2⟩ | ⟨kh, h'', rfl, hb2⟩
            · left; simp at hhe; exact ⟨hb2, rfl, by omega⟩
            · right; simp at hhe; subst hhe; exact ⟨kh, hb2, by omega⟩
          have hbr := fun W => bounds_run (P := P) (W := W) (isS := false) (len := s.size) (cap := s.size) (mx := none) (m := s.size) (.inl ⟨rfl, rfl⟩) hhi hl
          refine ⟨_, V_sc _, fun W => ?_⟩
          simp [Instr.sliceAt, Instr.slice, run_underlying' ht, hbr]
        · cases hb
      · cases hb
    · cases hsk
    · cases hsk
  · rename_i w' k' els hs
    rcases hk with ⟨_, hsk⟩ | ⟨el, i, rfl, _, hi', hsz⟩ | ⟨n, el, i, _, hsk, _⟩
    · cases hsk
    · split at hb
      · rename_i hkk
        subst hkk
        rw [hs] at hv
        exact cutSl_ok ht hi' hsz hv b1 b2 b3 hb
      · cases hb
    · cases hsk
  · rename_i hs
    rcases hk with ⟨_, hsk⟩ | ⟨el, i, rfl, _, hi', hsz⟩ | ⟨n, el, i, _, hsk, _⟩
    · cases hsk
    · split at hb
      · rename_i hc
        cases hb
        obtain ⟨c1, c2, c3, c4⟩ := hc
        rw [hs] at hv
        simp only [V] at hv
        rw [hv]
        have hbr : (∀ W, (Instr.sliceBounds true 0 0 (lo.map a.eval) (hi.map a.eval) (mx.map a.eval)).run P W = .ok (0, 0, 0) W) ∨ ((mx.map a.eval).isSome ∧ hi.map a.eval = none) := by
          by_cases hh : (mx.map a.eval).isSome ∧ hi.map a.eval = none
          · exact .inr hh
          left
          intro W
          refine bounds_run ?_ ?_ ?_
          · rcases b3 with ⟨rfl, hb3⟩ | ⟨km, m', rfl, hb3⟩
            · exact .inl ⟨hb3, rfl⟩
            · simp at c3; subst c3; exact .inr ⟨km, hb3, Nat.le_refl _⟩
          · rcases b2 with ⟨rfl, hb3⟩ | ⟨km, m', rfl, hb3⟩
            · refine .inl ⟨hb3, ?_, rfl⟩
              cases hm : mx.map a.eval with
              | none => rfl
              | some z => exact absurd ⟨by simp [hm], hb3⟩ hh
            · simp at c2; subst c2; exact .inr ⟨km, hb3, Nat.le_refl _⟩
          · rcases b1 with ⟨rfl, hb3⟩ | ⟨km, m', rfl, hb3⟩
            · exact .inl ⟨hb3, rfl⟩
            · simp at c1; subst c1; exact .inr ⟨km, hb3, Nat.le_refl _⟩
        rcases hbr with hbr | ⟨hm, hh⟩
        · refine ⟨_, ?_, fun W => run_cut ht hi' none 0 0 (hbr W)⟩
          simp [V]
        · exfalso
          rcases c4 with rfl | c4
          · rcases b3 with ⟨_, hb3⟩ | ⟨km, m', hb3, _⟩
            · rw [hb3] at hm; cases hm
            · cases hb3
          · rcases b2 with ⟨hb3, _⟩ | ⟨km, m', _, hb3⟩
            · exact c4 hb3
            · rw [hh] at hb3; cases hb3
      · cases hb
    · cases hsk
  · rename_i id off k' len hs
    rcases hk with ⟨_, hsk⟩ | ⟨el, i, rfl, _, hi', hsz⟩ | ⟨n, el, i, _, hsk, _⟩
    · cases hsk
    · split at hb
      · rename_i hkk
        subst hkk
        rw [hs] at hv
        simp only [V] at hv
        obtain ⟨b, N, cap, q1, q2, q3, q4, q5⟩ := hv
        rw [q5]
        obtain ⟨l, hh, r1, r2, r3, r4⟩ := cutMs_ok (P := P) q1 q2 q3 q4 b1 b2 b3 hb true
        refine ⟨_, r4, fun W => ?_⟩
        rw [run_cut ht hi' _ _ _ (r1 W)]
        simp only [Option.map_some, add_at, hsz]
      · cases hb
    · cases hsk
  · rename_i n id off hs
    rcases hk with ⟨_, hsk⟩ | ⟨el, i, _, hsk, _⟩ | ⟨n', el, i, rfl, hsk, hi', hsz⟩
    · cases hsk
    · cases hsk
    · cases hsk
      simp only [Option.bind_eq_some_iff] at hb
      obtain ⟨cs, hbx, hb⟩ := hb
      split at hb
      · rename_i hcl
        rw [hs] at hv
        simp only [V] at hv
        obtain ⟨b, q1, q5⟩ := hv
        rw [q5]
        unfold boxAt at hbx
        split at hbx
        · rename_i cs' hcs
          cases hbx
          obtain ⟨b', c, e', p1, p2, p3, p4, p5, p6, p7⟩ := r.obj _ _ hcs
          rw [q1] at p1
          cases p1
          have hcl' : c.size = cs.length := by have := p4.length; simpa using this
          obtain ⟨l, hh, r1, r2, r3, r4⟩ := cutMs_ok (P := P) q1 p6 (Nat.le_refl n) (by omega) b1 b2 b3 hb false
          refine ⟨_, r4, fun W => ?_⟩
          simp [Instr.sliceAt, run_underlying' ht, Instr.sureAddr, r1, run_sizeOf' hi', hsz, add_at]
          split <;> simp_all
        · cases hbx
      · cases hb
  · rename_i n cs hs
    rcases hk with ⟨_, hsk⟩ | ⟨el, i, _, hsk, _⟩ | ⟨n', el, i, rfl, hsk, hi', hsz⟩
    · cases hsk
    · cases hsk
    · cases hsk
      split at hb
      · rename_i hc
        cases hb
        obtain ⟨rfl, rfl, rfl, hcl⟩ := hc
        rw [hs] at hv
        simp only [V] at hv
        obtain ⟨b, q, q5, hm⟩ := hv
        rw [q5]
        rcases b1 with ⟨_, hb1⟩ | ⟨km, m', hm, _⟩
        rotate_left
        · cases hm
        rcases b2 with ⟨_, hb2⟩ | ⟨km, m', hm, _⟩
        rotate_left
        · cases hm
        rcases b3 with ⟨_, hb3⟩ | ⟨km, m', hm, _⟩
        rotate_left
        · cases hm
        rw [hb1, hb2, hb3]
        have hbr := fun W => bounds_run (P := P) (W := W) (isS := false) (len := n) (cap := n) (m := n) (h := n) (l := 0) (lo := none) (hi := none) (mx := none) (.inl ⟨rfl, rfl⟩) (.inl ⟨rfl, rfl, rfl⟩) (.inl ⟨rfl, rfl⟩)
        refine ⟨.slice (some ⟨b, q, none⟩) n n, ?_, fun W => ?_⟩
        rotate_left
        · simp [Instr.sliceAt, run_underlying' ht, Instr.sureAddr, hbr, run_sizeOf' hi', Addr.add]
        · have hl := chunks_length hcl
          simp only [V]
          exact ⟨_, n, by rw [hl], by omega, by simp only [OwnV]; omega, .inr ⟨b, q, rfl, chunks_VE r hm hcl⟩⟩
      · cases hb
  · cases hb
end
end Go.Proofs.Ytpnkldjbiinnpaa.AM
