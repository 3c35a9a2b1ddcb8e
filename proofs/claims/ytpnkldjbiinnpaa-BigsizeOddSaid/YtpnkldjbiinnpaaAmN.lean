import Derived.Test.YtpnkldjbiinnpaaAm22
/- slices.Grow: what it is in the plain machine, and what of the model's append it needs. -/
namespace Go.Proofs.Ytpnkldjbiinnpaa.AM
open Go Go.RowKit
set_option linter.unusedVariables false
set_option linter.unusedSimpArgs false
/-- the same elements, in a row that may have more room; the old one is no row to append to any more -/
def growG : List AV → Heap → Option (AV × Heap)
  | [.slice (.tok i) none els, .sc (.int .i64 n)], h => match h[i]? with
    | some (.row none m) => if m = els.length ∧ 0 < n ∧ n ≤ 1000 ∧ m ≤ 140737488300000 then some (.slice (.tok h.length) none els, h.set i (.row none (m + 1)) ++ [.row none m]) else none
    | _ => none
  | _, _ => none
section
variable {S : St} {h : Heap} {B : Nat} {W : World}
theorem Rel.dead (r : Rel S h B W) {i n : Nat} {k : Option Nat} (hx : h[i]? = some (.row k n)) : Rel S (h.set i (.row k (n + 1))) B W := by
  have hlt := (List.getElem?_eq_some_iff.1 hx).1
  have hn : S.blk i (n + 1) = none := (r.obj i _ hx).1 (n + 1) (by omega)
  have get : ∀ j x, (h.set i (.row k (n + 1)))[j]? = some x → (j = i ∧ x = .row k (n + 1)) ∨ (j ≠ i ∧ h[j]? = some x) := fun j x hj => by
    by_cases hji : j = i
    · subst hji
      rw [List.getElem?_set_self hlt] at hj
      cases hj
      exact .inl ⟨rfl, rfl⟩
    · rw [List.getElem?_set_ne (fun hh => hji hh.symm)] at hj
      exact .inr ⟨hji, hj⟩
  refine ⟨r.imm, ?_, ?_, ?_, r.lt, r.base, r.sb⟩
  · intro j x hj
    rcases get j x hj with ⟨rfl, rfl⟩ | ⟨_, hj⟩
    · exact ⟨fun v hv => (r.obj j _ hx).1 v (by omega), fun b hb => by rw [hn] at hb; cases hb⟩
    · exact r.obj j x hj
  · intro j l x y b hj hl hcj hcl
    rcases get j x hj with ⟨rfl, rfl⟩ | ⟨_, hj⟩
    · simp only [curB, hn] at hcj; cases hcj
    · rcases get l y hl with ⟨rfl, rfl⟩ | ⟨_, hl⟩
      · simp only [curB, hn] at hcl; cases hcl
      · exact r.inj j l x y b hj hl hcj hcl
  · intro j v hj
    rw [List.length_set] at hj
    exact r.new j v hj
def moved (S : St) (i j n : Nat) : St := { S with blk := fun a v => if a = j ∧ v = n then S.blk i n else S.blk a v }
theorem Rel.move (r : Rel S h B W) {i n : Nat} {k : Option Nat} (hx : h[i]? = some (.row k n)) : Rel (moved S i h.length n) (h.set i (.row k (n + 1)) ++ [.row k n]) B W ∧ Ext S (moved S i h.length n) := by
  have hlt := (List.getElem?_eq_some_iff.1 hx).1
  have rd := r.dead hx
  have hne : ∀ v, S.blk h.length v = none := fun v => r.new _ _ (Nat.le_refl _)
  have ex : Ext S (moved S i h.length n) := ⟨fun a v b hb => by
    simp only [moved]
    split
    · rename_i hh; rw [hh.1, hne] at hb; cases hb
    · exact hb, fun _ _ h => h, fun _ _ _ h => h, rfl, fun _ _ _ h => .inl h⟩
  have low : ∀ a v, a ≠ h.length → (moved S i h.length n).blk a v = S.blk a v := fun a v ha => by
    simp only [moved]
    rw [if_neg (fun hh => ha hh.1)]
  have top : (moved S i h.length n).blk h.length n = S.blk i n := by simp [moved]
  have get : ∀ j x, (h.set i (.row k (n + 1)) ++ [.row k n])[j]? = some x → (j = h.length ∧ x = .row k n) ∨ (j < h.length ∧ (h.set i (.row k (n + 1)))[j]? = some x) := fun j x hj => by
    rw [List.getElem?_append] at hj
    split at hj
    · rename_i hl; rw [List.length_set] at hl; exact .inr ⟨hl, hj⟩
    · rename_i hl
      rw [List.length_set] at hl hj
      have : j = h.length := by have := (List.getElem?_eq_some_iff.1 hj).1; simp at this; omega
      subst this
      simp at hj
      exact .inl ⟨rfl, hj.symm⟩
  have cur : ∀ j x b, j < h.length → curB (moved S i h.length n) j x = some b → curB S j x = some b := fun j x b hj hc => by
    cases x <;> simp only [curB] at * <;> rwa [low _ _ (by omega)] at hc
  refine ⟨⟨r.imm, ?_, ?_, ?_, r.lt, r.base, r.sb⟩, ex⟩
  · intro j x hj
    rcases get j x hj with ⟨rfl, rfl⟩ | ⟨hl, hj⟩
    · refine ⟨fun v hv => ?_, fun b hb => ?_⟩
      · simp only [moved]
        rw [if_neg (by omega)]
        exact hne v
      · rw [top] at hb
        exact (r.obj i _ hx).2 b hb
    · refine (rd.obj j x hj).mono ex (fun b hc => ⟨rfl, fun o ho => ho⟩) (fun v hv => ?_)
      rw [low _ _ (by omega)]
      exact hv
  · intro j l x y b hj hl hcj hcl
    rcases get j x hj with ⟨rfl, rfl⟩ | ⟨hjl, hj⟩
    · rcases get l y hl with ⟨rfl, rfl⟩ | ⟨hll, hl⟩
      · rfl
      · exfalso
        simp only [curB] at hcj
        rw [top] at hcj
        have h2 := cur _ _ _ hll hcl
        by_cases hli : l = i
        · subst hli
          rw [List.getElem?_set_self hlt] at hl
          cases hl
          simp only [curB] at h2
          rw [(r.obj l _ hx).1 (n + 1) (by omega)] at h2
          cases h2
        · rw [List.getElem?_set_ne (fun hh => hli hh.symm)] at hl
          have := r.inj i l _ _ b hx hl (by simp only [curB]; exact hcj) h2
          exact hli this.symm
    · rcases get l y hl with ⟨rfl, rfl⟩ | ⟨hll, hl⟩
      · exfalso
        simp only [curB] at hcl
        rw [top] at hcl
        have h2 := cur _ _ _ hjl hcj
        by_cases hli : j = i
        · subst hli
          rw [List.getElem?_set_self hlt] at hj
          cases hj
          simp only [curB] at h2
          rw [(r.obj j _ hx).1 (n + 1) (by omega)] at h2
          cases h2
        · rw [List.getElem?_set_ne (fun hh => hli hh.symm)] at hj
          have := r.inj j i _ _ b hj hx h2 (by simp only [curB]; exact hcl)
          exact hli this
      · exact rd.inj j l x y b hj hl (cur _ _ _ hjl hcj) (cur _ _ _ hll hcl)
  · intro j v hj
    simp only [List.length_append, List.length_set, List.length_cons, List.length_nil] at hj
    rw [low _ _ (by omega)]
    exact r.new j v (by omega)
end
/-- an append of zeros that takes a new block -/
theorem run_zeros_grow {P : Program} {W : World} {ts : Array TypeId} {t tx ty el : TypeId} {d : IntKind} (h0 : ts[0]? = some t) (h1 : ts[1]? = some tx) (ht : P.underlying t = some (.slice el)) (hux : P.underlying tx = some (.int d)) {i : TypeInfo} (hi : P.info? el = some i) {z : Value} (hz : i.zero = some z) {k : Option Nat} (hs : i.size = kz k) (hkz : 0 < kz k) (hb : i.bytes = 1) {ao : Option Addr} {cap m : Nat} {olds : List Value}
    (hold : (Builtin.firstCells (kz k) cap (.slice ao cap cap)).run P W.drew = .ok olds.toArray W.drew) (hg : 0 < m) (hbytes : cap + m ≤ 140737488355328) :
    (Builtin.append_ ts ty #[.slice ao cap cap, .int .i64 (m : Int)]).run P W = .ok (.slice (some ⟨W.heap.size, 0, none⟩) (cap + m) (grownCap W (cap + m) cap el)) (W.drew.alloc (.cells (olds.toArray ++ Builtin.zeroCells z.cells m ++ Builtin.zeroCells z.cells (grownCap W (cap + m) cap el - (cap + m))) el)) := by
  have hn : ¬ (cap + m ≤ cap) := by omega
  have hpick := growslice_fits (bytes := 1) (show cap < cap + m by omega) (by omega)
  have h48' : ¬ (281474976710656 < Builtin.nextslicecap (cap + m) cap * 1) := by omega
  have hzz := run_zero' (P := P) (t := el) (z := z) (by simp [zeroOf, hi, hz])
  have hw : IntKind.i64.wrap (m : Int) = (m : Int) := IntWalk.i64_in _ ⟨by omega, by omega⟩
  have hneg : ¬ ((m : Int) < 0) := by omega
  have hbig : ¬ ((2 : Int) ^ 48 < (m : Int) * 1) := by omega
  have hmax : ¬ ((IntKind.i64.max : Int) < ((cap + m : Nat) : Int)) := by
    show ¬ ((9223372036854775807 : Int) < _)
    omega
  have hmk : ¬ (m * kz k = 0) := by
    intro hh
    rcases Nat.mul_eq_zero.1 hh with h | h <;> omega
  simp only [Builtin.append_, h0, h1, List.getElem?_toArray, List.getElem?_cons_zero, List.getElem?_cons_succ, Sem.run_bind, run_underlying' ht, run_underlying' hux, run_sizeOf' hi, hs, Result.andThen_ok, Sem.run_pure]
  have hai : ∀ W : World, (asInt (.int .i64 (m : Int))).run P W = .ok (m : Int) W := fun _ => rfl
  have hbig' : ¬ (281474976710656 < (m : Int)) := by omega
  have hm0 : ¬ m = 0 := by omega
  have hmax' : ¬ (9223372036854775807 < (cap : Int) + (m : Int)) := by omega
  have hpick' : ¬ (281474976710656 < Builtin.nextslicecap (cap + m) cap) := by omega
  simp [hmax', hpick', hai, hbig', hm0, hw, hneg, hn, hold, run_typeInfo hi, hb, h48', Question.forced, hzz, newRow, grownCap, hmk, hmax]
/-- the walk's two ways, told of the model's function -/
structure GrowW (P : Program) (f : Nat) (ts : Array TypeId) (ty : TypeId) : Prop where
  room : ∀ (ao : Option Addr) (len cap : Nat) (n : Int) (W : World), 0 ≤ n → cap ≤ 9223372036854775807 → len ≤ cap → n ≤ (cap : Int) - len → Calls P f #[.slice ao len cap, .int .i64 n] W (fun e W' => e = .returned (.slice ao len cap) ∧ W' = W)
  grow : ∀ (ao : Option Addr) (len cap m cap2 q : Nat) (n : Int) (W w1 : World) (g : Nat), 0 ≤ n → n ≤ 1000 → cap ≤ 140737488355328 → len ≤ cap → n - ((cap : Int) - len) = (m : Int) → 0 < m → (Builtin.append_ ts ty #[.slice ao cap cap, .int .i64 (m : Int)]).run P W = .ok (.slice (some ⟨g, 0, none⟩) q cap2) w1 → len ≤ q → q ≤ cap2 → cap2 ≤ 9223372036854775807 →
    Calls P f #[.slice ao len cap, .int .i64 n] W (fun e W' => e = .returned (.slice (some ⟨g, 0, none⟩) len cap2) ∧ W' = w1)
theorem growG_sound {P : Program} {f : Nat} {ts : Array TypeId} {t tx ty el : TypeId} {d : IntKind} (gw : GrowW P f ts ty) (h0 : ts[0]? = some t) (h1 : ts[1]? = some tx) (ht : P.underlying t = some (.slice el)) (hux : P.underlying tx = some (.int d)) {i : TypeInfo} (hi : P.info? el = some i) {z : Value} (hz : i.zero = some z) (hs : i.size = 1) (hb : i.bytes = 1) (hzs : z.cells.size = 1)
    {args : List AV} {h h' : Heap} {v : AV} (hx : growG args h = some (v, h')) {S : St} {B : Nat} {W : World} {cargs : Array Value} (r : Rel S h B W) (hv : VL S args cargs.toList) : Calls P f cargs W (GPost S h' v B W) := by
  unfold growG at hx
  split at hx
  · rename_i j els n
    split at hx
    · rename_i m0 hrow
      split at hx
      · rename_i hc
        obtain ⟨rfl, n0, n1, n2⟩ := hc
        cases hx
        obtain ⟨u, us, hu, hvu, hvl⟩ := (by simpa only [VL] using hv : ∃ u us, cargs.toList = u :: us ∧ V S (.slice (.tok j) none els) u ∧ ∃ w ws, us = w :: ws ∧ V S (.sc (.int .i64 n)) w ∧ ws = [])
        obtain ⟨w, ws, rfl, hw, rfl⟩ := hvl
        simp only [V] at hw
        subst hw
        have hvu0 := hvu
        simp only [V, OwnV] at hvu
        obtain ⟨ao, cap, rfl, hle, ⟨hcm, hown⟩, hel⟩ := hvu
        have hca : cargs = #[.slice ao els.length cap, .int .i64 n] := by
          apply Array.toList_inj.1
          rw [hu]
        subst hca
        have hcm' : cap ≤ 9223372036854775807 := by unfold maxLen at hcm; omega
        by_cases hroom : n ≤ (cap : Int) - els.length
        · refine (gw.room ao els.length cap n W (by omega) hcm' hle hroom).mono ?_
          rintro e W' ⟨rfl, rfl⟩
          obtain ⟨r2, ex⟩ := r.move hrow
          refine ⟨_, _, rfl, ex, r2, ?_, Below.refl B W'⟩
          simp only [V, OwnV]
          refine ⟨ao, cap, rfl, hle, ⟨hcm, ?_⟩, ?_⟩
          · rcases hown with hown | ⟨b, N, e1, e2, e3, e4⟩
            · exact .inl hown
            · exact .inr ⟨b, N, by simp [moved, e1], e2, e3, e4⟩
          · rcases hel with hel | ⟨b, o, e1, e2⟩
            · exact .inl hel
            · exact .inr ⟨b, o, e1, VE.mono ex _ e2⟩
        · obtain ⟨m, hm⟩ : ∃ m : Nat, n - ((cap : Int) - els.length) = (m : Int) := ⟨(n - ((cap : Int) - els.length)).toNat, by omega⟩
          have hmp : 0 < m := by omega
          have hsmall : cap + m ≤ 140737488355328 := by omega
          -- what lies in the old block
          have hold : ∃ olds : List Value, olds.length = cap ∧ (cap = 0 ∨ ∃ b q, ao = some ⟨b, q, none⟩ ∧ ∀ j u, olds[j]? = some u → W.cell? ⟨b, q + j, none⟩ = some u) ∧ VL S (flat els) (olds.take els.length) ∧ (∀ u ∈ olds.take els.length, u.oneCell' = true) ∧ ∀ x ∈ els, shp none x := by
            have base : ∃ us : List Value, us.length = els.length ∧ VL S (flat els) us ∧ (∀ u ∈ us, u.oneCell' = true) ∧ (∀ x ∈ els, shp none x) ∧ (els = [] ∨ ∃ b q, ao = some ⟨b, q, none⟩ ∧ ∀ j u, us[j]? = some u → W.cell? ⟨b, q + j, none⟩ = some u) := by
              rcases hel with rfl | ⟨b, q, rfl, hve⟩
              · exact ⟨[], rfl, by simp [flat, VL], by simp, by simp, .inl rfl⟩
              · obtain ⟨us, g1, g2, g3, g4, g5⟩ := VE_cells r hve
                exact ⟨us, by simpa [kz] using g1, g2, g3, g5, .inr ⟨b, q, rfl, fun j u hj => (r.imm _ _ _ (g4 j u hj)).1⟩⟩
            obtain ⟨us, g1, g2, g3, g4, g5⟩ := base
            rcases hown with hown | ⟨b, N, e1, e2, e3, e4⟩
            · refine ⟨us, by omega, ?_, by rw [List.take_of_length_le (by omega)]; exact g2, by rw [List.take_of_length_le (by omega)]; exact g3, g4⟩
              rcases g5 with rfl | g5
              · exact .inl (by simp at hown; exact hown)
              · exact .inr g5
            · obtain ⟨_, q2⟩ := r.obj j _ hrow
              obtain ⟨qB, c, e, fr, p1, p2, p3, p4⟩ := q2 b e1
              rw [e2] at p2
              cases p2
              simp only [kz, Option.getD_none, Nat.mul_one] at e4
              have hus : us = (c.toList.take cap).take els.length := by
                apply List.ext_getElem?
                intro k
                rw [List.take_take, Nat.min_eq_left hle, List.getElem?_take]
                split
                · rename_i hk
                  have hk' : k < us.length := by omega
                  rcases g5 with rfl | ⟨b', q', hq, g5⟩
                  · simp at hk
                  · rw [e3] at hq
                    cases hq
                    have := g5 k us[k] (List.getElem?_eq_getElem hk')
                    rw [Nat.zero_add, cell_of p1] at this
                    rw [List.getElem?_eq_getElem hk', ← this]
                    simp
                · rename_i hk
                  exact List.getElem?_eq_none (by omega)
              refine ⟨c.toList.take cap, by simp; omega, .inr ⟨b, 0, e3, fun k u hk => ?_⟩, by rw [← hus]; exact g2, by rw [← hus]; exact g3, g4⟩
              rw [Nat.zero_add, cell_of p1]
              rw [List.getElem?_take] at hk
              split at hk
              · simpa using hk
              · cases hk
          obtain ⟨olds, o1, o2, o3, o4, o5⟩ := hold
          have hE : Els P W none (.slice ao cap cap) cap olds := ⟨by simpa [kz] using o1, .inl ⟨ao, cap, rfl, o2⟩⟩
          have hf := run_firsts hE cap (Nat.le_refl _) (W' := W.drew) (fun _ => rfl)
          rw [List.take_of_length_le (by simp [kz, o1])] at hf
          have hrun := run_zeros_grow (P := P) (W := W) (ty := ty) h0 h1 ht hux hi hz (k := none) (by simpa [kz] using hs) (by decide) hb hf hmp hsmall
          have hgc := grownCap_ge W (cap + m) cap el
          have hgm := grownCap_le_maxLen W (cap + m) cap el (by unfold maxLen; omega)
          generalize hG : grownCap W (cap + m) cap el = gc at *
          refine (gw.grow ao els.length cap m gc (cap + m) n W _ W.heap.size (by omega) n1 (by omega) hle hm hmp hrun (by omega) hgc (by unfold maxLen at hgm; omega)).mono ?_
          rintro e W' ⟨rfl, rfl⟩
          have hbd : Below B W W.drew := (Below.refl B W).drew
          have rr := (r.dead hrow).newRow none els.length
          have rd : Rel S (h.set j (.row none (els.length + 1)) ++ [.row none els.length]) B W.drew := ⟨rr.imm, fun i x hx => by
            have := rr.obj i x hx
            cases x with
            | cells cs => exact this
            | row k n => exact this
            | map es => exact this, rr.inj, rr.new, rr.lt, rr.base, rr.sb⟩
          have hl2 : (h.set j (.row none (els.length + 1))).length = h.length := List.length_set
          have hget : (h.set j (.row none (els.length + 1)) ++ [.row none els.length])[h.length]? = some (.row none els.length) := by
            rw [List.getElem?_append_right (by rw [hl2]; exact Nat.le_refl _), hl2, Nat.sub_self]
            rfl
          have hC : ∀ o u, o < els.length * kz none → (olds.toArray ++ Builtin.zeroCells z.cells m ++ Builtin.zeroCells z.cells (gc - (cap + m)))[o]? = some u → u ∈ olds.take els.length := by
            intro o u ho hu
            simp only [kz, Option.getD_none, Nat.mul_one] at ho
            rw [Array.append_assoc, Array.getElem?_append_left (by simp [o1]; omega)] at hu
            refine List.mem_of_getElem? (i := o) ?_
            rw [List.getElem?_take, if_pos ho]
            simpa using hu
          obtain ⟨r2, ex⟩ := rd.rowNew hget (r.new _ _ (Nat.le_refl _)) (olds.toArray ++ Builtin.zeroCells z.cells m ++ Builtin.zeroCells z.cells (gc - (cap + m))) el (0, 0) (fun o u ho hu => o4 u (hC o u ho hu)) (by simp [kz, o1]; omega) (fun o _ => by simp)
          refine ⟨_, _, rfl, ex, r2, ?_, hbd.alloc r.base _⟩
          have hsz0 : W.drew.heap.size = W.heap.size := rfl
          simp only [V, OwnV]
          refine ⟨_, gc, rfl, by omega, ⟨hgm, .inr ⟨W.heap.size, (olds.toArray ++ Builtin.zeroCells z.cells m ++ Builtin.zeroCells z.cells (gc - (cap + m))).size, ?_, ?_, rfl, ?_⟩⟩, ?_⟩
          · simp only [addRow, hsz0]
            rw [if_pos ⟨trivial, trivial⟩]
          · simp only [addRow, hsz0, if_true]
          · simp [Builtin.zeroCells, hzs, o1, kz]
            omega
          · by_cases hnil : els = []
            · exact .inl hnil
            · right
              refine ⟨W.heap.size, 0, rfl, VE_of_flat (us := olds.take els.length) o5 (VL.mono ex _ o3) fun k u hk => ?_⟩
              have hk0 : k < els.length := by
                rw [List.getElem?_take] at hk
                split at hk
                · assumption
                · cases hk
              simp only [addRow, hsz0, Nat.zero_add]
              rw [if_pos ⟨trivial, by simpa [kz] using hk0⟩]
              rw [Array.append_assoc, Array.getElem?_append_left (by simp [o1]; omega)]
              rw [List.getElem?_take, if_pos hk0] at hk
              simpa using hk
      · cases hx
    · cases hx
  · cases hx
/-! ### slices.Clone -/
/-- a copy that is one's own; whether what comes in is nil doesn't matter then -/
def cloneE (k : Option Nat) (bytes : Nat) : List AV → Option AV
  | [.slice .none k' els] => if k' = k ∧ closedL els = true ∧ fitsB els.length bytes = true then some (.slice .fresh k els) else none
  | [.slice .full k' els] => if k' = k ∧ closedL els = true ∧ fitsB els.length bytes = true then some (.slice .fresh k els) else none
  | [.sc (.slice none 0 0)] => some (.slice .fresh k [])
  | _ => none
def T0 : Tab := ⟨fun _ => none, fun _ => none, fun _ => none⟩
theorem T0_ok (P : Program) (gl : Nat → Option (List Value)) : TabOK P gl T0 := ⟨fun f g h => (by cases h), fun f F h => (by cases h), fun f g h => (by cases h)⟩
theorem of_T0 {P : Program} {gl : Nat → Option (List Value)} (hm : P.follows .mixedOrders = true) {f : Nat} {F : AFn} (hF : FnOK P gl f F) {args : List AV} (hlen : args.length = F.np) {v : AV} (hr : prun T0 F args = some v) (imm : Imm) (W : World) (cargs : Array Value) (hi : ImmOK imm W) (hg : GlobOK gl imm) (hv : VL (immSt imm W.heap.size) args cargs.toList) : Calls P f cargs W (PRet imm W v) := by
  have mono : Mono fun n => ((aexec (Cn T0 n) n F.body (initE 0 args) []).bind (finish F)).bind fun (v, h) => freeze h v := fun n => ((mono_ax _ _ _ n).bind fun _ => ole.refl _).bind fun _ => ole.refl _
  have hr' : lim (fun n => ((aexec (Cn T0 n) n F.body (initE 0 args) []).bind (finish F)).bind fun (v, h) => freeze h v) = some v := by
    rw [← hr, prun_eq]
    rw [lim_bind (q := fun _ (p : AV × Heap) => freeze p.2 p.1) (fun n => (mono_ax _ _ _ n).bind fun _ => ole.refl _) (fun _ _ => ole.refl _)]
    simp only [lim_const]
    congr 1
    rw [lim_bind (q := fun _ x => finish F x) (mono_ax _ _ _) (fun _ _ => ole.refl _)]
    simp only [lim_const]
    rfl
  obtain ⟨n, hn⟩ := (lim_iff mono).1 hr'
  exact body_PSound hm (gcall_both hm (T0_ok P gl) n) hF hlen hn imm W cargs hi hg hv
theorem clone_PSound {P : Program} {gl : Nat → Option (List Value)} (hm : P.follows .mixedOrders = true) {f : Nat} {F : AFn} (hF : FnOK P gl f F) (hnp : F.np = 1) {k : Option Nat} {bytes : Nat}
    (h1 : ∀ o els, (o = .none ∨ o = .full) → els ≠ [] → closedL els = true → fitsB els.length bytes = true → prun T0 F [.slice o k els] = some (.slice .fresh k els))
    (h2 : ∀ a cap, prun T0 F [.sc (.slice (some a) 0 cap)] = some (.slice .fresh k []))
    (h3 : ∀ cap, prun T0 F [.sc (.slice none 0 cap)] = some .nil) : PSound P gl f (cloneE k bytes) := by
  intro args v hx imm W cargs hi hg hv
  have emp : ∀ (u : Value) (ao : Option Addr) (cap : Nat), u = .slice ao 0 cap → cargs.toList = [u] → v = .slice .fresh k [] → Calls P f cargs W (PRet imm W v) := by
    rintro u ao cap rfl hc rfl
    have hv' : VL (immSt imm W.heap.size) [.sc (.slice ao 0 cap)] cargs.toList := by rw [hc]; simp [VL, V]
    cases ao with
    | some a => exact of_T0 hm hF (by rw [hnp]; rfl) (h2 a cap) imm W cargs hi hg hv'
    | none =>
      refine (of_T0 hm hF (by rw [hnp]; rfl) (h3 cap) imm W cargs hi hg hv').mono ?_
      rintro e W' ⟨u, imm', rfl, k1, k2, k3, k4, k5⟩
      simp only [V] at k3
      subst k3
      refine ⟨_, imm', rfl, k1, k2, ?_, ⟨fun k els he => ?_, fun k els r he => by cases he⟩, k5⟩
      · simp only [V, OwnV]
        exact ⟨none, 0, rfl, Nat.le_refl _, trivial, .inl trivial⟩
      · cases he
        exact ⟨none, 0, rfl, by simp [maxLen], .inl rfl⟩
  have gen : ∀ o els, (o = .none ∨ o = .full) → args = [.slice o k els] → closedL els = true → fitsB els.length bytes = true → v = .slice .fresh k els → Calls P f cargs W (PRet imm W v) := by
    rintro o els ho rfl hc hf rfl
    by_cases he : els = []
    · subst he
      simp only [VL, V] at hv
      obtain ⟨u, us, hu, ⟨ao, cap, rfl, _⟩, rfl⟩ := hv
      exact emp _ ao cap rfl hu rfl
    · exact of_T0 hm hF (by rw [hnp]; rfl) (h1 o els ho he hc hf) imm W cargs hi hg hv
  unfold cloneE at hx
  split at hx
  · rename_i k' els
    split at hx
    · rename_i hc
      obtain ⟨rfl, hc1, hc2⟩ := hc
      cases hx
      exact gen .none els (.inl rfl) rfl hc1 hc2 rfl
    · cases hx
  · rename_i k' els
    split at hx
    · rename_i hc
      obtain ⟨rfl, hc1, hc2⟩ := hc
      cases hx
      exact gen .full els (.inr rfl) rfl hc1 hc2 rfl
    · cases hx
  · cases hx
    simp only [VL, V] at hv
    obtain ⟨u, us, hu, rfl, rfl⟩ := hv
    exact emp _ none 0 rfl hu rfl
  · cases hx
theorem call_clone {T : Tab} {f : Nat} {k : Option Nat} {bytes : Nat} (hx : T.ext f = some (cloneE k bytes)) {o : AOwn} {els : List AV} (h : Heap) (hc : closedL els = true) (hf : fitsB els.length bytes = true) : ag T f [.slice o k els] h = some (.slice (.tok h.length) k els, h ++ [.row k els.length]) := by
  rw [ag_ext hx]
  have hp : closedL ([AV.slice o k els].map strip) = true := by
    simp only [List.map_cons, List.map_nil, strip, closedL, namL, nam, Bool.and_true]
    rw [show namL (fun _ => false) els = true from hc]
    cases o <;> rfl
  unfold pcall prep
  rw [if_pos hp]
  have hc' : closedL els = true := hc
  cases o <;> simp [strip, stripO, cloneE, hc', hf, Go.Proofs.Ytpnkldjbiinnpaa.AM.adopt]
theorem call_clone_nil {T : Tab} {f : Nat} {k : Option Nat} {bytes : Nat} (hx : T.ext f = some (cloneE k bytes)) (h : Heap) : ag T f [.nil] h = some (.slice (.tok h.length) k [], h ++ [.row k 0]) := by
  rw [ag_ext hx]
  rfl
theorem call_grow {T : Tab} {f : Nat} (hx : T.ext f = none) (hf : T.fn f = none) (hn : T.nat f = some growG) {i : Nat} {els : List AV} {h : Heap} {n : Int} (hr : h[i]? = some (.row none els.length)) (h0 : 0 < n) (h1 : n ≤ 1000) (h2 : els.length ≤ 140737488300000) : ag T f [.slice (.tok i) none els, .int .i64 n] h = some (.slice (.tok h.length) none els, h.set i (.row none (els.length + 1)) ++ [.row none els.length]) := by
  rw [ag_nat hx hf hn]
  simp only [growG, hr, h0, h1, h2, and_self, if_true]
end Go.Proofs.Ytpnkldjbiinnpaa.AM
