import Derived.Test.YtpnkldjbiinnpaaAm10
import Derived.Deep.DeepAppendWide
/- Each operation of the model does what the plain machine's does: append, copy, make, conversions. -/
namespace Go.Proofs.Ytpnkldjbiinnpaa.AM
open Go Go.RowKit
set_option linter.unusedVariables false
set_option linter.unusedSimpArgs false
section
variable {P : Program} {E : Env0} {o : Oper} {C : Cl} {e : Env} {h h' : Heap} {v : AV} {S : St} {B : Nat} {W : World} {a : Act}
theorem madeCells_eq (z : Array Value) (n : Nat) : madeCells z n = (Array.range n).map (fun j => z[j % z.size]!) := rfl
theorem ex_makeSlice {t el : TypeId} {l c : Operand} (hop : o.op = .makeSlice t l c) (ht : P.underlying t = some (.slice el)) {k : Option Nat} (hkz : 0 < kz k) {z : Value} {i : TypeInfo} (hi : P.info? el = some i) (hz : i.zero = some z) (hzs : z.cells.size = kz k) (hs : i.size = kz k) (hone : z.cells.toList.all (·.oneCell') = true) {l' c' : Opd} (h1 : compO E l = some l') (h2 : compO E c = some c')
    (hx : aop C (.makeSlice k (z.cells.toList.map .sc) i.bytes l' c') e h = some (v, h')) (r : Rel S h B W) (he : EnvR S e a E.nt) (hg : GlobOK E.gl S.imm) : ExOK P o a S h' v B W := by
  simp only [aop] at hx
  split at hx
  · rename_i l0 c0 hl0 hc0
    have e1 := eval_sc (evO_V he hg h1) hl0
    have e2 := eval_sc (evO_V he hg h2) hc0
    split at hx
    · rename_i hcond
      obtain ⟨b1, b2, b3, b4⟩ := hcond
      have hrun := run_make (P := P) W t el i z ht hi hz .i64 .i64 l0 c0 b1 b2 (by rw [Int.mul_comm]; exact b3) b4
      rw [hs] at hrun
      have hcl : (madeCells z.cells (c0.toNat * kz k)).toList = (List.replicate c0.toNat z.cells.toList).flatten := by
        rw [madeCells_eq, ← hzs]; exact range_cells _ (by omega) _
      have honeL : ∀ u ∈ (madeCells z.cells (c0.toNat * kz k)).toList, u.oneCell' = true := by
        rw [hcl]
        intro u hu
        rw [List.mem_flatten] at hu
        obtain ⟨q, hq1, hq2⟩ := hu
        rw [List.eq_of_mem_replicate hq1] at hq2
        exact List.all_eq_true.1 hone u hq2
      have hsz : (madeCells z.cells (c0.toNat * kz k)).size = c0.toNat * kz k := by simp [madeCells_eq]
      have hex : ∀ u, (Instr.makeSlice t (a.eval l) (a.eval c)).run P W = .ok u (W.alloc (.cells (madeCells z.cells (c0.toNat * kz k)) el)) → (execOp a.eval o).run P W = .ok (.value u) (W.alloc (.cells (madeCells z.cells (c0.toNat * kz k)) el)) := by
        intro u hu
        simp [execOp, hop, hu]
      rw [e1, e2] at hex
      split at hx
      · rename_i hl
        cases hx
        subst hl
        have hget : (h ++ [AObj.row k 0])[h.length]? = some (.row k 0) := by simp
        obtain ⟨r2, ex⟩ := (r.newRow k 0).rowNew hget (r.new _ _ (Nat.le_refl _)) (madeCells z.cells (c0.toNat * kz k)) el (0, 0) (fun o u _ hu => honeL u (Array.mem_toList_iff.2 (Array.mem_of_getElem? hu))) (by omega) (fun o _ => by simp)
        refine ⟨_, _, _, _, hex _ hrun, .inl rfl, ex, r2, ?_, (Below.refl B W).alloc r.base _⟩
        simp only [V]
        refine ⟨_, c0.toNat, rfl, Nat.zero_le _, ⟨by unfold maxLen; omega, .inr ⟨W.heap.size, (madeCells z.cells (c0.toNat * kz k)).size, ?_, ?_, rfl, ?_⟩⟩, .inl trivial⟩
        · simp [addRow]
        · simp only [addRow, if_true]
        · rw [hsz]; exact Nat.le_refl _
      · split at hx
        · rename_i hl hlc
          cases hx
          subst hlc
          obtain ⟨r2, ex⟩ := r.newBox (List.replicate l0.toNat (z.cells.toList.map .sc)).flatten (madeCells z.cells (l0.toNat * kz k)) el (by
            rw [hcl]
            refine VL.flatten (by simp) fun j y w hy hw => ?_
            rw [List.getElem?_replicate] at hy hw
            split at hy
            · cases hy; rename_i hj; rw [if_pos hj] at hw; cases hw; exact VL_map_sc _
            · cases hy) honeL
          refine ⟨_, _, _, _, hex _ hrun, .inl rfl, ex, r2, ?_, (Below.refl B W).alloc r.base _⟩
          simp only [V]
          refine ⟨W.heap.size, (madeCells z.cells (l0.toNat * kz k)).size, l0.toNat, by simp [addBlk], by simp only [addBlk, if_true], Nat.le_refl _, by rw [hsz]; omega, rfl⟩
        · cases hx
    · cases hx
  · cases hx
/-! ### append -/
theorem run_app_fit {ts : Array TypeId} {t tx ty el : TypeId} {ux : TypeDesc} (h0 : ts[0]? = some t) (h1 : ts[1]? = some tx) (ht : P.underlying t = some (.slice el)) (hux : P.underlying tx = some ux) (hni : ∀ d, ux ≠ .int d) {i : TypeInfo} (hi : P.info? el = some i) {k : Option Nat} (hs : i.size = kz k) {ao : Option Addr} {n cap m : Nat} {p : Value} {us : List Value} (hE : Els P W k p m us) (hfit : n + m ≤ cap)
    {W' : World} (hst : ∀ ad, ao = some ad → (storeCells (ad.add (n * kz k)) us).run P W = .ok () W') (hno : ao = none → W' = W) :
    (Builtin.append_ ts ty #[.slice ao n cap, p]).run P W = .ok (.slice ao (n + m) cap) W' := by
  have hz : (match ux with | .int _ => true | _ => false) = false := by cases ux <;> first | rfl | exact absurd rfl (hni _)
  have hf := run_firsts hE m (Nat.le_refl m) (W' := W) (fun _ => rfl)
  rw [List.take_of_length_le (by rw [hE.1]; exact Nat.le_refl _)] at hf
  have hlen := run_lenOf hE W
  cases ao with
  | none =>
    rw [hno rfl]
    simp [Builtin.append_, h0, h1, run_underlying' ht, run_underlying' hux, run_sizeOf' hi, hs, hlen, hfit, hf, hz]
  | some a0 =>
    have hst' := hst a0 rfl
    simp [Builtin.append_, h0, h1, run_underlying' ht, run_underlying' hux, run_sizeOf' hi, hs, hlen, hfit, hf, hz, hst']
theorem run_app_grow {ts : Array TypeId} {t tx ty el : TypeId} {ux : TypeDesc} (h0 : ts[0]? = some t) (h1 : ts[1]? = some tx) (ht : P.underlying t = some (.slice el)) (hux : P.underlying tx = some ux) (hni : ∀ d, ux ≠ .int d) {i : TypeInfo} (hi : P.info? el = some i) {z : Value} (hz : i.zero = some z) {k : Option Nat} (hs : i.size = kz k) (hb : 0 < i.bytes) {ao : Option Addr} {n cap m : Nat} {p : Value} {us olds : List Value} (hE : Els P W k p m us)
    (hold : (Builtin.firstCells (kz k) n (.slice ao n cap)).run P W.drew = .ok olds.toArray W.drew) (hg : cap < n + m) (hbytes : fitsB (n + m) i.bytes = true) :
    (Builtin.append_ ts ty #[.slice ao n cap, p]).run P W = .ok (.slice (some ⟨W.heap.size, 0, none⟩) (n + m) (grownCap W (n + m) cap el)) (W.drew.alloc (.cells (olds.toArray ++ us.toArray ++ Builtin.zeroCells z.cells (grownCap W (n + m) cap el - (n + m))) el)) := by
  have hf := run_firsts hE m (Nat.le_refl m) (W' := W.drew) (fun _ => rfl)
  rw [List.take_of_length_le (by rw [hE.1]; exact Nat.le_refl _)] at hf
  have hlen := run_lenOf hE W
  have hn : ¬ (n + m ≤ cap) := by omega
  have hpick : Builtin.nextslicecap (n + m) cap * i.bytes ≤ 281474976710656 := by
    simp only [fitsB, decide_eq_true_eq] at hbytes
    rcases hbytes with hbytes | hbytes
    · exact growslice_fits hg hbytes
    · exact growslice_fits_wide hg hbytes
  have h48' : ¬ (281474976710656 < Builtin.nextslicecap (n + m) cap * i.bytes) := by omega
  have hb' : ¬ i.bytes = 0 := by omega
  have hzz := run_zero' (P := P) (t := el) (z := z) (by simp [zeroOf, hi, hz])
  simp only [Builtin.append_, h0, h1, List.getElem?_toArray, List.getElem?_cons_zero, List.getElem?_cons_succ, Sem.run_bind, run_underlying' ht, run_underlying' hux, run_sizeOf' hi, hs, Result.andThen_ok, Sem.run_pure]
  cases ux <;> first | exact absurd rfl (hni _) | (simp [hlen, hn, hf, hold, run_typeInfo hi, h48', hb', Question.forced, hzz, newRow, grownCap]; congr 2; apply Array.ext'; simp [List.append_assoc])
theorem zeroCells_one {z : Value} (hone : z.cells.toList.all (·.oneCell') = true) (n : Nat) : ∀ u ∈ (Builtin.zeroCells z.cells n).toList, u.oneCell' = true := by
  intro u hu
  simp only [Builtin.zeroCells, Array.toList_map, List.mem_map, Array.toList_range, List.mem_range] at hu
  obtain ⟨j, hj, rfl⟩ := hu
  have hpos : 0 < z.cells.size := by
    rcases Nat.eq_zero_or_pos z.cells.size with h0 | h0
    · rw [h0] at hj; omega
    · exact h0
  have hlt : j % z.cells.size < z.cells.size := Nat.mod_lt _ hpos
  rw [getElem!_pos z.cells _ hlt]
  exact List.all_eq_true.1 hone _ (Array.getElem_mem_toList hlt)
theorem flat_append (x y : List AV) : flat (x ++ y) = flat x ++ flat y := by simp [flat]
/-- what a slice holds, told of its cells -/
structure Held (W : World) (S : St) (k : Option Nat) (ao : Option Addr) (els : List AV) (us : List Value) : Prop where
  len : us.length = els.length * kz k
  vl : VL S (flat els) us
  one : ∀ u ∈ us, u.oneCell' = true
  sh : ∀ x ∈ els, shp k x
  at_ : els = [] ∨ ∃ b q, ao = some ⟨b, q, none⟩ ∧ ∀ j u, us[j]? = some u → W.cell? ⟨b, q + j, none⟩ = some u
theorem Held.first {k : Option Nat} {ao : Option Addr} {els : List AV} {us : List Value} (hh : Held W S k ao els us) (cap : Nat) : (Builtin.firstCells (kz k) els.length (.slice ao els.length cap)).run P W.drew = .ok us.toArray W.drew := by
  have hE : Els P W k (.slice ao els.length cap) els.length us := ⟨hh.len, .inl ⟨ao, cap, rfl, by
    rcases hh.at_ with h0 | h0
    · left; rw [h0]; rfl
    · exact .inr h0⟩⟩
  have := run_firsts hE els.length (Nat.le_refl _) (W' := W.drew) (fun _ => rfl)
  rwa [List.take_of_length_le (by rw [hh.len]; exact Nat.le_refl _)] at this
/-- an append that takes a new block -/
theorem grow_ok {h : Heap} (r : Rel S h B W) {i n : Nat} {k : Option Nat} (hrow : h[i]? = some (.row k n)) (hnb : S.blk i n = none) {els new : List AV} {us ws : List Value} {z : Value} {el : TypeId} (hone : z.cells.toList.all (·.oneCell') = true) (hzs : z.cells.size = kz k) (hn : n = els.length + new.length) {ao : Option Addr} (h1 : Held W S k ao els us) (hvn : VL S (flat new) ws) (hon : ∀ u ∈ ws, u.oneCell' = true) (hsn : ∀ x ∈ new, shp k x) (hlw : ws.length = new.length * kz k) (gc : Nat) (hgc : n ≤ gc) (hgm : gc ≤ maxLen) :
    ∃ S', Rel S' h B (W.drew.alloc (.cells (us.toArray ++ ws.toArray ++ Builtin.zeroCells z.cells (gc - n)) el)) ∧ Ext S S' ∧ V S' (.slice (.tok i) k (els ++ new)) (.slice (some ⟨W.heap.size, 0, none⟩) n gc) ∧ Below B W (W.drew.alloc (.cells (us.toArray ++ ws.toArray ++ Builtin.zeroCells z.cells (gc - n)) el)) := by
  have hbd : Below B W W.drew := (Below.refl B W).drew
  have rd : Rel S h B W.drew := ⟨r.imm, fun i x hx => by
    have := r.obj i x hx
    cases x with
    | cells cs => exact this
    | row k n => exact this
    | map es => exact this, r.inj, r.new, r.lt, r.base, r.sb⟩
  have hsize : (us.toArray ++ ws.toArray ++ Builtin.zeroCells z.cells (gc - n)).size = gc * kz k := by
    simp only [Array.size_append, List.size_toArray, h1.len, hlw, Builtin.zeroCells, Array.size_map, Array.size_range, hzs]
    rw [← Nat.add_mul, ← Nat.add_mul]
    congr 1
    omega
  have honeA : ∀ u ∈ (us.toArray ++ ws.toArray ++ Builtin.zeroCells z.cells (gc - n)).toList, u.oneCell' = true := by
    intro u hu
    simp only [Array.toList_append, List.mem_append] at hu
    rcases hu with (hu | hu) | hu
    · exact h1.one u hu
    · exact hon u hu
    · exact zeroCells_one hone _ u hu
  obtain ⟨r2, ex⟩ := rd.rowNew hrow hnb _ el (0, 0) (fun o u _ hu => honeA u (Array.mem_toList_iff.2 (Array.mem_of_getElem? hu))) (by rw [hsize]; exact Nat.mul_le_mul_right _ hgc) (fun o _ => by simp)
  refine ⟨_, r2, ex, ?_, hbd.alloc r.base _⟩
  simp only [V]
  have hsz0 : W.drew.heap.size = W.heap.size := rfl
  refine ⟨_, gc, by rw [List.length_append, hn], by rw [List.length_append]; omega, ⟨hgm, .inr ⟨W.heap.size, gc * kz k, ?_, ?_, rfl, Nat.le_refl _⟩⟩, .inr ⟨W.heap.size, 0, rfl, ?_⟩⟩
  · simp only [addRow, hsz0]
    rw [if_pos ⟨trivial, by rw [List.length_append, hn]⟩]
  · simp only [addRow, hsz0, if_true, hsize]
  · refine VE_of_flat (us := us ++ ws) (fun x hx => ?_) (by rw [flat_append]; exact VL.mono ex _ (h1.vl.append hvn)) fun j u hj => ?_
    · rcases List.mem_append.1 hx with hx | hx
      · exact h1.sh x hx
      · exact hsn x hx
    · have hj0 := (List.getElem?_eq_some_iff.1 hj).1
      rw [List.length_append, h1.len, hlw, ← Nat.add_mul, ← hn] at hj0
      simp only [addRow, hsz0, Nat.zero_add]
      rw [if_pos ⟨trivial, hj0⟩]
      rw [Array.getElem?_append_left (by simp only [Array.size_append, List.size_toArray, h1.len, hlw]; rw [← Nat.add_mul, ← hn]; exact hj0)]
      simpa using hj
theorem ex_append {ts : Array TypeId} {s x : Operand} (hop : o.op = .call { callee := .builtin .append, args := #[s, x], argTypes := ts }) {t tx el : TypeId} {ux : TypeDesc} (h0 : ts[0]? = some t) (h1 : ts[1]? = some tx) (ht : P.underlying t = some (.slice el)) (hux : P.underlying tx = some ux) (hni : ∀ d, ux ≠ .int d) {k : Option Nat} (hkz : 0 < kz k) {i : TypeInfo} (hi : P.info? el = some i) {z : Value} (hz : i.zero = some z) (hs : i.size = kz k) (hzs : z.cells.size = kz k) (hone : z.cells.toList.all (·.oneCell') = true) (hb : 0 < i.bytes) {s' x' : Opd} (hcs : compO E s = some s') (hcx : compO E x = some x')
    (hx : aop C (.append k i.bytes s' x') e h = some (v, h')) (r : Rel S h B W) (he : EnvR S e a E.nt) (hg : GlobOK E.gl S.imm) : ExOK P o a S h' v B W := by
  simp only [aop, Option.bind_eq_some_iff] at hx
  obtain ⟨new, hnew, hx⟩ := hx
  obtain ⟨ws, hE, hvn, hon, hsn⟩ := els_ok (P := P) r (evO_V he hg hcx) hnew
  have hvn' : VL S (flat new) ws := hvn
  have hlw : ws.length = new.length * kz k := hE.1
  have hv := evO_V he hg hcs
  have hexec : ∀ (u : Value) (W' : World), (Builtin.append_ ts o.type #[a.eval s, a.eval x]).run P W = .ok u W' → (execOp a.eval o).run P W = .ok (.value u) W' := by
    intro u W' hu
    simp [execOp, hop, resolve, invoke, builtin, hu]
  have hbm : ∀ x : Nat, fitsB x i.bytes = true → x ≤ maxLen := fun x hx => by
    simp only [fitsB, decide_eq_true_eq] at hx
    have h1 := Nat.le_mul_of_pos_right x hb
    have h2 := Nat.le_mul_of_pos_right (x + x / 4 + 192) hb
    unfold maxLen
    omega
  -- a slice whose capacity is its length, or none at all: a new row
  have full : ∀ (els : List AV) (ao : Option Addr) (us : List Value), a.eval s = .slice ao els.length els.length → Held W S k ao els us → fitsB (els.length + new.length) i.bytes = true → (new.length = 0 → els = [] ∨ ∃ b q, ao = some ⟨b, q, none⟩ ∧ VE S k els b q) → ExOK P o a S (h ++ [.row k (els.length + new.length)]) (.slice (.tok h.length) k (els ++ new)) B W := by
    intro els ao us hev hh hfits hve
    have rr := r.newRow k (els.length + new.length)
    by_cases hm : new.length = 0
    · have hn0 : new = [] := List.eq_nil_of_length_eq_zero hm
      have hws : ws = [] := List.eq_nil_of_length_eq_zero (by rw [hlw, hm, Nat.zero_mul])
      have hrun := run_app_fit (P := P) (W := W) (ty := o.type) (cap := els.length) (ao := ao) (n := els.length) h0 h1 ht hux hni hi hs hE (by omega) (W' := W) (fun ad _ => by rw [hws]; rfl) (fun _ => rfl)
      rw [← hev] at hrun
      refine ⟨_, _, W, S, hexec _ _ hrun, .inl rfl, Ext.refl S, rr, ?_, Below.refl B W⟩
      rw [hn0, List.append_nil]
      simp only [V]
      exact ⟨ao, els.length, by rw [List.length_nil, Nat.add_zero], Nat.le_refl _, ⟨hbm _ (by rw [hm, Nat.add_zero] at hfits; exact hfits), .inl rfl⟩, hve hm⟩
    · have hget : (h ++ [AObj.row k (els.length + new.length)])[h.length]? = some (.row k (els.length + new.length)) := by simp
      obtain ⟨S', g1, g2, g3, g4⟩ := grow_ok (el := el) rr hget (r.new _ _ (Nat.le_refl _)) hone hzs rfl hh hvn' hon hsn hlw (grownCap W (els.length + new.length) els.length el) (grownCap_ge _ _ _ _) (grownCap_le_maxLen _ _ _ _ (hbm _ hfits))
      have hrun := run_app_grow (P := P) (W := W) (ty := o.type) (cap := els.length) (ao := ao) (n := els.length) h0 h1 ht hux hni hi hz hs hb hE (hh.first els.length) (by omega) hfits
      rw [← hev] at hrun
      exact ⟨_, _, _, S', hexec _ _ hrun, .inl rfl, g2, g1, g3, g4⟩
  have heldV : ∀ (els : List AV) (ao : Option Addr), (els = [] ∨ ∃ b q, ao = some ⟨b, q, none⟩ ∧ VE S k els b q) → ∃ us, Held W S k ao els us := by
    intro els ao hv
    rcases hv with rfl | ⟨b, q, rfl, hv⟩
    · exact ⟨[], by simp, by simp [flat, VL], by simp, by simp, .inl rfl⟩
    · obtain ⟨us, g1, g2, g3, g4, g5⟩ := VE_cells r hv
      exact ⟨us, g1, g2, g3, g5, .inr ⟨b, q, rfl, fun j u hj => (r.imm _ _ _ (g4 j u hj)).1⟩⟩
  unfold aappend at hx
  split at hx
  · -- a row of its own
    rename_i id k' els hsv
    split at hx
    · rename_i hkk
      subst hkk
      split at hx
      · rename_i k'' n hrow
        split at hx
        · rename_i hc
          obtain ⟨rfl, rfl, hfits⟩ := hc
          cases hx
          rw [hsv] at hv
          simp only [V] at hv
          obtain ⟨ao, cap, q1, q2, q3, q4⟩ := hv
          have hsame : new.length = 0 → ExOK P o a S (h.set id (.row k'' (els.length + new.length))) (.slice (.tok id) k'' (els ++ new)) B W := by
            intro hm
            have hn0 : new = [] := List.eq_nil_of_length_eq_zero hm
            have hws : ws = [] := List.eq_nil_of_length_eq_zero (by rw [hlw, hm, Nat.zero_mul])
            have hrun := run_app_fit (P := P) (W := W) (ty := o.type) (cap := cap) (ao := ao) (n := els.length) h0 h1 ht hux hni hi hs hE (by omega) (W' := W) (fun ad _ => by rw [hws]; rfl) (fun _ => rfl)
            rw [← q1] at hrun
            have hh : h.set id (.row k'' (els.length + new.length)) = h := by
              rw [hm, Nat.add_zero]
              apply List.ext_getElem?
              intro j
              by_cases hj : j = id
              · subst hj; rw [getElem?_set_eq' (List.getElem?_eq_some_iff.1 hrow).1, hrow]
              · rw [getElem?_set_ne' (fun hh => hj hh.symm)]
            refine ⟨_, _, W, S, hexec _ _ hrun, .inl rfl, Ext.refl S, by rw [hh]; exact r, ?_, Below.refl B W⟩
            rw [hn0, List.append_nil, List.length_nil, Nat.add_zero]
            simp only [V]
            exact ⟨ao, cap, rfl, q2, q3, q4⟩
          by_cases hm : new.length = 0
          · exact hsame hm
          by_cases hfit : els.length + new.length ≤ cap
          · obtain ⟨q30, q3⟩ := q3
            rcases q3 with hcl | ⟨b, N, t1, t2, t3, t4⟩
            · omega
            subst t3
            obtain ⟨qn, qobj⟩ := r.obj _ _ hrow
            obtain ⟨qB, c, e', fr, p1, p2, p3, p4⟩ := qobj b t1
            rw [t2] at p2
            cases p2
            have hle : (els.length + new.length) * kz k'' ≤ c.size := Nat.le_trans (Nat.mul_le_mul_right _ hfit) t4
            obtain ⟨S', g1, g2, g3, g4, g5, g6⟩ := r.rowIn hrow t1 p1 new.length (by omega) ws hlw hle hon
            have hws : els.length * kz k'' + ws.length ≤ c.size := by rw [hlw, ← Nat.add_mul]; exact hle
            have hst := run_storeCells_cells (P := P) b (els.length * kz k'') ws 0 W (fun j hj => by rw [Nat.add_zero, cell_of p1, Option.isSome_iff_exists]; exact ⟨_, Array.getElem?_eq_getElem (by omega)⟩) (fun j hj => by rw [Nat.add_zero]; exact (p4 _ (by omega) (by omega)).2) hon
            rw [Nat.add_zero] at hst
            have hrun := run_app_fit (P := P) (W := W) (ty := o.type) (cap := cap) (ao := some ⟨b, 0, none⟩) (n := els.length) h0 h1 ht hux hni hi hs hE hfit (W' := W.setCells b (els.length * kz k'') ws) (fun ad had => by cases had; rw [add_at, Nat.zero_add]; exact hst) (fun hh => by cases hh)
            rw [← q1] at hrun
            refine ⟨_, _, _, S', hexec _ _ hrun, .inl rfl, g2, g1, ?_, below_setCells qB ws _ W W (Below.refl B W)⟩
            simp only [V]
            refine ⟨_, cap, by rw [List.length_append], by rw [List.length_append]; exact hfit, ⟨q30, .inr ⟨b, c.size, by rw [List.length_append]; exact g3, g5, rfl, t4⟩⟩, .inr ⟨b, 0, rfl, ?_⟩⟩
            have hvnew : VE S' k'' new b (els.length * kz k'') := VE_of_flat hsn (VL.mono g2 _ hvn') g4
            refine VE.mk fun j y hy => ?_
            rw [List.getElem?_append] at hy
            split at hy
            · rcases q4 with rfl | ⟨b', o', hb', q4⟩
              · simp at hy
              · cases hb'
                exact (q4.get hy).mono g2
            · rename_i hlt
              have := hvnew.get hy
              rw [← Nat.add_mul] at this
              rw [show els.length + (j - els.length) = j by omega] at this
              rw [Nat.zero_add]
              exact this
          · obtain ⟨us, hheld⟩ := heldV els ao q4
            obtain ⟨r1, hnb⟩ := r.rowUp hrow k'' (els.length + new.length) (by omega)
            obtain ⟨S', g1, g2, g3, g4⟩ := grow_ok (el := el) r1 (getElem?_set_eq' (List.getElem?_eq_some_iff.1 hrow).1) hnb hone hzs rfl hheld hvn' hon hsn hlw (grownCap W (els.length + new.length) cap el) (grownCap_ge _ _ _ _) (grownCap_le_maxLen _ _ _ _ (hbm _ hfits))
            have hrun := run_app_grow (P := P) (W := W) (ty := o.type) (cap := cap) (ao := ao) (n := els.length) h0 h1 ht hux hni hi hz hs hb hE (hheld.first cap) (by omega) hfits
            rw [← q1] at hrun
            exact ⟨_, _, _, S', hexec _ _ hrun, .inl rfl, g2, g1, g3, g4⟩
        · cases hx
      · cases hx
    · cases hx
  · rename_i k' els hsv
    split at hx
    · rename_i hc
      obtain ⟨rfl, hfits⟩ := hc
      cases hx
      rw [hsv] at hv
      simp only [V, OwnV] at hv
      obtain ⟨ao, cap, q1, q2, rfl, q4⟩ := hv
      obtain ⟨us, hheld⟩ := heldV els ao q4
      exact full els ao us q1 hheld hfits fun _ => q4
    · cases hx
  · rename_i hsv
    split at hx
    · rename_i hfits
      cases hx
      rw [hsv] at hv
      simp only [V] at hv
      obtain ⟨us, hheld⟩ := heldV [] none (.inl rfl)
      have := full [] none us hv hheld (by simpa using hfits) fun _ => .inl rfl
      simpa using this
    · cases hx
  · rename_i id off k' len hsv
    split at hx
    · rename_i hc
      obtain ⟨rfl, hown, hpos, hfits⟩ := hc
      simp only [Option.map_eq_some_iff, Prod.mk.injEq] at hx
      obtain ⟨els, hels, rfl, rfl⟩ := hx
      rw [hsv] at hv
      simp only [V] at hv
      obtain ⟨b, N, cap, t1, t2, t3, t4, t5⟩ := hv
      obtain ⟨hlen, us, g1, g2, g3, g4, g5⟩ := msEls_cells r hels t1
      subst hlen
      have hcap : cap = els.length := by
        unfold msOwn at hown
        split at hown
        · rename_i cs hcs
          split at hown
          · rename_i hfull
            obtain ⟨_, b', c, e', p1, p2, p3, p4, p5, p6, p7, _⟩ := box_rel r hcs
            rw [t1] at p1
            cases p1
            rw [t2] at p6
            cases p6
            rw [p7, ← hfull.2] at t4
            have : cap * kz k' ≤ els.length * kz k' := by omega
            have := Nat.le_of_mul_le_mul_right this hkz
            omega
          · cases hown
        · cases hown
      subst hcap
      have := full els _ us t5 ⟨g1, g2, g3, g5, .inr ⟨b, off, rfl, g4⟩⟩ hfits fun hh => by omega
      exact this
    · cases hx
  · cases hx
end
end Go.Proofs.Ytpnkldjbiinnpaa.AM
