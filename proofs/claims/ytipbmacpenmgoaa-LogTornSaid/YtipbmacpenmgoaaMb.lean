import Derived.Test.YtipbmacpenmgoaaMa
import Derived.Deep.DeepAppendWide
import Derived.Laws.IdiomStrings
import Derived.ChangeMaps5
import Derived.Lib.SlBytesConst
import Derived.WideShapes
/- Each operation of the model does what the plain machine's does: append, copy, make, conversions. -/
namespace Go.Proofs.Ytipbmacpenmgoaa.AM
open Go Go.RowKit
set_option linter.unusedVariables false
set_option linter.unusedSimpArgs false
section
variable {P : Program} {E : Env0} {o : Oper} {C : Cl} {e : Env} {h h' : Heap} {v : AV} {S : St} {B : Nat} {W : World} {a : Act}
theorem madeCells_eq (z : Array Value) (n : Nat) : madeCells z n = (Array.range n).map (fun j => z[j % z.size]!) := rfl
theorem ex_makeSlice {t el : TypeId} {l c : Operand} (hop : o.op = .makeSlice t l c) (ht : P.underlying t = some (.slice el)) {k : Option Nat} (hkz : 0 < kz k) {z : Value} {i : TypeInfo} (hi : P.info? el = some i) (hz : i.zero = some z) (hzs : z.cells.size = kz k) (hs : i.size = kz k) (hone : z.cells.toList.all (·.oneCell') = true) {l' c' : Opd} (h1 : compO E l = some l') (h2 : compO E c = some c')
    (hx : aop C (.makeSlice k (z.cells.toList.map .sc) i.bytes l' c') e h = some (v, h')) (r : Rel S h B W) (he : EnvR S e a E.nt) (hg : GlobOK E.gl S.imm) : ExOK P o a S h' v B W := by
  simp only [aop] at hx
  split at hx
  · rename_i l0 c0 hl0 hc0
    have e1 := eval_sc (evO_V he hg h1) hl0
    have e2 := eval_sc (evO_V he hg h2) hc0
    split at hx
    · rename_i hcond
      obtain ⟨b1, b2, b3, b4⟩ := hcond
      have hrun := run_make (P := P) W t el i z ht hi hz .i64 .i64 l0 c0 b1 b2 (by rw [Int.mul_comm]; exact b3) b4
      rw [hs] at hrun
      have hcl : (madeCells z.cells (c0.toNat * kz k)).toList = (List.replicate c0.toNat z.cells.toList).flatten := by
        rw [madeCells_eq, ← hzs]; exact range_cells _ (by omega) _
      have honeL : ∀ u ∈ (madeCells z.cells (c0.toNat * kz k)).toList, u.oneCell' = true := by
        rw [hcl]
        intro u hu
        rw [List.mem_flatten] at hu
        obtain ⟨q, hq1, hq2⟩ := hu
        rw [List.eq_of_mem_replicate hq1] at hq2
        exact List.all_eq_true.1 hone u hq2
      have hsz : (madeCells z.cells (c0.toNat * kz k)).size = c0.toNat * kz k := by simp [madeCells_eq]
      have hex : ∀ u, (Instr.makeSlice t (a.eval l) (a.eval c)).run P W = .ok u (W.alloc (.cells (madeCells z.cells (c0.toNat * kz k)) el)) → (execOp a.eval o).run P W = .ok (.value u) (W.alloc (.cells (madeCells z.cells (c0.toNat * kz k)) el)) := by
        intro u hu
        simp [execOp, hop, hu]
      rw [e1, e2] at hex
      split at hx
      · rename_i hl
        cases hx
        subst hl
        have hget : (h ++ [AObj.row k 0])[h.length]? = some (.row k 0) := by simp
        obtain ⟨r2, ex⟩ := (r.newRow k 0).rowNew hget (r.new _ _ (Nat.le_refl _)) (madeCells z.cells (c0.toNat * kz k)) el (0, 0) (fun o u _ hu => honeL u (Array.mem_toList_iff.2 (Array.mem_of_getElem? hu))) (by omega) (fun o _ => by simp)
        refine ⟨_, _, _, _, hex _ hrun, .inl rfl, ex, r2, ?_, (Below.refl B W).alloc r.base _⟩
        simp only [V]
        refine ⟨_, c0.toNat, rfl, Nat.zero_le _, ⟨by unfold maxLen; omega, .inr ⟨W.heap.size, (madeCells z.cells (c0.toNat * kz k)).size, ?_, ?_, rfl, ?_⟩⟩, .inl trivial⟩
        · simp [addRow]
        · simp only [addRow, if_true]
        · rw [hsz]; exact Nat.le_refl _
      · split at hx
        · rename_i hl hlc
          cases hx
          subst hlc
          obtain ⟨r2, ex⟩ := r.newBox (List.replicate l0.toNat (z.cells.toList.map .sc)).flatten (madeCells z.cells (l0.toNat * kz k)) el (by
            rw [hcl]
            refine VL.flatten (by simp) fun j y w hy hw => ?_
            rw [List.getElem?_replicate] at hy hw
            split at hy
            · cases hy; rename_i hj; rw [if_pos hj] at hw; cases hw; exact VL_map_sc _
            · cases hy) honeL
          refine ⟨_, _, _, _, hex _ hrun, .inl rfl, ex, r2, ?_, (Below.refl B W).alloc r.base _⟩
          simp only [V]
          refine ⟨W.heap.size, (madeCells z.cells (l0.toNat * kz k)).size, l0.toNat, by simp [addBlk], by simp only [addBlk, if_true], Nat.le_refl _, by rw [hsz]; omega, rfl⟩
        · cases hx
    · cases hx
  · cases hx
/-! ### append -/
theorem run_app_fit {ts : Array TypeId} {t tx ty el : TypeId} {ux : TypeDesc} (h0 : ts[0]? = some t) (h1 : ts[1]? = some tx) (ht : P.underlying t = some (.slice el)) (hux : P.underlying tx = some ux) (hni : ∀ d, ux ≠ .int d) {i : TypeInfo} (hi : P.info? el = some i) {k : Option Nat} (hs : i.size = kz k) {ao : Option Addr} {n cap m : Nat} {p : Value} {us : List Value} (hE : Els P W k p m us) (hfit : n + m ≤ cap)
    {W' : World} (hst : ∀ ad, ao = some ad → (storeCells (ad.add (n * kz k)) us).run P W = .ok () W') (hno : ao = none → W' = W) :
    (Builtin.append_ ts ty #[.slice ao n cap, p]).run P W = .ok (.slice ao (n + m) cap) W' := by
  have hz : (match ux with | .int _ => true | _ => false) = false := by cases ux <;> first | rfl | exact absurd rfl (hni _)
  have hf := run_firsts hE m (Nat.le_refl m) (W' := W) (fun _ => rfl)
  rw [List.take_of_length_le (by rw [hE.1]; exact Nat.le_refl _)] at hf
  have hlen := run_lenOf hE W
  cases ao with
  | none =>
    rw [hno rfl]
    simp [Builtin.append_, h0, h1, run_underlying' ht, run_underlying' hux, run_sizeOf' hi, hs, hlen, hfit, hf, hz]
  | some a0 =>
    have hst' := hst a0 rfl
    simp [Builtin.append_, h0, h1, run_underlying' ht, run_underlying' hux, run_sizeOf' hi, hs, hlen, hfit, hf, hz, hst']
theorem run_app_grow {ts : Array TypeId} {t tx ty el : TypeId} {ux : TypeDesc} (h0 : ts[0]? = some t) (h1 : ts[1]? = some tx) (ht : P.underlying t = some (.slice el)) (hux : P.underlying tx = some ux) (hni : ∀ d, ux ≠ .int d) {i : TypeInfo} (hi : P.info? el = some i) {z : Value} (hz : i.zero = some z) {k : Option Nat} (hs : i.size = kz k) (hb : 0 < i.bytes) {ao : Option Addr} {n cap m : Nat} {p : Value} {us olds : List Value} (hE : Els P W k p m us)
    (hold : (Builtin.firstCells (kz k) n (.slice ao n cap)).run P W.drew = .ok olds.toArray W.drew) (hg : cap < n + m) (hbytes : fitsB (n + m) i.bytes = true) :
    (Builtin.append_ ts ty #[.slice ao n cap, p]).run P W = .ok (.slice (some ⟨W.heap.size, 0, none⟩) (n + m) (grownCap W (n + m) cap el)) (W.drew.alloc (.cells (olds.toArray ++ us.toArray ++ Builtin.zeroCells z.cells (grownCap W (n + m) cap el - (n + m))) el)) := by
  have hf := run_firsts hE m (Nat.le_refl m) (W' := W.drew) (fun _ => rfl)
  rw [List.take_of_length_le (by rw [hE.1]; exact Nat.le_refl _)] at hf
  have hlen := run_lenOf hE W
  have hn : ¬ (n + m ≤ cap) := by omega
  have hpick : Builtin.nextslicecap (n + m) cap * i.bytes ≤ 281474976710656 := by
    simp only [fitsB, decide_eq_true_eq] at hbytes
    rcases hbytes with hbytes | hbytes
    · exact growslice_fits hg hbytes
    · exact growslice_fits_wide hg hbytes
  have h48' : ¬ (281474976710656 < Builtin.nextslicecap (n + m) cap * i.bytes) := by omega
  have hb' : ¬ i.bytes = 0 := by omega
  have hzz := run_zero' (P := P) (t := el) (z := z) (by simp [zeroOf, hi, hz])
  simp only [Builtin.append_, h0, h1, List.getElem?_toArray, List.getElem?_cons_zero, List.getElem?_cons_succ, Sem.run_bind, run_underlying' ht, run_underlying' hux, run_sizeOf' hi, hs, Result.andThen_ok, Sem.run_pure]
  cases ux <;> first | exact absurd rfl (hni _) | (simp [hlen, hn, hf, hold, run_typeInfo hi, h48', hb', Question.forced, hzz, newRow, grownCap]; congr 2; apply Array.ext'; simp [List.append_assoc])
theorem zeroCells_one {z : Value} (hone : z.cells.toList.all (·.oneCell') = true) (n : Nat) : ∀ u ∈ (Builtin.zeroCells z.cells n).toList, u.oneCell' = true := by
  intro u hu
  simp only [Builtin.zeroCells, Array.toList_map, List.mem_map, Array.toList_range, List.mem_range] at hu
  obtain ⟨j, hj, rfl⟩ := hu
  have hpos : 0 < z.cells.size := by
    rcases Nat.eq_zero_or_pos z.cells.size with h0 | h0
    · rw [h0] at hj; omega
    · exact h0
  have hlt : j % z.cells.size < z.cells.size := Nat.mod_lt _ hpos
  rw [getElem!_pos z.cells _ hlt]
  exact List.all_eq_true.1 hone _ (Array.getElem_mem_toList hlt)
theorem flat_append (x y : List AV) : flat (x ++ y) = flat x ++ flat y := by simp [flat]
/-- what a slice holds, told of its cells -/
structure Held (W : World) (S : St) (k : Option Nat) (ao : Option Addr) (els : List AV) (us : List Value) : Prop where
  len : us.length = els.length * kz k
  vl : VL S (flat els) us
  one : ∀ u ∈ us, u.oneCell' = true
  sh : ∀ x ∈ els, shp k x
  at_ : els = [] ∨ ∃ b q, ao = some ⟨b, q, none⟩ ∧ ∀ j u, us[j]? = some u → W.cell? ⟨b, q + j, none⟩ = some u
theorem Held.first {k : Option Nat} {ao : Option Addr} {els : List AV} {us : List Value} (hh : Held W S k ao els us) (cap : Nat) : (Builtin.firstCells (kz k) els.length (.slice ao els.length cap)).run P W.drew = .ok us.toArray W.drew := by
  have hE : Els P W k (.slice ao els.length cap) els.length us := ⟨hh.len, .inl ⟨ao, cap, rfl, by
    rcases hh.at_ with h0 | h0
    · left; rw [h0]; rfl
    · exact .inr h0⟩⟩
  have := run_firsts hE els.length (Nat.le_refl _) (W' := W.drew) (fun _ => rfl)
  rwa [List.take_of_length_le (by rw [hh.len]; exact Nat.le_refl _)] at this
/-- an append that takes a new block -/
theorem grow_ok {h : Heap} (r : Rel S h B W) {i n : Nat} {k : Option Nat} (hrow : h[i]? = some (.row k n)) (hnb : S.blk i n = none) {els new : List AV} {us ws : List Value} {z : Value} {el : TypeId} (hone : z.cells.toList.all (·.oneCell') = true) (hzs : z.cells.size = kz k) (hn : n = els.length + new.length) {ao : Option Addr} (h1 : Held W S k ao els us) (hvn : VL S (flat new) ws) (hon : ∀ u ∈ ws, u.oneCell' = true) (hsn : ∀ x ∈ new, shp k x) (hlw : ws.length = new.length * kz k) (gc : Nat) (hgc : n ≤ gc) (hgm : gc ≤ maxLen) :
    ∃ S', Rel S' h B (W.drew.alloc (.cells (us.toArray ++ ws.toArray ++ Builtin.zeroCells z.cells (gc - n)) el)) ∧ Ext S S' ∧ V S' (.slice (.tok i) k (els ++ new)) (.slice (some ⟨W.heap.size, 0, none⟩) n gc) ∧ Below B W (W.drew.alloc (.cells (us.toArray ++ ws.toArray ++ Builtin.zeroCells z.cells (gc - n)) el)) := by
  have hbd : Below B W W.drew := (Below.refl B W).drew
  have rd : Rel S h B W.drew := ⟨r.imm, fun i x hx => by
    have := r.obj i x hx
    cases x with
    | box ex cs => exact this
    | row k n => exact this
    | map es => exact this, r.inj, r.new, r.lt, r.base, r.sb⟩
  have hsize : (us.toArray ++ ws.toArray ++ Builtin.zeroCells z.cells (gc - n)).size = gc * kz k := by
    simp only [Array.size_append, List.size_toArray, h1.len, hlw, Builtin.zeroCells, Array.size_map, Array.size_range, hzs]
    rw [← Nat.add_mul, ← Nat.add_mul]
    congr 1
    omega
  have honeA : ∀ u ∈ (us.toArray ++ ws.toArray ++ Builtin.zeroCells z.cells (gc - n)).toList, u.oneCell' = true := by
    intro u hu
    simp only [Array.toList_append, List.mem_append] at hu
    rcases hu with (hu | hu) | hu
    · exact h1.one u hu
    · exact hon u hu
    · exact zeroCells_one hone _ u hu
  obtain ⟨r2, ex⟩ := rd.rowNew hrow hnb _ el (0, 0) (fun o u _ hu => honeA u (Array.mem_toList_iff.2 (Array.mem_of_getElem? hu))) (by rw [hsize]; exact Nat.mul_le_mul_right _ hgc) (fun o _ => by simp)
  refine ⟨_, r2, ex, ?_, hbd.alloc r.base _⟩
  simp only [V]
  have hsz0 : W.drew.heap.size = W.heap.size := rfl
  refine ⟨_, gc, by rw [List.length_append, hn], by rw [List.length_append]; omega, ⟨hgm, .inr ⟨W.heap.size, gc * kz k, ?_, ?_, rfl, Nat.le_refl _⟩⟩, .inr ⟨W.heap.size, 0, rfl, ?_⟩⟩
  · simp only [addRow, hsz0]
    rw [if_pos ⟨trivial, by rw [List.length_append, hn]⟩]
  · simp only [addRow, hsz0, if_true, hsize]
  · refine VE_of_flat (us := us ++ ws) (fun x hx => ?_) (by rw [flat_append]; exact VL.mono ex _ (h1.vl.append hvn)) fun j u hj => ?_
    · rcases List.mem_append.1 hx with hx | hx
      · exact h1.sh x hx
      · exact hsn x hx
    · have hj0 := (List.getElem?_eq_some_iff.1 hj).1
      rw [List.length_append, h1.len, hlw, ← Nat.add_mul, ← hn] at hj0
      simp only [addRow, hsz0, Nat.zero_add]
      rw [if_pos ⟨trivial, hj0⟩]
      rw [Array.getElem?_append_left (by simp only [Array.size_append, List.size_toArray, h1.len, hlw]; rw [← Nat.add_mul, ← hn]; exact hj0)]
      simpa using hj
theorem ex_append {ts : Array TypeId} {s x : Operand} (hop : o.op = .call { callee := .builtin .append, args := #[s, x], argTypes := ts }) {t tx el : TypeId} {ux : TypeDesc} (h0 : ts[0]? = some t) (h1 : ts[1]? = some tx) (ht : P.underlying t = some (.slice el)) (hux : P.underlying tx = some ux) (hni : ∀ d, ux ≠ .int d) {k : Option Nat} (hkz : 0 < kz k) {i : TypeInfo} (hi : P.info? el = some i) {z : Value} (hz : i.zero = some z) (hs : i.size = kz k) (hzs : z.cells.size = kz k) (hone : z.cells.toList.all (·.oneCell') = true) (hb : 0 < i.bytes) {s' x' : Opd} (hcs : compO E s = some s') (hcx : compO E x = some x')
    (hx : aop C (.append k i.bytes s' x') e h = some (v, h')) (r : Rel S h B W) (he : EnvR S e a E.nt) (hg : GlobOK E.gl S.imm) : ExOK P o a S h' v B W := by
  simp only [aop, Option.bind_eq_some_iff] at hx
  obtain ⟨new, hnew, hx⟩ := hx
  obtain ⟨ws, hE, hvn, hon, hsn⟩ := els_ok (P := P) r (evO_V he hg hcx) hnew
  have hvn' : VL S (flat new) ws := hvn
  have hlw : ws.length = new.length * kz k := hE.1
  have hv := evO_V he hg hcs
  have hexec : ∀ (u : Value) (W' : World), (Builtin.append_ ts o.type #[a.eval s, a.eval x]).run P W = .ok u W' → (execOp a.eval o).run P W = .ok (.value u) W' := by
    intro u W' hu
    simp [execOp, hop, resolve, invoke, builtin, hu]
  have hbm : ∀ x : Nat, fitsB x i.bytes = true → x ≤ maxLen := fun x hx => by
    simp only [fitsB, decide_eq_true_eq] at hx
    have h1 := Nat.le_mul_of_pos_right x hb
    have h2 := Nat.le_mul_of_pos_right (x + x / 4 + 192) hb
    unfold maxLen
    omega
  -- a slice whose capacity is its length, or none at all: a new row
  have full : ∀ (els : List AV) (ao : Option Addr) (us : List Value), a.eval s = .slice ao els.length els.length → Held W S k ao els us → fitsB (els.length + new.length) i.bytes = true → (new.length = 0 → els = [] ∨ ∃ b q, ao = some ⟨b, q, none⟩ ∧ VE S k els b q) → ExOK P o a S (h ++ [.row k (els.length + new.length)]) (.slice (.tok h.length) k (els ++ new)) B W := by
    intro els ao us hev hh hfits hve
    have rr := r.newRow k (els.length + new.length)
    by_cases hm : new.length = 0
    · have hn0 : new = [] := List.eq_nil_of_length_eq_zero hm
      have hws : ws = [] := List.eq_nil_of_length_eq_zero (by rw [hlw, hm, Nat.zero_mul])
      have hrun := run_app_fit (P := P) (W := W) (ty := o.type) (cap := els.length) (ao := ao) (n := els.length) h0 h1 ht hux hni hi hs hE (by omega) (W' := W) (fun ad _ => by rw [hws]; rfl) (fun _ => rfl)
      rw [← hev] at hrun
      refine ⟨_, _, W, S, hexec _ _ hrun, .inl rfl, Ext.refl S, rr, ?_, Below.refl B W⟩
      rw [hn0, List.append_nil]
      simp only [V]
      exact ⟨ao, els.length, by rw [List.length_nil, Nat.add_zero], Nat.le_refl _, ⟨hbm _ (by rw [hm, Nat.add_zero] at hfits; exact hfits), .inl rfl⟩, hve hm⟩
    · have hget : (h ++ [AObj.row k (els.length + new.length)])[h.length]? = some (.row k (els.length + new.length)) := by simp
      obtain ⟨S', g1, g2, g3, g4⟩ := grow_ok (el := el) rr hget (r.new _ _ (Nat.le_refl _)) hone hzs rfl hh hvn' hon hsn hlw (grownCap W (els.length + new.length) els.length el) (grownCap_ge _ _ _ _) (grownCap_le_maxLen _ _ _ _ (hbm _ hfits))
      have hrun := run_app_grow (P := P) (W := W) (ty := o.type) (cap := els.length) (ao := ao) (n := els.length) h0 h1 ht hux hni hi hz hs hb hE (hh.first els.length) (by omega) hfits
      rw [← hev] at hrun
      exact ⟨_, _, _, S', hexec _ _ hrun, .inl rfl, g2, g1, g3, g4⟩
  have heldV : ∀ (els : List AV) (ao : Option Addr), (els = [] ∨ ∃ b q, ao = some ⟨b, q, none⟩ ∧ VE S k els b q) → ∃ us, Held W S k ao els us := by
    intro els ao hv
    rcases hv with rfl | ⟨b, q, rfl, hv⟩
    · exact ⟨[], by simp, by simp [flat, VL], by simp, by simp, .inl rfl⟩
    · obtain ⟨us, g1, g2, g3, g4, g5⟩ := VE_cells r hv
      exact ⟨us, g1, g2, g3, g5, .inr ⟨b, q, rfl, fun j u hj => (r.imm _ _ _ (g4 j u hj)).1⟩⟩
  unfold aappend at hx
  split at hx
  · -- a row of its own
    rename_i id k' els hsv
    split at hx
    · rename_i hkk
      subst hkk
      split at hx
      · rename_i k'' n hrow
        split at hx
        · rename_i hc
          obtain ⟨rfl, rfl, hfits⟩ := hc
          cases hx
          rw [hsv] at hv
          simp only [V] at hv
          obtain ⟨ao, cap, q1, q2, q3, q4⟩ := hv
          have hsame : new.length = 0 → ExOK P o a S (h.set id (.row k'' (els.length + new.length))) (.slice (.tok id) k'' (els ++ new)) B W := by
            intro hm
            have hn0 : new = [] := List.eq_nil_of_length_eq_zero hm
            have hws : ws = [] := List.eq_nil_of_length_eq_zero (by rw [hlw, hm, Nat.zero_mul])
            have hrun := run_app_fit (P := P) (W := W) (ty := o.type) (cap := cap) (ao := ao) (n := els.length) h0 h1 ht hux hni hi hs hE (by omega) (W' := W) (fun ad _ => by rw [hws]; rfl) (fun _ => rfl)
            rw [← q1] at hrun
            have hh : h.set id (.row k'' (els.length + new.length)) = h := by
              rw [hm, Nat.add_zero]
              apply List.ext_getElem?
              intro j
              by_cases hj : j = id
              · subst hj; rw [getElem?_set_eq' (List.getElem?_eq_some_iff.1 hrow).1, hrow]
              · rw [getElem?_set_ne' (fun hh => hj hh.symm)]
            refine ⟨_, _, W, S, hexec _ _ hrun, .inl rfl, Ext.refl S, by rw [hh]; exact r, ?_, Below.refl B W⟩
            rw [hn0, List.append_nil, List.length_nil, Nat.add_zero]
            simp only [V]
            exact ⟨ao, cap, rfl, q2, q3, q4⟩
          by_cases hm : new.length = 0
          · exact hsame hm
          by_cases hfit : els.length + new.length ≤ cap
          · obtain ⟨q30, q3⟩ := q3
            rcases q3 with hcl | ⟨b, N, t1, t2, t3, t4⟩
            · omega
            subst t3
            obtain ⟨qn, qobj⟩ := r.obj _ _ hrow
            obtain ⟨qB, c, e', fr, p1, p2, p3, p4⟩ := qobj b t1
            rw [t2] at p2
            cases p2
            have hle : (els.length + new.length) * kz k'' ≤ c.size := Nat.le_trans (Nat.mul_le_mul_right _ hfit) t4
            obtain ⟨S', g1, g2, g3, g4, g5, g6⟩ := r.rowIn hrow t1 p1 new.length (by omega) ws hlw hle hon
            have hws : els.length * kz k'' + ws.length ≤ c.size := by rw [hlw, ← Nat.add_mul]; exact hle
            have hst := run_storeCells_cells (P := P) b (els.length * kz k'') ws 0 W (fun j hj => by rw [Nat.add_zero, cell_of p1, Option.isSome_iff_exists]; exact ⟨_, Array.getElem?_eq_getElem (by omega)⟩) (fun j hj => by rw [Nat.add_zero]; exact (p4 _ (by omega) (by omega)).2) hon
            rw [Nat.add_zero] at hst
            have hrun := run_app_fit (P := P) (W := W) (ty := o.type) (cap := cap) (ao := some ⟨b, 0, none⟩) (n := els.length) h0 h1 ht hux hni hi hs hE hfit (W' := W.setCells b (els.length * kz k'') ws) (fun ad had => by cases had; rw [add_at, Nat.zero_add]; exact hst) (fun hh => by cases hh)
            rw [← q1] at hrun
            refine ⟨_, _, _, S', hexec _ _ hrun, .inl rfl, g2, g1, ?_, below_setCells qB ws _ W W (Below.refl B W)⟩
            simp only [V]
            refine ⟨_, cap, by rw [List.length_append], by rw [List.length_append]; exact hfit, ⟨q30, .inr ⟨b, c.size, by rw [List.length_append]; exact g3, g5, rfl, t4⟩⟩, .inr ⟨b, 0, rfl, ?_⟩⟩
            have hvnew : VE S' k'' new b (els.length * kz k'') := VE_of_flat hsn (VL.mono g2 _ hvn') g4
            refine VE.mk fun j y hy => ?_
            rw [List.getElem?_append] at hy
            split at hy
            · rcases q4 with rfl | ⟨b', o', hb', q4⟩
              · simp at hy
              · cases hb'
                exact (q4.get hy).mono g2
            · rename_i hlt
              have := hvnew.get hy
              rw [← Nat.add_mul] at this
              rw [show els.length + (j - els.length) = j by omega] at this
              rw [Nat.zero_add]
              exact this
          · obtain ⟨us, hheld⟩ := heldV els ao q4
            obtain ⟨r1, hnb⟩ := r.rowUp hrow k'' (els.length + new.length) (by omega)
            obtain ⟨S', g1, g2, g3, g4⟩ := grow_ok (el := el) r1 (getElem?_set_eq' (List.getElem?_eq_some_iff.1 hrow).1) hnb hone hzs rfl hheld hvn' hon hsn hlw (grownCap W (els.length + new.length) cap el) (grownCap_ge _ _ _ _) (grownCap_le_maxLen _ _ _ _ (hbm _ hfits))
            have hrun := run_app_grow (P := P) (W := W) (ty := o.type) (cap := cap) (ao := ao) (n := els.length) h0 h1 ht hux hni hi hz hs hb hE (hheld.first cap) (by omega) hfits
            rw [← q1] at hrun
            exact ⟨_, _, _, S', hexec _ _ hrun, .inl rfl, g2, g1, g3, g4⟩
        · cases hx
      · cases hx
    · cases hx
  · rename_i k' els hsv
    split at hx
    · rename_i hc
      obtain ⟨rfl, hfits⟩ := hc
      cases hx
      rw [hsv] at hv
      simp only [V, OwnV] at hv
      obtain ⟨ao, cap, q1, q2, rfl, q4⟩ := hv
      obtain ⟨us, hheld⟩ := heldV els ao q4
      exact full els ao us q1 hheld hfits fun _ => q4
    · cases hx
  · rename_i hsv
    split at hx
    · rename_i hfits
      cases hx
      rw [hsv] at hv
      simp only [V] at hv
      obtain ⟨us, hheld⟩ := heldV [] none (.inl rfl)
      have := full [] none us hv hheld (by simpa using hfits) fun _ => .inl rfl
      simpa using this
    · cases hx
  · rename_i id off k' len hsv
    split at hx
    · rename_i hc
      obtain ⟨rfl, hown, hpos, hfits⟩ := hc
      simp only [Option.map_eq_some_iff, Prod.mk.injEq] at hx
      obtain ⟨els, hels, rfl, rfl⟩ := hx
      rw [hsv] at hv
      simp only [V] at hv
      obtain ⟨b, N, cap, t1, t2, t3, t4, t5⟩ := hv
      obtain ⟨hlen, us, g1, g2, g3, g4, g5⟩ := msEls_cells r hels t1
      subst hlen
      have hcap : cap = els.length := by
        unfold msOwn at hown
        split at hown
        · rename_i cs hcs
          split at hown
          · rename_i hfull
            obtain ⟨_, b', c, e', p1, p2, p3, p4, p5, p6, p7, _⟩ := box_rel r hcs
            rw [t1] at p1
            cases p1
            rw [t2] at p6
            cases p6
            rw [p7.2 hfull.2.2, ← hfull.2.1] at t4
            have : cap * kz k' ≤ els.length * kz k' := by omega
            have := Nat.le_of_mul_le_mul_right this hkz
            omega
          · cases hown
        · cases hown
      subst hcap
      have := full els _ us t5 ⟨g1, g2, g3, g5, .inr ⟨b, off, rfl, g4⟩⟩ hfits fun hh => by omega
      exact this
    · cases hx
  · cases hx
/-! ### rows that are written too -/
/-- a block is let go -/
theorem Rel.kill {h : Heap} (r : Rel S h B W) {id : Nat} {ex : Bool} {cs : List AV} (hx : h[id]? = some (.box ex cs)) : Rel S (h.set id (.row none 1)) B W := by
  obtain ⟨b, c, e, q1, q2, q3, q4, q5, q6, q7, q8, q9⟩ := r.obj id _ hx
  have hlt := (List.getElem?_eq_some_iff.1 hx).1
  have get : ∀ j x, (h.set id (.row none 1))[j]? = some x → (j = id ∧ x = .row none 1) ∨ (j ≠ id ∧ h[j]? = some x) := fun j x hj => by
    by_cases hji : j = id
    · subst hji
      rw [getElem?_set_eq' hlt] at hj
      cases hj
      exact .inl ⟨rfl, rfl⟩
    · rw [getElem?_set_ne' (fun hh => hji hh.symm)] at hj
      exact .inr ⟨hji, hj⟩
  refine ⟨r.imm, ?_, ?_, ?_, r.lt, r.base, r.sb⟩
  · intro j x hj
    rcases get j x hj with ⟨rfl, rfl⟩ | ⟨_, hj⟩
    · exact ⟨fun v hv => q9 v (by omega), fun b' hb' => by rw [q9 1 (by omega)] at hb'; cases hb'⟩
    · exact r.obj j x hj
  · intro i j x y b' hi hj hci hcj
    rcases get i x hi with ⟨rfl, rfl⟩ | ⟨_, hi⟩
    · simp only [curB] at hci; rw [q9 1 (by omega)] at hci; cases hci
    · rcases get j y hj with ⟨rfl, rfl⟩ | ⟨_, hj⟩
      · simp only [curB] at hcj; rw [q9 1 (by omega)] at hcj; cases hcj
      · exact r.inj i j x y b' hi hj hci hcj
  · intro i v hi
    rw [List.length_set] at hi
    exact r.new i v hi
/-- a box's cells as they are from now on; it is let go -/
theorem Rel.letgo {h : Heap} (r : Rel S h B W) {id : Nat} {ex : Bool} {cs : List AV} (hx : h[id]? = some (.box ex cs)) {b : Nat} {c : Array Value} {e : TypeId × Nat × Nat} (q1 : S.blk id 0 = some b) (q2 : B ≤ b) (q3 : HC W b c e) (q5 : ∀ u ∈ c.toList, u.oneCell' = true) (q7 : ∀ o, S.imm b o = none) : Rel (addImm S b c) (h.set id (.row none 1)) B W ∧ Ext S (addImm S b c) := by
  have r1 := r.kill hx
  have hlt := (List.getElem?_eq_some_iff.1 hx).1
  obtain ⟨b0, c0, e0, p1, _, _, _, _, _, _, _, p9⟩ := r.obj id _ hx
  have hne : ∀ i x b', (h.set id (.row none 1))[i]? = some x → curB S i x = some b' → b' ≠ b := by
    intro i x b' hi hc hbb
    subst hbb
    by_cases hii : i = id
    · subst hii
      rw [getElem?_set_eq' hlt] at hi
      cases hi
      simp only [curB] at hc
      rw [p9 1 (by omega)] at hc
      cases hc
    · rw [getElem?_set_ne' (fun hh => hii hh.symm)] at hi
      exact hii (r.inj i id _ _ b' hi hx hc (by simp only [curB]; exact q1))
  have ex : Ext S (addImm S b c) := ⟨fun _ _ _ h => h, fun _ _ h => h, fun b' o u hi => by
    simp only [addImm]
    rw [if_neg (by rintro rfl; rw [q7] at hi; cases hi)]
    exact hi, rfl, fun b' o u hi => by
    simp only [addImm] at hi
    split at hi
    · rename_i hb; subst hb; right; rw [r.sb]; exact q2
    · exact .inl hi⟩
  refine ⟨⟨?_, ?_, ?_, r1.new, r1.lt, r1.base, r1.sb⟩, ex⟩
  · intro b' o u hi
    simp only [addImm] at hi
    split at hi
    · rename_i hb
      subst hb
      rw [cell_of q3.1]
      exact ⟨hi, q5 u (by rw [Array.mem_toList_iff]; exact Array.mem_of_getElem? hi)⟩
    · exact r1.imm b' o u hi
  · intro i x hi
    refine (r1.obj i x hi).mono ex (fun b' hc => ⟨rfl, fun o ho => ?_⟩) (fun v hv => hv)
    simp only [addImm]
    rw [if_neg (hne i x b' hi hc)]
    exact ho
  · intro i j x y b' hi hj hci hcj
    exact r1.inj i j x y b' hi hj (by cases x <;> exact hci) (by cases y <;> exact hcj)
/-- a block that is no one's gets a name -/
theorem Rel.name {h : Heap} (r : Rel S h B W) {b : Nat} {c : Array Value} {e : TypeId × Nat × Nat} (hB : B ≤ b) (hh : HC W b c e) (hsz : S.sz b = some c.size) (himm : ∀ o, S.imm b o = none) (hfree : ∀ i x, h[i]? = some x → curB S i x ≠ some b) {ex : Bool} {cs : List AV} (hv : VL S cs (c.toList.take cs.length)) (h1 : ∀ u ∈ c.toList, u.oneCell' = true) (hex : ex = true → c.size = cs.length) :
    Rel (addBlk S h.length 0 b c.size) (h ++ [.box ex cs]) B W ∧ Ext S (addBlk S h.length 0 b c.size) := by
  have hf : ∀ v, S.blk h.length v = none := fun v => r.new _ _ (Nat.le_refl _)
  have exx : Ext S (addBlk S h.length 0 b c.size) := ⟨fun j w b' hb => by
    simp only [addBlk]
    split
    · rename_i hh; obtain ⟨rfl, rfl⟩ := hh; rw [hf] at hb; cases hb
    · exact hb, fun b' m hb => by
    simp only [addBlk]
    split
    · rename_i hh; subst hh; rw [hsz] at hb; exact hb
    · exact hb, fun _ _ _ h => h, rfl, fun _ _ _ h => .inl h⟩
  have hcur : ∀ (i : Nat) (x : AObj) (b' : Nat), h[i]? = some x → curB (addBlk S h.length 0 b c.size) i x = some b' → curB S i x = some b' := by
    intro i x b' hx hc
    have hi : i ≠ h.length := by have := (List.getElem?_eq_some_iff.1 hx).1; omega
    cases x <;> simp only [curB, addBlk] at * <;> rwa [if_neg (fun hh => hi hh.1)] at hc
  refine ⟨⟨r.imm, ?_, ?_, ?_, ?_, r.base, r.sb⟩, exx⟩
  · intro i x hx
    rw [List.getElem?_append] at hx
    split at hx
    · refine (r.obj i x hx).mono exx (fun b' hc => ⟨rfl, fun o ho => ho⟩) (fun v hv => ?_)
      simp only [addBlk]
      rw [if_neg (by intro hh; omega)]
      exact hv
    · rename_i hlt'
      have hi : i = h.length := by have := (List.getElem?_eq_some_iff.1 hx).1; simp at this; omega
      subst hi
      simp at hx
      subst hx
      exact ⟨b, c, e, by simp [addBlk], hB, hh, VL.mono exx _ hv, h1, by simp [addBlk], himm, hex, fun v hv => by simp only [addBlk]; rw [if_neg (by omega)]; exact hf v⟩
  · intro i j x y b' hx hy hcx hcy
    rw [List.getElem?_append] at hx hy
    by_cases hi : i < h.length <;> by_cases hj : j < h.length <;> simp only [hi, hj, if_true, if_false] at hx hy
    · exact r.inj i j x y b' hx hy (hcur _ _ _ hx hcx) (hcur _ _ _ hy hcy)
    · have hj' : j = h.length := by have := (List.getElem?_eq_some_iff.1 hy).1; simp at this; omega
      subst hj'
      simp at hy
      subst hy
      have hb' : b = b' := by simpa [curB, addBlk] using hcy
      exact absurd (hcur _ _ _ hx hcx) (by rw [← hb']; exact hfree _ _ hx)
    · have hj' : i = h.length := by have := (List.getElem?_eq_some_iff.1 hx).1; simp at this; omega
      subst hj'
      simp at hx
      subst hx
      have hb' : b = b' := by simpa [curB, addBlk] using hcx
      exact absurd (hcur _ _ _ hy hcy) (by rw [← hb']; exact hfree _ _ hy)
    · have := (List.getElem?_eq_some_iff.1 hx).1
      have := (List.getElem?_eq_some_iff.1 hy).1
      simp at *
      omega
  · intro i v hi
    simp only [addBlk, List.length_append, List.length_cons, List.length_nil] at *
    rw [if_neg (by omega)]
    exact r.new i v (by omega)
  · intro b' n hs
    simp only [addBlk] at hs
    split at hs
    · rename_i hb; subst hb; exact (Array.getElem?_eq_some_iff.1 hh.1).1
    · exact r.lt b' n hs
theorem drew_rel {h : Heap} (r : Rel S h B W) : Rel S h B W.drew := ⟨r.imm, fun i x hx => by
    have := r.obj i x hx
    cases x with
    | box ex cs => exact this
    | row k n => exact this
    | map es => exact this, r.inj, r.new, r.lt, r.base, r.sb⟩
theorem setAt_out : ∀ {xs cs : List AV} {o : Nat}, cs.length ≤ o → setAt cs o xs = cs
  | [], cs, o, h => rfl
  | x :: xs, cs, o, h => by
    rw [setAt, setAt_out (by rw [List.length_set]; omega), List.set_eq_of_length_le h]
theorem els_flat_len {k : Option Nat} : ∀ {els : List AV}, (∀ x ∈ els, shp k x) → (flat els).length = els.length * kz k
  | [], _ => by simp [flat]
  | x :: els, h => by
    have ih := els_flat_len fun y hy => h y (List.mem_cons_of_mem _ hy)
    have hx := h x List.mem_cons_self
    simp only [flat, List.map_cons, List.flatten_cons, List.length_append, List.length_cons, Nat.add_mul] at ih ⊢
    rw [ih]
    have : (elCells x).length = kz k := by
      cases x <;> simp only [shp, elCells] at hx ⊢ <;> (try subst hx) <;> simp [kz]
    omega
theorem ex_appendV {ts : Array TypeId} {s x : Operand} (hop : o.op = .call { callee := .builtin .append, args := #[s, x], argTypes := ts }) {t tx el : TypeId} {ux : TypeDesc} (h0 : ts[0]? = some t) (h1 : ts[1]? = some tx) (ht : P.underlying t = some (.slice el)) (hux : P.underlying tx = some ux) (hni : ∀ d, ux ≠ .int d) {k : Option Nat} (hkz : 0 < kz k) {i : TypeInfo} (hi : P.info? el = some i) {z : Value} (hz : i.zero = some z) (hs : i.size = kz k) (hzs : z.cells.size = kz k) (hone : z.cells.toList.all (·.oneCell') = true) (hb : 0 < i.bytes) {s' x' : Opd} (hcs : compO E s = some s') (hcx : compO E x = some x')
    (hx : aop C (.appendV k i.bytes s' x') e h = some (v, h')) (r : Rel S h B W) (he : EnvR S e a E.nt) (hg : GlobOK E.gl S.imm) : ExOK P o a S h' v B W := by
  simp only [aop, Option.bind_eq_some_iff] at hx
  obtain ⟨new, hnew, hx⟩ := hx
  obtain ⟨ws, hE, hvn, hon, hsn⟩ := els_ok (P := P) r (evO_V he hg hcx) hnew
  have hvn' : VL S (flat new) ws := hvn
  have hlw : ws.length = new.length * kz k := hE.1
  have hlf := els_flat_len hsn
  have hv := evO_V he hg hcs
  have hexec : ∀ (u : Value) (W' : World), (Builtin.append_ ts o.type #[a.eval s, a.eval x]).run P W = .ok u W' → (execOp a.eval o).run P W = .ok (.value u) W' := by
    intro u W' hu
    simp [execOp, hop, resolve, invoke, builtin, hu]
  have hbd : Below B W W.drew := (Below.refl B W).drew
  unfold appV at hx
  split at hx
  · rename_i hsv
    split at hx
    · rename_i hc
      obtain ⟨hpos, hfits⟩ := hc
      cases hx
      rw [hsv] at hv
      have hev : a.eval s = .slice none 0 0 := by simpa only [V] using hv
      have hheld : Held W S k none [] [] := ⟨by simp, by simp [flat, VL], by simp, by simp, .inl rfl⟩
      have hrun := run_app_grow (P := P) (W := W) (ty := o.type) (cap := 0) (ao := none) (n := 0) h0 h1 ht hux hni hi hz hs hb hE (hheld.first 0) (by omega) (by simpa using hfits)
      rw [← hev] at hrun
      have hgc := grownCap_ge W (0 + new.length) 0 el
      generalize grownCap W (0 + new.length) 0 el = gc at *
      have hsize : (([] : List Value).toArray ++ ws.toArray ++ Builtin.zeroCells z.cells (gc - (0 + new.length))).size = gc * kz k := by
        simp only [Array.size_append, List.size_toArray, hlw, Builtin.zeroCells, Array.size_map, Array.size_range, hzs, List.length_nil, Nat.zero_add]
        rw [← Nat.add_mul]
        congr 1
        omega
      obtain ⟨r2, ex⟩ := (drew_rel r).newVec false (flat new) (([] : List Value).toArray ++ ws.toArray ++ Builtin.zeroCells z.cells (gc - (0 + new.length))) el (by
        rw [hlf, ← hlw]
        simp only [Array.toList_append, List.nil_append, List.append_assoc]
        rw [List.take_left]
        exact hvn') (fun u hu => by
        simp only [Array.toList_append, List.mem_append, List.nil_append] at hu
        rcases hu with hu | hu
        · exact hon u (by simpa using hu)
        · exact zeroCells_one hone _ u hu) (fun hh => by cases hh)
      refine ⟨_, _, _, _, hexec _ _ hrun, .inl rfl, ex, r2, ?_, hbd.alloc r.base _⟩
      simp only [V]
      refine ⟨W.heap.size, _, gc, by simp [addBlk], by simp only [addBlk]; exact if_pos rfl, by omega, ?_, by simp⟩
      rw [hsize]; omega
    · cases hx
  · rename_i k' els hsv
    split at hx
    · rename_i hc
      obtain ⟨rfl, hfits⟩ := hc
      rw [hsv] at hv
      simp only [V] at hv
      obtain ⟨ao, cap, q1, q2, q3, q4⟩ := hv
      simp only [OwnV] at q3
      subst q3
      obtain ⟨us, hh⟩ : ∃ us, Held W S k' ao els us := by
        rcases q4 with rfl | ⟨b, q, rfl, hv⟩
        · exact ⟨[], by simp, by simp [flat, VL], by simp, by simp, .inl rfl⟩
        · obtain ⟨us, g1, g2, g3, g4, g5⟩ := VE_cells r hv
          exact ⟨us, g1, g2, g3, g5, .inr ⟨b, q, rfl, fun j u hj => (r.imm _ _ _ (g4 j u hj)).1⟩⟩
      split at hx
      · rename_i hm
        cases hx
        have hws : ws = [] := List.eq_nil_of_length_eq_zero (by rw [hlw, hm, Nat.zero_mul])
        have hrun := run_app_fit (P := P) (W := W) (ty := o.type) (cap := els.length) (ao := ao) (n := els.length) h0 h1 ht hux hni hi hs hE (by omega) (W' := W) (fun ad _ => by rw [hws]; rfl) (fun _ => rfl)
        rw [← q1, hm, Nat.add_zero] at hrun
        refine ⟨_, _, W, S, hexec _ _ hrun, .inl rfl, Ext.refl S, r, ?_, Below.refl B W⟩
        simp only [V]
        exact ⟨ao, els.length, rfl, Nat.le_refl _, rfl, q4⟩
      · rename_i hm
        cases hx
        have hrun := run_app_grow (P := P) (W := W) (ty := o.type) (cap := els.length) (ao := ao) (n := els.length) h0 h1 ht hux hni hi hz hs hb hE (hh.first els.length) (by omega) hfits
        rw [← q1] at hrun
        have hgc := grownCap_ge W (els.length + new.length) els.length el
        generalize grownCap W (els.length + new.length) els.length el = gc at *
        have hsize : (us.toArray ++ ws.toArray ++ Builtin.zeroCells z.cells (gc - (els.length + new.length))).size = gc * kz k' := by
          simp only [Array.size_append, List.size_toArray, hh.len, hlw, Builtin.zeroCells, Array.size_map, Array.size_range, hzs]
          rw [← Nat.add_mul, ← Nat.add_mul]
          congr 1
          omega
        obtain ⟨r2, ex⟩ := (drew_rel r).newVec false (flat (els ++ new)) (us.toArray ++ ws.toArray ++ Builtin.zeroCells z.cells (gc - (els.length + new.length))) el (by
          have hl : (flat (els ++ new)).length = (us ++ ws).length := by rw [flat_append, List.length_append, List.length_append, hlf, hlw, els_flat_len hh.sh, hh.len]
          rw [hl]
          simp only [Array.toList_append]
          rw [List.take_left' rfl, flat_append]
          exact hh.vl.append hvn') (fun u hu => by
          simp only [Array.toList_append, List.mem_append] at hu
          rcases hu with (hu | hu) | hu
          · exact hh.one u hu
          · exact hon u hu
          · exact zeroCells_one hone _ u hu) (fun hh => by cases hh)
        refine ⟨_, _, _, _, hexec _ _ hrun, .inl rfl, ex, r2, ?_, hbd.alloc r.base _⟩
        simp only [V]
        refine ⟨W.heap.size, _, gc, by simp [addBlk], by simp only [addBlk]; exact if_pos rfl, by omega, ?_, by simp⟩
        rw [hsize]; omega
    · cases hx
  · rename_i id k' len hsv
    split at hx
    · rename_i hc
      obtain ⟨rfl, hpos, hfits⟩ := hc
      split at hx
      · rename_i exb cs hbox
        split at hx
        · rename_i hcl0
          have hpre : (if cs.length = len * kz k' then cs else cs.take (len * kz k')) = cs.take (len * kz k') := by
            split
            · rename_i hh; rw [← hh, List.take_length]
            · rfl
          rw [hpre] at hx
          cases hx
          have hcl : (cs.take (len * kz k')).length = len * kz k' := by rw [List.length_take]; omega
          rw [hsv] at hv
          simp only [V] at hv
          obtain ⟨b, n, cap, q1, q2, q3, q4, q5⟩ := hv
          obtain ⟨b', c, e', p1, p2, p3, p4, p5, p6, p7, p8, p9⟩ := r.obj id _ hbox
          rw [q1] at p1
          cases p1
          rw [q2] at p6
          cases p6
          replace p4 := p4.take (len * kz k')
          rw [List.take_take, Nat.min_eq_left hcl0] at p4
          have hlt := (List.getElem?_eq_some_iff.1 hbox).1
          have hcsz : len * kz k' ≤ c.size := by
            have := p4.length
            rw [hcl] at this
            simp at this
            omega
          by_cases hfit : len + new.length ≤ cap
          · -- in its place
            have hroom : len * kz k' + ws.length ≤ c.size := by
              rw [hlw, ← Nat.add_mul]
              have : (len + new.length) * kz k' ≤ cap * kz k' := Nat.mul_le_mul_right _ hfit
              omega
            have hst : (storeCells ((⟨b, 0, none⟩ : Addr).add (len * kz k')) ws).run P W = .ok () (W.setCells b (len * kz k') ws) := by
              have := run_storeCells_cells (P := P) b (len * kz k') ws 0 W (fun j hj => by rw [Nat.add_zero, cell_of p3.1, Option.isSome_iff_exists]; exact ⟨_, Array.getElem?_eq_getElem (by omega)⟩) (fun j hj => by rw [Nat.add_zero]; exact frozen_of p3 (by omega)) hon
              rw [add_at, Nat.zero_add]
              simpa using this
            have hrun := run_app_fit (P := P) (W := W) (ty := o.type) (cap := cap) (ao := some ⟨b, 0, none⟩) (n := len) h0 h1 ht hux hni hi hs hE hfit (W' := W.setCells b (len * kz k') ws) (fun ad had => by cases had; exact hst) (fun hh => by cases hh)
            rw [← q5] at hrun
            obtain ⟨c', w1, w2, w3, w4, w5⟩ := heap_setCells_at ws (len * kz k') W c p3.1 (by omega)
            have w1' := p3.upd w1 w2
            have r1 := Rel.setCells q1 (flat new) ws (len * kz k') cs h W r hbox hvn' hon
            have hbox1 : (h.set id (.box exb (setAt cs (len * kz k') (flat new))))[id]? = some (.box exb (setAt cs (len * kz k') (flat new))) := getElem?_set_eq' hlt
            have r2 := r1.kill hbox1
            rw [List.set_set] at r2
            have htk : c'.toList.take (len * kz k' + ws.length) = c.toList.take (len * kz k') ++ ws := by
              apply List.ext_getElem?
              intro j
              rw [List.getElem?_take]
              by_cases h1 : j < len * kz k'
              · rw [if_pos (by omega), List.getElem?_append_left (by simp; omega), List.getElem?_take, if_pos h1]
                have := w3 j h1
                simpa using this
              · rw [List.getElem?_append_right (by simp; omega)]
                simp only [List.length_take, Array.length_toList, Nat.min_eq_left hcsz]
                by_cases h2 : j < len * kz k' + ws.length
                · rw [if_pos h2]
                  have hlt2 : j - len * kz k' < ws.length := by omega
                  have := w5 (j - len * kz k') ws[j - len * kz k'] (List.getElem?_eq_getElem hlt2)
                  rw [show len * kz k' + (j - len * kz k') = j by omega] at this
                  rw [List.getElem?_eq_getElem hlt2, ← this]
                  simp
                · rw [if_neg h2, List.getElem?_eq_none (by omega)]
            have hone' : ∀ u ∈ c'.toList, u.oneCell' = true := by
              obtain ⟨b'', c'', e'', z1, z2, z3, z4, z5, _⟩ := r1.obj id _ hbox1
              rw [q1] at z1
              cases z1
              have z3' := z3.1
              rw [w1] at z3'
              simp only [Option.some.injEq, Obj.cells.injEq] at z3'
              obtain ⟨rfl, _⟩ := z3'
              exact z5
            have hnm := r2.name (b := b) (c := c') (e := e') p2 w1' (by rw [w2]; exact q2) p7 (fun j x hj hc => by
              by_cases hji : j = id
              · subst hji
                rw [getElem?_set_eq' hlt] at hj
                cases hj
                simp only [curB] at hc
                rw [p9 1 (by omega)] at hc
                cases hc
              · rw [getElem?_set_ne' (fun hh => hji hh.symm)] at hj
                exact hji (r.inj j id _ _ b hj hbox hc (by simp only [curB]; exact q1))) (ex := false) (cs := cs.take (len * kz k') ++ flat new) (by
              rw [List.length_append, hcl, hlf, ← hlw, htk]
              exact p4.append hvn') hone' (fun hh => by cases hh)
            rw [List.length_set] at hnm
            obtain ⟨r3, ex⟩ := hnm
            refine ⟨_, _, _, _, hexec _ _ hrun, .inl rfl, ex, r3, ?_, below_setCells p2 ws _ W W (Below.refl B W)⟩
            simp only [V]
            exact ⟨b, c'.size, cap, by simp [addBlk], by simp [addBlk], hfit, by rw [w2]; exact q4, rfl⟩
          · -- elsewhere
            have hgc := grownCap_ge W (len + new.length) cap el
            have hold : (Builtin.firstCells (kz k') len (.slice (some ⟨b, 0, none⟩) len cap)).run P W.drew = .ok (c.toList.take (len * kz k')).toArray W.drew := by
              have hE0 : Els P W k' (.slice (some ⟨b, 0, none⟩) len cap) len (c.toList.take (len * kz k')) := ⟨by simp; omega, .inl ⟨_, _, rfl, .inr ⟨b, 0, rfl, fun j u hj => by
                rw [List.getElem?_take] at hj
                split at hj
                · rw [Nat.zero_add, cell_of p3.1]; simpa using hj
                · cases hj⟩⟩⟩
              have := run_firsts hE0 len (Nat.le_refl _) (W' := W.drew) (fun _ => rfl)
              rwa [List.take_of_length_le (by simp; omega)] at this
            have hrun := run_app_grow (P := P) (W := W) (ty := o.type) (cap := cap) (ao := some ⟨b, 0, none⟩) (n := len) h0 h1 ht hux hni hi hz hs hb hE hold (by omega) hfits
            rw [← q5] at hrun
            have hol : (c.toList.take (len * kz k')).length = len * kz k' := by simp; omega
            have hsize : ((c.toList.take (len * kz k')).toArray ++ ws.toArray ++ Builtin.zeroCells z.cells (grownCap W (len + new.length) cap el - (len + new.length))).size = grownCap W (len + new.length) cap el * kz k' := by
              simp only [Array.size_append, List.size_toArray, hol, hlw, Builtin.zeroCells, Array.size_map, Array.size_range, hzs]
              rw [← Nat.add_mul, ← Nat.add_mul]
              congr 1
              omega
            have r1 := (drew_rel r).kill hbox
            obtain ⟨r2, ex⟩ := r1.newVec false (cs.take (len * kz k') ++ flat new) ((c.toList.take (len * kz k')).toArray ++ ws.toArray ++ Builtin.zeroCells z.cells (grownCap W (len + new.length) cap el - (len + new.length))) el (by
              simp only [Array.toList_append]
              rw [List.length_append, hcl, hlf, ← hlw, List.take_left' (by simp; omega)]
              exact p4.append hvn') (fun u hu => by
              simp only [Array.toList_append, List.mem_append] at hu
              rcases hu with (hu | hu) | hu
              · exact p5 u (List.mem_of_mem_take hu)
              · exact hon u hu
              · exact zeroCells_one hone _ u hu) (fun hh => by cases hh)
            rw [List.length_set] at r2 ex
            refine ⟨_, _, _, _, hexec _ _ hrun, .inl rfl, ex, r2, ?_, hbd.alloc r.base _⟩
            simp only [V]
            refine ⟨W.heap.size, _, grownCap W (len + new.length) cap el, by simp [addBlk], by simp only [addBlk]; exact if_pos rfl, hgc, ?_, rfl⟩
            rw [hsize]; omega
        · cases hx
      · cases hx
    · cases hx
  · cases hx
end
end Go.Proofs.Ytipbmacpenmgoaa.AM

/- Each operation of the model does what the plain machine's does: all of them. -/
namespace Go.Proofs.Ytipbmacpenmgoaa.AM
open Go Go.RowKit
set_option linter.unusedVariables false
set_option linter.unusedSimpArgs false
theorem byteEls_eq : ∀ {els : List AV} {l : List Int}, byteEls els = some l → els = l.map fun n => .int .u8 n
  | [], l, h => by simp only [byteEls] at h; cases h; rfl
  | x :: r, l, h => by
    unfold byteEls at h
    split at h
    · rename_i heq; cases heq
    · rename_i n r' heq
      cases heq
      simp only [Option.map_eq_some_iff] at h
      obtain ⟨l', h1, rfl⟩ := h
      rw [byteEls_eq h1]
      rfl
    · cases h
theorem flat_ints : ∀ (l : List Int), flat (l.map fun n => AV.int .u8 n) = l.map fun n => AV.int .u8 n
  | [] => rfl
  | n :: l => by
    have := flat_ints l
    simp only [flat, List.map_cons, List.flatten_cons, elCells] at *
    rw [this]
    rfl
theorem VL_ints {S : St} : ∀ {l : List Int} {us : List Value}, VL S (l.map fun n => AV.int .u8 n) us → us = l.map (Value.int .u8)
  | [], us, h => by simpa [VL] using h
  | n :: l, us, h => by
    simp only [List.map_cons, VL] at h
    obtain ⟨u, ws, rfl, h1, h2⟩ := h
    simp only [V] at h1
    rw [h1, VL_ints h2]
    rfl
theorem flat_take {k : Option Nat} : ∀ {els : List AV} (n : Nat), (∀ x ∈ els, shp k x) → flat (els.take n) = (flat els).take (n * kz k)
  | [], n, _ => by simp [flat]
  | x :: els, 0, _ => by simp [flat]
  | x :: els, n + 1, hs => by
    have ih := flat_take (els := els) n fun y hy => hs y (by simp [hy])
    have hx := shp_len (hs x (by simp))
    simp only [flat, List.take_succ_cons, List.map_cons, List.flatten_cons] at *
    rw [ih, Nat.succ_mul, Nat.add_comm (n * kz k), ← hx, List.take_length_add_append]
section
variable {P : Program} {E : Env0} {o : Oper} {C : Cl} {e : Env} {h h' : Heap} {v : AV} {S : St} {B : Nat} {W : World} {a : Act}
theorem ex_convStr {s d el : TypeId} {x : Operand} (hop : o.op = .convert s d x) (hs : P.underlying s = some (.slice el)) (hel : P.underlying el = some (.int .u8)) (hd : P.underlying d = some .string) {x' : Opd} (h1 : compO E x = some x') (hx : aop C (.convStr x') e h = some (v, h')) (r : Rel S h B W) (he : EnvR S e a E.nt) (hg : GlobOK E.gl S.imm) : h' = h ∧ ExR P o a S v W := by
  have hv := evO_V he hg h1
  simp only [aop, Option.map_eq_some_iff, Prod.mk.injEq] at hx
  obtain ⟨w, hx, rfl, rfl⟩ := hx
  unfold convS at hx
  split at hx
  · cases hx
  · rename_i v' hns
    simp only [Option.bind_eq_some_iff, Option.map_eq_some_iff] at hx
    obtain ⟨l, ⟨els, hels, hl⟩, rfl⟩ := hx
    obtain ⟨us, hE, hvl, _, _⟩ := els_ok (P := P) r hv hels
    have hus : us = l.map (Value.int .u8) := by
      have := byteEls_eq hl
      subst this
      exact VL_ints (by rw [← flat_ints]; exact hvl)
    obtain ⟨hlen, ⟨ao, cap, hev, hat⟩ | ⟨q, hev, _⟩⟩ := hE
    · refine ⟨rfl, .string (strOfNums l), ?_, V_sc _⟩
      have hl' : els.length = l.length := by rw [byteEls_eq hl, List.length_map]
      suffices hc : (convert s d (a.eval x)).run P W = .ok (.string (strOfNums l)) W by simp [execOp, hop, hc]
      rw [hev]
      rcases hat with h0 | ⟨b, o', rfl, hat⟩
      · have : l = [] := List.eq_nil_of_length_eq_zero (by omega)
        subst this
        rw [run_convert_bytes_string W s d el ao _ cap hs hel hd, h0]
        cases ao with
        | none => rfl
        | some ad => simp [Conv.bytesToString, loadCells, loadCellsFrom]; rfl
      · refine run_convert_bytes_arg W s el hs hel b o' els.length cap l hl'.symm (fun i hi => ?_) d hd
        have hi' : i < l.length := by omega
        refine hat i _ ?_
        rw [hus, List.getElem?_map, List.getElem?_eq_getElem hi']
        simp [List.getD, List.getElem?_eq_getElem hi']
    · exfalso
      -- a string is no slice
      cases hev' : evO e x' <;> rw [hev'] at hv hels <;> simp only [V] at hv
      case sc w =>
        rw [hev] at hv
        subst hv
        exact hns q hev'
      case slice own k els' =>
        obtain ⟨ao, cap, q1, _⟩ := hv
        rw [hev] at q1; cases q1
      case ms id off k len =>
        obtain ⟨b, N, cap, _, _, _, _, q1⟩ := hv
        rw [hev] at q1; cases q1
      all_goals simp [elemsOf] at hels
theorem ex_convBytes {s d el : TypeId} {x : Operand} (hop : o.op = .convert s d x) (hs : P.underlying s = some .string) (hd : P.underlying d = some (.slice el)) (hel : P.underlying el = some (.int .u8)) {x' : Opd} (h1 : compO E x = some x') (hx : aop C (.convBytes x') e h = some (v, h')) (r : Rel S h B W) (he : EnvR S e a E.nt) (hg : GlobOK E.gl S.imm) : ExOK P o a S h' v B W := by
  simp only [aop] at hx
  split at hx
  · rename_i q hp
    split at hx
    · cases hx
      have e1 := eval_sc (evO_V he hg h1) hp
      have hrun := run_bytes_of_string (P := P) W s d el q hs hd hel
      have rr := r.newRow none q.size
      have hget : (h ++ [AObj.row none q.size])[h.length]? = some (.row none q.size) := by simp
      have rd : Rel S (h ++ [AObj.row none q.size]) B W.drew := ⟨rr.imm, fun i x hx => by
        have := rr.obj i x hx
        cases x with
        | box ex cs => exact this
        | row k n => exact this
        | map es => exact this, rr.inj, rr.new, rr.lt, rr.base, rr.sb⟩
      have hgc := grownCap_ge W q.size 0 el
      have hgm : grownCap W q.size 0 el ≤ maxLen := grownCap_le_maxLen _ _ _ _ (by unfold maxLen; omega)
      generalize grownCap W q.size 0 el = gc at *
      have hbr : bytesRow q gc = (q.data.map fun b => Value.int .u8 b.toNat) ++ Array.replicate (gc - q.size) (.int .u8 0) := rfl
      have hsz : (bytesRow q gc).size = gc := by
        rw [hbr]
        simp only [Array.size_append, Array.size_map, Array.size_replicate]
        show q.size + _ = _
        omega
      have hone : ∀ u ∈ (bytesRow q gc).toList, u.oneCell' = true := by
        rw [hbr]
        intro u hu
        simp only [Array.toList_append, Array.toList_map, Array.toList_replicate, List.mem_append, List.mem_map, List.mem_replicate] at hu
        rcases hu with ⟨b, _, rfl⟩ | ⟨_, rfl⟩ <;> rfl
      obtain ⟨r2, ex⟩ := rd.rowNew hget (r.new _ _ (Nat.le_refl _)) (bytesRow q gc) el ((bytesRow q gc).size, (bytesRow q gc).size + 1) (fun o u _ hu => hone u (Array.mem_toList_iff.2 (Array.mem_of_getElem? hu))) (by rw [hsz]; simpa [kz] using hgc) (fun o ho => by simp; omega)
      refine ⟨_, .slice (some ⟨W.heap.size, 0, none⟩) q.size gc, _, _, by simp only [execOp, hop, e1, Sem.run_bind, hrun, Result.andThen_ok, Sem.run_pure], .inl rfl, ex, r2, ?_, ((Below.refl B W).drew).alloc r.base _⟩
      have hsl : (strEls q).length = q.size := by simp [strEls]
      have hsz0 : W.drew.heap.size = W.heap.size := rfl
      simp only [V]
      refine ⟨_, gc, by rw [hsl], by rw [hsl]; exact hgc, ⟨hgm, .inr ⟨W.heap.size, gc, ?_, ?_, rfl, by simp [kz]⟩⟩, .inr ⟨W.heap.size, 0, rfl, ?_⟩⟩
      · simp only [addRow, hsz0, hsl]; rw [if_pos ⟨trivial, trivial⟩]
      · simp only [addRow, hsz0, if_true, hsz]
      · have hfl : flat (strEls q) = strEls q := (flat_single _ (by
          intro x hx c
          simp only [strEls, List.mem_map] at hx
          obtain ⟨b, _, rfl⟩ := hx
          exact fun hh => by cases hh)).1
        refine VE_of_flat (us := q.data.toList.map fun b => .int .u8 b.toNat) (fun x hx => ?_) (by rw [hfl]; exact VL.map _ _ _ fun b _ => V_sc _) fun j u hj => ?_
        · simp only [strEls, List.mem_map] at hx
          obtain ⟨b, _, rfl⟩ := hx
          rfl
        · have hj0 := (List.getElem?_eq_some_iff.1 hj).1
          have hj0' : j < q.size := by simpa using hj0
          simp only [addRow, hsz0, Nat.zero_add, kz, Option.getD_none, Nat.mul_one]
          rw [if_pos ⟨trivial, hj0'⟩, hbr, Array.getElem?_append_left (by simpa using hj0')]
          simpa using hj
    · cases hx
  · cases hx
theorem ex_convBytesV {s d el : TypeId} {x : Operand} (hop : o.op = .convert s d x) (hs : P.underlying s = some .string) (hd : P.underlying d = some (.slice el)) (hel : P.underlying el = some (.int .u8)) {x' : Opd} (h1 : compO E x = some x') (hx : aop C (.convBytesV x') e h = some (v, h')) (r : Rel S h B W) (he : EnvR S e a E.nt) (hg : GlobOK E.gl S.imm) : ExOK P o a S h' v B W := by
  simp only [aop] at hx
  split at hx
  · rename_i q hp
    split at hx
    · rename_i hcq
      cases hx
      have e1 := eval_sc (evO_V he hg h1) hp
      have hrun := run_bytes_of_string (P := P) W s d el q hs hd hel
      have hgc := grownCap_ge W q.size 0 el
      generalize grownCap W q.size 0 el = gc at *
      have hbr : bytesRow q gc = (q.data.map fun b => Value.int .u8 b.toNat) ++ Array.replicate (gc - q.size) (.int .u8 0) := rfl
      have hsz : (bytesRow q gc).size = gc := by
        rw [hbr]
        simp only [Array.size_append, Array.size_map, Array.size_replicate]
        show q.size + _ = _
        omega
      have hone : ∀ u ∈ (bytesRow q gc).toList, u.oneCell' = true := by
        rw [hbr]
        intro u hu
        simp only [Array.toList_append, Array.toList_map, Array.toList_replicate, List.mem_append, List.mem_map, List.mem_replicate] at hu
        rcases hu with ⟨b, _, rfl⟩ | ⟨_, rfl⟩ <;> rfl
      have hsl : (strEls q).length = (q.data.toList.map fun b => Value.int .u8 b.toNat).length := by simp [strEls]
      obtain ⟨r2, ex⟩ := (drew_rel r).newVecF false (strEls q) (bytesRow q gc) el (by
        rw [hbr, hsl]
        simp only [Array.toList_append, Array.toList_map]
        rw [List.take_left]
        exact VL.map _ _ _ fun b _ => V_sc _) hone (fun hh => by cases hh) ((bytesRow q gc).size, (bytesRow q gc).size + 1) (fun o ho hh => by simp only at hh; omega)
      refine ⟨_, .slice (some ⟨W.heap.size, 0, none⟩) q.size gc, _, _, by simp only [execOp, hop, e1, Sem.run_bind, hrun, Result.andThen_ok, Sem.run_pure], .inl rfl, ex, r2, ?_, ((Below.refl B W).drew).alloc r.base _⟩
      simp only [V]
      refine ⟨W.heap.size, _, gc, by simp [addBlk], by simp only [addBlk]; exact if_pos rfl, by omega, ?_, by simp⟩
      rw [hsz]; simp [kz]
    · cases hx
  · cases hx
theorem ex_convBytesI {s d el : TypeId} {x : Operand} (hop : o.op = .convert s d x) (hs : P.underlying s = some .string) (hd : P.underlying d = some (.slice el)) (hel : P.underlying el = some (.int .u8)) {x' : Opd} (h1 : compO E x = some x') (hx : aop C (.convBytesI x') e h = some (v, h')) (r : Rel S h B W) (he : EnvR S e a E.nt) (hg : GlobOK E.gl S.imm) : ExOK P o a S h' v B W := by
  simp only [aop] at hx
  split at hx
  · rename_i q hp
    split at hx
    · cases hx
      have e1 := eval_sc (evO_V he hg h1) hp
      have hrun := run_bytes_of_string (P := P) W s d el q hs hd hel
      have rd : Rel S h B W.drew := ⟨r.imm, fun i x hx => by
        have := r.obj i x hx
        cases x with
        | box ex cs => exact this
        | row k n => exact this
        | map es => exact this, r.inj, r.new, r.lt, r.base, r.sb⟩
      have hgc := grownCap_ge W q.size 0 el
      generalize grownCap W q.size 0 el = gc at *
      have hbr : bytesRow q gc = (q.data.map fun b => Value.int .u8 b.toNat) ++ Array.replicate (gc - q.size) (.int .u8 0) := rfl
      have hone : ∀ u ∈ (bytesRow q gc).toList, u.oneCell' = true := by
        rw [hbr]
        intro u hu
        simp only [Array.toList_append, Array.toList_map, Array.toList_replicate, List.mem_append, List.mem_map, List.mem_replicate] at hu
        rcases hu with ⟨b, _, rfl⟩ | ⟨_, rfl⟩ <;> rfl
      obtain ⟨r2, ex⟩ := rd.newImm (bytesRow q gc) el ((bytesRow q gc).size, (bytesRow q gc).size + 1) hone
      refine ⟨_, .slice (some ⟨W.heap.size, 0, none⟩) q.size gc, _, _, by simp only [execOp, hop, e1, Sem.run_bind, hrun, Result.andThen_ok, Sem.run_pure], .inl rfl, ex, r2, ?_, ((Below.refl B W).drew).alloc r.base _⟩
      have hsl : (strEls q).length = q.size := by simp [strEls]
      have hsz0 : W.drew.heap.size = W.heap.size := rfl
      simp only [V]
      refine ⟨_, gc, by rw [hsl], by rw [hsl]; exact hgc, by simp only [OwnV], .inr ⟨W.heap.size, 0, rfl, ?_⟩⟩
      have hfl : flat (strEls q) = strEls q := (flat_single _ (by
        intro x hx c
        simp only [strEls, List.mem_map] at hx
        obtain ⟨b, _, rfl⟩ := hx
        exact fun hh => by cases hh)).1
      refine VE_of_flat (us := q.data.toList.map fun b => .int .u8 b.toNat) (fun x hx => ?_) (by rw [hfl]; exact VL.map _ _ _ fun b _ => V_sc _) fun j u hj => ?_
      · simp only [strEls, List.mem_map] at hx
        obtain ⟨b, _, rfl⟩ := hx
        rfl
      · have hj0 := (List.getElem?_eq_some_iff.1 hj).1
        have hj0' : j < q.size := by simpa using hj0
        simp only [addImm, hsz0, if_true, Nat.zero_add]
        rw [hbr, Array.getElem?_append_left (by simpa using hj0')]
        simpa using hj
    · cases hx
  · cases hx
theorem ex_copy {ts : Array TypeId} {d s : Operand} (hop : o.op = .call { callee := .builtin .copy, args := #[d, s], argTypes := ts }) {t el : TypeId} (h0 : ts[0]? = some t) (ht : P.underlying t = some (.slice el)) {k : Option Nat} {i : TypeInfo} (hi : P.info? el = some i) (hs : i.size = kz k) {d' s' : Opd} (hcd : compO E d = some d') (hcs : compO E s = some s')
    (hx : aop C (.copy k d' s') e h = some (v, h')) (r : Rel S h B W) (he : EnvR S e a E.nt) (hg : GlobOK E.gl S.imm) : ExOK P o a S h' v B W := by
  simp only [aop, Option.bind_eq_some_iff] at hx
  obtain ⟨new, hnew, hx⟩ := hx
  obtain ⟨ws, hE, hvn, hon, hsn⟩ := els_ok (P := P) r (evO_V he hg hcs) hnew
  have hv := evO_V he hg hcd
  split at hx
  · rename_i id off k' len hdv
    split at hx
    · rename_i hkk
      subst hkk
      simp only [Option.map_eq_some_iff, Prod.mk.injEq] at hx
      obtain ⟨h2, hst, rfl, rfl⟩ := hx
      rw [hdv] at hv
      simp only [V] at hv
      obtain ⟨b, N, cap, q1, q2, q3, q4, q5⟩ := hv
      simp only [storeB, Option.bind_eq_some_iff] at hst
      obtain ⟨cs, hbx, hst⟩ := hst
      split at hst
      · rename_i hle
        cases hst
        have hb0 := (box_rel r hbx).1
        have hfm : (new.take len).flatMap elCells = flat (new.take len) := by rw [flat, List.flatMap_def]
        have hvt : VL S ((new.take len).flatMap elCells) (ws.take (len * kz k')) := by
          rw [hfm, flat_take len hsn]
          exact VL.take hvn _
        obtain ⟨s1, s2, s3⟩ := run_store_box (P := P) hb0 q1 r hvt (fun u hu => hon u (List.mem_of_mem_take hu)) hle
        have hf := run_firsts hE (min new.length len) (Nat.min_le_left _ _) (W' := W) (fun _ => rfl)
        have htake : ws.take (min new.length len * kz k') = ws.take (len * kz k') := by
          rcases Nat.le_total new.length len with hc | hc
          · rw [Nat.min_eq_left hc, List.take_of_length_le (by rw [hE.1]; exact Nat.le_refl _), List.take_of_length_le (by rw [hE.1]; exact Nat.mul_le_mul_right _ hc)]
          · rw [Nat.min_eq_right hc]
        rw [htake] at hf
        refine ⟨_, .int .i64 (min new.length len : Nat), _, S, ?_, .inl rfl, Ext.refl S, s2, V_sc _, s3⟩
        have hlen := run_lenOf hE W
        simp only [execOp, hop, resolve, invoke, builtin, Builtin.copy_, List.getElem?_toArray, List.map_toArray, List.map_cons, List.map_nil, List.getElem?_cons_zero, List.getElem?_cons_succ, h0, Sem.run_bind, run_underlying' ht, Result.andThen_ok, q5, hlen, run_sizeOf' hi, hs, Sem.run_pure, goInt]
        rw [show Nat.min new.length len = min new.length len from rfl, hf]
        simp only [Result.andThen_ok, s1]
      · cases hst
    · cases hx
  · cases hx
end
end Go.Proofs.Ytipbmacpenmgoaa.AM

/- Maps: what the model's operations on them do, in the plain machine's words. -/
namespace Go.Proofs.Ytipbmacpenmgoaa.AM
open Go Go.RowKit
set_option linter.unusedVariables false
set_option linter.unusedSimpArgs false
def FoundR (S : St) : Option (Nat × AV) → Option (Nat × Value) → Prop
  | none, none => True
  | some (i, v), some (j, u) => i = j ∧ V S v u
  | _, _ => False
def lkOf : TypeDesc → Option LK
  | .int _ => some .int
  | .string => some .str
  | .bool => some .bool
  | _ => none
theorem bytes_beq0 (a b : ByteArray) : (a == b) = (a.data == b.data) := by cases a; cases b; rfl
theorem bytes_beq (a b : ByteArray) : (a == b) = (a.toList == b.toList) := by
  rw [bytes_beq0, ByteArray.toList_eq, ByteArray.toList_eq]
  by_cases h : a.data = b.data
  · simp [h]
  · have h1 : (a.data == b.data) = false := beq_eq_false_iff_ne.2 h
    have h2 : (a.data.toList == b.data.toList) = false := beq_eq_false_iff_ne.2 fun hh => h (Array.toList_inj.1 hh)
    rw [h1, h2]
section
variable {P : Program} {S : St} {h : Heap} {B : Nat} {W : World}
theorem same_now {d : TypeDesc} {l : LK} (hd : lkOf d = some l) {w u : Value} {x : AV} {r : Bool} (hx : V S x u) (he : keyEq [l] (.sc w) x = some r) : Instr.sameNow d w u = some r := by
  cases x <;> simp only [keyEq] at he
  case sc b =>
    simp only [V] at hx
    subst hx
    match d, hd with
    | .int k0, hd =>
      cases hd
      cases w <;> cases u <;> simp only [eqAV, reduceCtorEq] at he
      split at he
      · rename_i hk
        subst hk
        simp only [Option.map_some, Bool.and_true, Option.some.injEq] at he
        simp [Instr.sameNow, he]
      · cases he
    | .string, hd =>
      cases hd
      cases w <;> cases u <;> simp only [eqAV, reduceCtorEq] at he
      simp only [Option.map_some, Bool.and_true, Option.some.injEq] at he
      simp [Instr.sameNow, bytes_beq, he]
    | .bool, hd =>
      cases hd
      cases w <;> cases u <;> simp only [eqAV, reduceCtorEq] at he
      simp only [Option.map_some, Bool.and_true, Option.some.injEq] at he
      simp [Instr.sameNow, he]
  all_goals cases he
theorem findM_now {d : TypeDesc} {l : LK} (hd : lkOf d = some l) {w : Value} : ∀ {es : List (AV × AV)} {ms : List MapEntry} {i : Nat} {r : Option (Nat × AV)}, EntR S es ms → findM [l] (.sc w) es i = some r → ∃ r', Instr.findNow d w ms i = some r' ∧ FoundR S r r'
  | [], [], i, r, _, hr => by
    simp only [findM] at hr
    cases hr
    exact ⟨none, rfl, trivial⟩
  | p :: es, m :: ms, i, r, he, hr => by
    simp only [findM] at hr
    split at hr
    · rename_i hk
      cases hr
      exact ⟨some (i, m.val), by simp only [Instr.findNow, same_now hd he.1 hk], rfl, he.2.1⟩
    · rename_i hk
      obtain ⟨r', h1, h2⟩ := findM_now hd he.2.2 hr
      exact ⟨r', by simp only [Instr.findNow, same_now hd he.1 hk]; exact h1, h2⟩
    · cases hr
  | [], _ :: _, _, _, he, _ => he.elim
  | _ :: _, [], _, _, he, _ => he.elim
/-- structs as keys -/
theorem findM_ask {kt : TypeId} {fs : Array Field} {ks : List LK} (ht : P.underlying kt = some (.struct fs)) (hl : leaves P 12 kt = some ks) {a : List AV} {kv : Value} (hk : V S (.agg a) kv) : ∀ {es : List (AV × AV)} {ms : List MapEntry} {i : Nat} {r : Option (Nat × AV)}, EntR S es ms → findM ks (.agg a) es i = some r → ∃ r', (Instr.findAsking kt kv ms i).run P W = .ok r' W ∧ FoundR S r r'
  | [], [], i, r, _, hr => by
    simp only [findM] at hr
    cases hr
    exact ⟨none, by simp [Instr.findAsking], trivial⟩
  | p :: es, m :: ms, i, r, he, hr => by
    simp only [findM] at hr
    have ask : ∀ b, keyEq ks (.agg a) p.1 = some b → (Op.equal kt kv m.key).run P W = .ok b W := by
      intro b hb
      have h1 := he.1
      cases hp : p.1 <;> rw [hp] at hb h1 <;> simp only [keyEq] at hb
      case agg c =>
        have hk' := hk
        simp only [V] at hk' h1
        obtain ⟨xs, rfl, g1⟩ := hk'
        obtain ⟨ys, q, g2⟩ := h1
        have key := eqT_of (P := P) 9988 12 kt ks hl W xs.toList ys.toList b (eqAV_V hb g1 g2)
        simp only [mkV, ht] at key
        rw [show xs.toList.toArray = xs by simp, show ys.toList.toArray = ys by simp] at key
        rw [q]
        exact key
      all_goals cases hb
    split at hr
    · rename_i hq
      cases hr
      exact ⟨some (i, m.val), by simp [Instr.findAsking, ask _ hq], rfl, he.2.1⟩
    · rename_i hq
      obtain ⟨r', h1, h2⟩ := findM_ask ht hl hk he.2.2 hr
      exact ⟨r', by simp [Instr.findAsking, ask _ hq, h1], h2⟩
    · cases hr
  | [], _ :: _, _, _, he, _ => he.elim
  | _ :: _, [], _, _, he, _ => he.elim
/-! ### entries that change -/
theorem EntR.len : ∀ {es : List (AV × AV)} {ms : List MapEntry}, EntR S es ms → es.length = ms.length
  | [], [], _ => rfl
  | _ :: es, _ :: ms, h => by simp [EntR.len h.2.2]
  | [], _ :: _, h => h.elim
  | _ :: _, [], h => h.elim
theorem EntR.push : ∀ {es : List (AV × AV)} {ms : List MapEntry}, EntR S es ms → ∀ {p : AV × AV} {m : MapEntry}, V S p.1 m.key → V S p.2 m.val → EntR S (es ++ [p]) (ms ++ [m])
  | [], [], _, p, m, h1, h2 => ⟨h1, h2, trivial⟩
  | _ :: es, _ :: ms, h, p, m, h1, h2 => ⟨h.1, h.2.1, EntR.push h.2.2 h1 h2⟩
  | [], _ :: _, h, _, _, _, _ => h.elim
  | _ :: _, [], h, _, _, _, _ => h.elim
theorem EntR.put : ∀ {es : List (AV × AV)} {ms : List MapEntry}, EntR S es ms → ∀ {i : Nat} {p : AV × AV} {m : MapEntry}, V S p.1 m.key → V S p.2 m.val → EntR S (es.set i p) (ms.set i m)
  | [], [], _, _, _, _, _, _ => trivial
  | _ :: es, _ :: ms, h, 0, p, m, h1, h2 => ⟨h1, h2, h.2.2⟩
  | _ :: es, _ :: ms, h, i + 1, p, m, h1, h2 => ⟨h.1, h.2.1, EntR.put h.2.2 h1 h2⟩
  | [], _ :: _, h, _, _, _, _, _ => h.elim
  | _ :: _, [], h, _, _, _, _, _ => h.elim
theorem EntR.erase : ∀ {es : List (AV × AV)} {ms : List MapEntry}, EntR S es ms → ∀ {i : Nat}, EntR S (es.eraseIdx i) (ms.eraseIdx i)
  | [], [], _, _ => trivial
  | _ :: es, _ :: ms, h, 0 => h.2.2
  | _ :: es, _ :: ms, h, i + 1 => ⟨h.1, h.2.1, EntR.erase h.2.2⟩
  | [], _ :: _, h, _ => h.elim
  | _ :: _, [], h, _ => h.elim
theorem map_rel {id : Nat} {it : Option AV} {c : Nat} {bs : List Nat} {es : List (AV × AV)} (r : Rel S h B W) (hx : h[id]? = some (.map it c bs es)) {b : Nat} (q1 : S.blk id 0 = some b) : B ≤ b ∧ (∃ o, W.heap[b]? = some o ∧ MapR S it c bs es o) ∧ S.sz b = some 0 ∧ (∀ o, S.imm b o = none) ∧ ∀ v, 0 < v → S.blk id v = none := by
  obtain ⟨b0, ob, p1, p2, p3, p4, p5, p6, p7⟩ := r.obj id _ hx
  rw [q1] at p1
  cases p1
  exact ⟨p2, ⟨ob, p3, p4⟩, p5, p6, p7⟩
theorem map_at {id c : Nat} {bs : List Nat} {es : List (AV × AV)} (hm : mapAt h id = some (c, bs, es)) : h[id]? = some (.map none c bs es) := by
  unfold mapAt at hm
  split at hm
  · rename_i hh
    cases hm
    exact hh
  · cases hm
theorem setB_same {b : Nat} {o o' : Obj} (hw : W.heap[b]? = some o) : (ChangeMaps.setBlock W b o').heap[b]? = some o' := by
  have := (Array.getElem?_eq_some_iff.1 hw).1
  simp [ChangeMaps.setBlock, this]
theorem setB_other {b k : Nat} {o' : Obj} (hk : k ≠ b) : (ChangeMaps.setBlock W b o').heap[k]? = W.heap[k]? := by
  simp [ChangeMaps.setBlock, Array.getElem?_setIfInBounds, Ne.symm hk]
theorem setB_below {B b : Nat} {o' : Obj} (hb : B ≤ b) : Below B W (ChangeMaps.setBlock W b o') := by
  refine ⟨rfl, rfl, rfl, by simp [ChangeMaps.setBlock], fun k hk => setB_other (by omega)⟩
theorem Rel.setMap {id : Nat} {it it' : Option AV} {c c' : Nat} {bs bs' : List Nat} {es es' : List (AV × AV)} (r : Rel S h B W) (hx : h[id]? = some (.map it c bs es)) {b : Nat} (hb : S.blk id 0 = some b) {o o' : Obj} (hw : W.heap[b]? = some o) (he : MapR S it' c' bs' es' o') :
    Rel S (h.set id (.map it' c' bs' es')) B (ChangeMaps.setBlock W b o') := by
  obtain ⟨q2, _, q5, q7, q9⟩ := map_rel r hx hb
  have hlt := (List.getElem?_eq_some_iff.1 hx).1
  have hoth : ∀ k, k ≠ b → (ChangeMaps.setBlock W b o').heap[k]? = W.heap[k]? := fun k hk => setB_other hk
  have hsz : (ChangeMaps.setBlock W b o').heap.size = W.heap.size := by simp [ChangeMaps.setBlock]
  refine ⟨?_, ?_, ?_, ?_, ?_, ?_, r.sb⟩
  · intro b' o' u' hi
    have hne : b' ≠ b := by rintro rfl; rw [q7] at hi; cases hi
    have := r.imm b' o' u' hi
    rw [World.cell?_of_block (w := W) (a := ⟨b', o', none⟩) (hoth b' hne)]
    exact this
  · intro i y hy
    by_cases hi : i = id
    · subst hi
      rw [getElem?_set_eq' hlt] at hy
      cases hy
      exact ⟨b, o', hb, q2, setB_same hw, he, q5, q7, q9⟩
    · rw [getElem?_set_ne' (fun hh => hi hh.symm)] at hy
      refine (r.obj i y hy).mono (Ext.refl S) (fun b' hc => ⟨hoth b' ?_, fun o ho => ho⟩) (fun v hv => hv)
      rintro rfl
      exact hi (r.inj i id y _ b' hy hx hc hb)
  · intro i j x y b' hi hj hci hcj
    have get : ∀ k z, (h.set id (.map it' c' bs' es'))[k]? = some z → curB S k z = some b' → ∃ z', h[k]? = some z' ∧ curB S k z' = some b' := by
      intro k z hk hc
      by_cases hki : k = id
      · subst hki
        rw [getElem?_set_eq' hlt] at hk
        cases hk
        exact ⟨_, hx, hc⟩
      · rw [getElem?_set_ne' (fun hh => hki hh.symm)] at hk
        exact ⟨z, hk, hc⟩
    obtain ⟨x', hx', cx⟩ := get i x hi hci
    obtain ⟨y', hy', cy⟩ := get j y hj hcj
    exact r.inj i j x' y' b' hx' hy' cx cy
  · intro i v hi
    rw [List.length_set] at hi
    exact r.new i v hi
  · intro b' n hs
    rw [hsz]
    exact r.lt b' n hs
  · rw [hsz]
    exact r.base
theorem Rel.newMap (r : Rel S h B W) {it : Option AV} {c : Nat} {bs : List Nat} {es : List (AV × AV)} {o : Obj} (ho : MapR S it c bs es o) : Rel (addBlk S h.length 0 W.heap.size 0) (h ++ [.map it c bs es]) B (W.alloc o) ∧ Ext S (addBlk S h.length 0 W.heap.size 0) := by
  have hf : ∀ v, S.blk h.length v = none := fun v => r.new _ _ (Nat.le_refl _)
  have hsz := szNew r (Nat.le_refl W.heap.size)
  have ex := addBlk_ext r h.length 0 0 (hf 0) hsz
  have hcur : ∀ (i : Nat) (x : AObj) (b : Nat), h[i]? = some x → curB (addBlk S h.length 0 W.heap.size 0) i x = some b → curB S i x = some b := by
    intro i x b hx hc
    have hi : i ≠ h.length := by have := (List.getElem?_eq_some_iff.1 hx).1; omega
    cases x <;> simp only [curB, addBlk] at * <;> rwa [if_neg (fun hh => hi hh.1)] at hc
  refine ⟨⟨?_, ?_, ?_, ?_, ?_, ?_, r.sb⟩, ex⟩
  · intro b o u hi
    have := r.imm b o u hi
    rw [World.cell?_alloc_lt _ _ _ (by exact immLt r hi)]
    exact this
  · intro i x hx
    rw [List.getElem?_append] at hx
    split at hx
    · refine (r.obj i x hx).mono ex (fun b hc => ⟨heap_alloc_old _ _ (curLt r hx hc).1, fun o ho => ho⟩) (fun v hv => ?_)
      simp only [addBlk]
      rw [if_neg (by intro hh; omega)]
      exact hv
    · rename_i hlt
      have hi : i = h.length := by have := (List.getElem?_eq_some_iff.1 hx).1; simp at this; omega
      subst hi
      simp at hx
      subst hx
      exact ⟨W.heap.size, o, by simp [addBlk], r.base, heap_alloc_new' _ _, ho.mono ex, by simp [addBlk], fun o => immNew r (Nat.le_refl _), fun v hv => by simp only [addBlk]; rw [if_neg (by omega)]; exact hf v⟩
  · intro i j x y b hx hy hcx hcy
    rw [List.getElem?_append] at hx hy
    by_cases hi : i < h.length <;> by_cases hj : j < h.length <;> simp only [hi, hj, if_true, if_false] at hx hy
    · exact r.inj i j x y b hx hy (hcur _ _ _ hx hcx) (hcur _ _ _ hy hcy)
    · have := (curLt r hx (hcur _ _ _ hx hcx)).1
      have hj' : j = h.length := by have := (List.getElem?_eq_some_iff.1 hy).1; simp at this; omega
      subst hj'
      simp at hy
      subst hy
      simp [curB, addBlk] at hcy
      omega
    · have := (curLt r hy (hcur _ _ _ hy hcy)).1
      have hj' : i = h.length := by have := (List.getElem?_eq_some_iff.1 hx).1; simp at this; omega
      subst hj'
      simp at hx
      subst hx
      simp [curB, addBlk] at hcx
      omega
    · have := (List.getElem?_eq_some_iff.1 hx).1
      have := (List.getElem?_eq_some_iff.1 hy).1
      simp at *
      omega
  · intro i v hi
    simp only [addBlk, List.length_append, List.length_cons, List.length_nil] at *
    rw [if_neg (by omega)]
    exact r.new i v (by omega)
  · intro b n hs
    simp only [addBlk] at hs
    split at hs
    · rename_i hb; subst hb; simp
    · have := r.lt b n hs; simp; omega
  · have := r.base; simp; omega
/-! ### what the model's operations give -/
theorem findKey_ok {kt : TypeId} {d : TypeDesc} {ks : List LK} {k : AV} {kv : Value} {es : List (AV × AV)} {ms : List MapEntry} {r : Option (Nat × AV)} (ht : P.underlying kt = some d) (hk : V S k kv) (he : EntR S es ms) (hr : findM ks k es 0 = some r)
    (hc : (∃ l w, lkOf d = some l ∧ ks = [l] ∧ k = .sc w) ∨ (∃ fs a, d = .struct fs ∧ leaves P 12 kt = some ks ∧ k = .agg a)) : ∃ r', (Instr.findKey kt kv ms).run P W = .ok r' W ∧ FoundR S r r' := by
  rcases hc with ⟨l, w, h1, rfl, rfl⟩ | ⟨fs, a, rfl, hl, rfl⟩
  · obtain ⟨r', g1, g2⟩ := findM_now h1 he hr
    simp only [V] at hk
    subst hk
    exact ⟨r', by simp [Instr.findKey, run_underlying' ht, g1], g2⟩
  · obtain ⟨r', g1, g2⟩ := findM_ask (W := W) ht hl hk he hr
    cases ms with
    | nil =>
      cases es with
      | nil =>
        simp only [findM] at hr
        cases hr
        exact ⟨none, by simp [Instr.findKey, run_underlying' ht, Instr.findNow], trivial⟩
      | cons _ _ => exact he.elim
    | cons m ms =>
      refine ⟨r', ?_, g2⟩
      have hn : Instr.findNow (.struct fs) kv (m :: ms) 0 = none := by
        simp only [Instr.findNow, Instr.sameNow]
      simp [Instr.findKey, run_underlying' ht, hn, g1]
/-! ### a key may be one -/
theorem checkItems_mk {d D : Nat} {em : Bool} {e : TypeId} {l : List LK} {i : TypeInfo} (hi : P.info? e = some i) (hl : leaves P d e = some l) (hc : P.cellsOf e = l.length) (IH : ∀ (w : World) (x : List Value), x.length = l.length → (Instr.checkKey em D e (mkV P e x)).run P w = .ok () w) (xs : Array Value) : ∀ (is : List Nat) (N : Nat) (w : World), (∀ j ∈ is, j < N) → xs.size = N * l.length →
    (forIn (m := Sem) is PUnit.unit (fun i _ => do
      Instr.checkKey em D e (← part e xs (i * (← sizeOf e)))
      pure (.yield PUnit.unit))).run P w = .ok PUnit.unit w
  | [], N, w, _, _ => by simp
  | j :: is, N, w, hj, hN => by
    have h1 := hj j (by simp)
    have hlen : ((xs.toList.drop (j * l.length)).take l.length).length = l.length := by
      have hxl : xs.toList.length = N * l.length := by rw [Array.length_toList]; exact hN
      rw [List.length_take, List.length_drop, hxl]
      have : (j + 1) * l.length ≤ N * l.length := Nat.mul_le_mul_right _ (by omega)
      rw [Nat.add_mul] at this
      omega
    have p1 := run_part_mk hl hc w xs (j * l.length) hlen
    have p2 := IH w _ hlen
    have ih := checkItems_mk hi hl hc IH xs is N w (fun k hk => hj k (by simp [hk])) hN
    simp only [List.forIn_cons, Sem.run_bind, run_sizeOf w hi, hc, Result.andThen_ok, p1, p2, Sem.run_pure]
    exact ih
theorem checkFields_mk {d D : Nat} {em : Bool} (IH : ∀ t l, leaves P d t = some l → ∀ (w : World) (x : List Value), x.length = l.length → (Instr.checkKey em D t (mkV P t x)).run P w = .ok () w) (xs : Array Value) : ∀ (fs : List Field) (off : Nat) (ks : List LK) (w : World), leavesF P (leaves P d) off fs = some ks → ((xs.toList.drop off).take ks.length).length = ks.length →
    (forIn (m := Sem) fs PUnit.unit (fun f _ => do
      if f.name ≠ "_" then Instr.checkKey em D f.type (← part f.type xs f.offset)
      pure (.yield PUnit.unit))).run P w = .ok PUnit.unit w
  | [], off, ks, w, hk, h => by simp
  | f :: fs, off, ks, w, hk, h => by
    simp only [leavesF] at hk
    split at hk
    · rename_i hf
      obtain ⟨l, hl, hk⟩ := Option.bind_eq_some_iff.1 hk
      split at hk
      · rename_i hc
        obtain ⟨k2, hk2, rfl⟩ := Option.map_eq_some_iff.1 hk
        rw [List.length_append] at h
        obtain ⟨hx1, hx2⟩ := take_len h
        have p1 := run_part_mk hl hc w xs off hx1
        have p2 := IH _ _ hl w _ hx1
        have p4 := checkFields_mk IH xs fs (off + l.length) k2 w hk2 hx2
        simp only [List.forIn_cons, Sem.run_bind, hf.1, hf.2, ne_eq, not_false_eq_true, if_true, Result.andThen_ok, p1, p2, Sem.run_pure]
        exact p4
      · cases hk
    · cases hk
theorem checkKey_ok (em : Bool) : ∀ (d : Nat) (t : TypeId) (l : List LK), leaves P d t = some l → ∀ (D : Nat) (w : World) (x : List Value), x.length = l.length → (Instr.checkKey em (D + d) t (mkV P t x)).run P w = .ok () w
  | 0, t, l, h => by simp [leaves] at h
  | d + 1, t, l, h => by
    intro D w x hx
    unfold leaves at h
    cases hu : P.underlying t with
    | none => simp [hu] at h
    | some k =>
      cases k <;> simp only [hu] at h
      case bool => simp [show D + (d + 1) = (D + d) + 1 from rfl, Instr.checkKey, run_underlying hu]
      case int q => simp [show D + (d + 1) = (D + d) + 1 from rfl, Instr.checkKey, run_underlying hu]
      case string => simp [show D + (d + 1) = (D + d) + 1 from rfl, Instr.checkKey, run_underlying hu]
      case array n e =>
        obtain ⟨l', hl', h⟩ := Option.bind_eq_some_iff.1 h
        split at h
        · rename_i hc
          cases h
          obtain ⟨i, hi⟩ := Option.isSome_iff_exists.1 hc.2
          have hfl : (List.replicate n l').flatten.length = n * l'.length := by simp
          rw [hfl] at hx
          have key := checkItems_mk hi hl' hc.1 (checkKey_ok em d e l' hl' D) x.toArray (List.range' 0 n) n w (fun j hj => by have := List.mem_range'.1 hj; omega) (by simpa using hx)
          simp only [mkV, hu]
          rw [show D + (d + 1) = (D + d) + 1 from rfl, Instr.checkKey]
          simp only [Sem.run_bind, run_underlying hu, Result.andThen_ok]
          simp only [Std.Legacy.Range.forIn_eq_forIn_range', Std.Legacy.Range.size, Nat.sub_zero, Nat.add_one_sub_one, Nat.div_one]
          rw [key]
          simp
        · cases h
      case struct fs =>
        split at h
        · rename_i hs
          have key := checkFields_mk (fun t l hl w x hx => checkKey_ok em d t l hl D w x hx) x.toArray fs.toList 0 l w h (by simp [hx])
          simp only [mkV, hu]
          rw [show D + (d + 1) = (D + d) + 1 from rfl, Instr.checkKey]
          simp only [Sem.run_bind, run_underlying hu, Result.andThen_ok]
          rw [← Array.forIn_toList]
          rw [key]
          simp
        · cases h
      all_goals cases h
/-- a map's type -/
structure KeyT (P : Program) (t kt et : TypeId) (d : TypeDesc) (st : Bool) (ks : List LK) : Prop where
  ht : P.underlying t = some (.map kt et)
  hd : P.underlying kt = some d
  hl : leaves P 12 kt = some ks
  hs : (∃ fs, d = .struct fs ∧ st = true) ∨ (∃ l, lkOf d = some l ∧ ks = [l] ∧ st = false)
theorem keyK_of {t et : TypeId} {st : Bool} {ks : List LK} (hk : keyK P t = some (st, ks, et)) : ∃ kt d, KeyT P t kt et d st ks := by
  unfold keyK at hk
  simp only [Option.bind_eq_some_iff] at hk
  obtain ⟨u, hu, hk⟩ := hk
  split at hk
  · rename_i kt et'
    simp only [Option.bind_eq_some_iff] at hk
    obtain ⟨d, hd, l, hl, hk⟩ := hk
    have hl0 := hl
    unfold leaves at hl0
    simp only [hd] at hl0
    split at hk
    · rename_i fs
      cases hk
      exact ⟨kt, _, hu, hd, hl, .inl ⟨fs, rfl, rfl⟩⟩
    · cases hk
      simp only [Option.some.injEq] at hl0
      subst hl0
      exact ⟨kt, _, hu, hd, hl, .inr ⟨.int, rfl, rfl, rfl⟩⟩
    · cases hk
      simp only [Option.some.injEq] at hl0
      subst hl0
      exact ⟨kt, _, hu, hd, hl, .inr ⟨.str, rfl, rfl, rfl⟩⟩
    · cases hk
      simp only [Option.some.injEq] at hl0
      subst hl0
      exact ⟨kt, _, hu, hd, hl, .inr ⟨.bool, rfl, rfl, rfl⟩⟩
    · cases hk
  · cases hk
theorem keyOK_of {t kt et : TypeId} {d : TypeDesc} {st : Bool} {ks : List LK} {k : AV} {kv : Value} (T : KeyT P t kt et d st ks) (hk : V S k kv) (hf : keyB st ks k = true) :
    ((∃ l w, lkOf d = some l ∧ ks = [l] ∧ k = .sc w) ∨ (∃ fs a, d = .struct fs ∧ leaves P 12 kt = some ks ∧ k = .agg a)) ∧ ∀ em w, (Instr.checkKey em 10000 kt kv).run P w = .ok () w := by
  have hd := T.hd
  have hl := T.hl
  have ck : ∀ (x : List Value), mkV P kt x = kv → x.length = ks.length → ∀ em w, (Instr.checkKey em 10000 kt kv).run P w = .ok () w := fun x h1 h2 em w => by
    have := checkKey_ok (P := P) em 12 kt ks hl 9988 w x h2
    rw [h1] at this
    exact this
  unfold keyB at hf
  rcases T.hs with ⟨fs, rfl, rfl⟩ | ⟨l, h1, rfl, rfl⟩
  · split at hf
    · rename_i a
      refine ⟨.inr ⟨fs, a, rfl, hl, rfl⟩, ?_⟩
      simp only [V] at hk
      obtain ⟨xs, rfl, hv⟩ := hk
      have hlen := hv.length
      have hal : a.length = ks.length := by simpa using hf
      exact ck xs.toList (by simp [mkV, hd]) (by omega)
    · cases hf
    · cases hf
  · split at hf
    · cases hf
    · rename_i w
      simp only [V] at hk
      subst hk
      refine ⟨.inl ⟨l, kv, h1, rfl, rfl⟩, ck [kv] ?_ rfl⟩
      match d, h1 with
      | .int _, _ => simp [mkV, hd]
      | .string, _ => simp [mkV, hd]
      | .bool, _ => simp [mkV, hd]
    · cases hf
theorem run_getObj_at {b : Nat} {ents : Array MapEntry} {clock : Nat} (hw : W.heap[b]? = some (.map ents clock)) : (getObj b).run P W = .ok (.map ents clock) W := by simp [getObj, Sem.run, hw]
theorem lookup_run {t kt et : TypeId} {d : TypeDesc} {st : Bool} {ks : List LK} {z : Value} (T : KeyT P t kt et d st ks) (hz : zeroOf P et = some z) (r : Rel S h B W) {m k : AV} {es : List (AV × AV)} {kv mv : Value} {res : Option (Nat × AV)} (hm : V S m mv) (hx : mapEs h m = some es) (hk : V S k kv) (hf : keyB st ks k = true) (hr : findM ks k es 0 = some res) (ok : Bool) :
    ∃ u, (Instr.lookup t mv kv ok).run P W = .ok u W ∧ V S (if ok then .tup [valM (cst z) res, .bool res.isSome] else valM (cst z) res) u := by
  obtain ⟨hc, hck⟩ := keyOK_of T hk hf
  have ht := T.ht
  have fin : ∀ (r' : Option (Nat × Value)), FoundR S res r' → V S (if ok then .tup [valM (cst z) res, .bool res.isSome] else valM (cst z) res) (if ok then .tuple #[(r'.map (·.2)).getD z, .bool r'.isSome] else (r'.map (·.2)).getD z) := by
    intro r' hr'
    have h1 : V S (valM (cst z) res) ((r'.map (·.2)).getD z) ∧ res.isSome = r'.isSome := by
      cases res with
      | none =>
        cases r' with
        | none => exact ⟨by simpa [valM] using cst_V z, rfl⟩
        | some _ => exact hr'.elim
      | some p =>
        cases r' with
        | none => exact hr'.elim
        | some q => exact ⟨by simpa [valM] using hr'.2, rfl⟩
    cases ok
    · simpa using h1.1
    · simp only [if_true, V]
      exact ⟨_, rfl, by simp only [VL]; exact ⟨_, _, rfl, h1.1, _, _, rfl, by simp only [V, h1.2], rfl⟩⟩
  unfold mapEs at hx
  split at hx
  · rename_i id
    simp only [Option.map_eq_some_iff] at hx
    obtain ⟨⟨c, bs, es'⟩, hx, rfl⟩ := hx
    have hx := map_at hx
    simp only [V] at hm
    obtain ⟨b, q1, rfl⟩ := hm
    obtain ⟨_, ⟨_, hw, ents, rfl, he, _⟩, _⟩ := map_rel r hx q1
    obtain ⟨r', g1, g2⟩ := findKey_ok (W := W) T.hd hk he hr hc
    have hg := run_getObj_at (P := P) hw
    refine ⟨_, ?_, fin r' g2⟩
    cases r' <;> cases ok <;> simp [Instr.lookup, run_underlying' ht, hg, hck, g1, run_zero' hz]
  · cases hx
    simp only [V] at hm
    subst hm
    obtain ⟨r', g1, g2⟩ := findKey_ok (W := W) (es := []) (ms := []) T.hd hk trivial hr hc
    refine ⟨_, ?_, fin r' g2⟩
    cases r' <;> cases ok <;> simp [Instr.lookup, run_underlying' ht, hck, g1, run_zero' hz]
  · cases hx
/-! ### updates -/
theorem eqV_true : ∀ {ks : List LK} {x y : List Value}, eqV ks x y = some true → x = y ∧ ∀ n, (x.zip y).all (fun p => Instr.sameBits n p.1 p.2) = true
  | [], [], [], _ => ⟨rfl, fun n => rfl⟩
  | .int :: ks, .int k a :: x, .int k' b :: y, h => by
    simp only [eqV] at h
    split at h
    · rename_i hk
      subst hk
      obtain ⟨r, h1, h2⟩ := Option.map_eq_some_iff.1 h
      simp only [Bool.and_eq_true, beq_iff_eq] at h2
      obtain ⟨rfl, rfl⟩ := h2
      obtain ⟨g1, g2⟩ := eqV_true h1
      subst g1
      exact ⟨rfl, fun n => by simp only [List.zip_cons_cons, List.all_cons, g2 n, Bool.and_true]; cases n <;> simp [Instr.sameBits]⟩
    · cases h
  | .str :: ks, .string a :: x, .string b :: y, h => by
    simp only [eqV] at h
    obtain ⟨r, h1, h2⟩ := Option.map_eq_some_iff.1 h
    simp only [Bool.and_eq_true] at h2
    obtain ⟨h3, rfl⟩ := h2
    have hab : a = b := by
      rw [bytes_beq0] at h3
      exact ByteArray.ext (eq_of_beq h3)
    subst hab
    obtain ⟨g1, g2⟩ := eqV_true h1
    subst g1
    exact ⟨rfl, fun n => by simp only [List.zip_cons_cons, List.all_cons, g2 n, Bool.and_true]; cases n <;> simp [Instr.sameBits, bytes_beq0]⟩
  | .bool :: ks, .bool a :: x, .bool b :: y, h => by
    simp only [eqV] at h
    obtain ⟨r, h1, h2⟩ := Option.map_eq_some_iff.1 h
    simp only [Bool.and_eq_true, beq_iff_eq] at h2
    obtain ⟨rfl, rfl⟩ := h2
    obtain ⟨g1, g2⟩ := eqV_true h1
    subst g1
    exact ⟨rfl, fun n => by simp only [List.zip_cons_cons, List.all_cons, g2 n, Bool.and_true]; cases n <;> simp [Instr.sameBits]⟩
/-- keys that are the same are so bit by bit -/
theorem keyEq_bits {ks : List LK} {k q : AV} {kv qv : Value} (h : keyEq ks k q = some true) (hk : V S k kv) (hq : V S q qv) : Instr.sameBits 10000 qv kv = true := by
  unfold keyEq at h
  split at h
  · rename_i a b
    have h1 := eqAV_V (S := S) h (x := [a]) (y := [b]) (by simp [VL, V]) (by simp [VL, V])
    obtain ⟨e, g⟩ := eqV_true h1
    simp only [List.cons.injEq, and_true] at e
    subst e
    simp only [V] at hk hq
    subst hk; subst hq
    have := g 10000
    simpa using this
  · rename_i a b
    simp only [V] at hk hq
    obtain ⟨xs, rfl, v1⟩ := hk
    obtain ⟨ys, rfl, v2⟩ := hq
    obtain ⟨e, g⟩ := eqV_true (eqAV_V h v1 v2)
    have e' : xs = ys := Array.toList_inj.1 e
    subst e'
    have := g 9999
    simp only [Instr.sameBits, beq_self_eq_true, Bool.true_and]
    exact this
  · cases h
theorem findM_at {ks : List LK} {k : AV} : ∀ {es : List (AV × AV)} {j i : Nat} {v : AV}, findM ks k es j = some (some (i, v)) → ∃ p, j ≤ i ∧ es[i - j]? = some p ∧ keyEq ks k p.1 = some true ∧ p.2 = v
  | [], j, i, v, h => by simp [findM] at h
  | p :: es, j, i, v, h => by
    simp only [findM] at h
    split at h
    · rename_i hq
      cases h
      exact ⟨p, Nat.le_refl _, by simp, hq, rfl⟩
    · obtain ⟨q, h1, h2, h3⟩ := findM_at h
      refine ⟨q, by omega, ?_, h3⟩
      rw [show i - j = (i - (j + 1)) + 1 by omega, List.getElem?_cons_succ]
      exact h2
    · cases h
theorem EntR.get : ∀ {es : List (AV × AV)} {ms : List MapEntry}, EntR S es ms → ∀ {i : Nat} {p : AV × AV}, es[i]? = some p → ∃ m, ms[i]? = some m ∧ V S p.1 m.key ∧ V S p.2 m.val
  | [], [], _, i, p, h => by simp at h
  | q :: es, m :: ms, he, 0, p, h => by
    simp only [List.getElem?_cons_zero, Option.some.injEq] at h
    subst h
    exact ⟨m, rfl, he.1, he.2.1⟩
  | q :: es, m :: ms, he, i + 1, p, h => by
    obtain ⟨m', h1, h2⟩ := EntR.get he.2.2 (i := i) (by simpa using h)
    exact ⟨m', by simpa using h1, h2⟩
  | [], _ :: _, h, _, _, _ => h.elim
  | _ :: _, [], h, _, _, _ => h.elim
theorem EntR.modify {p : AV × AV} {f : MapEntry → MapEntry} (hf : ∀ m, V S p.1 (f m).key ∧ V S p.2 (f m).val) : ∀ {es : List (AV × AV)} {ms : List MapEntry}, EntR S es ms → ∀ {i : Nat}, EntR S (es.set i p) (ms.modify i f)
  | [], [], _, i => by cases i <;> exact trivial
  | q :: es, m :: ms, h, 0 => ⟨(hf m).1, (hf m).2, h.2.2⟩
  | q :: es, m :: ms, h, i + 1 => ⟨h.1, h.2.1, EntR.modify hf h.2.2⟩
  | [], _ :: _, h, _ => h.elim
  | _ :: _, [], h, _ => h.elim
theorem run_setObj_map {b : Nat} {ents : Array MapEntry} {clock : Nat} (hw : W.heap[b]? = some (.map ents clock)) (o : Obj) : (setObj b o).run P W = .ok () (ChangeMaps.setBlock W b o) := by simp [setObj, Sem.run, hw, ChangeMaps.setBlock]
theorem map_modify_same {α β : Type} {g : α → β} {f : α → α} (hf : ∀ m, g (f m) = g m) : ∀ (ms : List α) (i : Nat), (ms.modify i f).map g = ms.map g
  | [], i => by cases i <;> rfl
  | m :: ms, 0 => by simp [hf]
  | m :: ms, i + 1 => by simp [map_modify_same hf ms i]
theorem EntR.bornPush {ms : List MapEntry} {bs : List Nat} {m : MapEntry} (h : ms.map (·.born) = bs) : (ms ++ [m]).map (·.born) = bs ++ [m.born] := by simp [h]
theorem update_run {t kt et : TypeId} {d : TypeDesc} {st : Bool} {ks : List LK} (T : KeyT P t kt et d st ks) (r : Rel S h B W) {id c : Nat} {bs : List Nat} {es : List (AV × AV)} {k x : AV} {kv mv xv : Value} {res : Option (Nat × AV)} (hm : V S (.map id) mv) (hx : mapAt h id = some (c, bs, es)) (hk : V S k kv) (hxv : V S x xv) (hf : keyB st ks k = true) (hr : findM ks k es 0 = some res) :
    ∃ b o', B ≤ b ∧ (Instr.mapUpdate t mv kv xv).run P W = .ok () (ChangeMaps.setBlock W b o') ∧ Rel S (h.set id (.map none (putB c bs res).1 (putB c bs res).2 (putM es k x res))) B (ChangeMaps.setBlock W b o') := by
  have hx := map_at hx
  have ht := T.ht
  simp only [V] at hm
  obtain ⟨b, q1, rfl⟩ := hm
  obtain ⟨q2, ⟨_, hw, ents, rfl, he, hbs⟩, _⟩ := map_rel r hx q1
  obtain ⟨hc, hck⟩ := keyOK_of T hk hf
  obtain ⟨r', g1, g2⟩ := findKey_ok (W := W) T.hd hk he hr hc
  have hg := run_getObj_at (P := P) hw
  cases res with
  | none =>
    cases r' with
    | some _ => exact g2.elim
    | none =>
      refine ⟨b, .map (ents.push { key := kv, val := xv, born := c }) (c + 1), q2, ?_, r.setMap hx q1 hw ⟨_, rfl, ?_, ?_⟩⟩
      · simp [Instr.mapUpdate, run_underlying' ht, hg, hck, g1, run_setObj_map hw]
      · rw [Array.toList_push]
        exact he.push hk hxv
      · rw [Array.toList_push]
        simp [putB, hbs]
  | some p =>
    cases r' with
    | none => exact g2.elim
    | some q =>
      obtain ⟨i, v⟩ := p
      obtain ⟨i', v'⟩ := q
      obtain ⟨rfl, _⟩ := g2
      obtain ⟨e, _, h2, h3, _⟩ := findM_at hr
      rw [Nat.sub_zero] at h2
      obtain ⟨m, m1, m2, _⟩ := he.get h2
      have hmi : ents[i]? = some m := by simpa using m1
      have hb := keyEq_bits h3 hk m2
      refine ⟨b, .map (ents.modify i fun e => { e with key := kv, val := xv }) c, q2, ?_, r.setMap hx q1 hw ⟨_, rfl, ?_, ?_⟩⟩
      · simp [Instr.mapUpdate, run_underlying' ht, hg, hck, g1, hmi, Instr.keyThatStays, hb, run_setObj_map hw]
      · rw [Array.toList_modify]
        exact he.modify (fun m => ⟨hk, hxv⟩)
      · rw [Array.toList_modify]
        simp only [putB]
        rw [← hbs]
        exact map_modify_same (f := fun e : MapEntry => { e with key := kv, val := xv }) (fun m => rfl) _ _
theorem delete_run {t kt et : TypeId} {d : TypeDesc} {st : Bool} {ks : List LK} {ty : TypeId} {ts : Array TypeId} (hts : ts[0]? = some t) (T : KeyT P t kt et d st ks) (r : Rel S h B W) {id c : Nat} {bs : List Nat} {es : List (AV × AV)} {k : AV} {kv mv : Value} {res : Option (Nat × AV)} (hm : V S (.map id) mv) (hx : mapAt h id = some (c, bs, es)) (hk : V S k kv) (hf : keyB st ks k = true) (hr : findM ks k es 0 = some res) :
    ∃ b o', B ≤ b ∧ (Builtin.delete_ ts ty #[mv, kv]).run P W = .ok (.tuple #[]) (ChangeMaps.setBlock W b o') ∧ Rel S (match res with | some (i, _) => h.set id (.map none c (bs.eraseIdx i) (es.eraseIdx i)) | none => h) B (ChangeMaps.setBlock W b o') := by
  have hx := map_at hx
  have ht := T.ht
  simp only [V] at hm
  obtain ⟨b, q1, rfl⟩ := hm
  obtain ⟨q2, ⟨_, hw, ents, rfl, he, hbs⟩, _⟩ := map_rel r hx q1
  obtain ⟨hc, hck⟩ := keyOK_of T hk hf
  obtain ⟨r', g1, g2⟩ := findKey_ok (W := W) T.hd hk he hr hc
  have hg := run_getObj_at (P := P) hw
  cases res with
  | none =>
    cases r' with
    | some _ => exact g2.elim
    | none =>
      refine ⟨b, .map ents c, q2, ?_, ?_⟩
      · simp [Builtin.delete_, hts, run_underlying' ht, hg, hck, g1, run_setObj_map hw]
      · have := r.setMap hx q1 hw (it' := none) (c' := c) (bs' := bs) (es' := es) (o' := .map ents c) ⟨_, rfl, he, hbs⟩
        rw [show h.set id (.map none c bs es) = h from List.ext_getElem? fun j => by
          by_cases hj : id = j
          · subst hj; rw [getElem?_set_eq' (List.getElem?_eq_some_iff.1 hx).1, hx]
          · rw [getElem?_set_ne' hj]] at this
        exact this
  | some p =>
    cases r' with
    | none => exact g2.elim
    | some q =>
      obtain ⟨i, v⟩ := p
      obtain ⟨i', v'⟩ := q
      obtain ⟨rfl, _⟩ := g2
      refine ⟨b, .map (ents.eraseIdxIfInBounds i) c, q2, ?_, r.setMap hx q1 hw ⟨_, rfl, ?_, ?_⟩⟩
      · simp [Builtin.delete_, hts, run_underlying' ht, hg, hck, g1, run_setObj_map hw]
      · rw [Array.toList_eraseIdxIfInBounds]
        exact he.erase
      · rw [Array.toList_eraseIdxIfInBounds, ← hbs, ChangeMaps.map_eraseIdx]
theorem run_new (P : Program) (W : World) (o : Obj) : (newObj o).run P W = .ok W.heap.size (W.alloc o) := rfl
theorem run_choose0 (P : Program) (W : World) : (choose (.mapNext 1)).run P W = .ok 0 W := rfl
/-! ### the operations -/
variable {E : Env0} {o : Oper} {C : Cl} {e : Env} {h' : Heap} {v : AV} {a : Act}
theorem ex_mkMap {t : TypeId} (hop : o.op = .makeMap t none) (hx : aop C .mkMap e h = some (v, h')) (r : Rel S h B W) : ExOK P o a S h' v B W := by
  simp only [aop, Option.some.injEq, Prod.mk.injEq] at hx
  obtain ⟨rfl, rfl⟩ := hx
  obtain ⟨r2, ex⟩ := r.newMap (it := none) (c := 0) (bs := []) (es := []) (o := .map #[] 0) ⟨#[], rfl, trivial, rfl⟩
  refine ⟨_, .map (some W.heap.size), W.alloc (.map #[] 0), _, ?_, .inl rfl, ex, r2, by simp only [V]; exact ⟨_, by simp [addBlk], rfl⟩, (Below.refl B W).alloc r.base _⟩
  simp [execOp, hop, Instr.makeMap, run_new]
theorem ex_lookup {t : TypeId} {x k : Operand} {ok : Bool} (hop : o.op = .lookup t x k ok) {st : Bool} {ks : List LK} {et : TypeId} {z : Value} (hk : keyK P t = some (st, ks, et)) (hz : zeroOf P et = some z) {x' k' : Opd} (h1 : compO E x = some x') (h2 : compO E k = some k') (hx : aop C (.lookup st ks (cst z) ok x' k') e h = some (v, h')) (r : Rel S h B W) (he : EnvR S e a E.nt) (hg : GlobOK E.gl S.imm) : h' = h ∧ ExR P o a S v W := by
  simp only [aop, Option.bind_eq_some_iff] at hx
  obtain ⟨es, hm, hx⟩ := hx
  split at hx
  · rename_i hf
    simp only [Option.map_eq_some_iff, Prod.mk.injEq] at hx
    obtain ⟨res, hr, rfl, rfl⟩ := hx
    obtain ⟨kt, d, T⟩ := keyK_of hk
    obtain ⟨u, g1, g2⟩ := lookup_run T hz r (evO_V he hg h1) hm (evO_V he hg h2) hf hr ok
    exact ⟨rfl, u, by simp [execOp, hop, g1], g2⟩
  · cases hx
theorem ex_mapSet {t : TypeId} {m k x : Operand} (hop : o.op = .mapUpdate t m k x) {st : Bool} {ks : List LK} {et : TypeId} (hk : keyK P t = some (st, ks, et)) {m' k' x' : Opd} (h1 : compO E m = some m') (h2 : compO E k = some k') (h3 : compO E x = some x') (hx : aop C (.mapSet st ks m' k' x') e h = some (v, h')) (r : Rel S h B W) (he : EnvR S e a E.nt) (hg : GlobOK E.gl S.imm) : ExOK P o a S h' v B W := by
  simp only [aop] at hx
  split at hx
  · rename_i id hm
    simp only [Option.bind_eq_some_iff, Prod.exists] at hx
    obtain ⟨c, bs, es, hma, hx⟩ := hx
    split at hx
    · rename_i hf
      simp only [Option.map_eq_some_iff, Prod.mk.injEq] at hx
      obtain ⟨res, hr, rfl, rfl⟩ := hx
      obtain ⟨kt, d, T⟩ := keyK_of hk
      obtain ⟨b, o', g1, g2, g3⟩ := update_run T r (by rw [← hm]; exact evO_V he hg h1) hma (evO_V he hg h2) (evO_V he hg h3) hf hr
      exact ⟨_, Go.undef, _, S, by simp [execOp, hop, g2], .inr ⟨rfl, rfl⟩, Ext.refl S, g3, V_sc _, setB_below g1⟩
    · cases hx
  · cases hx
theorem ex_mapDel {m k : Operand} {ts : Array TypeId} {t : TypeId} (hop : o.op = .call { callee := .builtin .delete, args := #[m, k], argTypes := ts }) (hts : ts[0]? = some t) {st : Bool} {ks : List LK} {et : TypeId} (hk : keyK P t = some (st, ks, et)) {m' k' : Opd} (h1 : compO E m = some m') (h2 : compO E k = some k') (hx : aop C (.mapDel st ks m' k') e h = some (v, h')) (r : Rel S h B W) (he : EnvR S e a E.nt) (hg : GlobOK E.gl S.imm) : ExOK P o a S h' v B W := by
  obtain ⟨kt, d, T⟩ := keyK_of hk
  have hm1 := evO_V he hg h1
  have hk1 := evO_V he hg h2
  simp only [aop] at hx
  split at hx
  · rename_i hf
    split at hx
    · rename_i id hm
      simp only [Option.bind_eq_some_iff, Prod.exists] at hx
      obtain ⟨c, bs, es, hma, hx⟩ := hx
      simp only [Option.map_eq_some_iff] at hx
      obtain ⟨res, hr, hx⟩ := hx
      rw [hm] at hm1
      obtain ⟨b, o', g1, g2, g3⟩ := delete_run (ty := o.type) hts T r hm1 hma hk1 hf hr
      have hv : v = .tup [] ∧ Rel S h' B (ChangeMaps.setBlock W b o') := by
        cases res with
        | none => simp only [Prod.mk.injEq] at hx; exact ⟨hx.1.symm, by rw [← hx.2]; exact g3⟩
        | some p => simp only [Prod.mk.injEq] at hx; exact ⟨hx.1.symm, by rw [← hx.2]; exact g3⟩
      obtain ⟨rfl, g3⟩ := hv
      exact ⟨_, .tuple #[], _, S, by simp [execOp, hop, resolve, invoke, builtin, g2], .inl rfl, Ext.refl S, g3, by simp only [V]; exact ⟨#[], rfl, by simp [VL]⟩, setB_below g1⟩
    · rename_i hm
      cases hx
      rw [hm] at hm1
      simp only [V] at hm1
      obtain ⟨hc, hck⟩ := keyOK_of T hk1 hf
      exact ⟨_, .tuple #[], W, S, by simp [execOp, hop, resolve, invoke, builtin, Builtin.delete_, hts, run_underlying' T.ht, hm1, hck], .inl rfl, Ext.refl S, r, by simp only [V]; exact ⟨#[], rfl, by simp [VL]⟩, Below.refl B W⟩
    · cases hx
  · cases hx
theorem ex_lenM {x : Operand} {ts : Array TypeId} {t k' e' : TypeId} (hop : o.op = .call { callee := .builtin .len, args := #[x], argTypes := ts }) (hts : ts[0]? = some t) (hu : P.underlying t = some (.map k' e')) {x' : Opd} (h1 : compO E x = some x') (hx : aop C (.lenM x') e h = some (v, h')) (r : Rel S h B W) (he : EnvR S e a E.nt) (hg : GlobOK E.gl S.imm) : h' = h ∧ ExR P o a S v W := by
  have hm1 := evO_V he hg h1
  simp only [aop, Option.map_eq_some_iff, Prod.mk.injEq] at hx
  obtain ⟨es, hm, rfl, rfl⟩ := hx
  refine ⟨rfl, _, ?_, V_sc _⟩
  unfold mapEs at hm
  split at hm
  · rename_i id hid
    simp only [Option.map_eq_some_iff] at hm
    obtain ⟨⟨c, bs, es'⟩, hm, rfl⟩ := hm
    have hm := map_at hm
    rw [hid] at hm1
    simp only [V] at hm1
    obtain ⟨b, q1, q2⟩ := hm1
    obtain ⟨_, ⟨_, hw, ents, rfl, he', _⟩, _⟩ := map_rel r hm q1
    have hg := run_getObj_at (P := P) hw
    have := he'.len
    simp [execOp, hop, resolve, invoke, builtin, Builtin.len_, hts, run_underlying' hu, q2, hg, goInt, this]
  · rename_i hid
    cases hm
    rw [hid] at hm1
    simp only [V] at hm1
    simp [execOp, hop, resolve, invoke, builtin, Builtin.len_, hts, run_underlying' hu, hm1, goInt]
  · cases hm
theorem ex_range {t : TypeId} {x : Operand} (hop : o.op = .range t x) {str : Bool} (hu : (str = true ∧ P.underlying t = some .string) ∨ (str = false ∧ ∃ k' e', P.underlying t = some (.map k' e'))) {x' : Opd} (h1 : compO E x = some x') (hx : aop C (.range str x') e h = some (v, h')) (r : Rel S h B W) (he : EnvR S e a E.nt) (hg : GlobOK E.gl S.imm) : ExOK P o a S h' v B W := by
  have hm1 := evO_V he hg h1
  have fin : ∀ {it : Option AV} {c : Nat} {bs : List Nat} {ob : Obj}, (Instr.range t (a.eval x)).run P W = .ok (.pointer (some ⟨W.heap.size, 0, none⟩)) (W.alloc ob) → MapR S it c bs [] ob → v = .ptr h.length 0 → h' = h ++ [.map it c bs []] → ExOK P o a S h' v B W := by
    intro it c bs ob hr ho hv hh
    subst hv; subst hh
    obtain ⟨r2, ex⟩ := r.newMap ho
    exact ⟨_, .pointer (some ⟨W.heap.size, 0, none⟩), W.alloc ob, _, by simp [execOp, hop, hr], .inl rfl, ex, r2, by simp only [V]; exact ⟨_, by simp [addBlk], rfl⟩, (Below.refl B W).alloc r.base _⟩
  simp only [aop] at hx
  split at hx
  · rename_i s hs
    rw [hs] at hm1
    simp only [V] at hm1
    split at hx
    · rename_i hst
      cases hx
      rcases hu with ⟨_, hu⟩ | ⟨h2, _⟩
      · exact fin (it := some (.str s)) (c := 0) (bs := []) (ob := .stringIter s 0) (by simp [Instr.range, run_underlying' hu, hm1, run_new]) rfl rfl rfl
      · rw [hst] at h2; cases h2
    · cases hx
  · rename_i hs
    rw [hs] at hm1
    simp only [V] at hm1
    split at hx
    · cases hx
    · rename_i hst
      cases hx
      rcases hu with ⟨h2, _⟩ | ⟨_, k', e', hu⟩
      · exact absurd h2 hst
      · exact fin (it := some (.sc (.map none))) (c := 0) (bs := []) (ob := .mapIter none 0 #[] 0) (by simp [Instr.range, run_underlying' hu, hm1, run_new]) rfl rfl rfl
  · rename_i id hs
    rw [hs] at hm1
    simp only [V] at hm1
    obtain ⟨b, q1, q2⟩ := hm1
    split at hx
    · cases hx
    · rename_i hst
      simp only [Option.map_eq_some_iff] at hx
      obtain ⟨⟨c, bs, es⟩, hm, hx⟩ := hx
      simp only [Prod.mk.injEq] at hx
      obtain ⟨_, ⟨_, hw, ents, rfl, _, _⟩, _⟩ := map_rel r (map_at hm) q1
      have hgo := run_getObj_at (P := P) hw
      rcases hu with ⟨h2, _⟩ | ⟨_, k', e', hu⟩
      · exact absurd h2 hst
      · exact fin (it := some (.map id)) (c := c) (bs := [c]) (ob := .mapIter (some b) c #[] c) (by simp [Instr.range, run_underlying' hu, q2, run_new, hgo]) ⟨b, q1, rfl⟩ hx.1.symm hx.2.symm
  · cases hx
theorem run_getObj_any {b : Nat} {ob : Obj} (hw : W.heap[b]? = some ob) (hc : ∀ c t f, ob ≠ .cells c t f) : (getObj b).run P W = .ok ob W := by
  cases ob <;> first | (exact absurd rfl (hc _ _ _)) | simp [getObj, Sem.run, hw]
theorem run_setObj_any {b : Nat} {ob : Obj} (hw : W.heap[b]? = some ob) (hc : ∀ c t f, ob ≠ .cells c t f) (o : Obj) : (setObj b o).run P W = .ok () (ChangeMaps.setBlock W b o) := by
  cases ob <;> first | (exact absurd rfl (hc _ _ _)) | simp [setObj, Sem.run, hw, ChangeMaps.setBlock]
theorem ex_next {x : Operand} {str : Bool} (hop : o.op = .next x str) {x' : Opd} (h1 : compO E x = some x') (hx : aop C (.next str x') e h = some (v, h')) (r : Rel S h B W) (he : EnvR S e a E.nt) (hg : GlobOK E.gl S.imm) : ExOK P o a S h' v B W := by
  have hm1 := evO_V he hg h1
  simp only [aop] at hx
  split at hx
  · rename_i id hs
    rw [hs] at hm1
    simp only [V] at hm1
    obtain ⟨b, q1, q2⟩ := hm1
    have over : (Instr.next (a.eval x) str o.type).run P W = .ok (.tuple #[.bool false]) W → v = .tup [.bool false] → h' = h → ExOK P o a S h' v B W := by
      intro hr hv hh
      subst hv; subst hh
      exact ⟨_, .tuple #[.bool false], W, S, by simp [execOp, hop, hr], .inl rfl, Ext.refl S, r, by simp only [V]; exact ⟨_, rfl, by simp [VL, V]⟩, Below.refl B W⟩
    unfold nextM at hx
    split at hx
    · rename_i s c bs es hh
      obtain ⟨q3, ⟨ob, hw, ho⟩, _⟩ := map_rel r hh q1
      have ho : ob = .stringIter s c := ho
      subst ho
      have hgo := run_getObj_any (P := P) hw (by intros; simp)
      have hso := run_setObj_any (P := P) hw (by intros; simp)
      split at hx
      · cases hx
      · rename_i hst
        have hst : str = true := by simpa using hst
        subst hst
        split at hx
        · rename_i hc
          cases hx
          have r2 := r.setMap hh q1 hw (it' := some (.str s)) (c' := c + (Utf8.decode s c).2) (bs' := []) (es' := []) (o' := .stringIter s (c + (Utf8.decode s c).2)) rfl
          exact ⟨_, .tuple #[.bool true, goInt c, .int .i32 (Utf8.decode s c).1], _, S, by simp [execOp, hop, Instr.next, q2, hgo, hso, hc], .inl rfl, Ext.refl S, r2, by simp only [V]; exact ⟨_, rfl, by simp [VL, V, goInt]⟩, setB_below q3⟩
        · rename_i hc
          cases hx
          exact over (by simp [Instr.next, q2, hgo, hc]) rfl rfl
    · rename_i c bs es hh
      obtain ⟨q3, ⟨ob, hw, ho⟩, _⟩ := map_rel r hh q1
      have ho : ob = .mapIter none 0 #[] 0 := ho
      subst ho
      have hgo := run_getObj_any (P := P) hw (by intros; simp)
      split at hx
      · cases hx
      · rename_i hst
        have hst : str = false := by simpa using hst
        subst hst
        cases hx
        exact over (by simp [Instr.next, q2, hgo]) rfl rfl
    · rename_i m c l seen es0 hh
      obtain ⟨q3, ⟨ob, hw, ho⟩, _⟩ := map_rel r hh q1
      obtain ⟨b2, p1, ho⟩ := ho
      subst ho
      have hgo := run_getObj_any (P := P) hw (by intros; simp)
      have hso := run_setObj_any (P := P) hw (by intros; simp)
      split at hx
      · cases hx
      · rename_i hst
        have hst : str = false := by simpa using hst
        subst hst
        simp only [Option.bind_eq_some_iff, Prod.exists] at hx
        obtain ⟨c', bs, es, hma, hx⟩ := hx
        obtain ⟨_, ⟨_, hw2, ents, rfl, he2, hbs⟩, _⟩ := map_rel r (map_at hma) p1
        have hg2 := run_getObj_at (P := P) hw2
        split at hx
        · cases hx
          have : ents = #[] := by
            have := he2.len
            simp at this
            exact Array.eq_empty_of_size_eq_zero (by simpa using this.symm)
          subst this
          exact over (by simp [Instr.next, q2, hgo, hg2, run_choose0, Question.forced]) rfl rfl
        · rename_i k v0 n
          have hl := he2.len
          obtain ⟨m1, hm1'⟩ : ∃ m1, ents = #[m1] := by
            have : ents.toList.length = 1 := by simpa using hl.symm
            obtain ⟨m1, hm⟩ := List.length_eq_one_iff.1 this
            exact ⟨m1, by rw [← Array.toList_inj]; simpa using hm⟩
          subst hm1'
          simp only [List.map_cons, List.map_nil, List.cons.injEq, and_true] at hbs
          obtain ⟨v1, v2, _⟩ := he2
          split at hx
          · rename_i hse
            subst hse
            split at hx
            · rename_i hn
              cases hx
              have r2 := r.setMap hh q1 hw (it' := some (.map m)) (c' := c) (bs' := [c', n]) (es' := []) (o' := .mapIter (some b2) c #[n] c') ⟨b2, p1, rfl⟩
              refine ⟨_, .tuple #[.bool true, m1.key, m1.val], _, S, ?_, .inl rfl, Ext.refl S, r2, by simp only [V]; exact ⟨_, rfl, by simp only [VL]; exact ⟨_, _, rfl, V_sc _, _, _, rfl, v1, _, _, rfl, v2, rfl⟩⟩, setB_below q3⟩
              simp [execOp, hop, Instr.next, q2, hgo, hg2, hso, hbs, hn, show ¬ c ≤ n from by omega, run_choose0, Question.forced]
            · cases hx
          · rename_i hse
            split at hx
            · rename_i hn
              obtain ⟨rfl, hn⟩ := hn
              cases hx
              exact over (by simp [Instr.next, q2, hgo, hg2, hbs, hn, run_choose0, Question.forced]) rfl rfl
            · cases hx
        · cases hx
    · cases hx
  · cases hx
end
end Go.Proofs.Ytipbmacpenmgoaa.AM

/- The plain machine's operations, in one law; regions. -/
namespace Go.Proofs.Ytipbmacpenmgoaa.AM
open Go Go.RowKit
set_option linter.unusedVariables false
set_option linter.unusedSimpArgs false
section
variable {P : Program} {E : Env0} {o : Oper} {C : Cl} {e : Env} {h h' : Heap} {v : AV} {S : St} {B : Nat} {W : World} {a : Act}
/-- operations that touch no memory -/
theorem op_still {x : AOp} (hc : compOp P E o = some x) (hst : x.still = true) (hx : aop C x e h = some (v, h')) (r : Rel S h B W) (he : EnvR S e a E.nt) (hg : GlobOK E.gl S.imm) : h' = h ∧ ExS P o a S v := by
  cases hop : o.op <;> simp only [compOp, hop] at hc
  case move y =>
    split at hc
    · cases hc; cases hst
    · simp only [Option.map_eq_some_iff] at hc
      obtain ⟨y', h1, rfl⟩ := hc
      simp only [aop] at hx
      cases hx
      exact ⟨rfl, ex_move (.inl hop) h1 r he hg⟩
  case assign y =>
    split at hc
    · cases hc; cases hst
    · simp only [Option.map_eq_some_iff] at hc
      obtain ⟨y', h1, rfl⟩ := hc
      simp only [aop] at hx
      cases hx
      exact ⟨rfl, ex_move (.inr hop) h1 r he hg⟩
  case pick c p q =>
    simp only [Option.bind_eq_some_iff, Option.map_eq_some_iff] at hc
    obtain ⟨c', h1, p', h2, q', h3, rfl⟩ := hc
    exact ex_pick hop h1 h2 h3 hx r he hg
  case alloc t =>
    simp only [Option.bind_eq_some_iff] at hc
    obtain ⟨z, h1, h2⟩ := hc
    split at h2 <;> cases h2
    cases hst
  case box t y =>
    simp only [Option.map_eq_some_iff] at hc
    obtain ⟨y', h1, rfl⟩ := hc
    rcases boxO_or (o.dst.bind fun d => List.lookup d E.accs) y' with hb | hb <;> rw [hb] at hst <;> cases hst
  case build t parts =>
    simp only [Option.bind_eq_some_iff] at hc
    obtain ⟨z, hz, u, hu, hc⟩ := hc
    split at hc
    · rename_i fs
      split at hc
      · rename_i hall
        simp only [Option.map_eq_some_iff] at hc
        obtain ⟨ps, h1, rfl⟩ := hc
        exact ex_build hop hz hu (.inl ⟨fs, rfl, hall, h1⟩) hx r he hg
      · cases hc
    · rename_i n el
      simp only [Option.bind_eq_some_iff, Option.map_eq_some_iff] at hc
      obtain ⟨i, hi, ps, h1, rfl⟩ := hc
      exact ex_build hop hz hu (.inr ⟨n, el, i, rfl, hi, h1⟩) hx r he hg
    · cases hc
  case buildSlice t len parts =>
    simp only [Option.bind_eq_some_iff] at hc
    obtain ⟨u, hu, hc⟩ := hc
    split at hc
    · simp only [Option.bind_eq_some_iff] at hc
      obtain ⟨k, hk, z, hz, i, hi, hc⟩ := hc
      split at hc
      · simp only [Option.map_eq_some_iff] at hc
        obtain ⟨ps, h1, rfl⟩ := hc
        cases hst
      · cases hc
    · cases hc
  case load t y =>
    simp only [Option.bind_eq_some_iff, Option.map_eq_some_iff] at hc
    obtain ⟨k, hk, y', h1, rfl⟩ := hc
    cases hst
  case store t y z =>
    simp only [Option.bind_eq_some_iff, Option.map_eq_some_iff] at hc
    obtain ⟨i, hi, y', h1, z', h2, rfl⟩ := hc
    cases hst
  case nilCheck y =>
    simp only [Option.map_eq_some_iff] at hc
    obtain ⟨y', h1, rfl⟩ := hc
    exact ex_nilCheck hop h1 hx r he hg
  case binOp op t p q ty =>
    simp only [Option.bind_eq_some_iff] at hc
    obtain ⟨u, hu, hc⟩ := hc
    split at hc
    · simp only [Option.bind_eq_some_iff, Option.map_eq_some_iff] at hc
      obtain ⟨p', h1, q', h2, rfl⟩ := hc
      exact ex_bin hop h1 h2 hx r he hg
    · have key : ∀ neg, ((op = .eql ∧ neg = false) ∨ (op = .neq ∧ neg = true)) → compEq P E neg t p q = some x → h' = h ∧ ExS P o a S v := by
        intro neg hneg hc
        simp only [compEq, Option.bind_eq_some_iff] at hc
        obtain ⟨u', hu', hc⟩ := hc
        split at hc
        · simp only [Option.bind_eq_some_iff, Option.map_eq_some_iff] at hc
          obtain ⟨p', h1, q', h2, rfl⟩ := hc
          exact ex_eqBool hop hu' hneg h1 h2 hx r he hg
        · simp only [Option.bind_eq_some_iff] at hc
          obtain ⟨ue, hue, i, hi, hc⟩ := hc
          split at hc
          · split at hc
            · rename_i hcond
              simp only [Option.bind_eq_some_iff, Option.map_eq_some_iff] at hc
              obtain ⟨p', h1, q', h2, rfl⟩ := hc
              exact ex_eqArr hop hu' hue hi hcond.1 hcond.2 hneg h1 h2 hx r he hg
            · cases hc
          · cases hc
        · split at hc
          · rename_i hcond
            obtain ⟨fs, hfs⟩ := isSt_st hcond.1
            simp only [Option.bind_eq_some_iff, Option.map_eq_some_iff] at hc
            obtain ⟨ks, hl, p', h1, q', h2, rfl⟩ := hc
            exact ex_eqAgg hop (by rw [hu', hfs]) hl hcond.2 hneg h1 h2 hx r he hg
          · simp only [Option.bind_eq_some_iff] at hc
            obtain ⟨k, hk, hc⟩ := hc
            split at hc
            · rename_i hn
              simp only [Option.map_eq_some_iff] at hc
              obtain ⟨p', h1, rfl⟩ := hc
              exact ex_eqNil hop hu' hk hneg (.inl ⟨hn, rfl⟩) h1 hx r he hg
            · split at hc
              · rename_i hn
                simp only [Option.map_eq_some_iff] at hc
                obtain ⟨p', h1, rfl⟩ := hc
                exact ex_eqNil hop hu' hk hneg (.inr ⟨hn, rfl⟩) h1 hx r he hg
              · cases hc
      split at hc
      · exact key false (.inl ⟨rfl, rfl⟩) hc
      · exact key true (.inr ⟨rfl, rfl⟩) hc
      · cases hc
  case unOp op t y =>
    simp only [Option.map_eq_some_iff] at hc
    obtain ⟨y', h1, rfl⟩ := hc
    exact ex_un hop h1 hx r he hg
  case convert s d y =>
    simp only [Option.bind_eq_some_iff] at hc
    obtain ⟨us, hus, ud, hud, hc⟩ := hc
    split at hc
    · simp only [Option.map_eq_some_iff] at hc
      obtain ⟨y', h1, rfl⟩ := hc
      exact ex_convInt hop hus hud h1 hx r he hg
    · simp only [Option.map_eq_some_iff] at hc
      obtain ⟨y', h1, rfl⟩ := hc
      exact ex_convSS hop hus hud h1 hx r he hg
    · simp only [Option.bind_eq_some_iff] at hc
      obtain ⟨ue, hue, hc⟩ := hc
      split at hc
      · simp only [Option.map_eq_some_iff] at hc
        obtain ⟨y', h1, rfl⟩ := hc
        cases hst
      · cases hc
    · simp only [Option.bind_eq_some_iff] at hc
      obtain ⟨ue, hue, hc⟩ := hc
      split at hc
      · simp only [Option.map_eq_some_iff] at hc
        obtain ⟨y', h1, rfl⟩ := hc
        cases hst
      · cases hc
    · cases hc
  case sliceToArrayPointer t y =>
    simp only [Option.bind_eq_some_iff] at hc
    obtain ⟨u, hu, hc⟩ := hc
    split at hc
    · simp only [Option.bind_eq_some_iff] at hc
      obtain ⟨k, hk, hc⟩ := hc
      split at hc
      · simp only [Option.map_eq_some_iff] at hc
        obtain ⟨y', h1, rfl⟩ := hc
        exact ex_toArr hop hu h1 hx r he hg
      · cases hc
    · cases hc
  case makeFunc fn first caps =>
    simp only [Option.bind_eq_some_iff, Option.map_eq_some_iff] at hc
    obtain ⟨p, h1, q, h2, rfl⟩ := hc
    exact ex_makeFunc hop h1 h2 hx r he hg
  case makeSlice t l c =>
    simp only [Option.bind_eq_some_iff] at hc
    obtain ⟨u, hu, hc⟩ := hc
    split at hc
    · simp only [Option.bind_eq_some_iff] at hc
      obtain ⟨k, hk, z, hz, i, hi, hc⟩ := hc
      split at hc
      · simp only [Option.bind_eq_some_iff, Option.map_eq_some_iff] at hc
        obtain ⟨p, h1, q, h2, rfl⟩ := hc
        cases hst
      · cases hc
    · cases hc
  case slice t y lo hi mx =>
    simp only [Option.bind_eq_some_iff] at hc
    obtain ⟨u, hu, y', h1, lo', h2, hi', h3, mx', h4, hc⟩ := hc
    split at hc
    · cases hc
      exact ex_slice hop hu (.inl ⟨rfl, rfl⟩) h1 h2 h3 h4 hx r he hg
    · simp only [Option.bind_eq_some_iff] at hc
      obtain ⟨k, hk, i, hi2, hc⟩ := hc
      split at hc
      · rename_i hs
        cases hc
        exact ex_slice hop hu (.inr (.inl ⟨_, i, rfl, rfl, hi2, hs⟩)) h1 h2 h3 h4 hx r he hg
      · cases hc
    · simp only [Option.bind_eq_some_iff] at hc
      obtain ⟨k, hk, i, hi2, hc⟩ := hc
      split at hc
      · rename_i hs
        cases hc
        exact ex_slice hop hu (.inr (.inr ⟨_, _, i, rfl, rfl, hi2, hs⟩)) h1 h2 h3 h4 hx r he hg
      · cases hc
    · cases hc
  case fieldAddr t y f =>
    simp only [Option.bind_eq_some_iff] at hc
    obtain ⟨u, hu, hc⟩ := hc
    split at hc
    · simp only [Option.bind_eq_some_iff] at hc
      obtain ⟨fd, hf, i, hi, hc⟩ := hc
      split at hc
      · cases hc
      · rename_i hs
        simp only [Option.map_eq_some_iff] at hc
        obtain ⟨y', h1, rfl⟩ := hc
        exact ex_fieldAddr hop hu hf hi hs h1 hx r he hg
    · cases hc
  case field t y f =>
    simp only [Option.bind_eq_some_iff] at hc
    obtain ⟨u, hu, hc⟩ := hc
    split at hc
    · simp only [Option.bind_eq_some_iff, Option.map_eq_some_iff] at hc
      obtain ⟨fd, hf, k, hk, y', h1, rfl⟩ := hc
      exact ex_field hop hu hf hk h1 hx r he hg
    · cases hc
  case indexAddr t y ix =>
    simp only [Option.bind_eq_some_iff] at hc
    obtain ⟨u, hu, y', h1, ix', h2, hc⟩ := hc
    split at hc
    · simp only [Option.bind_eq_some_iff] at hc
      obtain ⟨k, hk, i, hi, hc⟩ := hc
      split at hc
      · cases hc
        exact ex_indexAddr hop hu (.inl ⟨rfl, rfl⟩) hk h1 h2 hx r he hg
      · cases hc
    · simp only [Option.bind_eq_some_iff] at hc
      obtain ⟨k, hk, i, hi, hc⟩ := hc
      split at hc
      · cases hc
        exact ex_indexAddr hop hu (.inr ⟨_, rfl, rfl⟩) hk h1 h2 hx r he hg
      · cases hc
    · cases hc
  case index t y ix =>
    simp only [Option.bind_eq_some_iff] at hc
    obtain ⟨u, hu, y', h1, ix', h2, hc⟩ := hc
    split at hc
    · cases hc
      exact ex_indexStr hop hu h1 h2 hx r he hg
    · simp only [Option.bind_eq_some_iff] at hc
      obtain ⟨k, hk, i, hi, hc⟩ := hc
      split at hc
      · cases hc
        exact ex_index hop hu hk h1 h2 hx r he hg
      · cases hc
    · cases hc
  case extract t i =>
    simp only [Option.map_eq_some_iff] at hc
    obtain ⟨y', h1, rfl⟩ := hc
    exact ex_extract hop h1 hx r he hg
  case call c =>
    obtain ⟨callee, args, ts⟩ := c
    simp only at hc
    split at hc
    · simp only [Option.bind_eq_some_iff, Option.map_eq_some_iff] at hc
      obtain ⟨f, hf, l, hl, rfl⟩ := hc
      cases hst
    · rename_i b
      have hargs : ∀ l, args.toList = l → args = l.toArray := fun l hl => by rw [← hl]
      simp only [Option.map_eq_some_iff] at hc
      obtain ⟨op0, hc, hvo⟩ := hc
      obtain rfl := vecO_ne hvo (by rintro _ _ _ _ rfl; cases hst)
      clear hvo
      unfold compB at hc
      split at hc
      · rename_i y hy
        obtain rfl := hargs _ hy
        simp only [Option.bind_eq_some_iff] at hc
        obtain ⟨t, ht, u, hu, hc⟩ := hc
        split at hc
        · simp only [Option.map_eq_some_iff] at hc
          obtain ⟨y', h1, rfl⟩ := hc
          exact ex_lenT hop ht hu h1 hx r he hg
        · simp only [Option.map_eq_some_iff] at hc
          obtain ⟨y', h1, rfl⟩ := hc
          exact ex_len hop ht hu h1 hx r he hg
        · simp only [Option.map_eq_some_iff] at hc
          obtain ⟨y', h1, rfl⟩ := hc
          cases hst
        · cases hc
          simp only [aop, evO] at hx
          cases hx
          exact ⟨rfl, ex_lenC hop ht (.inl ⟨_, hu⟩) r⟩
        · simp only [Option.bind_eq_some_iff] at hc
          obtain ⟨u2, hu2, hc⟩ := hc
          split at hc
          · cases hc
            simp only [aop, evO] at hx
            cases hx
            exact ⟨rfl, ex_lenC hop ht (.inr ⟨_, _, hu, hu2⟩) r⟩
          · cases hc
        · cases hc
      · simp only [Option.bind_eq_some_iff] at hc
        obtain ⟨t, ht, tx, htx, u, hu, ux, hux, hc⟩ := hc
        split at hc
        · cases hc
        · simp only [Option.bind_eq_some_iff] at hc
          obtain ⟨k, hk, i, hi, hc⟩ := hc
          split at hc
          · split at hc
            · simp only [Option.bind_eq_some_iff, Option.map_eq_some_iff] at hc
              obtain ⟨s', h1, x', h2, rfl⟩ := hc
              cases hst
            · cases hc
          · cases hc
        · cases hc
      · simp only [Option.bind_eq_some_iff] at hc
        obtain ⟨t, ht, u, hu, hc⟩ := hc
        split at hc
        · simp only [Option.bind_eq_some_iff] at hc
          obtain ⟨k, hk, i, hi, hc⟩ := hc
          split at hc
          · simp only [Option.bind_eq_some_iff, Option.map_eq_some_iff] at hc
            obtain ⟨s', h1, x', h2, rfl⟩ := hc
            cases hst
          · cases hc
        · cases hc
      · simp only [Option.bind_eq_some_iff, Option.map_eq_some_iff] at hc
        obtain ⟨_, _, _, _, _, _, _, _, rfl⟩ := hc
        cases hst
      · rename_i p q hy
        obtain rfl := hargs _ hy
        simp only [Option.bind_eq_some_iff, Option.map_eq_some_iff] at hc
        obtain ⟨p', h1, q', h2, rfl⟩ := hc
        exact ex_minmax hop (.inr ⟨rfl, rfl⟩) h1 h2 hx r he hg
      · rename_i p q hy
        obtain rfl := hargs _ hy
        simp only [Option.bind_eq_some_iff, Option.map_eq_some_iff] at hc
        obtain ⟨p', h1, q', h2, rfl⟩ := hc
        exact ex_minmax hop (.inl ⟨rfl, rfl⟩) h1 h2 hx r he hg
      · cases hc
    · cases hc
  case makeMap t rs =>
    cases rs with
    | none => simp only [Option.some.injEq] at hc; subst hc; cases hst
    | some _ => cases hc
  case lookup t x k ok =>
    simp only [Option.bind_eq_some_iff, Option.map_eq_some_iff] at hc
    obtain ⟨_, _, _, _, _, _, _, _, rfl⟩ := hc
    cases hst
  case mapUpdate t m k x =>
    simp only [Option.bind_eq_some_iff, Option.map_eq_some_iff] at hc
    obtain ⟨_, _, _, _, _, _, _, _, rfl⟩ := hc
    cases hst
  case range t x =>
    simp only [Option.bind_eq_some_iff] at hc
    obtain ⟨u, hu, hc⟩ := hc
    split at hc
    · simp only [Option.map_eq_some_iff] at hc; obtain ⟨_, _, rfl⟩ := hc; cases hst
    · simp only [Option.map_eq_some_iff] at hc; obtain ⟨_, _, rfl⟩ := hc; cases hst
    · cases hc
  case next x str =>
    simp only [Option.map_eq_some_iff] at hc
    obtain ⟨_, _, rfl⟩ := hc
    cases hst
  all_goals cases hc
/-- all operations but calls -/
theorem op_sound {x : AOp} (hc : compOp P E o = some x) (hnc : ∀ f l, x ≠ .call f l) (hx : aop C x e h = some (v, h')) (r : Rel S h B W) (he : EnvR S e a E.nt) (hg : GlobOK E.gl S.imm) : ExOK P o a S h' v B W := by
  by_cases hst : x.still = true
  · exact ExS.ok (op_still hc hst hx r he hg) r
  cases hop : o.op <;> simp only [compOp, hop] at hc
  case move y =>
    split at hc
    · rename_i k heq
      cases hc
      exact ex_acc (.inl hop) rfl hx r
    · simp only [Option.map_eq_some_iff] at hc
      obtain ⟨y', h1, rfl⟩ := hc
      exact absurd rfl hst
  case assign y =>
    split at hc
    · rename_i k heq
      cases hc
      exact ex_acc (.inr hop) rfl hx r
    · simp only [Option.map_eq_some_iff] at hc
      obtain ⟨y', h1, rfl⟩ := hc
      exact absurd rfl hst
  case alloc t =>
    simp only [Option.bind_eq_some_iff] at hc
    obtain ⟨z, h1, h2⟩ := hc
    split at h2
    · rename_i hone
      cases h2
      exact ex_alloc hop h1 hone hx r
    · cases h2
  case box t y =>
    simp only [Option.map_eq_some_iff] at hc
    obtain ⟨y', h1, rfl⟩ := hc
    rcases boxO_or (o.dst.bind fun d => List.lookup d E.accs) y' with hb | hb
    · rw [hb] at hx; exact ex_box hop h1 hx r he hg
    · rw [hb] at hx; exact ex_boxI hop h1 hx r he hg
  case buildSlice t len parts =>
    simp only [Option.bind_eq_some_iff] at hc
    obtain ⟨u, hu, hc⟩ := hc
    split at hc
    · simp only [Option.bind_eq_some_iff] at hc
      obtain ⟨k, hk, z, hz, i, hi, hc⟩ := hc
      split at hc
      · rename_i hcond
        simp only [Option.map_eq_some_iff] at hc
        obtain ⟨ps, h1, rfl⟩ := hc
        obtain ⟨i', f1, f2, f3⟩ := kOf_size hk
        exact ex_buildSlice hop hu (by omega) hz hi hcond.1 hcond.2.1 hcond.2.2 h1 hx r he hg
      · cases hc
    · cases hc
  case load t y =>
    simp only [Option.bind_eq_some_iff, Option.map_eq_some_iff] at hc
    obtain ⟨k, hk, y', h1, rfl⟩ := hc
    exact ExR.ok (ex_load hop hk h1 hx r he hg) r
  case store t y z =>
    simp only [Option.bind_eq_some_iff, Option.map_eq_some_iff] at hc
    obtain ⟨i, hi, y', h1, z', h2, rfl⟩ := hc
    exact ex_store hop hi h1 h2 hx r he hg
  case convert s d y =>
    simp only [Option.bind_eq_some_iff] at hc
    obtain ⟨us, hus, ud, hud, hc⟩ := hc
    split at hc
    · simp only [Option.map_eq_some_iff] at hc
      obtain ⟨y', h1, rfl⟩ := hc
      exact absurd rfl hst
    · simp only [Option.map_eq_some_iff] at hc
      obtain ⟨y', h1, rfl⟩ := hc
      exact absurd rfl hst
    · simp only [Option.bind_eq_some_iff] at hc
      obtain ⟨ue, hue, hc⟩ := hc
      split at hc
      · simp only [Option.map_eq_some_iff] at hc
        obtain ⟨y', h1, rfl⟩ := hc
        exact ex_convBytes hop hus hud hue h1 hx r he hg
      · cases hc
    · simp only [Option.bind_eq_some_iff] at hc
      obtain ⟨ue, hue, hc⟩ := hc
      split at hc
      · simp only [Option.map_eq_some_iff] at hc
        obtain ⟨y', h1, rfl⟩ := hc
        exact ExR.ok (ex_convStr hop hus hue hud h1 hx r he hg) r
      · cases hc
    · cases hc
  case makeSlice t l c =>
    simp only [Option.bind_eq_some_iff] at hc
    obtain ⟨u, hu, hc⟩ := hc
    split at hc
    · simp only [Option.bind_eq_some_iff] at hc
      obtain ⟨k, hk, z, hz, i, hi, hc⟩ := hc
      split at hc
      · rename_i hcond
        simp only [Option.bind_eq_some_iff, Option.map_eq_some_iff] at hc
        obtain ⟨p, h1, q, h2, rfl⟩ := hc
        obtain ⟨i', f1, f2, f3⟩ := kOf_size hk
        have hz' : i.zero = some z := by simp only [zeroOf, Option.bind_eq_some_iff] at hz; obtain ⟨j, hj, hz⟩ := hz; rw [hi] at hj; cases hj; exact hz
        exact ex_makeSlice hop hu (by omega) hi hz' hcond.1 hcond.2.1 hcond.2.2 h1 h2 hx r he hg
      · cases hc
    · cases hc
  case call c =>
    obtain ⟨callee, args, ts⟩ := c
    simp only at hc
    split at hc
    · simp only [Option.bind_eq_some_iff, Option.map_eq_some_iff] at hc
      obtain ⟨f, hf, l, hl, rfl⟩ := hc
      exact absurd rfl (hnc _ _)
    · rename_i b
      have hargs : ∀ l, args.toList = l → args = l.toArray := fun l hl => by rw [← hl]
      simp only [Option.map_eq_some_iff] at hc
      obtain ⟨op0, hc, hvo⟩ := hc
      rcases vecO_or (o.dst.bind fun d => List.lookup d E.accs) op0 with hv0 | ⟨k, bb, s0, x0, rfl, hv0⟩
      rotate_left
      · rw [hvo] at hv0
        subst hv0
        obtain ⟨rfl, s, y, t, tx, el, ux, i, z, hy, g1, g2, g3, g4, g5, g6, g7, g8, g9, g10, g11, rfl⟩ := compB_append hc
        obtain rfl := hargs _ hy
        obtain ⟨i', f1, f2, f3⟩ := kOf_size g6
        exact ex_appendV hop g1 g2 g3 g4 g5 (by omega) g7 g8 g9.1 g9.2.1 g9.2.2.1 g9.2.2.2 g10 g11 hx r he hg
      rw [hvo] at hv0
      subst hv0
      clear hvo
      unfold compB at hc
      split at hc
      · rename_i y hy
        simp only [Option.bind_eq_some_iff] at hc
        obtain ⟨t, ht, u, hu, hc⟩ := hc
        split at hc
        · simp only [Option.map_eq_some_iff] at hc; obtain ⟨y', h1, rfl⟩ := hc; exact absurd rfl hst
        · simp only [Option.map_eq_some_iff] at hc; obtain ⟨y', h1, rfl⟩ := hc; exact absurd rfl hst
        · simp only [Option.map_eq_some_iff] at hc
          obtain ⟨y', h1, rfl⟩ := hc
          obtain rfl := hargs _ hy
          exact ExR.ok (ex_lenM hop ht hu h1 hx r he hg) r
        · cases hc; exact absurd rfl hst
        · simp only [Option.bind_eq_some_iff] at hc
          obtain ⟨u2, hu2, hc⟩ := hc
          split at hc
          · cases hc; exact absurd rfl hst
          · cases hc
        · cases hc
      · rename_i p q hy
        obtain rfl := hargs _ hy
        simp only [Option.bind_eq_some_iff] at hc
        obtain ⟨t, ht, tx, htx, u, hu, ux, hux, hc⟩ := hc
        split at hc
        · cases hc
        · rename_i el hni
          simp only [Option.bind_eq_some_iff] at hc
          obtain ⟨k, hk, i, hi, hc⟩ := hc
          split at hc
          · rename_i z hz
            split at hc
            · rename_i hcond
              simp only [Option.bind_eq_some_iff, Option.map_eq_some_iff] at hc
              obtain ⟨s', h1, x', h2, rfl⟩ := hc
              obtain ⟨i', f1, f2, f3⟩ := kOf_size hk
              exact ex_append hop ht htx hu hux (fun d hd => hni d hd) (by omega) hi hz hcond.1 hcond.2.1 hcond.2.2.1 hcond.2.2.2 h1 h2 hx r he hg
            · cases hc
          · cases hc
        · cases hc
      · rename_i p q hy
        obtain rfl := hargs _ hy
        simp only [Option.bind_eq_some_iff] at hc
        obtain ⟨t, ht, u, hu, hc⟩ := hc
        split at hc
        · simp only [Option.bind_eq_some_iff] at hc
          obtain ⟨k, hk, i, hi, hc⟩ := hc
          split at hc
          · rename_i hs
            simp only [Option.bind_eq_some_iff, Option.map_eq_some_iff] at hc
            obtain ⟨s', h1, x', h2, rfl⟩ := hc
            exact ex_copy hop ht hu hi hs h1 h2 hx r he hg
          · cases hc
        · cases hc
      · rename_i p q hy
        obtain rfl := hargs _ hy
        simp only [Option.bind_eq_some_iff, Option.map_eq_some_iff, Prod.exists] at hc
        obtain ⟨t, ht, st, ks, et, hk, m', h1, k', h2, rfl⟩ := hc
        exact ex_mapDel hop ht hk h1 h2 hx r he hg
      · simp only [Option.bind_eq_some_iff, Option.map_eq_some_iff] at hc
        obtain ⟨p', h1, q', h2, rfl⟩ := hc
        exact absurd rfl hst
      · simp only [Option.bind_eq_some_iff, Option.map_eq_some_iff] at hc
        obtain ⟨p', h1, q', h2, rfl⟩ := hc
        exact absurd rfl hst
      · cases hc
    · cases hc
  case makeMap t rs =>
    cases rs with
    | none => simp only [Option.some.injEq] at hc; subst hc; exact ex_mkMap hop hx r
    | some _ => cases hc
  case lookup t x k ok =>
    simp only [Option.bind_eq_some_iff, Option.map_eq_some_iff, Prod.exists] at hc
    obtain ⟨st, ks, et, hk, z, hz, x', h1, k', h2, rfl⟩ := hc
    exact ExR.ok (ex_lookup hop hk hz h1 h2 hx r he hg) r
  case mapUpdate t m k x =>
    simp only [Option.bind_eq_some_iff, Option.map_eq_some_iff, Prod.exists] at hc
    obtain ⟨st, ks, et, hk, m', h1, k', h2, x', h3, rfl⟩ := hc
    exact ex_mapSet hop hk h1 h2 h3 hx r he hg
  case range t x =>
    simp only [Option.bind_eq_some_iff] at hc
    obtain ⟨u, hu, hc⟩ := hc
    split at hc
    · simp only [Option.map_eq_some_iff] at hc
      obtain ⟨x', h1, rfl⟩ := hc
      exact ex_range hop (.inl ⟨rfl, hu⟩) h1 hx r he hg
    · simp only [Option.map_eq_some_iff] at hc
      obtain ⟨x', h1, rfl⟩ := hc
      exact ex_range hop (.inr ⟨rfl, _, _, hu⟩) h1 hx r he hg
    · cases hc
  case next x str =>
    simp only [Option.map_eq_some_iff] at hc
    obtain ⟨x', h1, rfl⟩ := hc
    exact ex_next hop h1 hx r he hg
  -- the rest is still
  case pick c p q => simp only [Option.bind_eq_some_iff, Option.map_eq_some_iff] at hc; obtain ⟨c', h1, p', h2, q', h3, rfl⟩ := hc; exact absurd rfl hst
  case nilCheck y => simp only [Option.map_eq_some_iff] at hc; obtain ⟨y', h1, rfl⟩ := hc; exact absurd rfl hst
  case unOp op t y => simp only [Option.map_eq_some_iff] at hc; obtain ⟨y', h1, rfl⟩ := hc; exact absurd rfl hst
  case extract t i => simp only [Option.map_eq_some_iff] at hc; obtain ⟨y', h1, rfl⟩ := hc; exact absurd rfl hst
  case makeFunc fn first caps => simp only [Option.bind_eq_some_iff, Option.map_eq_some_iff] at hc; obtain ⟨p, h1, q, h2, rfl⟩ := hc; exact absurd rfl hst
  case build t parts =>
    simp only [Option.bind_eq_some_iff] at hc
    obtain ⟨z, hz, u, hu, hc⟩ := hc
    split at hc
    · split at hc
      · simp only [Option.map_eq_some_iff] at hc; obtain ⟨ps, h1, rfl⟩ := hc; exact absurd rfl hst
      · cases hc
    · simp only [Option.bind_eq_some_iff, Option.map_eq_some_iff] at hc; obtain ⟨i, hi, ps, h1, rfl⟩ := hc; exact absurd rfl hst
    · cases hc
  case binOp op t p q ty =>
    simp only [Option.bind_eq_some_iff] at hc
    obtain ⟨u, hu, hc⟩ := hc
    split at hc
    · simp only [Option.bind_eq_some_iff, Option.map_eq_some_iff] at hc; obtain ⟨p', h1, q', h2, rfl⟩ := hc; exact absurd rfl hst
    · have key : ∀ neg, compEq P E neg t p q ≠ some x := by
        intro neg hc
        simp only [compEq, Option.bind_eq_some_iff] at hc
        obtain ⟨u', hu', hc⟩ := hc
        split at hc
        · simp only [Option.bind_eq_some_iff, Option.map_eq_some_iff] at hc; obtain ⟨p', h1, q', h2, rfl⟩ := hc; exact absurd rfl hst
        · simp only [Option.bind_eq_some_iff] at hc
          obtain ⟨ue, hue, i, hi, hc⟩ := hc
          split at hc
          · split at hc
            · simp only [Option.bind_eq_some_iff, Option.map_eq_some_iff] at hc; obtain ⟨p', h1, q', h2, rfl⟩ := hc; exact absurd rfl hst
            · cases hc
          · cases hc
        · split at hc
          · simp only [Option.bind_eq_some_iff, Option.map_eq_some_iff] at hc; obtain ⟨ks, hl, p', h1, q', h2, rfl⟩ := hc; exact absurd rfl hst
          · simp only [Option.bind_eq_some_iff] at hc
            obtain ⟨k, hk, hc⟩ := hc
            split at hc
            · simp only [Option.map_eq_some_iff] at hc; obtain ⟨p', h1, rfl⟩ := hc; exact absurd rfl hst
            · split at hc
              · simp only [Option.map_eq_some_iff] at hc; obtain ⟨p', h1, rfl⟩ := hc; exact absurd rfl hst
              · cases hc
      split at hc
      · exact absurd hc (key _)
      · exact absurd hc (key _)
      · cases hc
  case sliceToArrayPointer t y =>
    simp only [Option.bind_eq_some_iff] at hc
    obtain ⟨u, hu, hc⟩ := hc
    split at hc
    · simp only [Option.bind_eq_some_iff] at hc
      obtain ⟨k, hk, hc⟩ := hc
      split at hc
      · simp only [Option.map_eq_some_iff] at hc; obtain ⟨y', h1, rfl⟩ := hc; exact absurd rfl hst
      · cases hc
    · cases hc
  case slice t y lo hi mx =>
    simp only [Option.bind_eq_some_iff] at hc
    obtain ⟨u, hu, y', h1, lo', h2, hi', h3, mx', h4, hc⟩ := hc
    split at hc
    · cases hc; exact absurd rfl hst
    · simp only [Option.bind_eq_some_iff] at hc
      obtain ⟨k, hk, i, hi2, hc⟩ := hc
      split at hc <;> cases hc
      exact absurd rfl hst
    · simp only [Option.bind_eq_some_iff] at hc
      obtain ⟨k, hk, i, hi2, hc⟩ := hc
      split at hc <;> cases hc
      exact absurd rfl hst
    · cases hc
  case fieldAddr t y f =>
    simp only [Option.bind_eq_some_iff] at hc
    obtain ⟨u, hu, hc⟩ := hc
    split at hc
    · simp only [Option.bind_eq_some_iff] at hc
      obtain ⟨fd, hf, i, hi, hc⟩ := hc
      split at hc
      · cases hc
      · simp only [Option.map_eq_some_iff] at hc; obtain ⟨y', h1, rfl⟩ := hc; exact absurd rfl hst
    · cases hc
  case field t y f =>
    simp only [Option.bind_eq_some_iff] at hc
    obtain ⟨u, hu, hc⟩ := hc
    split at hc
    · simp only [Option.bind_eq_some_iff, Option.map_eq_some_iff] at hc; obtain ⟨fd, hf, k, hk, y', h1, rfl⟩ := hc; exact absurd rfl hst
    · cases hc
  case indexAddr t y ix =>
    simp only [Option.bind_eq_some_iff] at hc
    obtain ⟨u, hu, y', h1, ix', h2, hc⟩ := hc
    split at hc
    · simp only [Option.bind_eq_some_iff] at hc
      obtain ⟨k, hk, i, hi, hc⟩ := hc
      split at hc <;> cases hc
      exact absurd rfl hst
    · simp only [Option.bind_eq_some_iff] at hc
      obtain ⟨k, hk, i, hi, hc⟩ := hc
      split at hc <;> cases hc
      exact absurd rfl hst
    · cases hc
  case index t y ix =>
    simp only [Option.bind_eq_some_iff] at hc
    obtain ⟨u, hu, y', h1, ix', h2, hc⟩ := hc
    split at hc
    · cases hc; exact absurd rfl hst
    · simp only [Option.bind_eq_some_iff] at hc
      obtain ⟨k, hk, i, hi, hc⟩ := hc
      split at hc <;> cases hc
      exact absurd rfl hst
    · cases hc
  all_goals cases hc
end
end Go.Proofs.Ytipbmacpenmgoaa.AM

/- Regions, calls and code: what the plain machine does the model does. -/
namespace Go.Proofs.Ytipbmacpenmgoaa.AM
open Go Go.RowKit
set_option linter.unusedVariables false
set_option linter.unusedSimpArgs false
theorem bS {α β : Type} {x : Option α} {f : α → Option β} {b : β} : x.bind f = some b ↔ ∃ a, x = some a ∧ f a = some b := Option.bind_eq_some_iff
theorem mS {α β : Type} {x : Option α} {f : α → β} {b : β} : x.map f = some b ↔ ∃ a, x = some a ∧ f a = b := Option.map_eq_some_iff
mutual
/-- the one value that a rigid value stands for -/
def conc : AV → Value
  | .sc v => v
  | .agg cs => .agg (concL cs).toArray
  | .tup cs => .tuple (concL cs).toArray
  | _ => Go.undef
def concL : List AV → List Value
  | [] => []
  | x :: xs => conc x :: concL xs
end
mutual
theorem conc_eq {S : St} : ∀ (x : AV) {u : Value}, rigid x = true → V S x u → u = conc x
  | .sc v, u, _, h => by simpa only [V, conc] using h
  | .agg cs, u, hr, h => by
    simp only [V, rigid, conc] at *
    obtain ⟨a, rfl, h2⟩ := h
    rw [← conc_eqL cs hr h2]
  | .tup cs, u, hr, h => by
    simp only [V, rigid, conc] at *
    obtain ⟨a, rfl, h2⟩ := h
    rw [← conc_eqL cs hr h2]
  | .unk, u, hr, h => by simp [rigid] at hr
  | .ptr i f, u, hr, h => by simp [rigid] at hr
  | .ref c, u, hr, h => by simp [rigid] at hr
  | .slice w q l, u, hr, h => by simp [rigid] at hr
  | .ms i f q l, u, hr, h => by simp [rigid] at hr
  | .func f x y, u, hr, h => by simp [rigid] at hr
  | .map i, u, hr, h => by simp [rigid] at hr
theorem conc_eqL {S : St} : ∀ (x : List AV) {u : List Value}, rigidL x = true → VL S x u → u = concL x
  | [], u, _, h => by simpa only [VL, concL] using h
  | x :: xs, u, hr, h => by
    simp only [VL, rigidL, concL, Bool.and_eq_true] at *
    obtain ⟨b, l, rfl, h2, h3⟩ := h
    rw [conc_eq x hr.1 h2, conc_eqL xs hr.2 h3]
end
mutual
theorem rigid_V {S : St} : ∀ (x : AV), rigid x = true → V S x (conc x)
  | .sc v, _ => by simp only [V, conc]
  | .agg cs, hr => by simp only [V, conc, rigid] at *; exact ⟨_, rfl, by simpa using rigid_VL cs hr⟩
  | .tup cs, hr => by simp only [V, conc, rigid] at *; exact ⟨_, rfl, by simpa using rigid_VL cs hr⟩
  | .unk, hr => by simp [rigid] at hr
  | .ptr i f, hr => by simp [rigid] at hr
  | .ref c, hr => by simp [rigid] at hr
  | .slice w q l, hr => by simp [rigid] at hr
  | .ms i f q l, hr => by simp [rigid] at hr
  | .func f x y, hr => by simp [rigid] at hr
  | .map i, hr => by simp [rigid] at hr
theorem rigid_VL {S : St} : ∀ (x : List AV), rigidL x = true → VL S x (concL x)
  | [], _ => by simp only [VL, concL]
  | x :: xs, hr => by simp only [VL, rigidL, concL, Bool.and_eq_true] at *; exact ⟨_, _, rfl, rigid_V x hr.1, rigid_VL xs hr.2⟩
end
def Callable (P : Program) (f : Nat) : Prop := ∃ fn, P.funcs[f]? = some fn ∧ (fn.name == "runtime.NumGoroutine") = false ∧ fn.body.isNone = false
def GPost (S : St) (h' : Heap) (v : AV) (B : Nat) (W : World) (e : Ending) (W' : World) : Prop := ∃ u S', e = .returned u ∧ Ext S S' ∧ Rel S' h' B W' ∧ V S' v u ∧ Below B W W'
def QPost (v : AV) (W : World) (e : Ending) (W' : World) : Prop := ∃ u S', e = .returned u ∧ V S' v u ∧ Below W.heap.size W W'
structure ClOK (P : Program) (gl : Nat → Option (List Value)) (C : Cl) : Prop where
  call : ∀ f args h v h', C.call f args h = some (v, h') → Callable P f ∧ ∀ (S : St) (B : Nat) (W : World) (cargs : Array Value), Rel S h B W → VL S args cargs.toList → GlobOK gl S.imm → Calls P f cargs W (GPost S h' v B W)
  quiet : ∀ f args h v h', C.pure f = true → C.call f args h = some (v, h') → ∀ (S : St) (B : Nat) (W : World) (cargs : Array Value), Rel S h B W → VL S args cargs.toList → GlobOK gl S.imm → Calls P f cargs W (QPost v W)
section
variable {P : Program} {E : Env0} {o : Oper} {C : Cl} {e : Env} {h h' : Heap} {v : AV} {S : St} {B : Nat} {W : World} {a : Act}
theorem run_call {f : Operand} {args : Array Operand} {ts : Array TypeId} (hop : o.op = .call { callee := .value f, args := args, argTypes := ts }) {g : Nat} {first caps : Array Value} (hf : a.eval f = .func (.func g) first caps) (hc : Callable P g) (W : World) :
    (execOp a.eval o).run P W = .ok (.enter g (first ++ args.map a.eval ++ caps)) W := by
  obtain ⟨fn, h1, h2, h3⟩ := hc
  simp only [execOp, hop, resolve, Deferred.ofValue, hf, Sem.run_bind, Sem.run_pure, Result.andThen_ok, invoke, callFunc, run_program, h1, h2, h3, Bool.false_eq_true, if_false]
/-- what a call is, as an operation -/
theorem comp_call {x : AOp} {f : Opd} {l : List Opd} (hc : compOp P E o = some x) (hx : x = .call f l) : ∃ f0 args ts, o.op = .call { callee := .value f0, args := args, argTypes := ts } ∧ compO E f0 = some f ∧ compL E args.toList = some l := by
  subst hx
  cases hop : o.op <;> simp only [compOp, hop] at hc
  case call c =>
    obtain ⟨callee, args, ts⟩ := c
    simp only at hc
    split at hc
    · rename_i f0
      simp only [Option.bind_eq_some_iff, Option.map_eq_some_iff] at hc
      obtain ⟨f', hf, l', hl, hh⟩ := hc
      cases hh
      exact ⟨f0, args, ts, rfl, hf, hl⟩
    · exfalso
      simp only [Option.map_eq_some_iff] at hc
      obtain ⟨op0, hc, hvo⟩ := hc
      obtain rfl := vecO_ne hvo (by intros; simp)
      clear hvo
      unfold compB at hc
      split at hc
      · simp only [Option.bind_eq_some_iff] at hc
        obtain ⟨t, ht, u, hu, hc⟩ := hc
        split at hc
        · (first | (cases hc; done) | (simp only [bS, mS] at hc; repeat (first | (cases hc; done) | obtain ⟨_, hc⟩ := hc)))
        · (first | (cases hc; done) | (simp only [bS, mS] at hc; repeat (first | (cases hc; done) | obtain ⟨_, hc⟩ := hc)))
        · (first | (cases hc; done) | (simp only [bS, mS] at hc; repeat (first | (cases hc; done) | obtain ⟨_, hc⟩ := hc)))
        · cases hc
        · simp only [Option.bind_eq_some_iff] at hc
          obtain ⟨u2, hu2, hc⟩ := hc
          split at hc <;> cases hc
        · cases hc
      · simp only [Option.bind_eq_some_iff] at hc
        obtain ⟨t, ht, tx, htx, u, hu, ux, hux, hc⟩ := hc
        split at hc
        · cases hc
        · simp only [Option.bind_eq_some_iff] at hc
          obtain ⟨k, hk, i, hi, hc⟩ := hc
          split at hc
          · split at hc
            · (first | (cases hc; done) | (simp only [bS, mS] at hc; repeat (first | (cases hc; done) | obtain ⟨_, hc⟩ := hc)))
            · cases hc
          · cases hc
        · cases hc
      · simp only [Option.bind_eq_some_iff] at hc
        obtain ⟨t, ht, u, hu, hc⟩ := hc
        split at hc
        · simp only [Option.bind_eq_some_iff] at hc
          obtain ⟨k, hk, i, hi, hc⟩ := hc
          split at hc
          · (first | (cases hc; done) | (simp only [bS, mS] at hc; repeat (first | (cases hc; done) | obtain ⟨_, hc⟩ := hc)))
          · cases hc
        · cases hc
      · (first | (cases hc; done) | (simp only [bS, mS] at hc; repeat (first | (cases hc; done) | obtain ⟨_, hc⟩ := hc)))
      · (first | (cases hc; done) | (simp only [bS, mS] at hc; repeat (first | (cases hc; done) | obtain ⟨_, hc⟩ := hc)))
      · (first | (cases hc; done) | (simp only [bS, mS] at hc; repeat (first | (cases hc; done) | obtain ⟨_, hc⟩ := hc)))
      · cases hc
    · cases hc
  case move y => split at hc <;> (first | (cases hc; done) | (simp only [bS, mS] at hc; repeat (first | (cases hc; done) | obtain ⟨_, hc⟩ := hc)))
  case assign y => split at hc <;> (first | (cases hc; done) | (simp only [bS, mS] at hc; repeat (first | (cases hc; done) | obtain ⟨_, hc⟩ := hc)))
  case pick c p q => (first | (cases hc; done) | (simp only [bS, mS] at hc; repeat (first | (cases hc; done) | obtain ⟨_, hc⟩ := hc)))
  case alloc t => simp only [Option.bind_eq_some_iff] at hc; obtain ⟨z, h1, h2⟩ := hc; split at h2 <;> cases h2
  case box t y => simp only [Option.map_eq_some_iff] at hc; obtain ⟨y', _, hc⟩ := hc; rcases boxO_or (o.dst.bind fun d => List.lookup d E.accs) y' with hb | hb <;> rw [hb] at hc <;> cases hc
  case build t parts =>
    simp only [Option.bind_eq_some_iff] at hc
    obtain ⟨z, hz, u, hu, hc⟩ := hc
    split at hc
    · split at hc <;> (first | (cases hc; done) | (simp only [bS, mS] at hc; repeat (first | (cases hc; done) | obtain ⟨_, hc⟩ := hc)))
    · (first | (cases hc; done) | (simp only [bS, mS] at hc; repeat (first | (cases hc; done) | obtain ⟨_, hc⟩ := hc)))
    · cases hc
  case buildSlice t len parts =>
    simp only [Option.bind_eq_some_iff] at hc
    obtain ⟨u, hu, hc⟩ := hc
    split at hc
    · simp only [Option.bind_eq_some_iff] at hc
      obtain ⟨k, hk, z, hz, i, hi, hc⟩ := hc
      split at hc <;> (first | (cases hc; done) | (simp only [bS, mS] at hc; repeat (first | (cases hc; done) | obtain ⟨_, hc⟩ := hc)))
    · cases hc
  case load t y => (first | (cases hc; done) | (simp only [bS, mS] at hc; repeat (first | (cases hc; done) | obtain ⟨_, hc⟩ := hc)))
  case store t y z => (first | (cases hc; done) | (simp only [bS, mS] at hc; repeat (first | (cases hc; done) | obtain ⟨_, hc⟩ := hc)))
  case nilCheck y => (first | (cases hc; done) | (simp only [bS, mS] at hc; repeat (first | (cases hc; done) | obtain ⟨_, hc⟩ := hc)))
  case binOp op t p q ty =>
    simp only [Option.bind_eq_some_iff] at hc
    obtain ⟨u, hu, hc⟩ := hc
    split at hc
    · (first | (cases hc; done) | (simp only [bS, mS] at hc; repeat (first | (cases hc; done) | obtain ⟨_, hc⟩ := hc)))
    · have key : ∀ neg, compEq P E neg t p q ≠ some (.call f l) := by
        intro neg hc
        simp only [compEq, Option.bind_eq_some_iff] at hc
        obtain ⟨u', hu', hc⟩ := hc
        split at hc
        · (first | (cases hc; done) | (simp only [bS, mS] at hc; repeat (first | (cases hc; done) | obtain ⟨_, hc⟩ := hc)))
        · simp only [Option.bind_eq_some_iff] at hc
          obtain ⟨ue, hue, i, hi, hc⟩ := hc
          split at hc
          · split at hc <;> (first | (cases hc; done) | (simp only [bS, mS] at hc; repeat (first | (cases hc; done) | obtain ⟨_, hc⟩ := hc)))
          · cases hc
        · split at hc
          · simp only [Option.bind_eq_some_iff, Option.map_eq_some_iff] at hc; obtain ⟨_, _, _, _, _, _, hc⟩ := hc; cases hc
          simp only [Option.bind_eq_some_iff] at hc
          obtain ⟨k, hk, hc⟩ := hc
          split at hc
          · (first | (cases hc; done) | (simp only [bS, mS] at hc; repeat (first | (cases hc; done) | obtain ⟨_, hc⟩ := hc)))
          · split at hc <;> (first | (cases hc; done) | (simp only [bS, mS] at hc; repeat (first | (cases hc; done) | obtain ⟨_, hc⟩ := hc)))
      split at hc
      · exact absurd hc (key _)
      · exact absurd hc (key _)
      · cases hc
  case unOp op t y => (first | (cases hc; done) | (simp only [bS, mS] at hc; repeat (first | (cases hc; done) | obtain ⟨_, hc⟩ := hc)))
  case convert s d y =>
    simp only [Option.bind_eq_some_iff] at hc
    obtain ⟨us, hus, ud, hud, hc⟩ := hc
    split at hc
    · (first | (cases hc; done) | (simp only [bS, mS] at hc; repeat (first | (cases hc; done) | obtain ⟨_, hc⟩ := hc)))
    · (first | (cases hc; done) | (simp only [bS, mS] at hc; repeat (first | (cases hc; done) | obtain ⟨_, hc⟩ := hc)))
    · simp only [Option.bind_eq_some_iff] at hc
      obtain ⟨ue, hue, hc⟩ := hc
      split at hc <;> (first | (cases hc; done) | (simp only [bS, mS] at hc; repeat (first | (cases hc; done) | obtain ⟨_, hc⟩ := hc)))
    · simp only [Option.bind_eq_some_iff] at hc
      obtain ⟨ue, hue, hc⟩ := hc
      split at hc <;> (first | (cases hc; done) | (simp only [bS, mS] at hc; repeat (first | (cases hc; done) | obtain ⟨_, hc⟩ := hc)))
    · cases hc
  case sliceToArrayPointer t y =>
    simp only [Option.bind_eq_some_iff] at hc
    obtain ⟨u, hu, hc⟩ := hc
    split at hc
    · simp only [Option.bind_eq_some_iff] at hc
      obtain ⟨k, hk, hc⟩ := hc
      split at hc <;> (first | (cases hc; done) | (simp only [bS, mS] at hc; repeat (first | (cases hc; done) | obtain ⟨_, hc⟩ := hc)))
    · cases hc
  case makeFunc fn first caps => (first | (cases hc; done) | (simp only [bS, mS] at hc; repeat (first | (cases hc; done) | obtain ⟨_, hc⟩ := hc)))
  case makeSlice t l' c =>
    simp only [Option.bind_eq_some_iff] at hc
    obtain ⟨u, hu, hc⟩ := hc
    split at hc
    · simp only [Option.bind_eq_some_iff] at hc
      obtain ⟨k, hk, z, hz, i, hi, hc⟩ := hc
      split at hc <;> (first | (cases hc; done) | (simp only [bS, mS] at hc; repeat (first | (cases hc; done) | obtain ⟨_, hc⟩ := hc)))
    · cases hc
  case slice t y lo hi mx =>
    simp only [Option.bind_eq_some_iff] at hc
    obtain ⟨u, hu, y', h1, lo', h2, hi', h3, mx', h4, hc⟩ := hc
    split at hc
    · cases hc
    · simp only [Option.bind_eq_some_iff] at hc
      obtain ⟨k, hk, i, hi2, hc⟩ := hc
      split at hc <;> cases hc
    · simp only [Option.bind_eq_some_iff] at hc
      obtain ⟨k, hk, i, hi2, hc⟩ := hc
      split at hc <;> cases hc
    · cases hc
  case fieldAddr t y q =>
    simp only [Option.bind_eq_some_iff] at hc
    obtain ⟨u, hu, hc⟩ := hc
    split at hc
    · simp only [Option.bind_eq_some_iff] at hc
      obtain ⟨fd, hf, i, hi, hc⟩ := hc
      split at hc <;> (first | (cases hc; done) | (simp only [bS, mS] at hc; repeat (first | (cases hc; done) | obtain ⟨_, hc⟩ := hc)))
    · cases hc
  case field t y q =>
    simp only [Option.bind_eq_some_iff] at hc
    obtain ⟨u, hu, hc⟩ := hc
    split at hc
    · (first | (cases hc; done) | (simp only [bS, mS] at hc; repeat (first | (cases hc; done) | obtain ⟨_, hc⟩ := hc)))
    · cases hc
  case indexAddr t y ix =>
    simp only [Option.bind_eq_some_iff] at hc
    obtain ⟨u, hu, y', h1, ix', h2, hc⟩ := hc
    split at hc
    · simp only [Option.bind_eq_some_iff] at hc
      obtain ⟨k, hk, i, hi, hc⟩ := hc
      split at hc <;> cases hc
    · simp only [Option.bind_eq_some_iff] at hc
      obtain ⟨k, hk, i, hi, hc⟩ := hc
      split at hc <;> cases hc
    · cases hc
  case index t y ix =>
    simp only [Option.bind_eq_some_iff] at hc
    obtain ⟨u, hu, y', h1, ix', h2, hc⟩ := hc
    split at hc
    · cases hc
    · simp only [Option.bind_eq_some_iff] at hc
      obtain ⟨k, hk, i, hi, hc⟩ := hc
      split at hc <;> cases hc
    · cases hc
  case extract t i => (first | (cases hc; done) | (simp only [bS, mS] at hc; repeat (first | (cases hc; done) | obtain ⟨_, hc⟩ := hc)))
  case makeMap t rs => cases rs <;> cases hc
  case lookup t x k ok => (first | (cases hc; done) | (simp only [bS, mS] at hc; repeat (first | (cases hc; done) | obtain ⟨_, hc⟩ := hc)))
  case mapUpdate t m k x => (first | (cases hc; done) | (simp only [bS, mS] at hc; repeat (first | (cases hc; done) | obtain ⟨_, hc⟩ := hc)))
  case range t x =>
    simp only [Option.bind_eq_some_iff] at hc
    obtain ⟨u, hu, hc⟩ := hc
    split at hc
    · (first | (cases hc; done) | (simp only [bS, mS] at hc; repeat (first | (cases hc; done) | obtain ⟨_, hc⟩ := hc)))
    · (first | (cases hc; done) | (simp only [bS, mS] at hc; repeat (first | (cases hc; done) | obtain ⟨_, hc⟩ := hc)))
    · cases hc
  case next x str => (first | (cases hc; done) | (simp only [bS, mS] at hc; repeat (first | (cases hc; done) | obtain ⟨_, hc⟩ := hc)))
  all_goals cases hc
theorem comp_load {x : AOp} {k : Option Nat} {f : Opd} (hc : compOp P E o = some x) (hx : x = .load k f) : ∃ t y, o.op = .load t y ∧ kOf P t = some k ∧ compO E y = some f := by
  subst hx
  cases hop : o.op <;> simp only [compOp, hop] at hc
  case call c =>
    obtain ⟨callee, args, ts⟩ := c
    simp only at hc
    split at hc
    · (first | (cases hc; done) | (simp only [bS, mS] at hc; repeat (first | (cases hc; done) | obtain ⟨_, hc⟩ := hc)))
    · exfalso
      simp only [Option.map_eq_some_iff] at hc
      obtain ⟨op0, hc, hvo⟩ := hc
      obtain rfl := vecO_ne hvo (by intros; simp)
      clear hvo
      unfold compB at hc
      split at hc
      · simp only [Option.bind_eq_some_iff] at hc
        obtain ⟨t, ht, u, hu, hc⟩ := hc
        split at hc
        · (first | (cases hc; done) | (simp only [bS, mS] at hc; repeat (first | (cases hc; done) | obtain ⟨_, hc⟩ := hc)))
        · (first | (cases hc; done) | (simp only [bS, mS] at hc; repeat (first | (cases hc; done) | obtain ⟨_, hc⟩ := hc)))
        · (first | (cases hc; done) | (simp only [bS, mS] at hc; repeat (first | (cases hc; done) | obtain ⟨_, hc⟩ := hc)))
        · cases hc
        · simp only [Option.bind_eq_some_iff] at hc
          obtain ⟨u2, hu2, hc⟩ := hc
          split at hc <;> cases hc
        · cases hc
      · simp only [Option.bind_eq_some_iff] at hc
        obtain ⟨t, ht, tx, htx, u, hu, ux, hux, hc⟩ := hc
        split at hc
        · cases hc
        · simp only [Option.bind_eq_some_iff] at hc
          obtain ⟨k, hk, i, hi, hc⟩ := hc
          split at hc
          · split at hc
            · (first | (cases hc; done) | (simp only [bS, mS] at hc; repeat (first | (cases hc; done) | obtain ⟨_, hc⟩ := hc)))
            · cases hc
          · cases hc
        · cases hc
      · simp only [Option.bind_eq_some_iff] at hc
        obtain ⟨t, ht, u, hu, hc⟩ := hc
        split at hc
        · simp only [Option.bind_eq_some_iff] at hc
          obtain ⟨k, hk, i, hi, hc⟩ := hc
          split at hc
          · (first | (cases hc; done) | (simp only [bS, mS] at hc; repeat (first | (cases hc; done) | obtain ⟨_, hc⟩ := hc)))
          · cases hc
        · cases hc
      · (first | (cases hc; done) | (simp only [bS, mS] at hc; repeat (first | (cases hc; done) | obtain ⟨_, hc⟩ := hc)))
      · (first | (cases hc; done) | (simp only [bS, mS] at hc; repeat (first | (cases hc; done) | obtain ⟨_, hc⟩ := hc)))
      · (first | (cases hc; done) | (simp only [bS, mS] at hc; repeat (first | (cases hc; done) | obtain ⟨_, hc⟩ := hc)))
      · cases hc
    · cases hc
  case move y => split at hc <;> (first | (cases hc; done) | (simp only [bS, mS] at hc; repeat (first | (cases hc; done) | obtain ⟨_, hc⟩ := hc)))
  case assign y => split at hc <;> (first | (cases hc; done) | (simp only [bS, mS] at hc; repeat (first | (cases hc; done) | obtain ⟨_, hc⟩ := hc)))
  case pick c p q => (first | (cases hc; done) | (simp only [bS, mS] at hc; repeat (first | (cases hc; done) | obtain ⟨_, hc⟩ := hc)))
  case alloc t => simp only [Option.bind_eq_some_iff] at hc; obtain ⟨z, h1, h2⟩ := hc; split at h2 <;> cases h2
  case box t y => simp only [Option.map_eq_some_iff] at hc; obtain ⟨y', _, hc⟩ := hc; rcases boxO_or (o.dst.bind fun d => List.lookup d E.accs) y' with hb | hb <;> rw [hb] at hc <;> cases hc
  case build t parts =>
    simp only [Option.bind_eq_some_iff] at hc
    obtain ⟨z, hz, u, hu, hc⟩ := hc
    split at hc
    · split at hc <;> (first | (cases hc; done) | (simp only [bS, mS] at hc; repeat (first | (cases hc; done) | obtain ⟨_, hc⟩ := hc)))
    · (first | (cases hc; done) | (simp only [bS, mS] at hc; repeat (first | (cases hc; done) | obtain ⟨_, hc⟩ := hc)))
    · cases hc
  case buildSlice t len parts =>
    simp only [Option.bind_eq_some_iff] at hc
    obtain ⟨u, hu, hc⟩ := hc
    split at hc
    · simp only [Option.bind_eq_some_iff] at hc
      obtain ⟨k, hk, z, hz, i, hi, hc⟩ := hc
      split at hc <;> (first | (cases hc; done) | (simp only [bS, mS] at hc; repeat (first | (cases hc; done) | obtain ⟨_, hc⟩ := hc)))
    · cases hc
  case load t y =>
    simp only [Option.bind_eq_some_iff, Option.map_eq_some_iff] at hc
    obtain ⟨k', hk', y', h1, hh⟩ := hc
    cases hh
    exact ⟨t, y, rfl, hk', h1⟩
  case store t y z => (first | (cases hc; done) | (simp only [bS, mS] at hc; repeat (first | (cases hc; done) | obtain ⟨_, hc⟩ := hc)))
  case nilCheck y => (first | (cases hc; done) | (simp only [bS, mS] at hc; repeat (first | (cases hc; done) | obtain ⟨_, hc⟩ := hc)))
  case binOp op t p q ty =>
    simp only [Option.bind_eq_some_iff] at hc
    obtain ⟨u, hu, hc⟩ := hc
    split at hc
    · (first | (cases hc; done) | (simp only [bS, mS] at hc; repeat (first | (cases hc; done) | obtain ⟨_, hc⟩ := hc)))
    · have key : ∀ neg, compEq P E neg t p q ≠ some (.load k f) := by
        intro neg hc
        simp only [compEq, Option.bind_eq_some_iff] at hc
        obtain ⟨u', hu', hc⟩ := hc
        split at hc
        · (first | (cases hc; done) | (simp only [bS, mS] at hc; repeat (first | (cases hc; done) | obtain ⟨_, hc⟩ := hc)))
        · simp only [Option.bind_eq_some_iff] at hc
          obtain ⟨ue, hue, i, hi, hc⟩ := hc
          split at hc
          · split at hc <;> (first | (cases hc; done) | (simp only [bS, mS] at hc; repeat (first | (cases hc; done) | obtain ⟨_, hc⟩ := hc)))
          · cases hc
        · split at hc
          · simp only [Option.bind_eq_some_iff, Option.map_eq_some_iff] at hc; obtain ⟨_, _, _, _, _, _, hc⟩ := hc; cases hc
          simp only [Option.bind_eq_some_iff] at hc
          obtain ⟨k, hk, hc⟩ := hc
          split at hc
          · (first | (cases hc; done) | (simp only [bS, mS] at hc; repeat (first | (cases hc; done) | obtain ⟨_, hc⟩ := hc)))
          · split at hc <;> (first | (cases hc; done) | (simp only [bS, mS] at hc; repeat (first | (cases hc; done) | obtain ⟨_, hc⟩ := hc)))
      split at hc
      · exact absurd hc (key _)
      · exact absurd hc (key _)
      · cases hc
  case unOp op t y => (first | (cases hc; done) | (simp only [bS, mS] at hc; repeat (first | (cases hc; done) | obtain ⟨_, hc⟩ := hc)))
  case convert s d y =>
    simp only [Option.bind_eq_some_iff] at hc
    obtain ⟨us, hus, ud, hud, hc⟩ := hc
    split at hc
    · (first | (cases hc; done) | (simp only [bS, mS] at hc; repeat (first | (cases hc; done) | obtain ⟨_, hc⟩ := hc)))
    · (first | (cases hc; done) | (simp only [bS, mS] at hc; repeat (first | (cases hc; done) | obtain ⟨_, hc⟩ := hc)))
    · simp only [Option.bind_eq_some_iff] at hc
      obtain ⟨ue, hue, hc⟩ := hc
      split at hc <;> (first | (cases hc; done) | (simp only [bS, mS] at hc; repeat (first | (cases hc; done) | obtain ⟨_, hc⟩ := hc)))
    · simp only [Option.bind_eq_some_iff] at hc
      obtain ⟨ue, hue, hc⟩ := hc
      split at hc <;> (first | (cases hc; done) | (simp only [bS, mS] at hc; repeat (first | (cases hc; done) | obtain ⟨_, hc⟩ := hc)))
    · cases hc
  case sliceToArrayPointer t y =>
    simp only [Option.bind_eq_some_iff] at hc
    obtain ⟨u, hu, hc⟩ := hc
    split at hc
    · simp only [Option.bind_eq_some_iff] at hc
      obtain ⟨k, hk, hc⟩ := hc
      split at hc <;> (first | (cases hc; done) | (simp only [bS, mS] at hc; repeat (first | (cases hc; done) | obtain ⟨_, hc⟩ := hc)))
    · cases hc
  case makeFunc fn first caps => (first | (cases hc; done) | (simp only [bS, mS] at hc; repeat (first | (cases hc; done) | obtain ⟨_, hc⟩ := hc)))
  case makeSlice t l' c =>
    simp only [Option.bind_eq_some_iff] at hc
    obtain ⟨u, hu, hc⟩ := hc
    split at hc
    · simp only [Option.bind_eq_some_iff] at hc
      obtain ⟨k, hk, z, hz, i, hi, hc⟩ := hc
      split at hc <;> (first | (cases hc; done) | (simp only [bS, mS] at hc; repeat (first | (cases hc; done) | obtain ⟨_, hc⟩ := hc)))
    · cases hc
  case slice t y lo hi mx =>
    simp only [Option.bind_eq_some_iff] at hc
    obtain ⟨u, hu, y', h1, lo', h2, hi', h3, mx', h4, hc⟩ := hc
    split at hc
    · cases hc
    · simp only [Option.bind_eq_some_iff] at hc
      obtain ⟨k, hk, i, hi2, hc⟩ := hc
      split at hc <;> cases hc
    · simp only [Option.bind_eq_some_iff] at hc
      obtain ⟨k, hk, i, hi2, hc⟩ := hc
      split at hc <;> cases hc
    · cases hc
  case fieldAddr t y q =>
    simp only [Option.bind_eq_some_iff] at hc
    obtain ⟨u, hu, hc⟩ := hc
    split at hc
    · simp only [Option.bind_eq_some_iff] at hc
      obtain ⟨fd, hf, i, hi, hc⟩ := hc
      split at hc <;> (first | (cases hc; done) | (simp only [bS, mS] at hc; repeat (first | (cases hc; done) | obtain ⟨_, hc⟩ := hc)))
    · cases hc
  case field t y q =>
    simp only [Option.bind_eq_some_iff] at hc
    obtain ⟨u, hu, hc⟩ := hc
    split at hc
    · (first | (cases hc; done) | (simp only [bS, mS] at hc; repeat (first | (cases hc; done) | obtain ⟨_, hc⟩ := hc)))
    · cases hc
  case indexAddr t y ix =>
    simp only [Option.bind_eq_some_iff] at hc
    obtain ⟨u, hu, y', h1, ix', h2, hc⟩ := hc
    split at hc
    · simp only [Option.bind_eq_some_iff] at hc
      obtain ⟨k, hk, i, hi, hc⟩ := hc
      split at hc <;> cases hc
    · simp only [Option.bind_eq_some_iff] at hc
      obtain ⟨k, hk, i, hi, hc⟩ := hc
      split at hc <;> cases hc
    · cases hc
  case index t y ix =>
    simp only [Option.bind_eq_some_iff] at hc
    obtain ⟨u, hu, y', h1, ix', h2, hc⟩ := hc
    split at hc
    · cases hc
    · simp only [Option.bind_eq_some_iff] at hc
      obtain ⟨k, hk, i, hi, hc⟩ := hc
      split at hc <;> cases hc
    · cases hc
  case extract t i => (first | (cases hc; done) | (simp only [bS, mS] at hc; repeat (first | (cases hc; done) | obtain ⟨_, hc⟩ := hc)))
  case makeMap t rs => cases rs <;> cases hc
  case lookup t x k ok => (first | (cases hc; done) | (simp only [bS, mS] at hc; repeat (first | (cases hc; done) | obtain ⟨_, hc⟩ := hc)))
  case mapUpdate t m k x => (first | (cases hc; done) | (simp only [bS, mS] at hc; repeat (first | (cases hc; done) | obtain ⟨_, hc⟩ := hc)))
  case range t x =>
    simp only [Option.bind_eq_some_iff] at hc
    obtain ⟨u, hu, hc⟩ := hc
    split at hc
    · (first | (cases hc; done) | (simp only [bS, mS] at hc; repeat (first | (cases hc; done) | obtain ⟨_, hc⟩ := hc)))
    · (first | (cases hc; done) | (simp only [bS, mS] at hc; repeat (first | (cases hc; done) | obtain ⟨_, hc⟩ := hc)))
    · cases hc
  case next x str => (first | (cases hc; done) | (simp only [bS, mS] at hc; repeat (first | (cases hc; done) | obtain ⟨_, hc⟩ := hc)))
  all_goals cases hc
theorem comp_str {x : AOp} {f : Opd} (hc : compOp P E o = some x) (hx : x = .convStr f) : ∃ s d el y, o.op = .convert s d y ∧ P.underlying s = some (.slice el) ∧ P.underlying el = some (.int .u8) ∧ P.underlying d = some .string ∧ compO E y = some f := by
  subst hx
  cases hop : o.op <;> simp only [compOp, hop] at hc
  case call c =>
    obtain ⟨callee, args, ts⟩ := c
    simp only at hc
    split at hc
    · (first | (cases hc; done) | (simp only [bS, mS] at hc; repeat (first | (cases hc; done) | obtain ⟨_, hc⟩ := hc)))
    · exfalso
      simp only [Option.map_eq_some_iff] at hc
      obtain ⟨op0, hc, hvo⟩ := hc
      obtain rfl := vecO_ne hvo (by intros; simp)
      clear hvo
      unfold compB at hc
      split at hc
      · simp only [Option.bind_eq_some_iff] at hc
        obtain ⟨t, ht, u, hu, hc⟩ := hc
        split at hc
        · (first | (cases hc; done) | (simp only [bS, mS] at hc; repeat (first | (cases hc; done) | obtain ⟨_, hc⟩ := hc)))
        · (first | (cases hc; done) | (simp only [bS, mS] at hc; repeat (first | (cases hc; done) | obtain ⟨_, hc⟩ := hc)))
        · (first | (cases hc; done) | (simp only [bS, mS] at hc; repeat (first | (cases hc; done) | obtain ⟨_, hc⟩ := hc)))
        · cases hc
        · simp only [Option.bind_eq_some_iff] at hc
          obtain ⟨u2, hu2, hc⟩ := hc
          split at hc <;> cases hc
        · cases hc
      · simp only [Option.bind_eq_some_iff] at hc
        obtain ⟨t, ht, tx, htx, u, hu, ux, hux, hc⟩ := hc
        split at hc
        · cases hc
        · simp only [Option.bind_eq_some_iff] at hc
          obtain ⟨k, hk, i, hi, hc⟩ := hc
          split at hc
          · split at hc
            · (first | (cases hc; done) | (simp only [bS, mS] at hc; repeat (first | (cases hc; done) | obtain ⟨_, hc⟩ := hc)))
            · cases hc
          · cases hc
        · cases hc
      · simp only [Option.bind_eq_some_iff] at hc
        obtain ⟨t, ht, u, hu, hc⟩ := hc
        split at hc
        · simp only [Option.bind_eq_some_iff] at hc
          obtain ⟨k, hk, i, hi, hc⟩ := hc
          split at hc
          · (first | (cases hc; done) | (simp only [bS, mS] at hc; repeat (first | (cases hc; done) | obtain ⟨_, hc⟩ := hc)))
          · cases hc
        · cases hc
      · (first | (cases hc; done) | (simp only [bS, mS] at hc; repeat (first | (cases hc; done) | obtain ⟨_, hc⟩ := hc)))
      · (first | (cases hc; done) | (simp only [bS, mS] at hc; repeat (first | (cases hc; done) | obtain ⟨_, hc⟩ := hc)))
      · (first | (cases hc; done) | (simp only [bS, mS] at hc; repeat (first | (cases hc; done) | obtain ⟨_, hc⟩ := hc)))
      · cases hc
    · cases hc
  case move y => split at hc <;> (first | (cases hc; done) | (simp only [bS, mS] at hc; repeat (first | (cases hc; done) | obtain ⟨_, hc⟩ := hc)))
  case assign y => split at hc <;> (first | (cases hc; done) | (simp only [bS, mS] at hc; repeat (first | (cases hc; done) | obtain ⟨_, hc⟩ := hc)))
  case pick c p q => (first | (cases hc; done) | (simp only [bS, mS] at hc; repeat (first | (cases hc; done) | obtain ⟨_, hc⟩ := hc)))
  case alloc t => simp only [Option.bind_eq_some_iff] at hc; obtain ⟨z, h1, h2⟩ := hc; split at h2 <;> cases h2
  case box t y => simp only [Option.map_eq_some_iff] at hc; obtain ⟨y', _, hc⟩ := hc; rcases boxO_or (o.dst.bind fun d => List.lookup d E.accs) y' with hb | hb <;> rw [hb] at hc <;> cases hc
  case build t parts =>
    simp only [Option.bind_eq_some_iff] at hc
    obtain ⟨z, hz, u, hu, hc⟩ := hc
    split at hc
    · split at hc <;> (first | (cases hc; done) | (simp only [bS, mS] at hc; repeat (first | (cases hc; done) | obtain ⟨_, hc⟩ := hc)))
    · (first | (cases hc; done) | (simp only [bS, mS] at hc; repeat (first | (cases hc; done) | obtain ⟨_, hc⟩ := hc)))
    · cases hc
  case buildSlice t len parts =>
    simp only [Option.bind_eq_some_iff] at hc
    obtain ⟨u, hu, hc⟩ := hc
    split at hc
    · simp only [Option.bind_eq_some_iff] at hc
      obtain ⟨k, hk, z, hz, i, hi, hc⟩ := hc
      split at hc <;> (first | (cases hc; done) | (simp only [bS, mS] at hc; repeat (first | (cases hc; done) | obtain ⟨_, hc⟩ := hc)))
    · cases hc
  case load t y => (first | (cases hc; done) | (simp only [bS, mS] at hc; repeat (first | (cases hc; done) | obtain ⟨_, hc⟩ := hc)))
  case store t y z => (first | (cases hc; done) | (simp only [bS, mS] at hc; repeat (first | (cases hc; done) | obtain ⟨_, hc⟩ := hc)))
  case nilCheck y => (first | (cases hc; done) | (simp only [bS, mS] at hc; repeat (first | (cases hc; done) | obtain ⟨_, hc⟩ := hc)))
  case binOp op t p q ty =>
    simp only [Option.bind_eq_some_iff] at hc
    obtain ⟨u, hu, hc⟩ := hc
    split at hc
    · (first | (cases hc; done) | (simp only [bS, mS] at hc; repeat (first | (cases hc; done) | obtain ⟨_, hc⟩ := hc)))
    · have key : ∀ neg, compEq P E neg t p q ≠ some (.convStr f) := by
        intro neg hc
        simp only [compEq, Option.bind_eq_some_iff] at hc
        obtain ⟨u', hu', hc⟩ := hc
        split at hc
        · (first | (cases hc; done) | (simp only [bS, mS] at hc; repeat (first | (cases hc; done) | obtain ⟨_, hc⟩ := hc)))
        · simp only [Option.bind_eq_some_iff] at hc
          obtain ⟨ue, hue, i, hi, hc⟩ := hc
          split at hc
          · split at hc <;> (first | (cases hc; done) | (simp only [bS, mS] at hc; repeat (first | (cases hc; done) | obtain ⟨_, hc⟩ := hc)))
          · cases hc
        · split at hc
          · simp only [Option.bind_eq_some_iff, Option.map_eq_some_iff] at hc; obtain ⟨_, _, _, _, _, _, hc⟩ := hc; cases hc
          simp only [Option.bind_eq_some_iff] at hc
          obtain ⟨k, hk, hc⟩ := hc
          split at hc
          · (first | (cases hc; done) | (simp only [bS, mS] at hc; repeat (first | (cases hc; done) | obtain ⟨_, hc⟩ := hc)))
          · split at hc <;> (first | (cases hc; done) | (simp only [bS, mS] at hc; repeat (first | (cases hc; done) | obtain ⟨_, hc⟩ := hc)))
      split at hc
      · exact absurd hc (key _)
      · exact absurd hc (key _)
      · cases hc
  case unOp op t y => (first | (cases hc; done) | (simp only [bS, mS] at hc; repeat (first | (cases hc; done) | obtain ⟨_, hc⟩ := hc)))
  case convert s d y =>
    simp only [Option.bind_eq_some_iff] at hc
    obtain ⟨us, hus, ud, hud, hc⟩ := hc
    split at hc
    · (first | (cases hc; done) | (simp only [bS, mS] at hc; repeat (first | (cases hc; done) | obtain ⟨_, hc⟩ := hc)))
    · (first | (cases hc; done) | (simp only [bS, mS] at hc; repeat (first | (cases hc; done) | obtain ⟨_, hc⟩ := hc)))
    · simp only [Option.bind_eq_some_iff] at hc
      obtain ⟨ue, hue, hc⟩ := hc
      split at hc <;> (first | (cases hc; done) | (simp only [bS, mS] at hc; repeat (first | (cases hc; done) | obtain ⟨_, hc⟩ := hc)))
    · simp only [Option.bind_eq_some_iff] at hc
      obtain ⟨ue, hue, hc⟩ := hc
      split at hc
      · simp only [Option.map_eq_some_iff] at hc
        obtain ⟨y', h1, hh⟩ := hc
        cases hh
        exact ⟨s, d, _, y, rfl, hus, hue, hud, h1⟩
      · cases hc
    · cases hc
  case sliceToArrayPointer t y =>
    simp only [Option.bind_eq_some_iff] at hc
    obtain ⟨u, hu, hc⟩ := hc
    split at hc
    · simp only [Option.bind_eq_some_iff] at hc
      obtain ⟨k, hk, hc⟩ := hc
      split at hc <;> (first | (cases hc; done) | (simp only [bS, mS] at hc; repeat (first | (cases hc; done) | obtain ⟨_, hc⟩ := hc)))
    · cases hc
  case makeFunc fn first caps => (first | (cases hc; done) | (simp only [bS, mS] at hc; repeat (first | (cases hc; done) | obtain ⟨_, hc⟩ := hc)))
  case makeSlice t l' c =>
    simp only [Option.bind_eq_some_iff] at hc
    obtain ⟨u, hu, hc⟩ := hc
    split at hc
    · simp only [Option.bind_eq_some_iff] at hc
      obtain ⟨k, hk, z, hz, i, hi, hc⟩ := hc
      split at hc <;> (first | (cases hc; done) | (simp only [bS, mS] at hc; repeat (first | (cases hc; done) | obtain ⟨_, hc⟩ := hc)))
    · cases hc
  case slice t y lo hi mx =>
    simp only [Option.bind_eq_some_iff] at hc
    obtain ⟨u, hu, y', h1, lo', h2, hi', h3, mx', h4, hc⟩ := hc
    split at hc
    · cases hc
    · simp only [Option.bind_eq_some_iff] at hc
      obtain ⟨k, hk, i, hi2, hc⟩ := hc
      split at hc <;> cases hc
    · simp only [Option.bind_eq_some_iff] at hc
      obtain ⟨k, hk, i, hi2, hc⟩ := hc
      split at hc <;> cases hc
    · cases hc
  case fieldAddr t y q =>
    simp only [Option.bind_eq_some_iff] at hc
    obtain ⟨u, hu, hc⟩ := hc
    split at hc
    · simp only [Option.bind_eq_some_iff] at hc
      obtain ⟨fd, hf, i, hi, hc⟩ := hc
      split at hc <;> (first | (cases hc; done) | (simp only [bS, mS] at hc; repeat (first | (cases hc; done) | obtain ⟨_, hc⟩ := hc)))
    · cases hc
  case field t y q =>
    simp only [Option.bind_eq_some_iff] at hc
    obtain ⟨u, hu, hc⟩ := hc
    split at hc
    · (first | (cases hc; done) | (simp only [bS, mS] at hc; repeat (first | (cases hc; done) | obtain ⟨_, hc⟩ := hc)))
    · cases hc
  case indexAddr t y ix =>
    simp only [Option.bind_eq_some_iff] at hc
    obtain ⟨u, hu, y', h1, ix', h2, hc⟩ := hc
    split at hc
    · simp only [Option.bind_eq_some_iff] at hc
      obtain ⟨k, hk, i, hi, hc⟩ := hc
      split at hc <;> cases hc
    · simp only [Option.bind_eq_some_iff] at hc
      obtain ⟨k, hk, i, hi, hc⟩ := hc
      split at hc <;> cases hc
    · cases hc
  case index t y ix =>
    simp only [Option.bind_eq_some_iff] at hc
    obtain ⟨u, hu, y', h1, ix', h2, hc⟩ := hc
    split at hc
    · cases hc
    · simp only [Option.bind_eq_some_iff] at hc
      obtain ⟨k, hk, i, hi, hc⟩ := hc
      split at hc <;> cases hc
    · cases hc
  case extract t i => (first | (cases hc; done) | (simp only [bS, mS] at hc; repeat (first | (cases hc; done) | obtain ⟨_, hc⟩ := hc)))
  case makeMap t rs => cases rs <;> cases hc
  case lookup t x k ok => (first | (cases hc; done) | (simp only [bS, mS] at hc; repeat (first | (cases hc; done) | obtain ⟨_, hc⟩ := hc)))
  case mapUpdate t m k x => (first | (cases hc; done) | (simp only [bS, mS] at hc; repeat (first | (cases hc; done) | obtain ⟨_, hc⟩ := hc)))
  case range t x =>
    simp only [Option.bind_eq_some_iff] at hc
    obtain ⟨u, hu, hc⟩ := hc
    split at hc
    · (first | (cases hc; done) | (simp only [bS, mS] at hc; repeat (first | (cases hc; done) | obtain ⟨_, hc⟩ := hc)))
    · (first | (cases hc; done) | (simp only [bS, mS] at hc; repeat (first | (cases hc; done) | obtain ⟨_, hc⟩ := hc)))
    · cases hc
  case next x str => (first | (cases hc; done) | (simp only [bS, mS] at hc; repeat (first | (cases hc; done) | obtain ⟨_, hc⟩ := hc)))
  all_goals cases hc
theorem comp_cb {x : AOp} {f : Opd} (hc : compOp P E o = some x) (hx : x = .convBytes f) : ∃ s d el y, o.op = .convert s d y ∧ P.underlying s = some .string ∧ P.underlying d = some (.slice el) ∧ P.underlying el = some (.int .u8) ∧ compO E y = some f := by
  subst hx
  cases hop : o.op <;> simp only [compOp, hop] at hc
  case call c =>
    obtain ⟨callee, args, ts⟩ := c
    simp only at hc
    split at hc
    · (first | (cases hc; done) | (simp only [bS, mS] at hc; repeat (first | (cases hc; done) | obtain ⟨_, hc⟩ := hc)))
    · exfalso
      simp only [Option.map_eq_some_iff] at hc
      obtain ⟨op0, hc, hvo⟩ := hc
      obtain rfl := vecO_ne hvo (by intros; simp)
      clear hvo
      unfold compB at hc
      split at hc
      · simp only [Option.bind_eq_some_iff] at hc
        obtain ⟨t, ht, u, hu, hc⟩ := hc
        split at hc
        · (first | (cases hc; done) | (simp only [bS, mS] at hc; repeat (first | (cases hc; done) | obtain ⟨_, hc⟩ := hc)))
        · (first | (cases hc; done) | (simp only [bS, mS] at hc; repeat (first | (cases hc; done) | obtain ⟨_, hc⟩ := hc)))
        · (first | (cases hc; done) | (simp only [bS, mS] at hc; repeat (first | (cases hc; done) | obtain ⟨_, hc⟩ := hc)))
        · cases hc
        · simp only [Option.bind_eq_some_iff] at hc
          obtain ⟨u2, hu2, hc⟩ := hc
          split at hc <;> cases hc
        · cases hc
      · simp only [Option.bind_eq_some_iff] at hc
        obtain ⟨t, ht, tx, htx, u, hu, ux, hux, hc⟩ := hc
        split at hc
        · cases hc
        · simp only [Option.bind_eq_some_iff] at hc
          obtain ⟨k, hk, i, hi, hc⟩ := hc
          split at hc
          · split at hc
            · (first | (cases hc; done) | (simp only [bS, mS] at hc; repeat (first | (cases hc; done) | obtain ⟨_, hc⟩ := hc)))
            · cases hc
          · cases hc
        · cases hc
      · simp only [Option.bind_eq_some_iff] at hc
        obtain ⟨t, ht, u, hu, hc⟩ := hc
        split at hc
        · simp only [Option.bind_eq_some_iff] at hc
          obtain ⟨k, hk, i, hi, hc⟩ := hc
          split at hc
          · (first | (cases hc; done) | (simp only [bS, mS] at hc; repeat (first | (cases hc; done) | obtain ⟨_, hc⟩ := hc)))
          · cases hc
        · cases hc
      · (first | (cases hc; done) | (simp only [bS, mS] at hc; repeat (first | (cases hc; done) | obtain ⟨_, hc⟩ := hc)))
      · (first | (cases hc; done) | (simp only [bS, mS] at hc; repeat (first | (cases hc; done) | obtain ⟨_, hc⟩ := hc)))
      · (first | (cases hc; done) | (simp only [bS, mS] at hc; repeat (first | (cases hc; done) | obtain ⟨_, hc⟩ := hc)))
      · cases hc
    · cases hc
  case move y => split at hc <;> (first | (cases hc; done) | (simp only [bS, mS] at hc; repeat (first | (cases hc; done) | obtain ⟨_, hc⟩ := hc)))
  case assign y => split at hc <;> (first | (cases hc; done) | (simp only [bS, mS] at hc; repeat (first | (cases hc; done) | obtain ⟨_, hc⟩ := hc)))
  case pick c p q => (first | (cases hc; done) | (simp only [bS, mS] at hc; repeat (first | (cases hc; done) | obtain ⟨_, hc⟩ := hc)))
  case alloc t => simp only [Option.bind_eq_some_iff] at hc; obtain ⟨z, h1, h2⟩ := hc; split at h2 <;> cases h2
  case box t y => simp only [Option.map_eq_some_iff] at hc; obtain ⟨y', _, hc⟩ := hc; rcases boxO_or (o.dst.bind fun d => List.lookup d E.accs) y' with hb | hb <;> rw [hb] at hc <;> cases hc
  case build t parts =>
    simp only [Option.bind_eq_some_iff] at hc
    obtain ⟨z, hz, u, hu, hc⟩ := hc
    split at hc
    · split at hc <;> (first | (cases hc; done) | (simp only [bS, mS] at hc; repeat (first | (cases hc; done) | obtain ⟨_, hc⟩ := hc)))
    · (first | (cases hc; done) | (simp only [bS, mS] at hc; repeat (first | (cases hc; done) | obtain ⟨_, hc⟩ := hc)))
    · cases hc
  case buildSlice t len parts =>
    simp only [Option.bind_eq_some_iff] at hc
    obtain ⟨u, hu, hc⟩ := hc
    split at hc
    · simp only [Option.bind_eq_some_iff] at hc
      obtain ⟨k, hk, z, hz, i, hi, hc⟩ := hc
      split at hc <;> (first | (cases hc; done) | (simp only [bS, mS] at hc; repeat (first | (cases hc; done) | obtain ⟨_, hc⟩ := hc)))
    · cases hc
  case load t y => (first | (cases hc; done) | (simp only [bS, mS] at hc; repeat (first | (cases hc; done) | obtain ⟨_, hc⟩ := hc)))
  case store t y z => (first | (cases hc; done) | (simp only [bS, mS] at hc; repeat (first | (cases hc; done) | obtain ⟨_, hc⟩ := hc)))
  case nilCheck y => (first | (cases hc; done) | (simp only [bS, mS] at hc; repeat (first | (cases hc; done) | obtain ⟨_, hc⟩ := hc)))
  case binOp op t p q ty =>
    simp only [Option.bind_eq_some_iff] at hc
    obtain ⟨u, hu, hc⟩ := hc
    split at hc
    · (first | (cases hc; done) | (simp only [bS, mS] at hc; repeat (first | (cases hc; done) | obtain ⟨_, hc⟩ := hc)))
    · have key : ∀ neg, compEq P E neg t p q ≠ some (.convBytes f) := by
        intro neg hc
        simp only [compEq, Option.bind_eq_some_iff] at hc
        obtain ⟨u', hu', hc⟩ := hc
        split at hc
        · (first | (cases hc; done) | (simp only [bS, mS] at hc; repeat (first | (cases hc; done) | obtain ⟨_, hc⟩ := hc)))
        · simp only [Option.bind_eq_some_iff] at hc
          obtain ⟨ue, hue, i, hi, hc⟩ := hc
          split at hc
          · split at hc <;> (first | (cases hc; done) | (simp only [bS, mS] at hc; repeat (first | (cases hc; done) | obtain ⟨_, hc⟩ := hc)))
          · cases hc
        · split at hc
          · simp only [Option.bind_eq_some_iff, Option.map_eq_some_iff] at hc; obtain ⟨_, _, _, _, _, _, hc⟩ := hc; cases hc
          simp only [Option.bind_eq_some_iff] at hc
          obtain ⟨k, hk, hc⟩ := hc
          split at hc
          · (first | (cases hc; done) | (simp only [bS, mS] at hc; repeat (first | (cases hc; done) | obtain ⟨_, hc⟩ := hc)))
          · split at hc <;> (first | (cases hc; done) | (simp only [bS, mS] at hc; repeat (first | (cases hc; done) | obtain ⟨_, hc⟩ := hc)))
      split at hc
      · exact absurd hc (key _)
      · exact absurd hc (key _)
      · cases hc
  case unOp op t y => (first | (cases hc; done) | (simp only [bS, mS] at hc; repeat (first | (cases hc; done) | obtain ⟨_, hc⟩ := hc)))
  case convert s d y =>
    simp only [Option.bind_eq_some_iff] at hc
    obtain ⟨us, hus, ud, hud, hc⟩ := hc
    split at hc
    · (first | (cases hc; done) | (simp only [bS, mS] at hc; repeat (first | (cases hc; done) | obtain ⟨_, hc⟩ := hc)))
    · (first | (cases hc; done) | (simp only [bS, mS] at hc; repeat (first | (cases hc; done) | obtain ⟨_, hc⟩ := hc)))
    · simp only [Option.bind_eq_some_iff] at hc
      obtain ⟨ue, hue, hc⟩ := hc
      split at hc
      · simp only [Option.map_eq_some_iff] at hc
        obtain ⟨y', h1, hh⟩ := hc
        cases hh
        exact ⟨s, d, _, y, rfl, hus, hud, hue, h1⟩
      · cases hc
    · simp only [Option.bind_eq_some_iff] at hc
      obtain ⟨ue, hue, hc⟩ := hc
      split at hc <;> (first | (cases hc; done) | (simp only [bS, mS] at hc; repeat (first | (cases hc; done) | obtain ⟨_, hc⟩ := hc)))
    · cases hc
  case sliceToArrayPointer t y =>
    simp only [Option.bind_eq_some_iff] at hc
    obtain ⟨u, hu, hc⟩ := hc
    split at hc
    · simp only [Option.bind_eq_some_iff] at hc
      obtain ⟨k, hk, hc⟩ := hc
      split at hc <;> (first | (cases hc; done) | (simp only [bS, mS] at hc; repeat (first | (cases hc; done) | obtain ⟨_, hc⟩ := hc)))
    · cases hc
  case makeFunc fn first caps => (first | (cases hc; done) | (simp only [bS, mS] at hc; repeat (first | (cases hc; done) | obtain ⟨_, hc⟩ := hc)))
  case makeSlice t l' c =>
    simp only [Option.bind_eq_some_iff] at hc
    obtain ⟨u, hu, hc⟩ := hc
    split at hc
    · simp only [Option.bind_eq_some_iff] at hc
      obtain ⟨k, hk, z, hz, i, hi, hc⟩ := hc
      split at hc <;> (first | (cases hc; done) | (simp only [bS, mS] at hc; repeat (first | (cases hc; done) | obtain ⟨_, hc⟩ := hc)))
    · cases hc
  case slice t y lo hi mx =>
    simp only [Option.bind_eq_some_iff] at hc
    obtain ⟨u, hu, y', h1, lo', h2, hi', h3, mx', h4, hc⟩ := hc
    split at hc
    · cases hc
    · simp only [Option.bind_eq_some_iff] at hc
      obtain ⟨k, hk, i, hi2, hc⟩ := hc
      split at hc <;> cases hc
    · simp only [Option.bind_eq_some_iff] at hc
      obtain ⟨k, hk, i, hi2, hc⟩ := hc
      split at hc <;> cases hc
    · cases hc
  case fieldAddr t y q =>
    simp only [Option.bind_eq_some_iff] at hc
    obtain ⟨u, hu, hc⟩ := hc
    split at hc
    · simp only [Option.bind_eq_some_iff] at hc
      obtain ⟨fd, hf, i, hi, hc⟩ := hc
      split at hc <;> (first | (cases hc; done) | (simp only [bS, mS] at hc; repeat (first | (cases hc; done) | obtain ⟨_, hc⟩ := hc)))
    · cases hc
  case field t y q =>
    simp only [Option.bind_eq_some_iff] at hc
    obtain ⟨u, hu, hc⟩ := hc
    split at hc
    · (first | (cases hc; done) | (simp only [bS, mS] at hc; repeat (first | (cases hc; done) | obtain ⟨_, hc⟩ := hc)))
    · cases hc
  case indexAddr t y ix =>
    simp only [Option.bind_eq_some_iff] at hc
    obtain ⟨u, hu, y', h1, ix', h2, hc⟩ := hc
    split at hc
    · simp only [Option.bind_eq_some_iff] at hc
      obtain ⟨k, hk, i, hi, hc⟩ := hc
      split at hc <;> cases hc
    · simp only [Option.bind_eq_some_iff] at hc
      obtain ⟨k, hk, i, hi, hc⟩ := hc
      split at hc <;> cases hc
    · cases hc
  case index t y ix =>
    simp only [Option.bind_eq_some_iff] at hc
    obtain ⟨u, hu, y', h1, ix', h2, hc⟩ := hc
    split at hc
    · cases hc
    · simp only [Option.bind_eq_some_iff] at hc
      obtain ⟨k, hk, i, hi, hc⟩ := hc
      split at hc <;> cases hc
    · cases hc
  case extract t i => (first | (cases hc; done) | (simp only [bS, mS] at hc; repeat (first | (cases hc; done) | obtain ⟨_, hc⟩ := hc)))
  case makeMap t rs => cases rs <;> cases hc
  case lookup t x k ok => (first | (cases hc; done) | (simp only [bS, mS] at hc; repeat (first | (cases hc; done) | obtain ⟨_, hc⟩ := hc)))
  case mapUpdate t m k x => (first | (cases hc; done) | (simp only [bS, mS] at hc; repeat (first | (cases hc; done) | obtain ⟨_, hc⟩ := hc)))
  case range t x =>
    simp only [Option.bind_eq_some_iff] at hc
    obtain ⟨u, hu, hc⟩ := hc
    split at hc
    · (first | (cases hc; done) | (simp only [bS, mS] at hc; repeat (first | (cases hc; done) | obtain ⟨_, hc⟩ := hc)))
    · (first | (cases hc; done) | (simp only [bS, mS] at hc; repeat (first | (cases hc; done) | obtain ⟨_, hc⟩ := hc)))
    · cases hc
  case next x str => (first | (cases hc; done) | (simp only [bS, mS] at hc; repeat (first | (cases hc; done) | obtain ⟨_, hc⟩ := hc)))
  all_goals cases hc
theorem load_or_str {x : AOp} (hc : compOp P E o = some x) (hk : (∃ k y, x = .load k y) ∨ ∃ y, x = .convStr y) (hx : aop C x e h = some (v, h')) (r : Rel S h B W) (he : EnvR S e a E.nt) (hg : GlobOK E.gl S.imm) : h' = h ∧ ExR P o a S v W := by
  rcases hk with ⟨k, y, rfl⟩ | ⟨y, rfl⟩
  · obtain ⟨t, y0, hop, hk', h1⟩ := comp_load hc rfl
    exact ex_load hop hk' h1 hx r he hg
  · obtain ⟨s, d, el, y0, hop, q1, q2, q3, h1⟩ := comp_str hc rfl
    exact ex_convStr hop q1 q2 q3 h1 hx r he hg
/-- the call's target and arguments -/
theorem call_parts {f : Opd} {l : List Opd} {f0 : Operand} {args : Array Operand} (hf : compO E f0 = some f) (hl : compL E args.toList = some l) (he : EnvR S e a E.nt) (hg : GlobOK E.gl S.imm) {g : Nat} {first caps : List AV} (hv : evO e f = .func (.func g) first caps) :
    ∃ x y, a.eval f0 = .func (.func g) x y ∧ VL S (first ++ evL e l ++ caps) (x ++ args.map a.eval ++ y).toList := by
  have h1 := evO_V he hg hf
  rw [hv] at h1
  simp only [V] at h1
  obtain ⟨x, y, q1, q2, q3⟩ := h1
  refine ⟨x, y, q1, ?_⟩
  simp only [Array.toList_append, Array.toList_map]
  exact (q2.append (evL_V he hg hl)).append q3
/-- one operation in a row -/
theorem step_sound {x : AOp} (hC : ClOK P E.gl C) (hc : compOp P E o = some x) (hx : aop C x e h = some (v, h')) (r : Rel S h B W) (he : EnvR S e a E.nt) (hg : GlobOK E.gl S.imm) {next : Act → World → Prop} {Q : Exit → Act → World → Prop}
    (hn : ∀ S' u W', Ext S S' → Rel S' h' B W' → V S' v u → Below B W W' → next (a.put o.dst u) W') : o.wp P a W next Q := by
  by_cases hcall : ∃ f l, x = .call f l
  · obtain ⟨f, l, rfl⟩ := hcall
    obtain ⟨f0, args, ts, hop, hf, hl⟩ := comp_call hc rfl
    simp only [aop] at hx
    split at hx
    · rename_i g first caps hv
      obtain ⟨p, q, q1, q2⟩ := call_parts hf hl he hg hv
      obtain ⟨hcal, hcalls⟩ := hC.call _ _ _ _ _ hx
      unfold Oper.wp
      rw [run_call hop q1 hcal W]
      simp only [Oper.upon_enter]
      refine (hcalls S B W _ r q2 hg).mono ?_
      rintro e' W' ⟨u, S', rfl, g1, g2, g3, g4⟩
      exact hn S' u W' g1 g2 g3 g4
    · cases hx
  · obtain ⟨n, u, W', S', h1, h2, h3, h4, h5, h6⟩ := op_sound hc (fun f l hh => hcall ⟨f, l, hh⟩) hx r he hg
    unfold Oper.wp
    rw [h1]
    rcases h2 with rfl | ⟨rfl, rfl⟩
    · exact hn S' u W' h3 h4 h5 h6
    · exact hn S' _ W' h3 h4 h5 h6
/-- a guard -/
theorem want_ok {ops : Array Oper} {g : Option (Nat × Bool)} (hc : compG ops o.guard = some g) (he : EnvR S e a E.nt) {w : Bool} (hw : wantE g e = some w) : Region.wanted o (yielded ops a.tmps) = w := by
  unfold Region.wanted
  cases hgd : o.guard with
  | none =>
    rw [hgd] at hc
    simp only [compG] at hc
    cases hc
    simp only [wantE] at hw
    cases hw
    rfl
  | some p =>
    obtain ⟨j, want⟩ := p
    rw [hgd] at hc
    simp only [compG, Option.map_eq_some_iff] at hc
    obtain ⟨t, ht, rfl⟩ := hc
    have hv := he.get t
    simp only [wantE] at hw
    simp only [yielded, ht, Option.bind_some]
    split at hw
    · rename_i b hb
      cases hw
      rw [hb] at hv
      simp only [V] at hv
      have : a.tmps[t]? = some (.bool b) := by
        cases hq : a.tmps[t]? with
        | none => rw [Array.getD_eq_getD_getElem?, hq] at hv; cases hv
        | some q => rw [Array.getD_eq_getD_getElem?, hq] at hv; rw [← hv]; rfl
      rw [this]
      rfl
    · rename_i q hnb hb
      cases hw
      rw [hb] at hv
      simp only [V] at hv
      cases hq : a.tmps[t]? with
      | none => rfl
      | some q' =>
        rw [Array.getD_eq_getD_getElem?, hq] at hv
        simp only [Option.getD_some] at hv
        subst hv
        cases q' <;> first | rfl | exact absurd rfl (hnb _)
    · cases hw
theorem comp_dst {ops : Array Oper} {x : AOper} (hc : compOper P E ops o = some x) : (compOp P E o = some x.op ∨ x.op = .stuck) ∧ compG ops o.guard = some x.guard ∧ x.dst = o.dst ∧ ∀ t, o.dst = some t → t < E.nt := by
  simp only [compOper, Option.bind_eq_some_iff] at hc
  obtain ⟨g, h2, hc⟩ := hc
  split at hc
  · rename_i hd
    cases hc
    refine ⟨?_, h2, rfl, fun t ht => ?_⟩
    · cases hq : compOp P E o with
      | none => exact .inr rfl
      | some y => exact .inl rfl
    · simp only [ht, dstOK] at hd
      simpa using hd
  · cases hc
theorem not_stuck {x : AOp} {r : AV × Heap} (h1 : compOp P E o = some x ∨ x = .stuck) (h2 : aop C x e h = some r) : compOp P E o = some x := by
  rcases h1 with h1 | h1
  · exact h1
  · subst h1; cases h2
theorem not_stuckQ {x : AOp} {r : AV} (h1 : compOp P E o = some x ∨ x = .stuck) (h2 : quietV C x e h = some r) : compOp P E o = some x := by
  rcases h1 with h1 | h1
  · exact h1
  · subst h1; cases h2
theorem comp_bso {x : AOp} {k0 : Option Nat} {z0 : AV} {n0 : Nat} {p0 : List (Nat × Opd)} (hc : compOp P E o = some x) (hx : x = .buildSlice k0 z0 n0 p0) : ∃ t len parts, o.op = .buildSlice t len parts := by
  subst hx
  cases hop : o.op <;> simp only [compOp, hop] at hc
  case call c =>
    obtain ⟨callee, args, ts⟩ := c
    simp only at hc
    split at hc
    · (first | (cases hc; done) | (simp only [bS, mS] at hc; repeat (first | (cases hc; done) | obtain ⟨_, hc⟩ := hc)))
    · exfalso
      simp only [Option.map_eq_some_iff] at hc
      obtain ⟨op0, hc, hvo⟩ := hc
      obtain rfl := vecO_ne hvo (by intros; simp)
      clear hvo
      unfold compB at hc
      split at hc
      · simp only [Option.bind_eq_some_iff] at hc
        obtain ⟨t, ht, u, hu, hc⟩ := hc
        split at hc
        · (first | (cases hc; done) | (simp only [bS, mS] at hc; repeat (first | (cases hc; done) | obtain ⟨_, hc⟩ := hc)))
        · (first | (cases hc; done) | (simp only [bS, mS] at hc; repeat (first | (cases hc; done) | obtain ⟨_, hc⟩ := hc)))
        · (first | (cases hc; done) | (simp only [bS, mS] at hc; repeat (first | (cases hc; done) | obtain ⟨_, hc⟩ := hc)))
        · cases hc
        · simp only [Option.bind_eq_some_iff] at hc
          obtain ⟨u2, hu2, hc⟩ := hc
          split at hc <;> cases hc
        · cases hc
      · simp only [Option.bind_eq_some_iff] at hc
        obtain ⟨t, ht, tx, htx, u, hu, ux, hux, hc⟩ := hc
        split at hc
        · cases hc
        · simp only [Option.bind_eq_some_iff] at hc
          obtain ⟨k, hk, i, hi, hc⟩ := hc
          split at hc
          · split at hc
            · (first | (cases hc; done) | (simp only [bS, mS] at hc; repeat (first | (cases hc; done) | obtain ⟨_, hc⟩ := hc)))
            · cases hc
          · cases hc
        · cases hc
      · simp only [Option.bind_eq_some_iff] at hc
        obtain ⟨t, ht, u, hu, hc⟩ := hc
        split at hc
        · simp only [Option.bind_eq_some_iff] at hc
          obtain ⟨k, hk, i, hi, hc⟩ := hc
          split at hc
          · (first | (cases hc; done) | (simp only [bS, mS] at hc; repeat (first | (cases hc; done) | obtain ⟨_, hc⟩ := hc)))
          · cases hc
        · cases hc
      · (first | (cases hc; done) | (simp only [bS, mS] at hc; repeat (first | (cases hc; done) | obtain ⟨_, hc⟩ := hc)))
      · (first | (cases hc; done) | (simp only [bS, mS] at hc; repeat (first | (cases hc; done) | obtain ⟨_, hc⟩ := hc)))
      · (first | (cases hc; done) | (simp only [bS, mS] at hc; repeat (first | (cases hc; done) | obtain ⟨_, hc⟩ := hc)))
      · cases hc
    · cases hc
  case move y => split at hc <;> (first | (cases hc; done) | (simp only [bS, mS] at hc; repeat (first | (cases hc; done) | obtain ⟨_, hc⟩ := hc)))
  case assign y => split at hc <;> (first | (cases hc; done) | (simp only [bS, mS] at hc; repeat (first | (cases hc; done) | obtain ⟨_, hc⟩ := hc)))
  case pick c p q => (first | (cases hc; done) | (simp only [bS, mS] at hc; repeat (first | (cases hc; done) | obtain ⟨_, hc⟩ := hc)))
  case alloc t => simp only [Option.bind_eq_some_iff] at hc; obtain ⟨z, h1, h2⟩ := hc; split at h2 <;> cases h2
  case box t y => simp only [Option.map_eq_some_iff] at hc; obtain ⟨y', _, hc⟩ := hc; rcases boxO_or (o.dst.bind fun d => List.lookup d E.accs) y' with hb | hb <;> rw [hb] at hc <;> cases hc
  case build t parts =>
    simp only [Option.bind_eq_some_iff] at hc
    obtain ⟨z, hz, u, hu, hc⟩ := hc
    split at hc
    · split at hc <;> (first | (cases hc; done) | (simp only [bS, mS] at hc; repeat (first | (cases hc; done) | obtain ⟨_, hc⟩ := hc)))
    · (first | (cases hc; done) | (simp only [bS, mS] at hc; repeat (first | (cases hc; done) | obtain ⟨_, hc⟩ := hc)))
    · cases hc
  case buildSlice t len parts => exact ⟨t, len, parts, rfl⟩
  case load t y => (first | (cases hc; done) | (simp only [bS, mS] at hc; repeat (first | (cases hc; done) | obtain ⟨_, hc⟩ := hc)))
  case store t y z => (first | (cases hc; done) | (simp only [bS, mS] at hc; repeat (first | (cases hc; done) | obtain ⟨_, hc⟩ := hc)))
  case nilCheck y => (first | (cases hc; done) | (simp only [bS, mS] at hc; repeat (first | (cases hc; done) | obtain ⟨_, hc⟩ := hc)))
  case binOp op t p q ty =>
    simp only [Option.bind_eq_some_iff] at hc
    obtain ⟨u, hu, hc⟩ := hc
    split at hc
    · (first | (cases hc; done) | (simp only [bS, mS] at hc; repeat (first | (cases hc; done) | obtain ⟨_, hc⟩ := hc)))
    · have key : ∀ neg, compEq P E neg t p q ≠ some (.buildSlice k0 z0 n0 p0) := by
        intro neg hc
        simp only [compEq, Option.bind_eq_some_iff] at hc
        obtain ⟨u', hu', hc⟩ := hc
        split at hc
        · (first | (cases hc; done) | (simp only [bS, mS] at hc; repeat (first | (cases hc; done) | obtain ⟨_, hc⟩ := hc)))
        · simp only [Option.bind_eq_some_iff] at hc
          obtain ⟨ue, hue, i, hi, hc⟩ := hc
          split at hc
          · split at hc <;> (first | (cases hc; done) | (simp only [bS, mS] at hc; repeat (first | (cases hc; done) | obtain ⟨_, hc⟩ := hc)))
          · cases hc
        · split at hc
          · simp only [Option.bind_eq_some_iff, Option.map_eq_some_iff] at hc; obtain ⟨_, _, _, _, _, _, hc⟩ := hc; cases hc
          simp only [Option.bind_eq_some_iff] at hc
          obtain ⟨k, hk, hc⟩ := hc
          split at hc
          · (first | (cases hc; done) | (simp only [bS, mS] at hc; repeat (first | (cases hc; done) | obtain ⟨_, hc⟩ := hc)))
          · split at hc <;> (first | (cases hc; done) | (simp only [bS, mS] at hc; repeat (first | (cases hc; done) | obtain ⟨_, hc⟩ := hc)))
      split at hc
      · exact absurd hc (key _)
      · exact absurd hc (key _)
      · cases hc
  case unOp op t y => (first | (cases hc; done) | (simp only [bS, mS] at hc; repeat (first | (cases hc; done) | obtain ⟨_, hc⟩ := hc)))
  case convert s d y =>
    simp only [Option.bind_eq_some_iff] at hc
    obtain ⟨us, hus, ud, hud, hc⟩ := hc
    split at hc
    · (first | (cases hc; done) | (simp only [bS, mS] at hc; repeat (first | (cases hc; done) | obtain ⟨_, hc⟩ := hc)))
    · (first | (cases hc; done) | (simp only [bS, mS] at hc; repeat (first | (cases hc; done) | obtain ⟨_, hc⟩ := hc)))
    · simp only [Option.bind_eq_some_iff] at hc
      obtain ⟨ue, hue, hc⟩ := hc
      split at hc
      · simp only [Option.map_eq_some_iff] at hc
        obtain ⟨y', h1, hh⟩ := hc
        cases hh
      · cases hc
    · simp only [Option.bind_eq_some_iff] at hc
      obtain ⟨ue, hue, hc⟩ := hc
      split at hc <;> (first | (cases hc; done) | (simp only [bS, mS] at hc; repeat (first | (cases hc; done) | obtain ⟨_, hc⟩ := hc)))
    · cases hc
  case sliceToArrayPointer t y =>
    simp only [Option.bind_eq_some_iff] at hc
    obtain ⟨u, hu, hc⟩ := hc
    split at hc
    · simp only [Option.bind_eq_some_iff] at hc
      obtain ⟨k, hk, hc⟩ := hc
      split at hc <;> (first | (cases hc; done) | (simp only [bS, mS] at hc; repeat (first | (cases hc; done) | obtain ⟨_, hc⟩ := hc)))
    · cases hc
  case makeFunc fn first caps => (first | (cases hc; done) | (simp only [bS, mS] at hc; repeat (first | (cases hc; done) | obtain ⟨_, hc⟩ := hc)))
  case makeSlice t l' c =>
    simp only [Option.bind_eq_some_iff] at hc
    obtain ⟨u, hu, hc⟩ := hc
    split at hc
    · simp only [Option.bind_eq_some_iff] at hc
      obtain ⟨k, hk, z, hz, i, hi, hc⟩ := hc
      split at hc <;> (first | (cases hc; done) | (simp only [bS, mS] at hc; repeat (first | (cases hc; done) | obtain ⟨_, hc⟩ := hc)))
    · cases hc
  case slice t y lo hi mx =>
    simp only [Option.bind_eq_some_iff] at hc
    obtain ⟨u, hu, y', h1, lo', h2, hi', h3, mx', h4, hc⟩ := hc
    split at hc
    · cases hc
    · simp only [Option.bind_eq_some_iff] at hc
      obtain ⟨k, hk, i, hi2, hc⟩ := hc
      split at hc <;> cases hc
    · simp only [Option.bind_eq_some_iff] at hc
      obtain ⟨k, hk, i, hi2, hc⟩ := hc
      split at hc <;> cases hc
    · cases hc
  case fieldAddr t y q =>
    simp only [Option.bind_eq_some_iff] at hc
    obtain ⟨u, hu, hc⟩ := hc
    split at hc
    · simp only [Option.bind_eq_some_iff] at hc
      obtain ⟨fd, hf, i, hi, hc⟩ := hc
      split at hc <;> (first | (cases hc; done) | (simp only [bS, mS] at hc; repeat (first | (cases hc; done) | obtain ⟨_, hc⟩ := hc)))
    · cases hc
  case field t y q =>
    simp only [Option.bind_eq_some_iff] at hc
    obtain ⟨u, hu, hc⟩ := hc
    split at hc
    · (first | (cases hc; done) | (simp only [bS, mS] at hc; repeat (first | (cases hc; done) | obtain ⟨_, hc⟩ := hc)))
    · cases hc
  case indexAddr t y ix =>
    simp only [Option.bind_eq_some_iff] at hc
    obtain ⟨u, hu, y', h1, ix', h2, hc⟩ := hc
    split at hc
    · simp only [Option.bind_eq_some_iff] at hc
      obtain ⟨k, hk, i, hi, hc⟩ := hc
      split at hc <;> cases hc
    · simp only [Option.bind_eq_some_iff] at hc
      obtain ⟨k, hk, i, hi, hc⟩ := hc
      split at hc <;> cases hc
    · cases hc
  case index t y ix =>
    simp only [Option.bind_eq_some_iff] at hc
    obtain ⟨u, hu, y', h1, ix', h2, hc⟩ := hc
    split at hc
    · cases hc
    · simp only [Option.bind_eq_some_iff] at hc
      obtain ⟨k, hk, i, hi, hc⟩ := hc
      split at hc <;> cases hc
    · cases hc
  case extract t i => (first | (cases hc; done) | (simp only [bS, mS] at hc; repeat (first | (cases hc; done) | obtain ⟨_, hc⟩ := hc)))
  case makeMap t rs => cases rs <;> cases hc
  case lookup t x k ok => (first | (cases hc; done) | (simp only [bS, mS] at hc; repeat (first | (cases hc; done) | obtain ⟨_, hc⟩ := hc)))
  case mapUpdate t m k x => (first | (cases hc; done) | (simp only [bS, mS] at hc; repeat (first | (cases hc; done) | obtain ⟨_, hc⟩ := hc)))
  case range t x =>
    simp only [Option.bind_eq_some_iff] at hc
    obtain ⟨u, hu, hc⟩ := hc
    split at hc
    · (first | (cases hc; done) | (simp only [bS, mS] at hc; repeat (first | (cases hc; done) | obtain ⟨_, hc⟩ := hc)))
    · (first | (cases hc; done) | (simp only [bS, mS] at hc; repeat (first | (cases hc; done) | obtain ⟨_, hc⟩ := hc)))
    · cases hc
  case next x str => (first | (cases hc; done) | (simp only [bS, mS] at hc; repeat (first | (cases hc; done) | obtain ⟨_, hc⟩ := hc)))
  all_goals cases hc
theorem buildSlice_exact {t el : TypeId} {len : Nat} {parts : Array (Nat × Operand)} (hop : o.op = .buildSlice t len parts) (ht : P.underlying t = some (.slice el)) {k : Option Nat} (hkz : 0 < kz k) {z : Value} (hz : zeroOf P el = some z) {i : TypeInfo} (hi : P.info? el = some i) (hl : len * i.size ≤ 16777216) (hs : i.size = kz k) (hf : elFits k (cst z) = true) {parts' : List (Nat × Opd)} (hc : compEls E parts.toList = some parts')
    (hx : aop C (.buildSlice k (cst z) len parts') e h = some (v, h')) (he : EnvR S e a E.nt) (hg : GlobOK E.gl S.imm) :
    ∃ els cells', h' = h ∧ v = .slice .full k els ∧ els.length = len ∧ (∀ u ∈ cells'.toList, u.oneCell' = true) ∧ VL S (flat els) cells'.toList ∧ (∀ x ∈ els, shp k x) ∧ ∀ W, (execOp a.eval o).run P W = .ok (.value (.slice (some ⟨W.heap.size, 0, none⟩) len len)) (W.alloc (.cells cells' el)) := by
  simp only [aop, Option.map_eq_some_iff, Prod.mk.injEq] at hx
  obtain ⟨els, hse, rfl, rfl⟩ := hx
  obtain ⟨hcz, hzs⟩ := cst_cells hf
  obtain ⟨f1, f2⟩ := elFits_shp hf
  have hcells : ((Array.range (len * kz k)).map (fun j => z.cells[j % z.cells.size]!)).toList = (List.replicate len z.cells.toList).flatten := by
    rw [← hzs]; exact range_cells _ (by omega) len
  have hone : ∀ u ∈ z.cells.toList, u.oneCell' = true := by
    rw [hcz] at f2
    exact oneL_V (S := S) f2 (VL_map_sc _)
  have hv0 : VL S (flat (List.replicate len (cst z))) ((Array.range (len * kz k)).map (fun j => z.cells[j % z.cells.size]!)).toList := by
    rw [hcells, flat, List.map_replicate, hcz]
    refine VL.flatten (by simp) fun j y w hy hw => ?_
    rw [List.getElem?_replicate] at hy hw
    split at hy
    · cases hy; rename_i hj; rw [if_pos hj] at hw; cases hw; exact VL_map_sc _
    · cases hy
  obtain ⟨cells', g1, g2, g3, g4, g5⟩ := set_els he hg (cells := (Array.range (len * kz k)).map (fun j => z.cells[j % z.cells.size]!)) hc hse (fun x hx => by rw [List.eq_of_mem_replicate hx]; exact f1) hv0 (by
    rw [hcells]
    intro u hu
    rw [List.mem_flatten] at hu
    obtain ⟨l, hl1, hl2⟩ := hu
    rw [List.eq_of_mem_replicate hl1] at hl2
    exact hone u hl2)
  rw [List.length_replicate] at g5
  refine ⟨els, cells', rfl, rfl, g5, g4, g2, g3, fun W => ?_⟩
  · have hmap : (parts.map fun (i, x) => (i, a.eval x)).toList = parts.toList.map fun (i, x) => (i, a.eval x) := by simp
    have hfill : ∀ cs : Array Value, cs.toList = ((Array.range (len * kz k)).map (fun j => z.cells[j % z.cells.size]!)).toList → Instr.fill (fun j => some (j * kz k, kz k)) cs (parts.map fun (i, x) => (i, a.eval x)).toList = some cells' := by
      intro cs hcs
      rw [hmap, Array.toList_inj.1 hcs]; exact g1
    have hnl : ¬ (16777216 < len * kz k) := by rw [← hs]; omega
    simp only [execOp, hop, Instr.buildSlice, Sem.run_bind, run_underlying' ht, Result.andThen_ok, run_sizeOf' hi, hs]
    rw [if_neg (by simpa using hnl)]
    by_cases h0 : len * kz k = 0
    · rw [if_pos h0]
      simp only [Sem.run_bind, Sem.run_pure, Result.andThen_ok]
      rw [hfill _ (by simp [h0])]
      simp [newRow]
    · rw [if_neg h0]
      simp only [Sem.run_bind, Sem.run_pure, Result.andThen_ok, run_zero' hz]
      rw [hfill _ rfl]
      simp [newRow]

theorem comp_bs {t : TypeId} {len : Nat} {parts : Array (Nat × Operand)} {k : Option Nat} {z' : AV} {len' : Nat} {ps : List (Nat × Opd)} (hop : o.op = .buildSlice t len parts) (hc : compOp P E o = some (.buildSlice k z' len' ps)) :
    ∃ el z i, P.underlying t = some (.slice el) ∧ 0 < kz k ∧ zeroOf P el = some z ∧ P.info? el = some i ∧ len * i.size ≤ 16777216 ∧ i.size = kz k ∧ elFits k (cst z) = true ∧ compEls E parts.toList = some ps ∧ z' = cst z ∧ len' = len := by
  simp only [compOp, hop, Option.bind_eq_some_iff] at hc
  obtain ⟨u, hu, hc⟩ := hc
  split at hc
  · simp only [Option.bind_eq_some_iff] at hc
    obtain ⟨k', hk, z, hz, i, hi, hc⟩ := hc
    split at hc
    · rename_i hcond
      simp only [Option.map_eq_some_iff] at hc
      obtain ⟨ps', h1, hh⟩ := hc
      cases hh
      obtain ⟨i', f1, f2, f3⟩ := kOf_size hk
      exact ⟨_, z, i, hu, by omega, hz, hi, hcond.1, hcond.2.1, hcond.2.2, h1, rfl, rfl⟩
    · cases hc
  · cases hc
theorem ex_buildSliceV {k : Option Nat} {z' : AV} {n : Nat} {ps : List (Nat × Opd)} (hc : compOp P E o = some (.buildSlice k z' n ps)) (hx : aop C (.buildSliceV k z' n ps) e h = some (v, h')) (r : Rel S h B W) (he : EnvR S e a E.nt) (hg : GlobOK E.gl S.imm) : ExOK P o a S h' v B W := by
  obtain ⟨t, len, parts, hop⟩ := comp_bso hc rfl
  obtain ⟨el, z, i, f1, f2, f3, f4, f5, f6, f7, f8, rfl, rfl⟩ := comp_bs hop hc
  simp only [aop, Option.bind_eq_some_iff] at hx
  obtain ⟨els, hse, hx⟩ := hx
  split at hx
  · rename_i hpos
    cases hx
    have hx0 : aop C (.buildSlice k (cst z) n ps) e h = some (.slice .full k els, h) := by simp only [aop, hse, Option.map_some]
    obtain ⟨els', cells', _, q0, k1, k2, k3, k4, k5⟩ := buildSlice_exact hop f1 f2 f3 f4 f5 f6 f7 f8 hx0 he hg
    cases q0
    have hl := k3.length
    have hfl := els_flat_len k4
    obtain ⟨r2, ex⟩ := r.newVec true (flat els) cells' el (by rw [List.take_of_length_le (by omega)]; exact k3) k2 (fun _ => by rw [← Array.length_toList]; omega)
    refine ⟨_, _, _, _, k5 W, .inl rfl, ex, r2, ?_, (Below.refl B W).alloc r.base _⟩
    simp only [V]
    refine ⟨W.heap.size, cells'.size, n, by simp [addBlk], by simp [addBlk], Nat.le_refl _, ?_, rfl⟩
    have hq : cells'.size = n * kz k := by rw [← Array.length_toList, hl, hfl, k1]
    omega
  · cases hx
/-- a step of a marked operation -/
theorem step_soundQ {y x : AOper} (hC : ClOK P E.gl C) (hd : compOp P E o = some y.op ∨ y.op = .stuck) (hq : QOf y x) (hx : aop C x.op e h = some (v, h')) (r : Rel S h B W) (he : EnvR S e a E.nt) (hg : GlobOK E.gl S.imm) {next : Act → World → Prop} {Q : Exit → Act → World → Prop}
    (hn : ∀ S' u W', Ext S S' → Rel S' h' B W' → V S' v u → Below B W W' → next (a.put o.dst u) W') : o.wp P a W next Q := by
  rcases hq.op with hop | ⟨f, l, hy, hop⟩ | ⟨z, hy, hop⟩ | ⟨k, z, n, ps, hy, hop⟩
  · rw [hop] at hx
    exact step_sound hC (not_stuck hd hx) hx r he hg hn
  · rw [hop] at hx
    simp only [aop] at hx
    split at hx
    · rename_i hpure
      simp only [Option.bind_eq_some_iff, Prod.exists] at hx
      obtain ⟨v', h1, hcall, hx⟩ := hx
      split at hx
      · rename_i hrig
        cases hx
        have hc : compOp P E o = some (.call (.cst (.func (.func f) [] [])) l) := by
          rcases hd with hd | hd
          · rw [hd, hy]
          · rw [hy] at hd; cases hd
        obtain ⟨f0, args, ts, hop', hf, hl⟩ := comp_call hc rfl
        obtain ⟨p, q, q1, q2⟩ := call_parts (first := []) (caps := []) hf hl he hg rfl
        obtain ⟨hcal, _⟩ := hC.call _ _ _ _ _ hcall
        unfold Oper.wp
        rw [run_call hop' q1 hcal W]
        simp only [Oper.upon_enter]
        refine (hC.quiet _ _ _ _ _ hpure hcall S B W _ r q2 hg).mono ?_
        rintro e' W' ⟨u, S', rfl, g1, g2⟩
        rw [conc_eq _ hrig g1]
        exact hn S _ W' (Ext.refl S) (r.world g2) (rigid_V v hrig) (g2.mono r.base)
      · cases hx
    · cases hx
  · rw [hop] at hx
    have hc : compOp P E o = some (.convBytes z) := by
      rcases hd with hd | hd
      · rw [hd, hy]
      · rw [hy] at hd; cases hd
    obtain ⟨s, d, el, y', hop', q1, q2, q3, q4⟩ := comp_cb hc rfl
    obtain ⟨n, u, W', S', h1, h2, h3, h4, h5, h6⟩ := ex_convBytesI hop' q1 q2 q3 q4 hx r he hg
    unfold Oper.wp
    rw [h1]
    rcases h2 with rfl | ⟨rfl, rfl⟩
    · exact hn S' u W' h3 h4 h5 h6
    · exact hn S' _ W' h3 h4 h5 h6
  · rw [hop] at hx
    have hc : compOp P E o = some (.buildSlice k z n ps) := by
      rcases hd with hd | hd
      · rw [hd, hy]
      · rw [hy] at hd; cases hd
    obtain ⟨n', u, W', S', h1, h2, h3, h4, h5, h6⟩ := ex_buildSliceV hc hx r he hg
    unfold Oper.wp
    rw [h1]
    rcases h2 with rfl | ⟨rfl, rfl⟩
    · exact hn S' u W' h3 h4 h5 h6
    · exact hn S' _ W' h3 h4 h5 h6
/-- a row of operations -/
theorem ops_sound (hC : ClOK P E.gl C) {ops : Array Oper} {Q : Exit → Act → World → Prop} : ∀ {l : List Oper} {l' : List AOper} {e e' : Env} {h h' : Heap} {S : St} {W : World} {a : Act}, compOps P E ops l = some l' → aops C l' e h = some (e', h') → Rel S h B W → EnvR S e a E.nt → GlobOK E.gl S.imm →
    (∀ S' a' W', Ext S S' → Rel S' h' B W' → EnvR S' e' a' E.nt → a'.defers = a.defers → Below B W W' → Q .normal a' W') → wpList P ops Q l a W
  | [], l', e, e', h, h', S, W, a, hc, hx, r, he, hg, hq => by
    simp only [compOps] at hc
    cases hc
    simp only [aops] at hx
    cases hx
    exact hq S a W (Ext.refl S) r he rfl (Below.refl B W)
  | o :: l, l', e, e', h, h', S, W, a, hc, hx, r, he, hg, hq => by
    simp only [compOps, Option.bind_eq_some_iff, Option.map_eq_some_iff] at hc
    obtain ⟨x, hc1, l'', hc2, rfl⟩ := hc
    obtain ⟨d1, d2, d3, d4⟩ := comp_dst hc1
    simp only [aops, Option.bind_eq_some_iff] at hx
    obtain ⟨w, hw, hx⟩ := hx
    have hwant := want_ok d2 he hw
    unfold wpList
    cases w with
    | true =>
      rw [if_pos hwant]
      simp only [if_true, Option.bind_eq_some_iff, Prod.exists] at hx
      obtain ⟨v, h1, hx1, hx2⟩ := hx
      replace d1 := not_stuck d1 hx1
      refine .inl (step_sound hC d1 hx1 r he hg fun S' u W' g1 g2 g3 g4 => ?_)
      rw [d3] at hx2
      exact ops_sound hC hc2 hx2 g2 ((he.mono g1).put d4 g3) (hg.mono g1) fun S2 a2 W2 k1 k2 k3 k4 k5 => hq S2 a2 W2 (g1.trans k1) k2 k3 (k4.trans (by cases o.dst <;> rfl)) (g4.trans k5)
    | false =>
      rw [if_neg (by rw [hwant]; simp)]
      simp only [Bool.false_eq_true, if_false] at hx
      rw [d3] at hx
      exact ops_sound hC hc2 hx r (he.put d4 (V_sc _)) hg fun S2 a2 W2 k1 k2 k3 k4 k5 => hq S2 a2 W2 k1 k2 k3 (k4.trans (by cases o.dst <;> rfl)) k5
/-- a row of operations that only reads, in whatever order -/
theorem opsQ_sound (hC : ClOK P E.gl C) {ops : Array Oper} {Q : Act → Prop} (r : Rel S h B W) (hg : GlobOK E.gl S.imm) : ∀ {l : List Oper} {l' : List AOper} {e e' : Env} {a : Act}, compOps P E ops l = some l' → aopsQ C l' e h = some e' → EnvR S e a E.nt →
    (∀ a', EnvR S e' a' E.nt → a'.defers = a.defers → Q a') → wpQuiet P ops (fun W' => Below W.heap.size W W') Q l a
  | [], l', e, e', a, hc, hx, he, hq => by
    simp only [compOps] at hc
    cases hc
    simp only [aopsQ] at hx
    cases hx
    exact hq a he rfl
  | o :: l, l', e, e', a, hc, hx, he, hq => by
    simp only [compOps, Option.bind_eq_some_iff, Option.map_eq_some_iff] at hc
    obtain ⟨x, hc1, l'', hc2, rfl⟩ := hc
    obtain ⟨d1, d2, d3, d4⟩ := comp_dst hc1
    simp only [aopsQ, Option.bind_eq_some_iff] at hx
    obtain ⟨w, hw, hx⟩ := hx
    have hwant := want_ok d2 he hw
    unfold wpQuiet
    have hdef : ∀ u : Value, (a.put o.dst u).defers = a.defers := fun u => by cases o.dst <;> rfl
    cases w with
    | false =>
      rw [if_neg (by rw [hwant]; simp)]
      simp only [Bool.false_eq_true, if_false] at hx
      rw [d3] at hx
      exact opsQ_sound hC r hg hc2 hx (he.put d4 (V_sc _)) fun a2 k3 k4 => hq a2 k3 (k4.trans (hdef _))
    | true =>
      rw [if_pos hwant]
      simp only [if_true, Option.bind_eq_some_iff] at hx
      obtain ⟨v, hx1, hx2⟩ := hx
      replace d1 := not_stuckQ d1 hx1
      rw [d3] at hx2
      have fin : ∀ u, V S v u → wpQuiet P ops (fun W' => Below W.heap.size W W') Q l (a.put o.dst u) := fun u hu =>
        opsQ_sound hC r hg hc2 hx2 (he.put d4 hu) fun a2 k3 k4 => hq a2 k3 (k4.trans (hdef _))
      unfold quietV at hx1
      split at hx1
      · rename_i hst
        simp only [Option.map_eq_some_iff, Prod.exists] at hx1
        obtain ⟨v', h', hx1, rfl⟩ := hx1
        obtain ⟨_, u, hu, hrun⟩ := op_still d1 hst hx1 r he hg
        exact ⟨u, fun w' hw' => by unfold Oper.quietAt; rw [hrun w']; exact ⟨rfl, rfl⟩, fin u hu⟩
      · have hrel : ∀ W', Below W.heap.size W W' → Rel S h B W' := fun W' hb => r.world hb
        have fromR : ∀ v', rigid v' = true → v' = v → (∀ W', Below W.heap.size W W' → ExR P o a S v' W') → o.quiet P a (fun W' => Below W.heap.size W W') (wpQuiet P ops (fun W' => Below W.heap.size W W') Q l) := by
          rintro v' hrig rfl hR
          refine ⟨conc v', fun W' hw' => ?_, ?_⟩
          · obtain ⟨u, h1, h2⟩ := hR W' hw'
            have := conc_eq _ hrig h2
            subst this
            unfold Oper.quietAt
            rw [h1]
            exact ⟨rfl, rfl⟩
          · obtain ⟨u, h1, h2⟩ := hR W (Below.refl _ _)
            have := conc_eq _ hrig h2
            rw [← this]
            exact fin u h2
        split at hx1
        · rename_i k y hop
          simp only [Option.bind_eq_some_iff, Prod.exists] at hx1
          obtain ⟨v', h', hx1, hx3⟩ := hx1
          split at hx3
          · rename_i hrig
            refine fromR v' hrig (Option.some.inj hx3) fun W' hw' => ?_
            rw [hop] at d1 hx1
            exact (load_or_str d1 (.inl ⟨k, y, rfl⟩) hx1 (hrel W' hw') he hg).2
          · cases hx3
        · rename_i y hop
          simp only [Option.bind_eq_some_iff, Prod.exists] at hx1
          obtain ⟨v', h', hx1, hx3⟩ := hx1
          split at hx3
          · rename_i hrig
            refine fromR v' hrig (Option.some.inj hx3) fun W' hw' => ?_
            rw [hop] at d1 hx1
            exact (load_or_str d1 (.inr ⟨y, rfl⟩) hx1 (hrel W' hw') he hg).2
          · cases hx3
        · rename_i f l0 hop
          split at hx1
          · rename_i g first caps hv
            split at hx1
            · rename_i hpure
              simp only [Option.bind_eq_some_iff, Prod.exists] at hx1
              obtain ⟨v', h', hx1, hx3⟩ := hx1
              split at hx3
              · rename_i hrig
                cases hx3
                obtain ⟨f0, args, ts, hop', hf, hl⟩ := comp_call d1 hop
                rw [hop] at hx1
                simp only [aop, hv] at hx1
                obtain ⟨p, q, q1, q2⟩ := call_parts hf hl he hg hv
                obtain ⟨hcal, _⟩ := hC.call _ _ _ _ _ hx1
                have hquiet : ∀ W', Below W.heap.size W W' → o.quietAt P a (fun W' => Below W.heap.size W W') W' (conc v) := by
                  intro W' hw'
                  unfold Oper.quietAt
                  rw [run_call hop' q1 hcal W']
                  refine ⟨rfl, (hC.quiet _ _ _ _ _ hpure hx1 S B W' _ (hrel W' hw') q2 hg).mono ?_⟩
                  rintro e' W2 ⟨u, S', rfl, g1, g2⟩
                  rw [conc_eq _ hrig g1]
                  exact ⟨rfl, hw'.trans (g2.mono hw'.size)⟩
                refine ⟨conc v, hquiet, fin _ ?_⟩
                -- the value lies as it must: a rigid one lies anyhow
                exact rigid_V v hrig
              · cases hx3
            · cases hx1
          · cases hx1
        · cases hx1
end
end Go.Proofs.Ytipbmacpenmgoaa.AM

/- A literal's bytes: a row that is built and at once converted to bytes that a text may share. -/
namespace Go.Proofs.Ytipbmacpenmgoaa.AM
open Go Go.RowKit
set_option linter.unusedVariables false
set_option linter.unusedSimpArgs false
section
variable {P : Program} {E : Env0} {o : Oper} {C : Cl} {e : Env} {h h' : Heap} {v : AV} {S : St} {B : Nat} {W : World} {a : Act}
theorem eval_put_self {a : Act} {d : Nat} {u : Value} (hd : d < a.tmps.size) : (a.put (some d) u).eval (.tmp d) = u := by
  simp [Act.put, Act.eval, Array.getD_eq_getD_getElem?, hd]
/-- the pair, in the model -/
theorem pair_run {o1 o2 : Oper} {x1 m : AOper} (hc1 : compOp P E o1 = some x1.op) (hb : bufPair P o1 o2 x1 = some m) (hx : aop C x1.op e h = some (v, h')) (r : Rel S h B W) (he : EnvR S e a E.nt) (hg : GlobOK E.gl S.imm) :
    ∃ d d2 u W1 W2 S2, o1.dst = some d ∧ o2.dst = some d2 ∧ o1.guard = none ∧ o2.guard = none ∧ m = ⟨some d2, .move (.tmp d), none⟩ ∧ (execOp a.eval o1).run P W = .ok (.value u) W1 ∧ (∀ a' : Act, a'.eval (.tmp d) = u → (execOp a'.eval o2).run P W1 = .ok (.value u) W2) ∧ Ext S S2 ∧ Rel S2 h' B W2 ∧ V S2 v u ∧ Below B W W2 := by
  unfold bufPair at hb
  split at hb
  · rename_i t1 len parts z' len' ps d s t d' d2 q1 q2 q3 q4 q5
    split at hb
    · rename_i hcond
      obtain ⟨rfl, rfl, rfl, g1, g2⟩ := hcond
      simp only [Option.bind_eq_some_iff] at hb
      obtain ⟨u, hu, hb⟩ := hb
      split at hb
      · rename_i el0
        simp only [Option.bind_eq_some_iff] at hb
        obtain ⟨ue, hue, hb⟩ := hb
        split at hb
        · cases hb
          rw [q2] at hc1 hx
          obtain ⟨el, z, i, f1, f2, f3, f4, f5, f6, f7, f8, rfl, rfl⟩ := comp_bs q1 hc1
          obtain ⟨els, cells', rfl, rfl, k1, k2, k3, k4, k5⟩ := buildSlice_exact q1 f1 f2 f3 f4 f5 f6 f7 f8 hx he hg
          rw [f1] at hu
          cases hu
          obtain ⟨r', ex⟩ := r.newImm cells' el0 (cells'.size, cells'.size + 1) k2
          refine ⟨_, _, _, _, _, _, q3, q5, g1, g2, rfl, k5 W, fun a' ha => ?_, ex, r', ?_, (Below.refl B W).alloc r.base _⟩
          · have hrun := Lib.run_convert_bytes_const (P := P) W _ el0 cells' len' len' f1 hue
            simp only [execOp, q4, ha, Sem.run_bind, hrun, Result.andThen_ok, Sem.run_pure]
          · simp only [V]
            refine ⟨_, len', by rw [k1], by omega, by simp only [OwnV]; omega, .inr ⟨W.heap.size, 0, rfl, VE_of_flat k4 (VL.mono ex _ k3) fun j u hj => ?_⟩⟩
            simp only [addImm, if_true, Nat.zero_add]
            simpa using hj
        · cases hb
      · cases hb
    · cases hb
  · cases hb
theorem compG_none' {ops : Array Oper} {g : Option (Nat × Bool)} {q : Option (Nat × Bool)} (hq : q = none) (h : compG ops q = some g) : g = none := by
  subst hq
  simpa [compG, eq_comm] using h
/-- a row of operations, literals' bytes in it -/
theorem pair_V {mm : Nat → Bool} {o1 o2 : Oper} {x1 m : AOper} (hb : bufPair P o1 o2 (toV mm x1) = some m) : toV mm x1 = x1 := by
  rcases toV_or mm x1 with h | ⟨z, ⟨_, h⟩ | ⟨_, h⟩⟩
  · exact h
  · rw [h] at hb
    unfold bufPair at hb
    split at hb
    · rename_i q2 _ _ _; cases q2
    · cases hb
  · rw [h] at hb
    unfold bufPair at hb
    split at hb
    · rename_i q2 _ _ _; cases q2
    · cases hb
theorem letgo_ok {id off len : Nat} {k : Option Nat} {els : List AV} {u : Value} (r : Rel S h B W) (hv : V S (.ms id off k len) u) (hm : msEls h id off k len = some els) : ∃ S', Ext S S' ∧ Rel S' (h.set id (.row none 1)) B W ∧ V S' (.slice .none k els) u := by
  simp only [V] at hv
  obtain ⟨b, N, cap, q1, q2, q3, q4, q5⟩ := hv
  obtain ⟨hlen, us, g1, g2, g3, g4, g5⟩ := msEls_cells r hm q1
  have hm0 := hm
  simp only [msEls, Option.bind_eq_some_iff] at hm0
  obtain ⟨cs0, hb0, _⟩ := hm0
  obtain ⟨hbi, b', c', e', w1, w2, w3, w4, w5, w6, w7, w8⟩ := box_rel r hb0
  rw [q1] at w1
  cases w1
  obtain ⟨r2, ex⟩ := r.letgo hbi q1 w2 w3 w5 w8
  refine ⟨_, ex, r2, ?_⟩
  simp only [V]
  refine ⟨_, cap, by rw [hlen]; exact q5, by omega, by simp only [OwnV], .inr ⟨b, off, rfl, VE_of_flat g5 (VL.mono ex _ g2) fun j w hj => ?_⟩⟩
  have hcell := g4 j w hj
  rw [cell_of w3.1] at hcell
  simp only [addImm, if_true]
  exact hcell
theorem step_soundV {m : Nat → Bool} {x : AOper} (hC : ClOK P E.gl C) (hd : compOp P E o = some x.op ∨ x.op = .stuck) (hx : aop C (toV m x).op e h = some (v, h')) (r : Rel S h B W) (he : EnvR S e a E.nt) (hg : GlobOK E.gl S.imm) {next : Act → World → Prop} {Q : Exit → Act → World → Prop}
    (hn : ∀ S' u W', Ext S S' → Rel S' h' B W' → V S' v u → Below B W W' → next (a.put o.dst u) W') : o.wp P a W next Q := by
  rcases toV_or m x with hq | ⟨z, ⟨hy, hq⟩ | ⟨hy, hq⟩⟩
  · rw [hq] at hx
    exact step_sound hC (not_stuck hd hx) hx r he hg hn
  · rw [hq] at hx
    have hc : compOp P E o = some (.convBytes z) := by
      rcases hd with hd | hd
      · rw [hd, hy]
      · rw [hy] at hd; cases hd
    obtain ⟨s, d, el, y', hop', q1, q2, q3, q4⟩ := comp_cb hc rfl
    obtain ⟨n, u, W', S', h1, h2, h3, h4, h5, h6⟩ := ex_convBytesV hop' q1 q2 q3 q4 hx r he hg
    unfold Oper.wp
    rw [h1]
    rcases h2 with rfl | ⟨rfl, rfl⟩
    · exact hn S' u W' h3 h4 h5 h6
    · exact hn S' _ W' h3 h4 h5 h6
  · rw [hq] at hx
    have hc : compOp P E o = some (.move z) := by
      rcases hd with hd | hd
      · rw [hd, hy]
      · rw [hy] at hd; cases hd
    simp only [aop] at hx
    split at hx
    · rename_i id off k len hev
      simp only [Option.map_eq_some_iff, Prod.mk.injEq] at hx
      obtain ⟨els, hm, rfl, rfl⟩ := hx
      refine step_sound hC hc (show aop C (.move z) e h = some (evO e z, h) from rfl) r he hg fun S' u W' g1 g2 g3 g4 => ?_
      rw [hev] at g3
      obtain ⟨S2, k1, k2, k3⟩ := letgo_ok g2 g3 hm
      exact hn S2 u W' (g1.trans k1) k2 k3 g4
    · rename_i ow k els hev
      cases hx
      exact step_sound hC hc (show aop C (.move z) e h = some (.slice ow k els, h) by simp only [aop, hev]) r he hg hn
    · cases hx
theorem ops_sound2 {mm : Nat → Bool} (hC : ClOK P E.gl C) {ops : Array Oper} {Q : Exit → Act → World → Prop} : ∀ (n : Nat) {l : List Oper} {l' : List AOper} {e e' : Env} {h h' : Heap} {S : St} {W : World} {a : Act}, l.length ≤ n → compOps P E ops l = some l' → aops C (fixB P l (l'.map (toV mm))) e h = some (e', h') → Rel S h B W → EnvR S e a E.nt → GlobOK E.gl S.imm →
    (∀ S' a' W', Ext S S' → Rel S' h' B W' → EnvR S' e' a' E.nt → a'.defers = a.defers → Below B W W' → Q .normal a' W') → wpList P ops Q l a W := by
  intro n
  induction n with
  | zero =>
    intro l l' e e' h h' S W a hn hc hx r he hg hq
    obtain rfl : l = [] := List.eq_nil_of_length_eq_zero (by omega)
    simp only [compOps] at hc
    cases hc
    simp only [List.map_nil, fixB, aops] at hx
    cases hx
    exact hq S a W (Ext.refl S) r he rfl (Below.refl B W)
  | succ n ih =>
    intro l l' e e' h h' S W a hn hc hx r he hg hq
    cases l with
    | nil =>
      simp only [compOps] at hc
      cases hc
      simp only [List.map_nil, fixB, aops] at hx
      cases hx
      exact hq S a W (Ext.refl S) r he rfl (Below.refl B W)
    | cons o l =>
      simp only [compOps, Option.bind_eq_some_iff, Option.map_eq_some_iff] at hc
      obtain ⟨x, hc1, l'', hc2, rfl⟩ := hc
      have one : ∀ {s : List AOper}, aops C (toV mm x :: s) e h = some (e', h') → (∀ {e1 : Env} {h1 : Heap} {S1 : St} {W1 : World} {a1 : Act}, aops C s e1 h1 = some (e', h') → Rel S1 h1 B W1 → EnvR S1 e1 a1 E.nt → GlobOK E.gl S1.imm → (∀ S' a' W', Ext S1 S' → Rel S' h' B W' → EnvR S' e' a' E.nt → a'.defers = a1.defers → Below B W1 W' → Q .normal a' W') → wpList P ops Q l a1 W1) → wpList P ops Q (o :: l) a W := by
        intro s hx cont
        obtain ⟨d1, d2, d3, d4⟩ := comp_dst hc1
        obtain ⟨t1, t2⟩ := toV_dst mm x
        simp only [aops, Option.bind_eq_some_iff, t1, t2] at hx
        obtain ⟨w, hw, hx⟩ := hx
        have hwant := want_ok d2 he hw
        unfold wpList
        cases w with
        | true =>
          rw [if_pos hwant]
          simp only [if_true, Option.bind_eq_some_iff, Prod.exists] at hx
          obtain ⟨v, h1, hx1, hx2⟩ := hx
          refine .inl (step_soundV hC d1 hx1 r he hg fun S' u W' g1 g2 g3 g4 => ?_)
          rw [d3] at hx2
          exact cont hx2 g2 ((he.mono g1).put d4 g3) (hg.mono g1) fun S2 a2 W2 k1 k2 k3 k4 k5 => hq S2 a2 W2 (g1.trans k1) k2 k3 (k4.trans (by cases o.dst <;> rfl)) (g4.trans k5)
        | false =>
          rw [if_neg (by rw [hwant]; simp)]
          simp only [Bool.false_eq_true, if_false] at hx
          rw [d3] at hx
          exact cont hx r (he.put d4 (V_sc _)) hg fun S2 a2 W2 k1 k2 k3 k4 k5 => hq S2 a2 W2 k1 k2 k3 (k4.trans (by cases o.dst <;> rfl)) k5
      cases l with
      | nil =>
        simp only [compOps] at hc2
        cases hc2
        simp only [List.map_cons, List.map_nil, fixB] at hx
        refine one hx fun {e1 h1 S1 W1 a1} hx1 r1 he1 hg1 hq1 => ?_
        exact ih (l := []) (l' := []) (by simp) (by simp [compOps]) (by simpa [fixB] using hx1) r1 he1 hg1 hq1
      | cons o2 l2 =>
        have hc2' := hc2
        simp only [compOps, Option.bind_eq_some_iff, Option.map_eq_some_iff] at hc2
        obtain ⟨x2, hc3, l3, hc4, rfl⟩ := hc2
        simp only [List.map_cons, fixB] at hx
        cases hb : bufPair P o o2 (toV mm x) with
        | none =>
          rw [hb] at hx
          refine one hx fun {e1 h1 S1 W1 a1} hx1 r1 he1 hg1 hq1 => ?_
          exact ih (l := o2 :: l2) (by simp at hn ⊢; omega) hc2' hx1 r1 he1 hg1 hq1
        | some m =>
          rw [hb] at hx
          have tx := pair_V (mm := mm) hb
          rw [tx] at hb
          simp only [tx] at hx
          obtain ⟨d1, d2, d3, d4⟩ := comp_dst hc1
          obtain ⟨b1, b2, b3, b4⟩ := comp_dst hc3
          simp only [aops, Option.bind_eq_some_iff] at hx
          obtain ⟨w, hw, hx⟩ := hx
          have hwant := want_ok d2 he hw
          have hgo : o.guard = none := by
            unfold bufPair at hb
            split at hb
            · split at hb
              · rename_i hcond; exact hcond.2.2.2.1
              · cases hb
            · cases hb
          have hxg := compG_none' hgo d2
          rw [hxg] at hw
          simp only [wantE, Option.some.injEq] at hw
          subst hw
          simp only [if_true, Option.bind_eq_some_iff, Prod.exists] at hx
          obtain ⟨v, h1, hx1, hx2⟩ := hx
          replace d1 := not_stuck d1 hx1
          obtain ⟨d, dd, u, W1, W2, S2, p1, p2, p3, p4, rfl, p5, p6, p7, p8, p9, p10⟩ := pair_run d1 hb hx1 r he hg
          rw [d3, p1] at hx2
          obtain ⟨w2, hw2, hx2⟩ := hx2
          simp only [wantE, Option.some.injEq] at hw2
          subst hw2
          simp only [if_true, Option.bind_eq_some_iff, Prod.exists, aop, evO, setE, getE, Option.some.injEq, Prod.mk.injEq] at hx2
          obtain ⟨v2, h2, ⟨rfl, rfl⟩, hx3⟩ := hx2
          have hdn : d < E.nt := d4 d p1
          have he1 : EnvR S2 (setE e (some d) v) (a.put (some d) u) E.nt := (he.mono p7).put (fun t ht => by cases ht; exact hdn) p9
          have he2 : EnvR S2 (setE (setE e (some d) v) (some dd) v) ((a.put (some d) u).put (some dd) u) E.nt := he1.put (fun t ht => by cases ht; exact b4 dd p2) p9
          have hev : (a.put (some d) u).eval (.tmp d) = u := eval_put_self (by rw [he.size]; exact hdn)
          unfold wpList
          rw [if_pos (by rw [hwant])]
          left
          unfold Oper.wp
          rw [p5, Oper.upon_value, p1]
          unfold wpList
          have hwant2 : Region.wanted o2 (yielded ops (a.put (some d) u).tmps) = true := by
            unfold Region.wanted
            rw [p4]
          rw [if_pos hwant2]
          left
          unfold Oper.wp
          rw [p6 _ hev, Oper.upon_value, p2]
          refine ih (l := l2) (by simp at hn; omega) hc4 (by simpa [setE, getE] using hx3) p8 he2 (hg.mono p7) fun S' a' W' k1 k2 k3 k4 k5 => hq S' a' W' (p7.trans k1) k2 k3 (k4.trans rfl) (p10.trans k5)
end
end Go.Proofs.Ytipbmacpenmgoaa.AM

/- A region that draws its order, whose last operation writes and waits for all others. -/
namespace Go.Proofs.Ytipbmacpenmgoaa.AM
open Go Go.RowKit
set_option linter.unusedVariables false
section
variable {P : Program} {ops : Array Oper} {C : World → Prop} {md : Region.Mode} {m : Nat}
theorem mem_rdyB {listed : Array Bool} {i : Nat} : i ∈ rdyB md ops m listed ↔ i ∈ Region.ready md ops listed ∧ i ≠ m := by simp [rdyB]
def wpAnyB (P : Program) (md : Region.Mode) (ops : Array Oper) (m : Nat) (C : World → Prop) (Q : Act → Prop) : Nat → Array Bool → Act → Prop
  | 0, listed, a => rdyB md ops m listed = [] ∧ Q a
  | fuel + 1, listed, a =>
    (rdyB md ops m listed = [] → Q a) ∧
    ∀ i ∈ rdyB md ops m listed, qOp P ops C i (wpAnyB P md ops m C Q fuel (listed.setIfInBounds i true)) a
theorem wpAnyB_first {Q : Act → Prop} {i : Nat} {oi : Oper} {v : Value} (hi : ops[i]? = some oi) (him : i ≠ m) (hsel : ∀ (j : Nat) (o : Oper) cs b, ops[j]? = some o → o.op ≠ .select cs b) :
    ∀ (fuel : Nat) (listed : Array Bool) (a : Act),
      (∀ j oj, ops[j]? = some oj → j ≠ i → listed.getD j true = false → (∀ e ∈ oj.after, Region.binds md e = true → e.on ≠ i) → oi.apart ops oj = true) →
      i ∈ Region.ready md ops listed → YieldsIn P ops C oi v a →
      wpAnyB P md ops m C Q fuel (listed.setIfInBounds i true) (a.put oi.dst v) → wpAnyB P md ops m C Q (fuel + 1) listed a := by
  intro fuel
  induction fuel with
  | zero =>
    intro listed a _ hr hy H
    refine ⟨fun h => (by have := mem_rdyB.2 ⟨hr, him⟩; rw [h] at this; cases this), fun j hj => ?_⟩
    obtain ⟨hj, hjm⟩ := mem_rdyB.1 hj
    by_cases hji : j = i
    · subst hji; exact hy.qOp hi H
    · have := mem_rdyB.2 ⟨ready_mono hj hji, hjm⟩
      rw [H.1] at this
      cases this
  | succ fuel ih =>
    intro listed a hfree hr hy H
    refine ⟨fun h => (by have := mem_rdyB.2 ⟨hr, him⟩; rw [h] at this; cases this), fun j hj => ?_⟩
    obtain ⟨hj, hjm⟩ := mem_rdyB.1 hj
    by_cases hji : j = i
    · subst hji; exact hy.qOp hi H
    · have h1 := H.2 j (mem_rdyB.2 ⟨ready_mono hj hji, hjm⟩)
      obtain ⟨hjun, oj, hoj, hall⟩ := mem_ready.1 hj
      have hnot : ∀ e ∈ oj.after, Region.binds md e = true → e.on ≠ i := fun e he hb heq => by
        have h1 := hall e he hb
        have h0 := (mem_ready.1 hr).1
        rw [heq] at h1
        rcases Nat.lt_or_ge i listed.size with h' | h'
        · simp [h'] at h0 h1; rw [h0] at h1; cases h1
        · simp [Array.getElem?_eq_none h'] at h1
      have h2 := qOp_put hoj (hfree j oj hoj hji hjun hnot) (fun cs b => hsel i oi cs b hi) (fun cs b => hsel j oj cs b hoj) hy h1
      have hfree' : ∀ k ok, ops[k]? = some ok → k ≠ i → (listed.setIfInBounds j true).getD k true = false →
          (∀ e ∈ ok.after, Region.binds md e = true → e.on ≠ i) → oi.apart ops ok = true := fun k ok hk hki hun hno => by
        refine hfree k ok hk hki ?_ hno
        by_cases hjk : j = k
        · subst hjk; exact hjun
        · rw [getD_set_ne true hjk] at hun; exact hun
      refine qOp_mono (fun a' h3 => ih (listed.setIfInBounds j true) a' hfree' (ready_mono hr (Ne.symm hji)) h3.1 ?_) h2
      rw [Array.setIfInBounds_comm _ _ hji]
      exact h3.2
theorem wpAnyB_lex {Q : Act → Prop} (hs : Region.noSelect ops = true) : ∀ (l : List Oper) (k : Nat) (listed : Array Bool) (a : Act), (∀ j o, l[j]? = some o → ops[k + j]? = some o) →
    lexM md ops m l.length k listed = true → wpQuiet P ops C Q l a → wpAnyB P md ops m C Q l.length listed a
  | [], _, _, _, _, hB, h => ⟨by simpa [lexM] using hB, h⟩
  | o :: l, k, listed, a, hl, hB, h => by
    have h0 : ops[k]? = some o := by simpa using hl 0 o (by simp)
    simp only [List.length_cons, lexM, Bool.and_eq_true, bne_iff_ne] at hB
    obtain ⟨⟨⟨hr, hf⟩, hkm⟩, hB'⟩ := hB
    have hst : qOp P ops C k (wpQuiet P ops C Q l) a := by unfold qOp; simp only [h0]; exact h
    obtain ⟨v, hy, hK⟩ := yieldsIn_of_qOp h0 hst
    exact wpAnyB_first h0 hkm (Region.noSelect_spec hs) l.length listed a (Region.free_spec h0 hf) (by simpa using hr) hy
      (wpAnyB_lex hs l (k + 1) _ _ (fun j o' hj => by have := hl (j + 1) o' (by simpa using hj); simpa [Nat.add_assoc, Nat.add_comm 1 j] using this) hB' hK)
/-! ### from there to every order -/
/-- what is listed, all that it waits for is listed -/
def Down (md : Region.Mode) (ops : Array Oper) (listed : Array Bool) : Prop := ∀ (j : Nat) (o : Oper), ops[j]? = some o → listed.getD j false = true → ∀ e ∈ o.after, Region.binds md e = true → listed.getD e.on false = true
theorem afters_listed {listed : Array Bool} (hc : Down md ops listed) {j : Nat} (hj : listed.getD j false = true) : ∀ i ∈ afters md ops j, listed.getD i false = true := by
  intro i hi
  unfold afters at hi
  split at hi
  · rename_i o ho
    simp only [List.mem_map, List.mem_filter, Array.mem_toList_iff] at hi
    obtain ⟨e, ⟨he, hb⟩, rfl⟩ := hi
    exact hc j o ho hj e he hb
  · cases hi
theorem reach_listed {listed : Array Bool} (hc : Down md ops listed) : ∀ (n : Nat) (l : List Nat), (∀ i ∈ l, listed.getD i false = true) → ∀ i ∈ reach md ops n l, listed.getD i false = true
  | 0, l, h => h
  | n + 1, l, h => by
    refine reach_listed hc n _ fun i hi => ?_
    rw [List.mem_eraseDups, List.mem_append, List.mem_flatMap] at hi
    rcases hi with hi | ⟨j, hj, hi⟩
    · exact h i hi
    · exact afters_listed hc (h j hj) i hi
theorem ready_afters {listed : Array Bool} {j : Nat} (hr : j ∈ Region.ready md ops listed) : listed.getD j true = false ∧ ∀ i ∈ afters md ops j, listed.getD i false = true := by
  obtain ⟨h1, o, h2, h3⟩ := mem_ready.1 hr
  refine ⟨h1, fun i hi => ?_⟩
  unfold afters at hi
  rw [h2] at hi
  simp only [List.mem_map, List.mem_filter, Array.mem_toList_iff] at hi
  obtain ⟨e, ⟨he, hb⟩, rfl⟩ := hi
  exact h3 e he hb
theorem depB_spec (hd : depB md ops m = true) : ops.size = m + 1 ∧ (∀ j, j ≤ m → ∀ i ∈ afters md ops j, i < j) ∧ ∀ i, i < m → i ∈ reach md ops m (afters md ops m) := by
  simp only [depB, Bool.and_eq_true, beq_iff_eq, List.all_eq_true, List.mem_range, decide_eq_true_eq, List.contains_iff_mem] at hd
  exact ⟨hd.1.1, fun j hj i hi => hd.1.2 j (by omega) i hi, hd.2⟩
theorem getD_tf {listed : Array Bool} {i : Nat} (hi : i < listed.size) (x y : Bool) : listed.getD i x = listed.getD i y := by simp [hi]
theorem ready_of {listed : Array Bool} {j : Nat} (hj : j < ops.size) (h0 : listed.getD j true = false) (h : ∀ i ∈ afters md ops j, listed.getD i false = true) : j ∈ Region.ready md ops listed := by
  refine mem_ready.2 ⟨h0, ops[j], Array.getElem?_eq_getElem hj, fun e he hb => h e.on ?_⟩
  unfold afters
  rw [Array.getElem?_eq_getElem hj]
  exact List.mem_map.2 ⟨e, List.mem_filter.2 ⟨Array.mem_toList_iff.2 he, hb⟩, rfl⟩
theorem all_listed (hd : depB md ops m = true) {listed : Array Bool} (hs : listed.size = m + 1) (hr : rdyB md ops m listed = []) : ∀ (n i : Nat), i < n → i < m → listed.getD i false = true
  | 0, i, h, _ => by omega
  | n + 1, i, hin, him => by
    obtain ⟨d1, d2, d3⟩ := depB_spec hd
    cases hq : listed.getD i false with
    | true => rfl
    | false =>
      exfalso
      have h0 : listed.getD i true = false := by rw [getD_tf (by omega) true false]; exact hq
      have : i ∈ rdyB md ops m listed := mem_rdyB.2 ⟨ready_of (by omega) h0 fun k hk => all_listed hd hs hr n k (by have := d2 i (by omega) k hk; omega) (by have := d2 i (by omega) k hk; omega), by omega⟩
      rw [hr] at this
      cases this
theorem m_ready (hd : depB md ops m = true) {listed : Array Bool} (hc : Down md ops listed) (hr : m ∈ Region.ready md ops listed) : ∀ i, i < m → listed.getD i false = true := fun i hi =>
  reach_listed hc m _ (ready_afters hr).2 i ((depB_spec hd).2.2 i hi)
theorem Down.set {listed : Array Bool} (hc : Down md ops listed) {j : Nat} (hr : j ∈ Region.ready md ops listed) : Down md ops (listed.setIfInBounds j true) := by
  have mono : ∀ k, listed.getD k false = true → (listed.setIfInBounds j true).getD k false = true := by
    intro k hk
    rw [Array.getD_eq_getD_getElem?] at *
    rw [Array.getElem?_setIfInBounds]
    split
    · split
      · rfl
      · rename_i h1 h2; subst h1; simp [Array.getElem?_eq_none (Nat.le_of_not_lt h2)] at hk
    · exact hk
  intro k o ho hk e he hb
  by_cases hkj : j = k
  · subst hkj
    refine mono _ ?_
    obtain ⟨_, o', ho', hall⟩ := mem_ready.1 hr
    rw [ho] at ho'
    cases ho'
    exact hall e he hb
  · refine mono _ (hc k o ho ?_ e he hb)
    rw [Array.getD_eq_getD_getElem?] at hk ⊢
    rw [Array.getElem?_setIfInBounds, if_neg hkj] at hk
    exact hk
theorem wpAny_of_B {Q : Act → Prop} {Q' : Exit → Act → World → Prop} (hd : depB md ops m = true) (hQ : ∀ a w, C w → Q a → wpOp P ops Q' m (fun a' w' => Q' .normal a' w') a w) : ∀ (fuel : Nat) (listed : Array Bool) (a : Act) (w : World), C w → listed.size = m + 1 → Down md ops listed → listed.getD m true = false →
    wpAnyB P md ops m C Q fuel listed a → wpAny P md ops Q' (fuel + 1) listed a w := by
  obtain ⟨d1, d2, d3⟩ := depB_spec hd
  have last : ∀ (fuel : Nat) (listed : Array Bool) (a : Act) (w : World), C w → listed.size = m + 1 → Down md ops listed → listed.getD m true = false → rdyB md ops m listed = [] → Q a → wpAny P md ops Q' (fuel + 1) listed a w := by
    intro fuel listed a w hw hs hc hm hr hq
    have hall : ∀ i, i < m → listed.getD i false = true := fun i hi => all_listed hd hs hr (i + 1) i (by omega) hi
    have hmr : m ∈ Region.ready md ops listed := ready_of (by omega) hm fun i hi => hall i (d2 m (Nat.le_refl _) i hi)
    refine ⟨fun h => (by rw [h] at hmr; cases hmr), fun i hi => ?_⟩
    have him : i = m := by
      cases Nat.decEq i m with
      | isTrue h => exact h
      | isFalse h => have := mem_rdyB.2 ⟨hi, h⟩; rw [hr] at this; cases this
    subst him
    refine wpOp_mono (fun a' w' hn => ?_) (hQ a w hw hq)
    have hnone : Region.ready md ops (listed.setIfInBounds i true) = [] := by
      apply List.eq_nil_iff_forall_not_mem.2
      intro k hk
      obtain ⟨h1, o, h2, _⟩ := mem_ready.1 hk
      have hk : k < ops.size := (Array.getElem?_eq_some_iff.1 h2).1
      rw [Array.getD_eq_getD_getElem?, Array.getElem?_setIfInBounds] at h1
      split at h1
      · rw [if_pos (by omega)] at h1; cases h1
      · rename_i hne
        have := hall k (by omega)
        rw [Array.getD_eq_getD_getElem?] at this
        cases hq : listed[k]? with
        | none => rw [hq] at this; cases this
        | some b => rw [hq] at this h1; simp at this h1; rw [this] at h1; cases h1
    cases fuel with
    | zero => exact ⟨hnone, hn⟩
    | succ fuel => exact ⟨fun _ => hn, by rw [hnone]; simp⟩
  intro fuel
  induction fuel with
  | zero => intro listed a w hw hs hc hm h; exact last 0 listed a w hw hs hc hm h.1 h.2
  | succ fuel ih =>
    intro listed a w hw hs hc hm h
    by_cases hr : rdyB md ops m listed = []
    · exact last (fuel + 1) listed a w hw hs hc hm hr (h.1 hr)
    · obtain ⟨i0, hi0⟩ := List.exists_mem_of_ne_nil _ hr
      obtain ⟨h0, h0m⟩ := mem_rdyB.1 hi0
      refine ⟨fun hh => (by rw [hh] at h0; cases h0), fun i hi => ?_⟩
      have him : i ≠ m := by
        rintro rfl
        have hu := (ready_afters h0).1
        have hlt : i0 < ops.size := by
          obtain ⟨_, o, h2, _⟩ := mem_ready.1 h0
          exact (Array.getElem?_eq_some_iff.1 h2).1
        have := m_ready hd hc hi i0 (by omega)
        rw [getD_tf (by omega) false true, hu] at this
        cases this
      refine wpOp_of_qOp hw (fun a' w' hw' hk => ih _ a' w' hw' (by simpa using hs) (hc.set hi) ?_ hk) (h.2 i (mem_rdyB.2 ⟨hi, him⟩))
      rw [Array.getD_eq_getD_getElem?, Array.getElem?_setIfInBounds, if_neg him, ← Array.getD_eq_getD_getElem?]
      exact hm
theorem wp_region_last {id : Nat} {Q : Exit → Act → World → Prop} {a : Act} {w : World} (hm : P.follows .mixedOrders = true) (hB : lastB ops = true) (hC : C { w with drawn := w.drawn + 1 })
    (h : wpQuiet P ops C (fun a' => ∀ w', C w' → wpOp P ops Q (ops.size - 1) (fun a'' w'' => Q .normal a'' w'') a' w') (ops.toList.take (ops.size - 1)) a) : (Code.region id ops true).wp P Q a w := by
  simp only [lastB, Bool.and_eq_true] at hB
  obtain ⟨h1, h2, h3⟩ := hB
  obtain ⟨d1, _, _⟩ := depB_spec h2
  refine wp_region_any hm ?_
  have hl : (ops.toList.take (ops.size - 1)).length = ops.size - 1 := by simp
  have hb := wpAnyB_lex (C := C) (md := .any) (m := ops.size - 1) h1 (ops.toList.take (ops.size - 1)) 0 (Array.replicate ops.size false) a (fun j o hj => by
    rw [List.getElem?_take] at hj
    split at hj
    · simpa using hj
    · cases hj) (by rw [hl]; exact h3) h
  rw [hl] at hb
  have := wpAny_of_B (Q' := Q) h2 (fun a w hw hq => hq w hw) (ops.size - 1) (Array.replicate ops.size false) a { w with drawn := w.drawn + 1 } hC (by simp; omega) (fun j o ho hj => by
    rw [Array.getD_eq_getD_getElem?, Array.getElem?_replicate] at hj
    split at hj <;> cases hj) (by
    rw [Array.getD_eq_getD_getElem?, Array.getElem?_replicate, if_pos (by omega)]
    rfl) hb
  rwa [show ops.size - 1 + 1 = ops.size by omega] at this
end
end Go.Proofs.Ytipbmacpenmgoaa.AM

/- A region that draws its order, of operations that change what is held too: in whatever order, all comes to the same. -/
namespace Go.Proofs.Ytipbmacpenmgoaa.AM
open Go Go.RowKit
set_option linter.unusedVariables false
set_option linter.unusedSimpArgs false
/-! ### equal values -/
theorem vEq_eq {a b : Value} (h : vEq a b = true) : a = b := by
  unfold vEq at h
  split at h <;> simp_all
  exact Go.WideShapes.bytes_inj (by rw [h])
mutual
theorem beqV_eq : ∀ (x y : AV), beqV x y = true → x = y
  | .sc a, y, h => by
    cases y <;> simp only [beqV] at h <;> first | (rw [vEq_eq h]) | cases h
  | .unk, y, h => by cases y <;> simp [beqV] at h
  | .ptr i o, y, h => by cases y <;> simp [beqV] at h; simp [h]
  | .ref a, y, h => by
    cases y <;> simp only [beqV] at h <;> first | (rw [beqVL_eq _ _ h]) | cases h
  | .slice o k a, y, h => by
    cases y <;> simp only [beqV, Bool.and_eq_true, beq_iff_eq] at h <;> first | (rw [h.1.1, h.1.2, beqVL_eq _ _ h.2]) | cases h
  | .ms i o k n, y, h => by cases y <;> simp [beqV] at h; simp [h]
  | .func f a b, y, h => by
    cases y with
    | func g c d =>
      cases f <;> cases g <;> simp only [beqV, Bool.and_eq_true, beq_iff_eq] at h <;> first | (rw [h.1.1, beqVL_eq _ _ h.1.2, beqVL_eq _ _ h.2]) | cases h
    | _ => cases f <;> simp [beqV] at h
  | .agg a, y, h => by
    cases y <;> simp only [beqV] at h <;> first | (rw [beqVL_eq _ _ h]) | cases h
  | .tup a, y, h => by
    cases y <;> simp only [beqV] at h <;> first | (rw [beqVL_eq _ _ h]) | cases h
  | .map i, y, h => by cases y <;> simp [beqV] at h; simp [h]
theorem beqVL_eq : ∀ (x y : List AV), beqVL x y = true → x = y
  | [], y, h => by cases y <;> simp [beqVL] at h; rfl
  | x :: xs, y, h => by
    cases y with
    | nil => simp [beqVL] at h
    | cons z zs =>
      simp only [beqVL, Bool.and_eq_true] at h
      rw [beqV_eq x z h.1, beqVL_eq xs zs h.2]
end
/-! ### what an operation looks at -/
theorem evO_congr {e e' : Env} {x : Opd} (h : ∀ t ∈ oT x, getE e t = getE e' t) : evO e x = evO e' x := by
  cases x with
  | tmp t => exact h t (by simp [oT])
  | cst v => rfl
theorem evL_congr {e e' : Env} : ∀ {l : List Opd}, (∀ t ∈ oTL l, getE e t = getE e' t) → evL e l = evL e' l
  | [], _ => rfl
  | x :: r, h => by
    simp only [oTL, List.mem_append] at h
    simp only [evL, List.map_cons]
    rw [evO_congr fun t ht => h t (.inl ht)]
    congr 1
    exact evL_congr fun t ht => h t (.inr ht)
theorem optI_congr {e e' : Env} {x : Option Opd} (h : ∀ t ∈ oTM x, getE e t = getE e' t) : optI e x = optI e' x := by
  cases x with
  | none => rfl
  | some x => simp only [optI, evO_congr h]
theorem setParts_congr {e e' : Env} : ∀ {p : List (Nat × Nat × Opd)} {cs : List AV}, (∀ t ∈ oTP p, getE e t = getE e' t) → setParts e cs p = setParts e' cs p
  | [], _, _ => rfl
  | (o, n, x) :: r, cs, h => by
    simp only [oTP, List.mem_append] at h
    simp only [setParts, evO_congr fun t ht => h t (.inl ht)]
    congr 1
    funext xs
    split
    · exact setParts_congr fun t ht => h t (.inr ht)
    · rfl
theorem setEls_congr {e e' : Env} {k : Option Nat} : ∀ {p : List (Nat × Opd)} {cs : List AV}, (∀ t ∈ oTE p, getE e t = getE e' t) → setEls e k cs p = setEls e' k cs p
  | [], _, _ => rfl
  | (i, x) :: r, cs, h => by
    simp only [oTE, List.mem_append] at h
    simp only [setEls, evO_congr fun t ht => h t (.inl ht)]
    split
    · exact setEls_congr fun t ht => h t (.inr ht)
    · rfl
theorem aop_congr {C : Cl} {o : AOp} {e e' : Env} {h : Heap} (ht : ∀ t ∈ opT o, getE e t = getE e' t) : aop C o e h = aop C o e' h := by
  cases o <;> simp only [opT, List.mem_append] at ht <;> simp only [aop]
  case move => rw [evO_congr ht]
  case acc => rw [evO_congr ht]
  case pick c a b => rw [evO_congr fun t h => ht t (.inl h), evO_congr (x := a) fun t h => ht t (.inr (.inl h)), evO_congr (x := b) fun t h => ht t (.inr (.inr h))]
  case box => rw [evO_congr ht]
  case boxI => rw [evO_congr ht]
  case appendV _ _ a b => rw [evO_congr (x := b) fun t h => ht t (.inr h), evO_congr (x := a) fun t h => ht t (.inl h)]
  case build => rw [setParts_congr ht]
  case buildSlice => rw [setEls_congr ht]
  case load => rw [evO_congr ht]
  case nilCheck => rw [evO_congr ht]
  case un => rw [evO_congr ht]
  case eqNil => rw [evO_congr ht]
  case convInt => rw [evO_congr ht]
  case convBytes => rw [evO_congr ht]
  case convBytesI => rw [evO_congr ht]
  case convBytesV => rw [evO_congr ht]
  case letgo => rw [evO_congr ht]
  case buildSliceV => rw [setEls_congr ht]
  case convStr => rw [evO_congr ht]
  case convSS => rw [evO_congr ht]
  case toArr => rw [evO_congr ht]
  case fieldAddr => rw [evO_congr ht]
  case field => rw [evO_congr ht]
  case extract => rw [evO_congr ht]
  case len => rw [evO_congr ht]
  case lenT => rw [evO_congr ht]
  case lenM => rw [evO_congr ht]
  case range => rw [evO_congr ht]
  case next => rw [evO_congr ht]
  case lookup a b c d x y => rw [evO_congr fun t h => ht t (.inl h), evO_congr (x := y) fun t h => ht t (.inr h)]
  case mapDel a b x y => rw [evO_congr fun t h => ht t (.inl h), evO_congr (x := y) fun t h => ht t (.inr h)]
  case mapSet a b x y z => rw [evO_congr fun t h => ht t (.inl h), evO_congr (x := y) fun t h => ht t (.inr (.inl h)), evO_congr (x := z) fun t h => ht t (.inr (.inr h))]
  case makeFunc a b => rw [evL_congr fun t h => ht t (.inl h), evL_congr (l := b) fun t h => ht t (.inr h)]
  case slice s k x l u m => rw [evO_congr fun t h => ht t (.inl h), optI_congr (x := l) fun t h => ht t (.inr (.inl h)), optI_congr (x := u) fun t h => ht t (.inr (.inr (.inl h))), optI_congr (x := m) fun t h => ht t (.inr (.inr (.inr h)))]
  case call f l => rw [evO_congr fun t h => ht t (.inl h), evL_congr (l := l) fun t h => ht t (.inr h)]
  case callQ f l => rw [evL_congr (l := l) ht]
  case store n x y => rw [evO_congr fun t h => ht t (.inl h), evO_congr (x := y) fun t h => ht t (.inr h)]
  case bin op x y => rw [evO_congr fun t h => ht t (.inl h), evO_congr (x := y) fun t h => ht t (.inr h)]
  case eqBool n x y => rw [evO_congr fun t h => ht t (.inl h), evO_congr (x := y) fun t h => ht t (.inr h)]
  case eqAgg n m x y => rw [evO_congr fun t h => ht t (.inl h), evO_congr (x := y) fun t h => ht t (.inr h)]
  case eqArr n m x y => rw [evO_congr fun t h => ht t (.inl h), evO_congr (x := y) fun t h => ht t (.inr h)]
  case minmax n x y => rw [evO_congr fun t h => ht t (.inl h), evO_congr (x := y) fun t h => ht t (.inr h)]
  case index n m x y => rw [evO_congr fun t h => ht t (.inl h), evO_congr (x := y) fun t h => ht t (.inr h)]
  case indexAddr n m x y => rw [evO_congr fun t h => ht t (.inl h), evO_congr (x := y) fun t h => ht t (.inr h)]
  case indexStr x y => rw [evO_congr fun t h => ht t (.inl h), evO_congr (x := y) fun t h => ht t (.inr h)]
  case append n m x y => rw [evO_congr fun t h => ht t (.inl h), evO_congr (x := y) fun t h => ht t (.inr h)]
  case copy n x y => rw [evO_congr fun t h => ht t (.inl h), evO_congr (x := y) fun t h => ht t (.inr h)]
  case makeSlice a b c x y => rw [evO_congr fun t h => ht t (.inl h), evO_congr (x := y) fun t h => ht t (.inr h)]
theorem wantE_congr {g : Option (Nat × Bool)} {e e' : Env} (h : ∀ t w, g = some (t, w) → getE e t = getE e' t) : wantE g e = wantE g e' := by
  cases g with
  | none => rfl
  | some p =>
    obtain ⟨t, w⟩ := p
    simp only [wantE, h t w rfl]
/-- what looks at nothing that is held -/
theorem pure_any {C : Cl} {o : AOp} {e : Env} (hq : effB o = false) (hr : reB o = false) (h : Heap) : aop C o e h = ((aop C o e []).map (·.1)).map fun v => (v, h) := by
  cases o <;> first | (cases hq; done) | (cases hr; done) | skip
  case index k n x i =>
    simp only [aop]
    cases asI (evO e i) with
    | none => rfl
    | some j =>
      simp only [Option.bind_some]
      repeat' split
      all_goals first | rfl | (cases ldCells k _ <;> rfl) | simp [Option.map_map, Function.comp_def]
  case indexAddr s k x i =>
    simp only [aop]
    cases asI (evO e i) with
    | none => rfl
    | some j =>
      simp only [Option.bind_some]
      repeat' split
      all_goals first | rfl | simp [Option.map_map, Function.comp_def]
  case indexStr x i =>
    simp only [aop]
    cases asI (evO e i) with
    | none => rfl
    | some j =>
      simp only [Option.bind_some]
      repeat' split
      all_goals first | rfl | simp [Option.map_map, Function.comp_def]
  all_goals simp only [aop]
  all_goals (repeat' split)
  all_goals first | rfl | simp [Option.map_map, Function.comp_def]
/-- what changes nothing -/
theorem quiet_same {C : Cl} {o : AOp} {e : Env} {h h' : Heap} {v : AV} (hq : effB o = false) (hx : aop C o e h = some (v, h')) : h' = h := by
  by_cases hr : reB o = false
  · rw [pure_any hq hr] at hx
    simp only [Option.map_eq_some_iff, Prod.mk.injEq] at hx
    obtain ⟨_, _, _, rfl⟩ := hx
    rfl
  · cases o <;> first | (exact absurd rfl hr) | skip
    case load k x =>
      simp only [aop, Option.bind_eq_some_iff, Option.map_eq_some_iff, Prod.mk.injEq] at hx
      obtain ⟨_, _, _, _, _, rfl⟩ := hx
      rfl
    case convStr x =>
      simp only [aop, Option.map_eq_some_iff, Prod.mk.injEq] at hx
      obtain ⟨_, _, _, rfl⟩ := hx
      rfl
    case slice s k x l u m =>
      simp only [aop, Option.bind_eq_some_iff, Option.map_eq_some_iff, Prod.mk.injEq] at hx
      obtain ⟨_, _, _, _, _, _, _, _, _, rfl⟩ := hx
      rfl
    case lookup st ks z ok m k =>
      simp only [aop, Option.bind_eq_some_iff] at hx
      obtain ⟨es, _, hx⟩ := hx
      split at hx
      · simp only [Option.map_eq_some_iff, Prod.mk.injEq] at hx
        obtain ⟨_, _, _, rfl⟩ := hx
        rfl
      · cases hx
    case lenM x =>
      simp only [aop, Option.map_eq_some_iff, Prod.mk.injEq] at hx
      obtain ⟨_, _, _, rfl⟩ := hx
      rfl
    case callQ f l =>
      simp only [aop] at hx
      split at hx
      · simp only [Option.bind_eq_some_iff, Prod.exists] at hx
        obtain ⟨v', h1, _, hx⟩ := hx
        split at hx
        · cases hx; rfl
        · cases hx
      · cases hx
/-! ### counting -/
def cnt (os : List AOper) (i : Nat) : Nat := (List.range i).countP (effAt os)
theorem cnt_succ (os : List AOper) (i : Nat) : cnt os (i + 1) = cnt os i + if effAt os i then 1 else 0 := by
  unfold cnt
  rw [List.range_succ, List.countP_append]
  simp only [List.countP_cons, List.countP_nil, Nat.zero_add]
theorem effAt_cons (o : AOper) (os : List AOper) (i : Nat) : effAt (o :: os) (i + 1) = effAt os i := by simp [effAt]
theorem effAt_zero (o : AOper) (os : List AOper) : effAt (o :: os) 0 = effB o.op := by simp [effAt]
theorem cnt_cons (o : AOper) (os : List AOper) : ∀ i, cnt (o :: os) (i + 1) = (if effB o.op then 1 else 0) + cnt os i
  | 0 => by simp [cnt, effAt_zero]
  | i + 1 => by
    rw [cnt_succ, cnt_cons o os i, cnt_succ, effAt_cons]
    omega
/-! ### the run in the order of the text -/
def dstsOf (os : List AOper) : List Nat := os.filterMap (·.dst)
theorem getE_setE_ne {e : Env} {d : Option Nat} {v : AV} {t : Nat} (h : ∀ x, d = some x → x ≠ t) : getE (setE e d v) t = getE e t := by
  cases d with
  | none => rfl
  | some x => simp only [setE, getE, if_neg (h x rfl)]
structure RunC (C : Cl) (os : List AOper) (e e' : Env) (h h' : Heap) (hs : List Heap) (c : Nat) : Prop where
  first : hs[c]? = some h
  last : hs[c + cnt os os.length]? = some h'
  frame : ∀ t, t ∉ dstsOf os → getE e' t = getE e t
  at_ : ∀ i o, os[i]? = some o → ∃ ei, ((∀ t, t ∉ dstsOf (os.drop i) → getE e' t = getE ei t) ∧ ∀ t, t ∉ dstsOf (os.take i) → getE ei t = getE e t) ∧ ∃ w v hb ha, wantE o.guard ei = some w ∧ hs[c + cnt os i]? = some hb ∧ hs[c + cnt os (i + 1)]? = some ha ∧ (w = true → aop C o.op ei hb = some (v, ha)) ∧ (w = false → v = .undef ∧ ha = hb) ∧ ∀ d, o.dst = some d → d ∉ dstsOf (os.drop (i + 1)) → getE e' d = v
theorem runD_ext {C : Cl} : ∀ {os : List AOper} {e e' : Env} {h h' : Heap} {hs hs' : List Heap}, runD C os e h hs = some (e', h', hs') → ∃ t, hs' = hs ++ t
  | [], e, e', h, h', hs, hs', hx => by simp only [runD] at hx; cases hx; exact ⟨[h], rfl⟩
  | o :: r, e, e', h, h', hs, hs', hx => by
    simp only [runD, Option.bind_eq_some_iff] at hx
    obtain ⟨w, hw, hx⟩ := hx
    have g : ∀ h, ∃ t, grow o.op h hs = hs ++ t := fun h => by
      unfold grow
      split
      · exact ⟨[h], rfl⟩
      · exact ⟨[], by simp⟩
    cases w with
    | true =>
      simp only [if_true, Option.bind_eq_some_iff, Prod.exists] at hx
      obtain ⟨v, h1, _, hx⟩ := hx
      obtain ⟨t, ht⟩ := runD_ext hx
      obtain ⟨t2, ht2⟩ := g h
      exact ⟨t2 ++ t, by rw [ht, ht2, List.append_assoc]⟩
    | false =>
      simp only [Bool.false_eq_true, if_false] at hx
      obtain ⟨t, ht⟩ := runD_ext hx
      obtain ⟨t2, ht2⟩ := g h
      exact ⟨t2 ++ t, by rw [ht, ht2, List.append_assoc]⟩
theorem runD_cert {C : Cl} : ∀ {os : List AOper} {e e' : Env} {h h' : Heap} {hs hs' : List Heap}, runD C os e h hs = some (e', h', hs') → RunC C os e e' h h' hs' hs.length
  | [], e, e', h, h', hs, hs', hx => by
    simp only [runD] at hx
    cases hx
    exact ⟨by simp, by simp [cnt], fun _ _ => rfl, fun i o ho => by simp at ho⟩
  | o :: r, e, e', h, h', hs, hs', hx => by
    simp only [runD, Option.bind_eq_some_iff] at hx
    obtain ⟨w, hw, hx⟩ := hx
    -- one step
    have step : ∀ (v : AV) (h1 : Heap), runD C r (setE e o.dst v) h1 (grow o.op h hs) = some (e', h', hs') → (w = true → aop C o.op e h = some (v, h1)) → (w = false → v = .undef ∧ h1 = h) → RunC C (o :: r) e e' h h' hs' hs.length := by
      intro v h1 hx hv1 hv2
      have ih := runD_cert hx
      obtain ⟨t, ht⟩ := runD_ext hx
      have heff : effB o.op = false → h1 = h := fun hq => by
        cases w with
        | true => exact quiet_same hq (hv1 rfl)
        | false => exact (hv2 rfl).2
      have hlen : (grow o.op h hs).length = hs.length + if effB o.op then 1 else 0 := by unfold grow; split <;> simp
      have hfirst : hs'[hs.length]? = some h := by
        rw [ht]
        unfold grow
        split
        · simp
        · rename_i hq
          have hq' : effB o.op = false := by simpa using hq
          have := ih.first
          rw [ht, hlen, hq'] at this
          simp only [grow, hq', Bool.false_eq_true, if_false, Nat.add_zero] at this
          rw [this, heff hq']
      refine ⟨hfirst, ?_, fun t ht => ?_, fun i o' ho => ?_⟩
      · have := ih.last
        rw [hlen] at this
        rw [List.length_cons, cnt_cons, ← Nat.add_assoc]
        exact this
      · simp only [dstsOf, List.filterMap_cons] at ht
        have h1 : t ∉ dstsOf r := by
          cases hd : o.dst with
          | none => simp only [hd] at ht; exact ht
          | some d => simp only [hd, List.mem_cons, not_or] at ht; exact ht.2
        rw [ih.frame t h1]
        refine getE_setE_ne fun x hx => ?_
        rw [hx] at ht
        simp only [List.mem_cons, not_or] at ht
        exact fun hh => ht.1 hh.symm
      · cases i with
        | zero =>
          simp only [List.getElem?_cons_zero, Option.some.injEq] at ho
          subst ho
          refine ⟨e, ⟨fun t ht => ?_, fun _ _ => rfl⟩, w, v, h, h1, hw, by simpa [cnt] using hfirst, ?_, hv1, hv2, fun d hd hn => ?_⟩
          · simp only [List.drop_zero, dstsOf, List.filterMap_cons] at ht
            have h1 : t ∉ dstsOf r := by
              cases hd : o.dst with
              | none => simp only [hd] at ht; exact ht
              | some d => simp only [hd, List.mem_cons, not_or] at ht; exact ht.2
            rw [ih.frame t h1]
            refine getE_setE_ne fun x hx => ?_
            rw [hx] at ht
            simp only [List.mem_cons, not_or] at ht
            exact fun hh => ht.1 hh.symm
          · have := ih.first
            rw [hlen] at this
            rw [show (0 + 1) = 1 from rfl, cnt_cons o r 0]
            simpa [cnt, Nat.add_assoc] using this
          · simp only [List.drop_succ_cons, List.drop_zero] at hn
            rw [ih.frame d hn, hd]
            simp [setE, getE]
        | succ i =>
          rw [List.getElem?_cons_succ] at ho
          obtain ⟨ei, ⟨g1, g1'⟩, w', v', hb, ha, g2, g3, g4, g5, g6, g7⟩ := ih.at_ i o' ho
          refine ⟨ei, ⟨by simpa using g1, fun t ht => ?_⟩, w', v', hb, ha, g2, ?_, ?_, g5, g6, by simpa using g7⟩
          · simp only [List.take_succ_cons, dstsOf, List.filterMap_cons] at ht
            have h1 : t ∉ dstsOf (r.take i) := by
              cases hd : o.dst with
              | none => simp only [hd] at ht; exact ht
              | some d => simp only [hd, List.mem_cons, not_or] at ht; exact ht.2
            rw [g1' t h1]
            refine getE_setE_ne fun x hx => ?_
            rw [hx] at ht
            simp only [List.mem_cons, not_or] at ht
            exact fun hh => ht.1 hh.symm
          · rw [cnt_cons, ← Nat.add_assoc, ← hlen]; exact g3
          · rw [cnt_cons, ← Nat.add_assoc, ← hlen]; exact g4
    cases w with
    | true =>
      simp only [if_true, Option.bind_eq_some_iff, Prod.exists] at hx
      obtain ⟨v, h1, hv, hx⟩ := hx
      exact step v h1 hx (fun _ => hv) (fun hh => by cases hh)
    | false =>
      simp only [Bool.false_eq_true, if_false] at hx
      exact step .undef h hx (fun hh => by cases hh) (fun _ => ⟨rfl, rfl⟩)
end Go.Proofs.Ytipbmacpenmgoaa.AM

/- A region that draws its order, of operations that change what is held too: the model's runs of it. -/
namespace Go.Proofs.Ytipbmacpenmgoaa.AM
open Go Go.RowKit
set_option linter.unusedVariables false
set_option linter.unusedSimpArgs false
theorem countP_split {p q : Nat → Bool} {i n : Nat} (hi : i ≤ n) (h1 : ∀ j, j < i → p j = q j) (h2 : ∀ j, i ≤ j → j < n → p j = false) : (List.range n).countP p = (List.range i).countP q := by
  induction n with
  | zero => simp at hi; subst hi; rfl
  | succ n ih =>
    by_cases hin : i = n + 1
    · subst hin
      exact List.countP_congr fun j hj => by rw [h1 j (by simpa using hj)]
    · rw [List.range_succ, List.countP_append, ih (by omega) (fun j h h' => h2 j h (by omega))]
      simp [h2 n (by omega) (by omega)]
theorem countP_le {p q : Nat → Bool} {n : Nat} (h : ∀ j, j < n → p j = true → q j = true) : (List.range n).countP p ≤ (List.range n).countP q :=
  List.countP_mono_left fun j hj hp => h j (by simpa using hj) hp
def lst (listed : Array Bool) (i : Nat) : Bool := listed.getD i false
theorem lst_set {listed : Array Bool} {i j : Nat} (hi : i < listed.size) : lst (listed.setIfInBounds i true) j = (lst listed j || i == j) := by
  unfold lst
  rw [Array.getD_eq_getD_getElem?, Array.getD_eq_getD_getElem?, Array.getElem?_setIfInBounds]
  by_cases h : i = j
  · subst h; simp [hi]
  · simp [h]
section
variable {P : Program} {E : Env0} {C : Cl} {B : Nat} {ops : Array Oper} {os : List AOper} {st : List (Nat × Nat)} {e e' : Env} {h h' : Heap} {hs : List Heap}
structure OkU (ops : Array Oper) (os : List AOper) (ups : List (List Nat)) (st : List (Nat × Nat)) : Prop where
  upsE : ups = (List.range ops.size).map (upB ops)
  st : st = (List.range ops.size).map (stOf ups os ops.size)
  len : os.length = ops.size
  aft : ∀ j, j < ops.size → ∀ i ∈ afters .any ops j, i < j
  up : ∀ j, j < ops.size → ∀ i ∈ upB ops j, i < j
  tmp : ∀ j, j < ops.size → ∀ t ∈ erTAt os j, ∀ i, i < ops.size → dstAt os i = some t → i ∈ upB ops j ∨ j ∈ upB ops i ∨ i = j
  eff : ∀ j, j < ops.size → effAt os j = true → ∀ i, i < j → effAt os i = true → i ∈ upB ops j
  dst : ∀ j, j < ops.size → ∀ i, i < j → ∀ t, dstAt os j = some t → dstAt os i ≠ some t
theorem okU_spec {ups : List (List Nat)} (hk : okU ops os ups st = true) : OkU ops os ups st := by
  simp only [okU, Bool.and_eq_true, beq_iff_eq, List.all_eq_true, List.mem_range, decide_eq_true_eq, Bool.or_eq_true, bne_iff_ne, List.contains_iff_mem, Bool.not_eq_true'] at hk
  obtain ⟨⟨⟨⟨⟨⟨⟨h1, h2⟩, h3⟩, h4⟩, h5⟩, h6⟩, h7⟩, h8⟩ := hk
  have hu : ∀ j, j < ops.size → ups.getD j [] = upB ops j := fun j hj => by
    rw [h1, List.getD_eq_getElem?_getD, List.getElem?_map, List.getElem?_range hj]; rfl
  refine ⟨h1, h2, h3, h4, fun j hj i hi => h5 j hj i (by rw [hu j hj]; exact hi), fun j hj t ht i hi hd => ?_, fun j hj he i hij hei => ?_, fun j hj i hij t hd => ?_⟩
  · rcases h6 j hj t ht i hi with ((h | h) | h) | h
    · exact absurd hd h
    · exact .inl (by rwa [hu j hj] at h)
    · exact .inr (.inl (by rwa [hu i hi] at h))
    · exact .inr (.inr h)
  · rcases h7 j hj with h | h
    · rw [he] at h; cases h
    · rcases h i hij with h | h
      · rw [hei] at h; cases h
      · rwa [hu j hj] at h
  · rcases h8 j hj i hij with h | h
    · rw [hd] at h; cases h
    · rw [hd] at h; exact h
theorem mem_dstsOf {os : List AOper} {t : Nat} {n : Nat} : t ∈ dstsOf (os.drop n) → ∃ i, n ≤ i ∧ i < os.length ∧ dstAt os i = some t := by
  intro ht
  simp only [dstsOf, List.mem_filterMap] at ht
  obtain ⟨o, ho, hd⟩ := ht
  obtain ⟨i, hi⟩ := List.mem_iff_getElem?.1 ho
  rw [List.getElem?_drop] at hi
  exact ⟨n + i, by omega, (List.getElem?_eq_some_iff.1 hi).1, by simp [dstAt, hi, hd]⟩
theorem mem_dstsOf_take {os : List AOper} {t : Nat} {n : Nat} : t ∈ dstsOf (os.take n) ↔ ∃ i, i < n ∧ i < os.length ∧ dstAt os i = some t := by
  constructor
  · intro ht
    simp only [dstsOf, List.mem_filterMap] at ht
    obtain ⟨o, ho, hd⟩ := ht
    obtain ⟨i, hi⟩ := List.mem_iff_getElem?.1 ho
    rw [List.getElem?_take] at hi
    split at hi
    · rename_i hin; exact ⟨i, hin, (List.getElem?_eq_some_iff.1 hi).1, by simp [dstAt, hi, hd]⟩
    · cases hi
  · rintro ⟨i, hin, hil, hd⟩
    simp only [dstsOf, List.mem_filterMap]
    refine ⟨os[i], List.mem_of_getElem? (i := i) (by rw [List.getElem?_take, if_pos hin, List.getElem?_eq_getElem hil]), ?_⟩
    simpa [dstAt, List.getElem?_eq_getElem hil] using hd
/-- slots in the middle of the run in the order of the text -/
structure Mid (os : List AOper) (e e' : Env) (i : Nat) (ei : Env) : Prop where
  done : ∀ t, t ∈ dstsOf (os.take i) → getE ei t = getE e' t
  not : ∀ t, t ∉ dstsOf (os.take i) → getE ei t = getE e t
theorem Mid.same {e e' ei fi : Env} {i : Nat} (h : Mid os e e' i ei) (k : Mid os e e' i fi) (t : Nat) : getE ei t = getE fi t := by
  by_cases ht : t ∈ dstsOf (os.take i)
  · rw [h.done t ht, k.done t ht]
  · rw [h.not t ht, k.not t ht]
/-- what an operation comes to, in the slots of its place in the text -/
structure Cert (C : Cl) (e e' : Env) (hs : List Heap) (os : List AOper) (i : Nat) (o : AOper) (ei : Env) (w : Bool) (v : AV) : Prop where
  mid : Mid os e e' i ei
  want : wantE o.guard ei = some w
  dst : ∀ d, o.dst = some d → getE e' d = v
  off : w = false → v = .undef ∧ (effB o.op = true → hs[cnt os (i + 1)]? = hs[cnt os i]?)
  eff : w = true → effB o.op = true → ∃ hb ha, hs[cnt os i]? = some hb ∧ hs[cnt os (i + 1)]? = some ha ∧ aop C o.op ei hb = some (v, ha)
  qui : w = true → effB o.op = false → ∃ hb, hs[cnt os i]? = some hb ∧ aop C o.op ei hb = some (v, hb)
theorem cert_of {ups : List (List Nat)} (ku : OkU ops os ups st) (hr : RunC C os e e' h h' hs 0) {i : Nat} {o : AOper} (ho : os[i]? = some o) : ∃ ei w v, Cert C e e' hs os i o ei w v := by
  have hi : i < ops.size := by rw [← ku.len]; exact (List.getElem?_eq_some_iff.1 ho).1
  obtain ⟨ei, ⟨g1, g1'⟩, w, v, hb, ha, g2, g3, g4, g5, g6, g7⟩ := hr.at_ i o ho
  rw [Nat.zero_add] at g3 g4
  have mid : Mid os e e' i ei := ⟨fun t ht => (g1 t fun hh => by
    obtain ⟨j, hj1, hj2, hj3⟩ := mem_dstsOf hh
    obtain ⟨k, hk1, hk2, hk3⟩ := mem_dstsOf_take.1 ht
    exact ku.dst j (by rw [← ku.len]; exact hj2) k (by omega) t hj3 hk3).symm, g1'⟩
  refine ⟨ei, w, v, mid, g2, fun d hd => g7 d hd fun hh => ?_, fun hwf => ⟨(g6 hwf).1, fun _ => by rw [g3, g4, (g6 hwf).2]⟩, fun hwt _ => ⟨hb, ha, g3, g4, g5 hwt⟩, fun hwt hq => ⟨hb, g3, ?_⟩⟩
  · obtain ⟨j, hj1, hj2, hj3⟩ := mem_dstsOf hh
    exact ku.dst j (by rw [← ku.len]; exact hj2) i (by omega) d hj3 (by simp [dstAt, ho, hd])
  · have h1 := g5 hwt
    have h2 := quiet_same hq h1
    rw [h2] at h1
    exact h1
theorem chkO_spec {o : AOper} {e e' : Env} : ∀ {l : List Heap}, chkO C e e' o l = true → ∀ x ∈ l, ∃ v h1, aop C o.op e x = some (v, h1) ∧ ∀ d, o.dst = some d → v = getE e' d
  | [], _, x, hx => by cases hx
  | y :: l, hc, x, hx => by
    simp only [chkO, Bool.and_eq_true] at hc
    rcases List.mem_cons.1 hx with rfl | hx
    · obtain ⟨hc, _⟩ := hc
      cases hq : aop C o.op e x with
      | none => rw [hq] at hc; simp [chkV] at hc
      | some p =>
        obtain ⟨v, h1⟩ := p
        refine ⟨v, h1, rfl, fun d hd => ?_⟩
        rw [hq, hd] at hc
        exact beqV_eq _ _ hc
    · exact chkO_spec hc.2 x hx
theorem chkD_spec {e' : Env} {hs : List Heap} : ∀ {os : List AOper} {st : List (Nat × Nat)} {f : Env}, chkD C e' hs f os st = true → ∀ (i : Nat) (o : AOper) (lo hi : Nat), os[i]? = some o → st[i]? = some (lo, hi) → ∃ fi, Mid os f e' i fi ∧ (reB o.op = true → lo < hi → wantE o.guard fi = some true → ∀ k x, lo ≤ k → k ≤ hi → hs[k]? = some x → ∃ v h1, aop C o.op fi x = some (v, h1) ∧ ∀ d, o.dst = some d → v = getE e' d)
  | [], _, _, _, i, o, lo, hi, ho, _ => by simp at ho
  | _ :: _, [], _, _, i, o, lo, hi, _, hst => by simp at hst
  | p :: os, (l0, h0) :: st, f, hc, i, o, lo, hi, ho, hst => by
    simp only [chkD, Bool.and_eq_true] at hc
    cases i with
    | zero =>
      simp only [List.getElem?_cons_zero, Option.some.injEq, Prod.mk.injEq] at ho hst
      obtain ⟨rfl, rfl⟩ := hst
      subst ho
      refine ⟨f, ⟨fun t ht => by simp [dstsOf] at ht, fun _ _ => rfl⟩, fun hre hlt hw k x k1 k2 hx => ?_⟩
      have hc1 := hc.1
      rw [if_pos ⟨hre, hlt⟩, hw] at hc1
      refine chkO_spec hc1 x ?_
      refine List.mem_of_getElem? (i := k - l0) ?_
      rw [List.getElem?_take, if_pos (by omega), List.getElem?_drop, show l0 + (k - l0) = k by omega]
      exact hx
    | succ i =>
      obtain ⟨fi, hm, hrest⟩ := chkD_spec hc.2 i o lo hi (by simpa using ho) (by simpa using hst)
      refine ⟨fi, ⟨fun t ht => ?_, fun t ht => ?_⟩, hrest⟩
      · by_cases h1 : t ∈ dstsOf (os.take i)
        · exact hm.done t h1
        · rw [hm.not t h1]
          simp only [List.take_succ_cons, dstsOf, List.filterMap_cons] at ht
          cases hd : p.dst with
          | none => simp only [hd] at ht; exact absurd ht h1
          | some d =>
            simp only [hd, List.mem_cons] at ht
            rcases ht with rfl | ht
            · simp [nxE, getE]
            · exact absurd ht h1
      · simp only [List.take_succ_cons, dstsOf, List.filterMap_cons] at ht
        cases hd : p.dst with
        | none =>
          simp only [hd] at ht
          rw [hm.not t ht, hd]
          rfl
        | some d =>
          simp only [hd, List.mem_cons, not_or] at ht
          rw [hm.not t ht.2, hd]
          simp only [nxE, getE]
          rw [if_neg (fun hh => ht.1 hh.symm)]
/-- how many changes are done -/
def effN (os : List AOper) (n : Nat) (listed : Array Bool) : Nat := (List.range n).countP fun j => effAt os j && lst listed j
def todo (n : Nat) (listed : Array Bool) : Nat := (List.range n).countP fun j => !lst listed j
theorem upB_listed {listed : Array Bool} (hc : Down .any ops listed) {j : Nat} (ha : ∀ i ∈ afters .any ops j, listed.getD i false = true) : ∀ i ∈ upB ops j, lst listed i = true :=
  reach_listed hc ops.size _ ha
theorem all_done {listed : Array Bool} {ups : List (List Nat)} (ku : OkU ops os ups st) (hsz : listed.size = ops.size) (hr : Region.ready .any ops listed = []) : ∀ (n i : Nat), i < n → i < ops.size → lst listed i = true
  | 0, i, h, _ => by omega
  | n + 1, i, hin, him => by
    cases hq : listed.getD i false with
    | true => exact hq
    | false =>
      exfalso
      have h0 : listed.getD i true = false := by rw [getD_tf (by omega) true false]; exact hq
      have : i ∈ Region.ready .any ops listed := ready_of (by omega) h0 fun k hk => all_done ku hsz hr n k (by have := ku.aft i him k hk; omega) (by have := ku.aft i him k hk; omega)
      rw [hr] at this
      cases this
theorem todo_set {listed : Array Bool} {n i : Nat} (hi : i < n) (hsz : listed.size = n) (hu : lst listed i = false) : todo n (listed.setIfInBounds i true) + 1 = todo n listed := by
  have key : ∀ m, m ≤ n → (List.range m).countP (fun j => !lst (listed.setIfInBounds i true) j) + (if i < m then 1 else 0) = (List.range m).countP fun j => !lst listed j := by
    intro m
    induction m with
    | zero => intro _; rfl
    | succ m ih =>
      intro hm
      have := ih (by omega)
      rw [List.range_succ, List.countP_append, List.countP_append]
      simp only [List.countP_cons, List.countP_nil, Nat.zero_add, lst_set (show i < listed.size by omega)] at this ⊢
      by_cases him : i = m
      · subst him
        simp only [hu, beq_self_eq_true, Bool.or_true, Bool.not_true, Bool.not_false, if_true, Bool.false_eq_true, if_false, Nat.lt_irrefl, Nat.lt_succ_self] at this ⊢
        omega
      · have hb : (i == m) = false := by simpa using him
        simp only [hb, Bool.or_false] at this ⊢
        by_cases him2 : i < m
        · rw [if_pos him2] at this; rw [if_pos (show i < m + 1 by omega)]; omega
        · rw [if_neg him2] at this; rw [if_neg (show ¬ i < m + 1 by omega)]; omega
  have := key n (Nat.le_refl n)
  rw [if_pos hi] at this
  exact this
theorem effN_set {listed : Array Bool} {n i : Nat} (hi : i < n) (hsz : listed.size = n) (hu : lst listed i = false) : effN os n (listed.setIfInBounds i true) = effN os n listed + if effAt os i then 1 else 0 := by
  have key : ∀ m, m ≤ n → (List.range m).countP (fun j => effAt os j && lst (listed.setIfInBounds i true) j) = (List.range m).countP (fun j => effAt os j && lst listed j) + (if i < m ∧ effAt os i = true then 1 else 0) := by
    intro m
    induction m with
    | zero => intro _; simp
    | succ m ih =>
      intro hm
      have := ih (by omega)
      rw [List.range_succ, List.countP_append, List.countP_append]
      simp only [List.countP_cons, List.countP_nil, Nat.zero_add, lst_set (show i < listed.size by omega)] at this ⊢
      by_cases him : i = m
      · subst him
        rw [if_neg (fun hh => Nat.lt_irrefl _ hh.1)] at this
        simp only [hu, beq_self_eq_true, Bool.or_true, Bool.and_true, Bool.and_false, Bool.false_eq_true, if_false]
        cases effAt os i <;> simp_all
      · have hb : (i == m) = false := by simpa using him
        simp only [hb, Bool.or_false] at this ⊢
        by_cases him2 : i < m
        · have h1 : (i < m + 1) = True := eq_true (by omega)
          simp only [him2, h1, true_and] at this ⊢
          omega
        · have h1 : ¬ i < m + 1 := by omega
          simp only [him2, h1, false_and, if_false] at this ⊢
          omega
  have := key n (Nat.le_refl n)
  simp only [hi, true_and] at this
  exact this
end
end Go.Proofs.Ytipbmacpenmgoaa.AM
