import Derived.Test.YtpnkldjbiinnpaaAm8
import Derived.Laws.MakeOwn
/- Each operation of the model does what the plain machine's does: those that make or write memory. -/
namespace Go.Proofs.Ytpnkldjbiinnpaa.AM
open Go Go.RowKit
set_option linter.unusedVariables false
set_option linter.unusedSimpArgs false
theorem oneCell_eq (v : Value) : oneCell v = v.oneCell' := by cases v <;> rfl
theorem one_V {S : St} {x : AV} {u : Value} (h1 : one x = true) (hv : V S x u) : u.oneCell' = true := by
  cases x <;> simp only [one, Bool.false_eq_true] at h1 <;> simp only [V] at hv
  · rw [hv, ← oneCell_eq]; exact h1
  · obtain ⟨b, _, rfl⟩ := hv; rfl
  · obtain ⟨b, _, rfl, _⟩ := hv; rfl
  · obtain ⟨b, _, rfl, _⟩ := hv; rfl
  · obtain ⟨b, _, _, _, _, _, _, rfl⟩ := hv; rfl
  · obtain ⟨b, _, rfl, _⟩ := hv; rfl
  · obtain ⟨b, _, rfl⟩ := hv; rfl
theorem oneL_V {S : St} : ∀ {x : List AV} {u : List Value}, oneL x = true → VL S x u → ∀ w ∈ u, w.oneCell' = true
  | [], u, _, hv, w, hw => by simp only [VL] at hv; subst hv; cases hw
  | x :: xs, u, h1, hv, w, hw => by
    simp only [VL, oneL, Bool.and_eq_true] at hv h1
    obtain ⟨a, l, rfl, h2, h3⟩ := hv
    rcases List.mem_cons.1 hw with rfl | hw
    · exact one_V h1.1 h2
    · exact oneL_V h1.2 h3 w hw
theorem cellsOf_V {S : St} {x : AV} {u : Value} {cs : List AV} (hv : V S x u) (hc : cellsOf x = some cs) : VL S cs u.cells.toList := by
  unfold cellsOf at hc
  split at hc
  · cases hc; simp only [V] at hv; obtain ⟨a, rfl, h⟩ := hv; exact h
  · split at hc
    · rename_i v h1
      cases hc
      have hu : u = v := by simpa only [V] using hv
      subst hu
      cases u <;> simp [oneCell] at h1 <;> simp [Value.cells, VL, V]
    · cases hc
  · cases hc
  · cases hc
  · rename_i hn1 hn2 hn3 hn4
    cases hc
    have hu : u.cells = #[u] := by
      cases x <;> simp only [V] at hv
      · exact absurd rfl (hn2 _)
      · exact absurd rfl hn4
      · obtain ⟨b, _, rfl⟩ := hv; rfl
      · obtain ⟨b, _, rfl, _⟩ := hv; rfl
      · obtain ⟨b, _, rfl, _⟩ := hv; rfl
      · obtain ⟨b, _, _, _, _, _, _, rfl⟩ := hv; rfl
      · obtain ⟨b, _, rfl, _⟩ := hv; rfl
      · exact absurd rfl (hn1 _)
      · exact absurd rfl (hn3 _)
      · obtain ⟨b, _, rfl⟩ := hv; rfl
    rw [hu]
    simp only [VL]
    exact ⟨u, [], rfl, hv, rfl⟩
section
variable {P : Program} {E : Env0} {o : Oper} {C : Cl} {e : Env} {h h' : Heap} {v : AV} {S : St} {B : Nat} {W : World} {a : Act}
theorem ex_acc {x : Operand} (hop : o.op = .move x ∨ o.op = .assign x) (hxx : x = .const (.slice none 0 0)) {k : Option Nat} (hx : aop C (.acc k (.cst .nil)) e h = some (v, h')) (r : Rel S h B W) : ExOK P o a S h' v B W := by
  simp only [aop, evO] at hx
  cases hx
  refine ⟨_, .slice none 0 0, W, S, by rcases hop with hop | hop <;> simp [execOp, hop, hxx, Act.eval], .inl rfl, Ext.refl S, r.newRow k 0, ?_, Below.refl B W⟩
  simp only [V]
  exact ⟨none, 0, rfl, Nat.le_refl _, ⟨Nat.zero_le _, .inl rfl⟩, .inl trivial⟩
theorem ex_alloc {t : TypeId} (hop : o.op = .alloc t) {z : Value} (hz : zeroOf P t = some z) (h1 : z.cells.toList.all (·.oneCell') = true) (hx : aop C (.alloc (z.cells.toList.map .sc)) e h = some (v, h')) (r : Rel S h B W) : ExOK P o a S h' v B W := by
  simp only [aop] at hx
  cases hx
  obtain ⟨r', ex⟩ := r.newBox (z.cells.toList.map .sc) z.cells t (VL_map_sc _) (fun u hu => List.all_eq_true.1 h1 u hu)
  refine ⟨_, .pointer (some ⟨W.heap.size, 0, none⟩), _, _, ?_, .inl rfl, ex, r', ?_, (Below.refl B W).alloc r.base _⟩
  · simp [execOp, hop, Instr.alloc, run_zero' hz, newVar, newRow]
  · simp [V, addBlk]
theorem ex_box {t : TypeId} {x : Operand} (hop : o.op = .box t x) {x' : Opd} (h1 : compO E x = some x') (hx : aop C (.box x') e h = some (v, h')) (r : Rel S h B W) (he : EnvR S e a E.nt) (hg : GlobOK E.gl S.imm) : ExOK P o a S h' v B W := by
  simp only [aop, Option.bind_eq_some_iff] at hx
  obtain ⟨cs, hc, hx⟩ := hx
  split at hx
  · rename_i h1'
    cases hx
    have hv := cellsOf_V (evO_V he hg h1) hc
    obtain ⟨r', ex⟩ := r.newBox cs (a.eval x).cells t hv (oneL_V h1' hv)
    refine ⟨_, .pointer (some ⟨W.heap.size, 0, none⟩), _, _, ?_, .inl rfl, ex, r', ?_, (Below.refl B W).alloc r.base _⟩
    · simp [execOp, hop, Instr.box, newVar, newRow]
    · simp [V, addBlk]
  · cases hx
/-! ### stores -/
theorem run_store_box {id b off : Nat} {cs xs : List AV} {us : List Value} (hx : h[id]? = some (.cells cs)) (hb : S.blk id 0 = some b) (r : Rel S h B W) (hv : VL S xs us) (h1 : ∀ u ∈ us, u.oneCell' = true) (hl : off + xs.length ≤ cs.length) :
    (storeCells ⟨b, off, none⟩ us).run P W = .ok () (W.setCells b off us) ∧ Rel S (h.set id (.cells (setAt cs off xs))) B (W.setCells b off us) ∧ Below B W (W.setCells b off us) := by
  obtain ⟨b', c, e', p1, p2, p3, p4, p5, p6, p7⟩ := r.obj _ _ hx
  rw [hb] at p1
  cases p1
  have hcl : c.size = cs.length := by have := p4.length; simpa using this
  have hul := hv.length
  refine ⟨?_, Rel.setCells hb xs us off cs h W r hx hv h1, below_setCells p2 us off W W (Below.refl B W)⟩
  have := run_storeCells_cells (P := P) b off us 0 W (fun j hj => by rw [Nat.add_zero, cell_of p3, Option.isSome_iff_exists]; exact ⟨_, Array.getElem?_eq_getElem (by omega)⟩) (fun j hj => by rw [Nat.add_zero]; exact frozen_of p3 _) h1
  simpa using this
theorem ex_store {t : TypeId} {x y : Operand} (hop : o.op = .store t x y) {i : TypeInfo} (hi : P.info? t = some i) {x' y' : Opd} (h1 : compO E x = some x') (h2 : compO E y = some y') (hx : aop C (.store i.size x' y') e h = some (v, h')) (r : Rel S h B W) (he : EnvR S e a E.nt) (hg : GlobOK E.gl S.imm) : ExOK P o a S h' v B W := by
  have hv := evO_V he hg h1
  simp only [aop] at hx
  split at hx
  · rename_i id off hp
    rw [hp] at hv
    simp only [V] at hv
    obtain ⟨b, q1, q2⟩ := hv
    simp only [Option.bind_eq_some_iff] at hx
    obtain ⟨xs, hc, hx⟩ := hx
    split at hx
    · rename_i hn
      simp only [Option.map_eq_some_iff, Prod.mk.injEq] at hx
      obtain ⟨h2', hst, rfl, rfl⟩ := hx
      simp only [storeB, Option.bind_eq_some_iff] at hst
      obtain ⟨cs, hbx, hst⟩ := hst
      split at hst
      · rename_i hle
        cases hst
        have hvc := cellsOf_V (evO_V he hg h2) hc
        have hb0 := (box_rel r hbx).1
        obtain ⟨s1, s2, s3⟩ := run_store_box (P := P) hb0 q1 r hvc (oneL_V hn.2 hvc) hle
        refine ⟨.skip, Go.undef, _, S, ?_, .inr ⟨rfl, rfl⟩, Ext.refl S, s2, V_sc _, s3⟩
        have hsz : (a.eval y).cells.size = i.size := by have := hvc.length; simp at this; omega
        simp [execOp, hop, Instr.storeAt, Instr.sureAddr, q2, storeVar, run_sizeOf' hi, hsz, s1]
      · cases hst
    · cases hx
  · cases hx
/-! ### elements that can be read -/
def shp (k : Option Nat) : AV → Prop
  | .agg cs => k = some cs.length
  | _ => k = none
theorem shp_len {k : Option Nat} {x : AV} (hs : shp k x) : (elCells x).length = kz k := by
  cases x <;> simp only [shp] at hs <;> subst hs <;> rfl
theorem V1_shp {k : Option Nat} {x : AV} {b o' : Nat} (hv : V1 S k x b o') : shp k x := by
  cases x <;> simp only [V1] at hv <;> exact hv.1
/-- a slice (or a string) of n elements: its cells -/
def Els (P : Program) (W : World) (k : Option Nat) (p : Value) (n : Nat) (us : List Value) : Prop :=
  us.length = n * kz k ∧ ((∃ ao cap, p = .slice ao n cap ∧ (n = 0 ∨ ∃ b o, ao = some ⟨b, o, none⟩ ∧ ∀ j u, us[j]? = some u → W.cell? ⟨b, o + j, none⟩ = some u)) ∨ ∃ s : ByteArray, p = .string s ∧ k = none ∧ n = s.size ∧ us = s.data.toList.map fun b => .int .u8 b.toNat)
theorem VE_cells (r : Rel S h B W) {k : Option Nat} : ∀ {els : List AV} {b o' : Nat}, VE S k els b o' → ∃ us : List Value, us.length = els.length * kz k ∧ VL S (els.map elCells).flatten us ∧ (∀ u ∈ us, u.oneCell' = true) ∧ (∀ j u, us[j]? = some u → S.imm b (o' + j) = some u) ∧ ∀ x ∈ els, shp k x
  | [], b, o', hv => ⟨[], by simp, by simp [VL], by simp, fun j u hj => by simp at hj, by simp⟩
  | x :: xs, b, o', hv => by
    rw [VE.cons] at hv
    obtain ⟨us, g1, g2, g3, g4, g5⟩ := VE_cells r hv.2
    obtain ⟨m1, m2⟩ := hv.1.cells
    have hex : ∀ (cs : List AV) (q : Nat), VM S cs b q → ∃ ws : List Value, ws.length = cs.length ∧ VL S cs ws ∧ (∀ u ∈ ws, u.oneCell' = true) ∧ ∀ j u, ws[j]? = some u → S.imm b (q + j) = some u := by
      intro cs
      induction cs with
      | nil => intro q _; exact ⟨[], rfl, by simp [VL], by simp, fun j u hj => by simp at hj⟩
      | cons c cs ih =>
        intro q hm
        simp only [VM] at hm
        obtain ⟨⟨u, e1, e2⟩, e3⟩ := hm
        obtain ⟨ws, f1, f2, f3, f4⟩ := ih (q + 1) e3
        refine ⟨u :: ws, by simp [f1], by simp only [VL]; exact ⟨u, ws, rfl, e2, f2⟩, fun w hw => ?_, fun j w hj => ?_⟩
        · rcases List.mem_cons.1 hw with rfl | hw
          · exact (r.imm _ _ _ e1).2
          · exact f3 w hw
        · cases j with
          | zero => simp at hj; subst hj; exact e1
          | succ j => rw [show q + (j + 1) = q + 1 + j by omega]; exact f4 j w (by simpa using hj)
    obtain ⟨ws, f1, f2, f3, f4⟩ := hex _ _ m1
    refine ⟨ws ++ us, ?_, ?_, ?_, ?_, ?_⟩
    · rw [List.length_append, f1, m2, g1, List.length_cons, Nat.succ_mul]; omega
    · rw [List.map_cons, List.flatten_cons]; exact f2.append g2
    · intro u hu
      rcases List.mem_append.1 hu with hu | hu
      · exact f3 u hu
      · exact g3 u hu
    · intro j u hj
      rw [List.getElem?_append] at hj
      split at hj
      · exact f4 j u hj
      · rename_i hlt
        have := g4 _ u hj
        rw [← this]
        congr 1
        omega
    · intro y hy
      rcases List.mem_cons.1 hy with rfl | hy
      · exact V1_shp hv.1
      · exact g5 y hy
theorem aggs_flat (s : Nat) : ∀ (n : Nat) (cs : List AV), n * s ≤ cs.length → ((aggs s n cs).map elCells).flatten = cs.take (n * s) ∧ ∀ x ∈ aggs s n cs, shp (some s) x
  | 0, cs, _ => by simp [aggs]
  | n + 1, cs, hl => by
    rw [Nat.succ_mul] at hl ⊢
    obtain ⟨g1, g2⟩ := aggs_flat s n (cs.drop s) (by rw [List.length_drop]; omega)
    refine ⟨?_, ?_⟩
    · simp only [aggs, List.map_cons, List.flatten_cons, elCells, g1]
      rw [Nat.add_comm (n * s) s, List.take_add]
    · intro x hx
      simp only [aggs, List.mem_cons] at hx
      rcases hx with rfl | hx
      · simp only [shp, List.length_take]; congr 1; omega
      · exact g2 x hx
theorem flat_single : ∀ (cs : List AV), (∀ x ∈ cs, ∀ c, x ≠ .agg c) → (cs.map elCells).flatten = cs ∧ ∀ x ∈ cs, shp none x
  | [], _ => by simp
  | x :: cs, hn => by
    obtain ⟨g1, g2⟩ := flat_single cs (fun y hy => hn y (by simp [hy]))
    have hx : elCells x = [x] := by
      cases x <;> first | rfl | exact absurd rfl (hn _ List.mem_cons_self _)
    refine ⟨by simp [hx, g1], fun y hy => ?_⟩
    rcases List.mem_cons.1 hy with rfl | hy
    · cases y <;> first | rfl | exact absurd rfl (hn _ List.mem_cons_self _)
    · exact g2 y hy
theorem VL_noagg {S : St} : ∀ {x : List AV} {u : List Value}, VL S x u → (∀ w ∈ u, w.oneCell' = true) → ∀ y ∈ x, ∀ c, y ≠ .agg c
  | [], u, _, _, y, hy => by cases hy
  | x :: xs, u, hv, h1, y, hy => by
    simp only [VL] at hv
    obtain ⟨a, l, rfl, h2, h3⟩ := hv
    rcases List.mem_cons.1 hy with rfl | hy
    · exact not_agg h2 (h1 a (by simp))
    · exact VL_noagg h3 (fun w hw => h1 w (by simp [hw])) y hy
theorem msEls_cells (r : Rel S h B W) {id off len : Nat} {k : Option Nat} {els : List AV} (hm : msEls h id off k len = some els) {b : Nat} (hb : S.blk id 0 = some b) : els.length = len ∧ ∃ us : List Value, us.length = len * kz k ∧ VL S (els.map elCells).flatten us ∧ (∀ u ∈ us, u.oneCell' = true) ∧ (∀ j u, us[j]? = some u → W.cell? ⟨b, off + j, none⟩ = some u) ∧ ∀ x ∈ els, shp k x := by
  simp only [msEls, Option.bind_eq_some_iff] at hm
  obtain ⟨cs, hbx, hm⟩ := hm
  split at hm
  · rename_i hl
    cases hm
    obtain ⟨_, b', c, e', p1, p2, p3, p4, p5, p6, p7, p8⟩ := box_rel r hbx
    rw [hb] at p1
    cases p1
    have hll : len * kz k ≤ (cs.drop off).length := by rw [List.length_drop]; omega
    have hvd := (p4.drop off).take (len * kz k)
    have h1d : ∀ u ∈ (c.toList.drop off).take (len * kz k), u.oneCell' = true := fun u hu => p5 u (List.mem_of_mem_drop (List.mem_of_mem_take hu))
    have hflat : ((chunks k len (cs.drop off)).map elCells).flatten = (cs.drop off).take (len * kz k) ∧ ∀ x ∈ chunks k len (cs.drop off), shp k x := by
      cases k with
      | some s => exact aggs_flat s len _ hll
      | none =>
        simp only [chunks, kz, Option.getD_none, Nat.mul_one] at *
        exact flat_single _ (VL_noagg hvd h1d)
    refine ⟨chunks_length hll, (c.toList.drop off).take (len * kz k), ?_, ?_, h1d, ?_, hflat.2⟩
    · rw [List.length_take, List.length_drop, Array.length_toList]; omega
    · rw [hflat.1]; exact hvd
    · intro j u hj
      rw [List.getElem?_take] at hj
      split at hj
      · rw [List.getElem?_drop] at hj
        rw [cell_of p3]
        simpa using hj
      · cases hj
  · cases hm
theorem els_ok (r : Rel S h B W) {k : Option Nat} {x : AV} {p : Value} {els : List AV} (hv : V S x p) (he : elemsOf h k x = some els) : ∃ us, Els P W k p els.length us ∧ VL S (els.map elCells).flatten us ∧ (∀ u ∈ us, u.oneCell' = true) ∧ ∀ x ∈ els, shp k x := by
  unfold elemsOf at he
  split at he
  · split at he
    · rename_i hk
      subst hk
      cases he
      simp only [V] at hv
      obtain ⟨ao, cap, q1, q2, q3, q4⟩ := hv
      rcases q4 with rfl | ⟨b, o', rfl, q4⟩
      · exact ⟨[], ⟨by simp, .inl ⟨ao, cap, q1, .inl rfl⟩⟩, by simp [VL], by simp, by simp⟩
      · obtain ⟨us, g1, g2, g3, g4, g5⟩ := VE_cells r q4
        exact ⟨us, ⟨g1, .inl ⟨_, cap, q1, .inr ⟨b, o', rfl, fun j u hj => (r.imm _ _ _ (g4 j u hj)).1⟩⟩⟩, g2, g3, g5⟩
    · cases he
  · split at he
    · rename_i hk
      subst hk
      simp only [V] at hv
      obtain ⟨b, N, cap, q1, q2, q3, q4, q5⟩ := hv
      obtain ⟨hlen, us, g1, g2, g3, g4, g5⟩ := msEls_cells r he q1
      exact ⟨us, ⟨by rw [hlen]; exact g1, .inl ⟨_, cap, by rw [hlen]; exact q5, .inr ⟨b, _, rfl, g4⟩⟩⟩, g2, g3, g5⟩
    · cases he
  · cases he
    simp only [V] at hv
    exact ⟨[], ⟨by simp, .inl ⟨_, _, hv, .inl rfl⟩⟩, by simp [VL], by simp, by simp⟩
  · split at he
    · rename_i s hk
      subst hk
      cases he
      simp only [V] at hv
      have hna : ∀ x ∈ strEls s, ∀ c, x ≠ .agg c := by
        intro x hx c
        simp only [strEls, List.mem_map] at hx
        obtain ⟨b, _, rfl⟩ := hx
        exact fun hh => by cases hh
      obtain ⟨f1, f2⟩ := flat_single _ hna
      refine ⟨s.data.toList.map fun b => .int .u8 b.toNat, ⟨by simp [strEls, kz], .inr ⟨s, hv, rfl, by simp [strEls], rfl⟩⟩, ?_, ?_, f2⟩
      · rw [f1]; exact VL.map _ _ _ fun b _ => V_sc _
      · intro u hu
        simp only [List.mem_map] at hu
        obtain ⟨b, _, rfl⟩ := hu
        rfl
    · cases he
  · cases he
theorem run_lenOf {k : Option Nat} {p : Value} {n : Nat} {us : List Value} (hE : Els P W k p n us) (W' : World) : (Builtin.lenOf p).run P W' = .ok n W' := by
  obtain ⟨_, ⟨ao, cap, rfl, _⟩ | ⟨s, rfl, _, rfl, _⟩⟩ := hE <;> rfl
theorem run_firsts {k : Option Nat} {p : Value} {n : Nat} {us : List Value} (hE : Els P W k p n us) (m : Nat) (hm : m ≤ n) {W' : World} (hw : ∀ ad, W'.cell? ad = W.cell? ad) : (Builtin.firstCells (kz k) m p).run P W' = .ok (us.take (m * kz k)).toArray W' := by
  obtain ⟨hl, ⟨ao, cap, rfl, hc⟩ | ⟨s, rfl, rfl, rfl, rfl⟩⟩ := hE
  · rcases hc with rfl | ⟨b, o', rfl, hc⟩
    · have : m = 0 := by omega
      subst this
      cases ao <;> simp [Builtin.firstCells, loadCells, loadCellsFrom]
    · refine run_firstCells_some (P := P) W' (kz k) m ⟨b, o', none⟩ n cap _ ?_ ?_
      · rw [List.length_take, hl, Nat.min_eq_left (Nat.mul_le_mul_right _ hm)]
      · intro j u hj
        rw [add_at, hw]
        rw [List.getElem?_take] at hj
        split at hj
        · exact hc j u hj
        · cases hj
  · simp only [Builtin.firstCells, Sem.run_pure, kz, Option.getD_none, Nat.mul_one]
    congr 1
    apply Array.ext'
    simp only [Array.toList_map, ByteArray.data_extract, Array.toList_extract, List.extract, List.drop_zero, Nat.sub_zero, List.map_take]
end
end Go.Proofs.Ytpnkldjbiinnpaa.AM
