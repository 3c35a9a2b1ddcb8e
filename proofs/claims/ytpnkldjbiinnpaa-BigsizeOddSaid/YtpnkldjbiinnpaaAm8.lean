import Derived.Test.YtpnkldjbiinnpaaAm7
/- Each operation of the model does what the plain machine's does: addresses, parts, reads. -/
namespace Go.Proofs.Ytpnkldjbiinnpaa.AM
open Go Go.RowKit
set_option linter.unusedVariables false
set_option linter.unusedSimpArgs false
section
variable {P : Program} {E : Env0} {o : Oper} {C : Cl} {e : Env} {h h' : Heap} {v : AV} {S : St} {B : Nat} {W : World} {a : Act}
theorem kOf_some {t : TypeId} {n : Nat} (hk : kOf P t = some (some n)) : ∃ u i, P.underlying t = some u ∧ P.info? t = some i ∧ i.size = n ∧ 0 < n ∧ ((∃ fs, u = .struct fs) ∨ ∃ m e, u = .array m e) := by
  simp only [kOf, Option.bind_eq_some_iff] at hk
  obtain ⟨u, h1, i, h2, h3⟩ := hk
  split at h3
  · split at h3
    · cases h3
    · cases h3; exact ⟨_, i, h1, h2, rfl, by omega, .inl ⟨_, rfl⟩⟩
  · split at h3
    · cases h3
    · cases h3; exact ⟨_, i, h1, h2, rfl, by omega, .inr ⟨_, _, rfl⟩⟩
  · split at h3 <;> cases h3
theorem kOf_none {t : TypeId} (hk : kOf P t = some none) : ∃ u i, P.underlying t = some u ∧ P.info? t = some i ∧ i.size = 1 ∧ (∀ fs, u ≠ .struct fs) ∧ (∀ m e, u ≠ .array m e) := by
  simp only [kOf, Option.bind_eq_some_iff] at hk
  obtain ⟨u, h1, i, h2, h3⟩ := hk
  split at h3
  · split at h3 <;> cases h3
  · split at h3 <;> cases h3
  · rename_i hn1 hn2
    split at h3
    · exact ⟨u, i, h1, h2, by assumption, fun fs hh => hn1 fs hh, fun m e hh => hn2 m e hh⟩
    · cases h3
theorem run_isAgg_none {t : TypeId} (hk : kOf P t = some none) : (isAgg t).run P W = .ok false W := by
  obtain ⟨u, i, h1, h2, h3, h4, h5⟩ := kOf_none hk
  unfold isAgg
  simp only [Sem.run_bind, run_underlying' h1, Result.andThen_ok]
  cases u <;> first | rfl | exact absurd rfl (h4 _) | exact absurd rfl (h5 _ _)
theorem run_isAgg_some {t : TypeId} {n : Nat} (hk : kOf P t = some (some n)) : (isAgg t).run P W = .ok true W := by
  obtain ⟨u, i, h1, h2, h3, _, h4⟩ := kOf_some hk
  unfold isAgg
  simp only [Sem.run_bind, run_underlying' h1, Result.andThen_ok]
  rcases h4 with ⟨fs, rfl⟩ | ⟨m, e, rfl⟩ <;> rfl
theorem kOf_size {t : TypeId} {k : Option Nat} (hk : kOf P t = some k) : ∃ i, P.info? t = some i ∧ i.size = kz k ∧ 0 < i.size := by
  cases k with
  | none => obtain ⟨u, i, h1, h2, h3, _⟩ := kOf_none hk; exact ⟨i, h2, h3, by omega⟩
  | some n => obtain ⟨u, i, h1, h2, h3, h4, _⟩ := kOf_some hk; exact ⟨i, h2, h3, by omega⟩
theorem extract_toList {α : Type} (arr : Array α) (o n : Nat) : (arr.extract o (o + n)).toList = (arr.toList.drop o).take n := by
  rw [Array.toList_extract]; simp [List.extract]
theorem run_part {t : TypeId} {k : Option Nat} (hk : kOf P t = some k) {cs : List AV} {arr : Array Value} (hv : VL S cs arr.toList) {off : Nat} (hl : ldCells k (cs.drop off) = some v) : ∃ u, (∀ W, (part t arr off).run P W = .ok u W) ∧ V S v u := by
  unfold part
  cases k with
  | none =>
    simp only [ldCells, List.getElem?_drop, Nat.add_zero] at hl
    obtain ⟨u, g1, g2⟩ := hv.get hl
    have g1' : arr[off]? = some u := by simpa using g1
    exact ⟨u, fun W => by simp [run_isAgg_none hk, g1'], g2⟩
  | some n =>
    simp only [ldCells] at hl
    split at hl
    · cases hl
      obtain ⟨u, i, h1, h2, h3, _⟩ := kOf_some hk
      refine ⟨.agg (arr.extract off (off + n)), fun W => by simp [run_isAgg_some hk, run_sizeOf' h2, h3], ?_⟩
      simp only [V]
      exact ⟨_, rfl, by rw [extract_toList]; exact (hv.drop off).take n⟩
    · cases hl
/-- cells that can be read -/
def Rd (S : St) (W : World) (cs : List AV) (b o : Nat) : Prop := ∀ (j : Nat) (x : AV), cs[j]? = some x → ∃ u, W.cell? ⟨b, o + j, none⟩ = some u ∧ V S x u
theorem Rd.drop {cs : List AV} {b o : Nat} (hr : Rd S W cs b o) (n : Nat) : Rd S W (cs.drop n) b (o + n) := fun j x hx => by
  rw [List.getElem?_drop] at hx
  obtain ⟨u, h1, h2⟩ := hr _ x hx
  exact ⟨u, by rw [← h1]; congr 2; omega, h2⟩
theorem Rd.of_VM {cs : List AV} {b o : Nat} (r : Rel S h B W) (hm : VM S cs b o) : Rd S W cs b o := fun j x hx => by
  obtain ⟨u, h1, h2⟩ := hm.get hx
  exact ⟨u, (r.imm _ _ _ h1).1, h2⟩
theorem box_rel {id : Nat} {cs : List AV} (r : Rel S h B W) (hb : boxAt h id = some cs) : h[id]? = some (.cells cs) ∧ ∃ b c e, S.blk id 0 = some b ∧ B ≤ b ∧ W.heap[b]? = some (.cells c e (0, 0)) ∧ VL S cs c.toList ∧ (∀ u ∈ c.toList, u.oneCell' = true) ∧ S.sz b = some c.size ∧ c.size = cs.length ∧ ∀ o, S.imm b o = none := by
  unfold boxAt at hb
  split at hb
  · rename_i cs' hcs
    cases hb
    obtain ⟨b, c, e', p1, p2, p3, p4, p5, p6, p7⟩ := r.obj _ _ hcs
    exact ⟨hcs, b, c, e', p1, p2, p3, p4, p5, p6, by have := p4.length; simpa using this, p7⟩
  · cases hb
theorem Rd.of_box {cs : List AV} {b : Nat} {c : Array Value} {el : TypeId} {fr : Nat × Nat} (hh : W.heap[b]? = some (.cells c el fr)) (hv : VL S cs c.toList) : Rd S W cs b 0 := fun j x hx => by
  obtain ⟨u, h1, h2⟩ := hv.get hx
  exact ⟨u, by rw [Nat.zero_add, cell_of hh]; simpa using h1, h2⟩
theorem deref_ok {x : AV} {p : Value} {cs : List AV} (r : Rel S h B W) (hv : V S x p) (hd : deref h x = some cs) : ∃ b o, p = .pointer (some ⟨b, o, none⟩) ∧ Rd S W cs b o := by
  unfold deref at hd
  split at hd
  · rename_i id off
    simp only [Option.map_eq_some_iff] at hd
    obtain ⟨cs', hb, rfl⟩ := hd
    obtain ⟨_, b, c, e', p1, p2, p3, p4, p5, p6, p7, _⟩ := box_rel r hb
    simp only [V] at hv
    obtain ⟨b', q1, q2⟩ := hv
    rw [p1] at q1
    cases q1
    exact ⟨b, off, q2, by simpa using (Rd.of_box p3 p4).drop off⟩
  · cases hd
    simp only [V] at hv
    obtain ⟨b, o', h1, h2⟩ := hv
    exact ⟨b, o', h1, .of_VM r h2⟩
  · cases hd
theorem run_ld {t : TypeId} {k : Option Nat} (hk : kOf P t = some k) {cs : List AV} {b o' : Nat} (hr : Rd S W cs b o') (hl : ldCells k cs = some v) : ∃ u, (loadVar t ⟨b, o', none⟩).run P W = .ok u W ∧ V S v u := by
  unfold loadVar
  cases k with
  | none =>
    simp only [ldCells] at hl
    obtain ⟨u, g1, g2⟩ := hr 0 _ hl
    rw [Nat.add_zero] at g1
    exact ⟨u, by simp [run_isAgg_none hk, g1], g2⟩
  | some n =>
    simp only [ldCells] at hl
    split at hl
    · rename_i hn
      cases hl
      obtain ⟨u, i, h1, h2, h3, _⟩ := kOf_some hk
      have hex : ∀ m, m ≤ n → ∃ us : List Value, us.length = m ∧ (∀ j u, us[j]? = some u → W.cell? ⟨b, o' + j, none⟩ = some u) ∧ VL S (cs.take m) us := by
        intro m
        induction m with
        | zero => intro _; exact ⟨[], rfl, fun j u hj => by simp at hj, by simp [VL]⟩
        | succ m ih =>
          intro hm
          obtain ⟨us, g1, g2, g3⟩ := ih (by omega)
          have hlt : m < cs.length := by omega
          obtain ⟨u, g4, g5⟩ := hr m cs[m] (List.getElem?_eq_getElem hlt)
          refine ⟨us ++ [u], by simp [g1], fun j w hj => ?_, ?_⟩
          · rw [List.getElem?_append] at hj
            split at hj
            · exact g2 j w hj
            · have : j = m := by have := (List.getElem?_eq_some_iff.1 hj).1; simp at this; omega
              subst this
              simp [g1] at hj
              subst hj
              exact g4
          · rw [List.take_succ_eq_append_getElem hlt]
            exact g3.append (by simp only [VL]; exact ⟨u, [], rfl, g5, rfl⟩)
      obtain ⟨us, g1, g2, g3⟩ := hex n (Nat.le_refl n)
      have hlc := run_loadCells_list (P := P) W ⟨b, o', none⟩ us (fun j w hj => by rw [add_at]; exact g2 j w hj)
      rw [g1] at hlc
      refine ⟨.agg us.toArray, by simp [run_isAgg_some hk, run_sizeOf' h2, h3, hlc], ?_⟩
      simp only [V]
      exact ⟨_, rfl, by simpa using g3⟩
    · cases hl
/-- an operation that reads alone -/
def ExR (P : Program) (o : Oper) (a : Act) (S : St) (v : AV) (W : World) : Prop := ∃ u, (execOp a.eval o).run P W = .ok (.value u) W ∧ V S v u
theorem ExR.ok {h h' : Heap} (hr : h' = h ∧ ExR P o a S v W) (r : Rel S h B W) : ExOK P o a S h' v B W := by
  obtain ⟨rfl, u, h1, h2⟩ := hr
  exact .same r h1 h2
theorem ex_load {t : TypeId} {x : Operand} (hop : o.op = .load t x) {k : Option Nat} (hk : kOf P t = some k) {x' : Opd} (h1 : compO E x = some x') (hx : aop C (.load k x') e h = some (v, h')) (r : Rel S h B W) (he : EnvR S e a E.nt) (hg : GlobOK E.gl S.imm) : h' = h ∧ ExR P o a S v W := by
  simp only [aop, Option.bind_eq_some_iff, Option.map_eq_some_iff, Prod.mk.injEq] at hx
  obtain ⟨cs, hd, w, hb, rfl, rfl⟩ := hx
  obtain ⟨b, o', q1, q2⟩ := deref_ok r (evO_V he hg h1) hd
  obtain ⟨u, g1, g2⟩ := run_ld hk q2 hb
  exact ⟨rfl, u, by simp [execOp, hop, Instr.loadAt, Instr.sureAddr, q1, g1], g2⟩
theorem ex_toArr {t : TypeId} {x : Operand} (hop : o.op = .sliceToArrayPointer t x) {n : Nat} {el : TypeId} (ht : P.underlying t = some (.array n el)) {x' : Opd} (h1 : compO E x = some x') (hx : aop C (.toArr n x') e h = some (v, h')) (r : Rel S h B W) (he : EnvR S e a E.nt) (hg : GlobOK E.gl S.imm) : h' = h ∧ ExS P o a S v := by
  have hv := evO_V he hg h1
  simp only [aop] at hx
  split at hx
  · rename_i id off len hp
    split at hx
    · rename_i hc
      cases hx
      rw [hp] at hv
      simp only [V] at hv
      obtain ⟨b, N, cap, q1, q2, q3, q4, q5⟩ := hv
      refine ⟨rfl, .mk (u := .pointer (some ⟨b, off, none⟩)) (fun W => ?_) (by simp only [V]; exact ⟨b, q1, rfl⟩)⟩
      have : ¬ len < n := by omega
      simp [execOp, hop, Instr.arrayAt, run_underlying' ht, q5, this]
    · cases hx
  · rename_i own els hp
    split at hx
    · rename_i hc
      cases hx
      rw [hp] at hv
      simp only [V] at hv
      obtain ⟨ao, cap, q1, q2, q3, q4⟩ := hv
      rcases q4 with rfl | ⟨b, o', rfl, q4⟩
      · simp at hc; omega
      refine ⟨rfl, .mk (u := .pointer (some ⟨b, o', none⟩)) (fun W => ?_) ?_⟩
      · have : ¬ els.length < n := by omega
        simp [execOp, hop, Instr.arrayAt, run_underlying' ht, q1, this]
      · simp only [V]
        refine ⟨b, o', rfl, VM.mk fun i y hy => ?_⟩
        have := q4.get hy
        simp only [kz, Option.getD_none, Nat.mul_one] at this
        cases y <;> simp only [V1] at this <;> first | (exact this.2) | (cases this.1)
    · cases hx
  · cases hx
theorem ex_fieldAddr {t : TypeId} {x : Operand} {f : Nat} (hop : o.op = .fieldAddr t x f) {fs : Array Field} (ht : P.underlying t = some (.struct fs)) {fd : Field} (hf : fs[f]? = some fd) {i : TypeInfo} (hi : P.info? fd.type = some i) (hs : i.size ≠ 0) {n : Nat} {x' : Opd} (h1 : compO E x = some x') (hx : aop C (.fieldAddr fd.offset n x') e h = some (v, h')) (r : Rel S h B W) (he : EnvR S e a E.nt) (hg : GlobOK E.gl S.imm) : h' = h ∧ ExS P o a S v := by
  have hv := evO_V he hg h1
  simp only [aop] at hx
  split at hx
  · rename_i id off hp
    cases hx
    rw [hp] at hv
    simp only [V] at hv
    obtain ⟨b, q1, q2⟩ := hv
    refine ⟨rfl, .mk (u := .pointer (some ⟨b, off + fd.offset, none⟩)) (fun W => ?_) (by simp only [V]; exact ⟨b, q1, rfl⟩)⟩
    simp [execOp, hop, Instr.fieldAt, run_underlying' ht, hf, q2, Instr.sureAddr, fieldPlace, run_sizeOf' hi, hs, add_at]
  · rename_i cs hp
    cases hx
    rw [hp] at hv
    simp only [V] at hv
    obtain ⟨b, o', q1, q2⟩ := hv
    refine ⟨rfl, .mk (u := .pointer (some ⟨b, o' + fd.offset, none⟩)) (fun W => ?_) (by simp only [V]; exact ⟨b, _, rfl, q2.drop _⟩)⟩
    simp [execOp, hop, Instr.fieldAt, run_underlying' ht, hf, q1, Instr.sureAddr, fieldPlace, run_sizeOf' hi, hs, add_at]
  · cases hx
theorem ex_field {t : TypeId} {x : Operand} {f : Nat} (hop : o.op = .field t x f) {fs : Array Field} (ht : P.underlying t = some (.struct fs)) {fd : Field} (hf : fs[f]? = some fd) {k : Option Nat} (hk : kOf P fd.type = some k) {x' : Opd} (h1 : compO E x = some x') (hx : aop C (.field k fd.offset x') e h = some (v, h')) (r : Rel S h B W) (he : EnvR S e a E.nt) (hg : GlobOK E.gl S.imm) : h' = h ∧ ExS P o a S v := by
  have hv := evO_V he hg h1
  simp only [aop] at hx
  split at hx
  · rename_i cs hp
    simp only [Option.map_eq_some_iff, Prod.mk.injEq] at hx
    obtain ⟨w, hb, rfl, rfl⟩ := hx
    rw [hp] at hv
    simp only [V] at hv
    obtain ⟨arr, q1, q2⟩ := hv
    obtain ⟨u, g1, g2⟩ := run_part hk q2 hb
    exact ⟨rfl, .mk (u := u) (fun W => by simp [execOp, hop, Instr.field, run_underlying' ht, hf, q1, asAgg, g1]) g2⟩
  · cases hx
theorem asI_val {y : AV} {n : Int} {p : Value} (hv : V S y p) (hn : asI y = some n) : ∃ k, p = .int k n := by
  unfold asI at hn
  split at hn
  · cases hn; simp only [V] at hv; exact ⟨_, hv⟩
  · cases hn
theorem ex_index {t : TypeId} {x ix : Operand} (hop : o.op = .index t x ix) {n : Nat} {el : TypeId} (ht : P.underlying t = some (.array n el)) {k : Option Nat} (hk : kOf P el = some k) {x' ix' : Opd} (h1 : compO E x = some x') (h2 : compO E ix = some ix') (hx : aop C (.index k n x' ix') e h = some (v, h')) (r : Rel S h B W) (he : EnvR S e a E.nt) (hg : GlobOK E.gl S.imm) : h' = h ∧ ExS P o a S v := by
  have hv := evO_V he hg h1
  simp only [aop, Option.bind_eq_some_iff] at hx
  obtain ⟨i, hi, hx⟩ := hx
  obtain ⟨ki, hiv⟩ := asI_val (evO_V he hg h2) hi
  split at hx
  · rename_i cs hp
    split at hx
    · rename_i hc
      simp only [Option.map_eq_some_iff, Prod.mk.injEq] at hx
      obtain ⟨w, hb, rfl, rfl⟩ := hx
      rw [hp] at hv
      simp only [V] at hv
      obtain ⟨arr, q1, q2⟩ := hv
      obtain ⟨inf, f1, f2, f3⟩ := kOf_size hk
      obtain ⟨u, g1, g2⟩ := run_part hk q2 hb
      rw [← f2] at g1
      exact ⟨rfl, .mk (u := u) (fun W => by simp [execOp, hop, Instr.index, run_underlying' ht, q1, hiv, asIntOf, hc, run_sizeOf' f1, g1]) g2⟩
    · cases hx
  · cases hx
theorem ex_indexStr {t : TypeId} {x ix : Operand} (hop : o.op = .index t x ix) (ht : P.underlying t = some .string) {x' ix' : Opd} (h1 : compO E x = some x') (h2 : compO E ix = some ix') (hx : aop C (.indexStr x' ix') e h = some (v, h')) (r : Rel S h B W) (he : EnvR S e a E.nt) (hg : GlobOK E.gl S.imm) : h' = h ∧ ExS P o a S v := by
  have hv := evO_V he hg h1
  simp only [aop, Option.bind_eq_some_iff] at hx
  obtain ⟨i, hi, hx⟩ := hx
  obtain ⟨ki, hiv⟩ := asI_val (evO_V he hg h2) hi
  split at hx
  · rename_i s hp
    split at hx
    · rename_i hc
      simp only [Option.map_eq_some_iff, Prod.mk.injEq] at hx
      obtain ⟨w, hb, rfl, rfl⟩ := hx
      have hs := eval_sc (evO_V he hg h1) hp
      refine ⟨rfl, .mk (u := .int .u8 w.toNat) (fun W => ?_) (V_sc _)⟩
      have hb' : s[i.toNat]? = some w := by
        have hlt : i.toNat < s.data.toList.length := (List.getElem?_eq_some_iff.1 hb).1
        have hlt' : i.toNat < s.size := by rw [Array.length_toList] at hlt; exact hlt
        rw [getElem?_pos s i.toNat hlt']
        have := (List.getElem?_eq_some_iff.1 hb).2
        simp at this
        exact congrArg some this
      simp only [execOp, hop, Instr.index, Sem.run_bind, run_underlying' ht, Result.andThen_ok, hs, hiv, asIntOf, Sem.run_pure, if_pos hc, hb']
    · cases hx
  · cases hx
theorem ex_indexAddr {t : TypeId} {x ix : Operand} (hop : o.op = .indexAddr t x ix) {u : TypeDesc} (ht : P.underlying t = some u) {el : TypeId} {s : IK} (hu : (u = .slice el ∧ s = .slice) ∨ ∃ n, u = .array n el ∧ s = .arr n) {k : Option Nat} (hk : kOf P el = some k) {x' ix' : Opd} (h1 : compO E x = some x') (h2 : compO E ix = some ix') (hx : aop C (.indexAddr s k x' ix') e h = some (v, h')) (r : Rel S h B W) (he : EnvR S e a E.nt) (hg : GlobOK E.gl S.imm) : h' = h ∧ ExS P o a S v := by
  have hv := evO_V he hg h1
  obtain ⟨inf, f1, f2, f3⟩ := kOf_size hk
  simp only [aop, Option.bind_eq_some_iff] at hx
  obtain ⟨i, hi, hx⟩ := hx
  obtain ⟨ki, hiv⟩ := asI_val (evO_V he hg h2) hi
  split at hx
  · rename_i n id off hp
    split at hx
    · rename_i hc
      cases hx
      rw [hp] at hv
      simp only [V] at hv
      obtain ⟨b, q1, q2⟩ := hv
      rcases hu with ⟨_, hu⟩ | ⟨n', rfl, hu⟩
      · cases hu
      cases hu
      refine ⟨rfl, .mk (u := .pointer (some ⟨b, off + i.toNat * kz k, none⟩)) (fun W => ?_) (by simp only [V]; exact ⟨b, q1, rfl⟩)⟩
      simp [execOp, hop, Instr.indexAt, run_underlying' ht, hiv, asIntOf, q2, Instr.sureAddr, hc, run_sizeOf' f1, f2, add_at]
    · cases hx
  · rename_i n cs hp
    split at hx
    · rename_i hc
      cases hx
      rw [hp] at hv
      simp only [V] at hv
      obtain ⟨b, o', q1, q2⟩ := hv
      rcases hu with ⟨_, hu⟩ | ⟨n', rfl, hu⟩
      · cases hu
      cases hu
      refine ⟨rfl, .mk (u := .pointer (some ⟨b, o' + i.toNat * kz k, none⟩)) (fun W => ?_) (by simp only [V]; exact ⟨b, _, rfl, q2.drop _⟩)⟩
      simp [execOp, hop, Instr.indexAt, run_underlying' ht, hiv, asIntOf, q1, Instr.sureAddr, hc, run_sizeOf' f1, f2, add_at]
    · cases hx
  · rename_i own k' els hp
    split at hx
    · rename_i hc
      obtain ⟨rfl, hc⟩ := hc
      simp only [Option.map_eq_some_iff, Prod.mk.injEq] at hx
      obtain ⟨w, hb, rfl, rfl⟩ := hx
      rw [hp] at hv
      simp only [V] at hv
      obtain ⟨ao, cap, q1, q2, q3, q4⟩ := hv
      have hlt := (List.getElem?_eq_some_iff.1 hb).1
      rcases q4 with rfl | ⟨b, o', rfl, q4⟩
      · simp at hlt
      rcases hu with ⟨rfl, _⟩ | ⟨n', rfl, hu⟩
      rotate_left
      · cases hu
      refine ⟨rfl, .mk (u := .pointer (some ⟨b, o' + i.toNat * kz k', none⟩)) (fun W => ?_) (by simp only [V]; exact ⟨b, _, rfl, (q4.get hb).cells.1⟩)⟩
      have hlt2 : i < (els.length : Int) := by omega
      simp [execOp, hop, Instr.indexAt, run_underlying' ht, hiv, asIntOf, q1, hc, hlt2, run_sizeOf' f1, f2, add_at]
    · cases hx
  · rename_i id off k' len hp
    split at hx
    · rename_i hc
      obtain ⟨rfl, hc, hc2⟩ := hc
      cases hx
      rw [hp] at hv
      simp only [V] at hv
      obtain ⟨b, N, cap, q1, q2, q3, q4, q5⟩ := hv
      rcases hu with ⟨rfl, _⟩ | ⟨n', rfl, hu⟩
      rotate_left
      · cases hu
      refine ⟨rfl, .mk (u := .pointer (some ⟨b, off + i.toNat * kz k', none⟩)) (fun W => ?_) (by simp only [V]; exact ⟨b, q1, rfl⟩)⟩
      simp [execOp, hop, Instr.indexAt, run_underlying' ht, hiv, asIntOf, q5, hc, hc2, run_sizeOf' f1, f2, add_at]
    · cases hx
  · cases hx
theorem ex_len {ts : Array TypeId} {x : Operand} (hop : o.op = .call { callee := .builtin .len, args := #[x], argTypes := ts }) {t el : TypeId} (h0 : ts[0]? = some t) (ht : P.underlying t = some (.slice el)) {x' : Opd} (h1 : compO E x = some x') (hx : aop C (.len x') e h = some (v, h')) (r : Rel S h B W) (he : EnvR S e a E.nt) (hg : GlobOK E.gl S.imm) : h' = h ∧ ExS P o a S v := by
  have hv := evO_V he hg h1
  simp only [aop, Option.map_eq_some_iff, Prod.mk.injEq] at hx
  obtain ⟨n, hb, rfl, rfl⟩ := hx
  have : ∃ ao cap, a.eval x = .slice ao n cap := by
    unfold lenOf at hb
    split at hb
    · rename_i hp; cases hb; rw [hp] at hv; simp only [V] at hv; obtain ⟨ao, cap, q1, _⟩ := hv; exact ⟨ao, cap, q1⟩
    · rename_i hp; cases hb; rw [hp] at hv; simp only [V] at hv; obtain ⟨b, N, cap, _, _, _, _, q5⟩ := hv; exact ⟨_, cap, q5⟩
    · rename_i hp; cases hb; rw [hp] at hv; simp only [V] at hv; exact ⟨_, _, hv⟩
    · cases hb
  obtain ⟨ao, cap, q⟩ := this
  refine ⟨rfl, .mk (u := .int .i64 n) (fun W => ?_) (V_sc _)⟩
  simp [execOp, hop, resolve, invoke, builtin, Builtin.len_, h0, run_underlying' ht, q, goInt]
theorem ex_lenT {ts : Array TypeId} {x : Operand} (hop : o.op = .call { callee := .builtin .len, args := #[x], argTypes := ts }) {t : TypeId} (h0 : ts[0]? = some t) (ht : P.underlying t = some .string) {x' : Opd} (h1 : compO E x = some x') (hx : aop C (.lenT x') e h = some (v, h')) (r : Rel S h B W) (he : EnvR S e a E.nt) (hg : GlobOK E.gl S.imm) : h' = h ∧ ExS P o a S v := by
  simp only [aop] at hx
  split at hx
  · rename_i s hp
    cases hx
    have q := eval_sc (evO_V he hg h1) hp
    refine ⟨rfl, .mk (u := .int .i64 s.size) (fun W => ?_) (V_sc _)⟩
    simp [execOp, hop, resolve, invoke, builtin, Builtin.len_, h0, run_underlying' ht, q, goInt]
  · cases hx
theorem ex_lenC {ts : Array TypeId} {x : Operand} (hop : o.op = .call { callee := .builtin .len, args := #[x], argTypes := ts }) {t : TypeId} (h0 : ts[0]? = some t) {n : Nat} (ht : (∃ el, P.underlying t = some (.array n el)) ∨ ∃ ar el, P.underlying t = some (.pointer ar) ∧ P.underlying ar = some (.array n el)) (r : Rel S h B W) : ExS P o a S (.int .i64 n) := by
  refine .mk (u := .int .i64 n) (fun W => ?_) (V_sc _)
  rcases ht with ⟨el, ht⟩ | ⟨ar, el, ht, ht2⟩
  · simp [execOp, hop, resolve, invoke, builtin, Builtin.len_, h0, run_underlying' ht, goInt]
  · simp [execOp, hop, resolve, invoke, builtin, Builtin.len_, h0, run_underlying' ht, run_underlying' ht2, goInt]
theorem ex_convSS {s d : TypeId} {x : Operand} (hop : o.op = .convert s d x) (hs : P.underlying s = some .string) (hd : P.underlying d = some .string) {x' : Opd} (h1 : compO E x = some x') (hx : aop C (.convSS x') e h = some (v, h')) (r : Rel S h B W) (he : EnvR S e a E.nt) (hg : GlobOK E.gl S.imm) : h' = h ∧ ExS P o a S v := by
  simp only [aop] at hx
  split at hx
  · rename_i q hp
    cases hx
    have e1 := eval_sc (evO_V he hg h1) hp
    refine ⟨rfl, .mk (u := .string q) (fun W => ?_) (V_sc _)⟩
    simp [execOp, hop, e1, convert, run_underlying' hs, run_underlying' hd]
  · cases hx
end
end Go.Proofs.Ytpnkldjbiinnpaa.AM
