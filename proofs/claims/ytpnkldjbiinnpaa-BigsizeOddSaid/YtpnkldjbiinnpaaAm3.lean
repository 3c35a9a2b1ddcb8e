import Derived.Test.YtpnkldjbiinnpaaAm2
import Derived.ArgAppend
/- The plain machine's heap in the model's world: stores, new cells, rows that grow, boxes let go. -/
namespace Go.Proofs.Ytpnkldjbiinnpaa.AM
open Go Go.RowKit
set_option linter.unusedVariables false
set_option linter.unusedSimpArgs false
theorem heap_setCell_at {W : World} {b : Nat} {c : Array Value} {e : TypeId} {fr : Nat × Nat} (h : W.heap[b]? = some (.cells c e fr)) (o : Nat) (u : Value) :
    (W.setCell ⟨b, o, none⟩ u).heap[b]? = some (.cells (c.setIfInBounds o u) e fr) := by
  simp [World.setCell, Array.getElem?_modify, h]
theorem cell_of {W : World} {b : Nat} {c : Array Value} {e : TypeId} {fr : Nat × Nat} (h : W.heap[b]? = some (.cells c e fr)) (o : Nat) : W.cell? ⟨b, o, none⟩ = c[o]? := by
  simp [World.cell?, h]
theorem frozen_of {W : World} {b : Nat} {c : Array Value} {e : TypeId} (h : W.heap[b]? = some (.cells c e (0, 0))) (o : Nat) : W.frozen? ⟨b, o, none⟩ = false := by
  simp [World.frozen?, h]
theorem getElem?_set_ne' {α : Type} {l : List α} {i j : Nat} {x : α} (h : i ≠ j) : (l.set i x)[j]? = l[j]? := by
  rw [List.getElem?_set]; simp [h]
theorem getElem?_set_eq' {α : Type} {l : List α} {i : Nat} {x : α} (h : i < l.length) : (l.set i x)[i]? = some x := by
  rw [List.getElem?_set]; simp [h]
/-- one cell of a box -/
theorem Rel.setCell {S : St} {h : Heap} {B : Nat} {W : World} (r : Rel S h B W) {id b off : Nat} {cs : List AV} (hx : h[id]? = some (.cells cs)) (hb : S.blk id 0 = some b) (x : AV) (u : Value) (hv : V S x u) (h1 : u.oneCell' = true) :
    Rel S (h.set id (.cells (cs.set off x))) B (W.setCell ⟨b, off, none⟩ u) := by
  obtain ⟨b', c, e, q1, q2, q3, q4, q5, q6, q7⟩ := r.obj id _ hx
  rw [hb] at q1
  cases q1
  have hlt := (List.getElem?_eq_some_iff.1 hx).1
  have hoth : ∀ k, k ≠ b → (W.setCell ⟨b, off, none⟩ u).heap[k]? = W.heap[k]? := fun k hk => Below.heap_setCell W _ _ k hk
  refine ⟨?_, ?_, ?_, ?_, ?_, ?_, r.sb⟩
  · intro b' o' u' hi
    have hne : b' ≠ b := by rintro rfl; rw [q7] at hi; cases hi
    have := r.imm b' o' u' hi
    rw [World.cell?_of_block (w := W) (a := ⟨b', o', none⟩) (hoth b' hne)]
    exact this
  · intro i y hy
    by_cases hi : i = id
    · subst hi
      rw [getElem?_set_eq' hlt] at hy
      cases hy
      refine ⟨b, _, e, hb, q2, heap_setCell_at q3 off u, ?_, ?_, ?_, q7⟩
      · rw [Array.toList_setIfInBounds]; exact q4.set off hv
      · intro z hz
        rw [Array.toList_setIfInBounds] at hz
        rcases List.mem_or_eq_of_mem_set hz with hz | rfl
        · exact q5 z hz
        · exact h1
      · rw [Array.size_setIfInBounds]; exact q6
    · rw [getElem?_set_ne' (fun hh => hi hh.symm)] at hy
      refine (r.obj i y hy).mono (Ext.refl S) (fun b' hc => ⟨hoth b' ?_, fun o ho => ho⟩) (fun v hv => hv)
      rintro rfl
      exact hi (r.inj i id y _ b' hy hx hc hb)
  · have hset : ∀ (i : Nat) (y : AObj), (h.set id (.cells (cs.set off x)))[i]? = some y → ∃ y', h[i]? = some y' ∧ curB S i y' = curB S i y := by
      intro i y hy
      by_cases hi : i = id
      · subst hi
        rw [getElem?_set_eq' hlt] at hy
        cases hy
        exact ⟨_, hx, rfl⟩
      · rw [getElem?_set_ne' (fun hh => hi hh.symm)] at hy
        exact ⟨y, hy, rfl⟩
    intro i j y z b' hy hz hcy hcz
    obtain ⟨y', hy', e1⟩ := hset i y hy
    obtain ⟨z', hz', e2⟩ := hset j z hz
    exact r.inj i j y' z' b' hy' hz' (e1 ▸ hcy) (e2 ▸ hcz)
  · intro i v hi
    rw [List.length_set] at hi
    exact r.new i v hi
  · intro b' n hs
    rw [World.size_setCell]
    exact r.lt b' n hs
  · rw [World.size_setCell]; exact r.base
theorem setAt_length : ∀ (xs cs : List AV) (o : Nat), (setAt cs o xs).length = cs.length
  | [], cs, o => rfl
  | x :: xs, cs, o => by rw [setAt, setAt_length xs]; simp
theorem Rel.setCells {B : Nat} {S : St} {id b : Nat} (hb : S.blk id 0 = some b) : ∀ (xs : List AV) (us : List Value) (off : Nat) (cs : List AV) (h : Heap) (W : World), Rel S h B W → h[id]? = some (.cells cs) → VL S xs us → (∀ u ∈ us, u.oneCell' = true) →
    Rel S (h.set id (.cells (setAt cs off xs))) B (W.setCells b off us)
  | [], us, off, cs, h, W, r, hx, hv, h1 => by
    simp only [VL] at hv
    subst hv
    have : h.set id (.cells (setAt cs off [])) = h := by
      rw [setAt]
      apply List.ext_getElem?
      intro i
      by_cases hi : i = id
      · subst hi; rw [getElem?_set_eq' (List.getElem?_eq_some_iff.1 hx).1, hx]
      · rw [getElem?_set_ne' (fun hh => hi hh.symm)]
    rw [this]
    exact r
  | x :: xs, us, off, cs, h, W, r, hx, hv, h1 => by
    simp only [VL] at hv
    obtain ⟨u, vs, rfl, hv1, hv2⟩ := hv
    have r1 := r.setCell hx hb (off := off) x u hv1 (h1 u (by simp))
    have hx1 : (h.set id (.cells (cs.set off x)))[id]? = some (.cells (cs.set off x)) := getElem?_set_eq' (List.getElem?_eq_some_iff.1 hx).1
    have r2 := Rel.setCells hb xs vs (off + 1) _ _ _ r1 hx1 hv2 (fun u hu => h1 u (by simp [hu]))
    rw [List.set_set] at r2
    exact r2
theorem below_setCells {B : Nat} {b : Nat} (hB : B ≤ b) : ∀ (us : List Value) (off : Nat) (W0 W : World), Below B W0 W → Below B W0 (W.setCells b off us)
  | [], off, W0, W, h => h
  | u :: us, off, W0, W, h => below_setCells hB us (off + 1) W0 _ (h.setCell (by exact hB) u)
/-! ### new cells that stay -/
def addImm (S : St) (b : Nat) (c : Array Value) : St := { S with imm := fun b' o => if b' = b then c[o]? else S.imm b' o }
theorem Rel.newImm {S : St} {h : Heap} {B : Nat} {W : World} (r : Rel S h B W) (c : Array Value) (e : TypeId) (fr : Nat × Nat) (h1 : ∀ u ∈ c.toList, u.oneCell' = true) :
    Rel (addImm S W.heap.size c) h B (W.alloc (.cells c e fr)) ∧ Ext S (addImm S W.heap.size c) := by
  have ex : Ext S (addImm S W.heap.size c) := ⟨fun _ _ _ h => h, fun _ _ h => h, fun b o u hi => by
    simp only [addImm]
    rw [if_neg (by have := immLt r hi; omega)]
    exact hi, rfl, fun b o u hi => by
    simp only [addImm] at hi
    split at hi
    · rename_i hb; subst hb; right; rw [r.sb]; exact r.base
    · exact .inl hi⟩
  refine ⟨⟨?_, ?_, ?_, r.new, ?_, ?_, r.sb⟩, ex⟩
  · intro b o u hi
    simp only [addImm] at hi
    split at hi
    · rename_i hb
      subst hb
      rw [cell_of (heap_alloc_new' W _)]
      exact ⟨hi, h1 u (by rw [Array.mem_toList_iff]; exact Array.mem_of_getElem? hi)⟩
    · have := r.imm b o u hi
      rw [World.cell?_alloc_lt _ _ _ (by exact immLt r hi)]
      exact this
  · intro i x hx
    refine (r.obj i x hx).mono ex (fun b hc => ?_) (fun v hv => hv)
    have hl := (curLt r hx (by cases x <;> exact hc)).1
    refine ⟨heap_alloc_old _ _ hl, fun o ho => ?_⟩
    simp only [addImm]
    rw [if_neg (by omega)]
    exact ho
  · intro i j x y b hx hy hcx hcy
    exact r.inj i j x y b hx hy (by cases x <;> exact hcx) (by cases y <;> exact hcy)
  · intro b n hs
    have := r.lt b n hs
    simp; omega
  · have := r.base; simp; omega
/-! ### rows -/
def addRow (S : St) (i v b n : Nat) (c : Array Value) (hi : Nat) : St :=
  { blk := fun j w => if j = i ∧ w = v then some b else S.blk j w, sz := fun c => if c = b then some n else S.sz c, imm := fun b' o => if b' = b ∧ o < hi then c[o]? else S.imm b' o, base := S.base }
/-- a row grows in number before its block is known -/
theorem Rel.rowUp {S : St} {h : Heap} {B : Nat} {W : World} (r : Rel S h B W) {i n : Nat} {k : Option Nat} (hx : h[i]? = some (.row k n)) (k' : Option Nat) (m : Nat) (hm : n < m) : Rel S (h.set i (.row k' m)) B W ∧ S.blk i m = none := by
  obtain ⟨q1, q2⟩ := r.obj i _ hx
  have hn := q1 m hm
  have hlt := (List.getElem?_eq_some_iff.1 hx).1
  refine ⟨⟨r.imm, ?_, ?_, ?_, r.lt, r.base, r.sb⟩, hn⟩
  · intro j y hy
    by_cases hj : j = i
    · subst hj
      rw [getElem?_set_eq' hlt] at hy
      cases hy
      exact ⟨fun v hv => q1 v (by omega), fun b hb => by rw [hn] at hb; cases hb⟩
    · rw [getElem?_set_ne' (fun hh => hj hh.symm)] at hy
      exact r.obj j y hy
  · intro a j y z b hy hz hcy hcz
    by_cases ha : a = i <;> by_cases hj : j = i
    · omega
    · subst ha
      rw [getElem?_set_eq' hlt] at hy
      cases hy
      simp only [curB] at hcy
      rw [hn] at hcy
      cases hcy
    · subst hj
      rw [getElem?_set_eq' hlt] at hz
      cases hz
      simp only [curB] at hcz
      rw [hn] at hcz
      cases hcz
    · rw [getElem?_set_ne' (fun hh => ha hh.symm)] at hy
      rw [getElem?_set_ne' (fun hh => hj hh.symm)] at hz
      exact r.inj a j y z b hy hz hcy hcz
  · intro j v hj
    rw [List.length_set] at hj
    exact r.new j v hj
/-- a row without a block gets a new one -/
theorem Rel.rowNew {S : St} {h : Heap} {B : Nat} {W : World} (r : Rel S h B W) {i n : Nat} {k : Option Nat} (hx : h[i]? = some (.row k n)) (hn : S.blk i n = none) (c : Array Value) (e : TypeId) (fr : Nat × Nat) (h1 : ∀ o u, o < n * kz k → c[o]? = some u → u.oneCell' = true) (hs : n * kz k ≤ c.size) (hfr : ∀ o, o < c.size → ¬ (fr.1 ≤ o ∧ o < fr.2)) :
    Rel (addRow S i n W.heap.size c.size c (n * kz k)) h B (W.alloc (.cells c e fr)) ∧ Ext S (addRow S i n W.heap.size c.size c (n * kz k)) := by
  have ex : Ext S (addRow S i n W.heap.size c.size c (n * kz k)) := ⟨fun j v b hb => by
      simp only [addRow]
      rw [if_neg (by rintro ⟨rfl, rfl⟩; rw [hn] at hb; cases hb)]
      exact hb, fun b m hb => by
      simp only [addRow]
      rw [if_neg (by have := r.lt _ _ hb; omega)]
      exact hb, fun b o u hi => by
      simp only [addRow]
      rw [if_neg (by have := immLt r hi; omega)]
      exact hi, rfl, fun b o u hi => by
      simp only [addRow] at hi
      split at hi
      · rename_i hb; obtain ⟨rfl, _⟩ := hb; right; rw [r.sb]; exact r.base
      · exact .inl hi⟩
  obtain ⟨q1, q2⟩ := r.obj i _ hx
  have hcur : ∀ (j : Nat) (y : AObj) (b : Nat), h[j]? = some y → curB (addRow S i n W.heap.size c.size c (n * kz k)) j y = some b → (j = i ∧ b = W.heap.size) ∨ curB S j y = some b := by
    intro j y b hy hc
    by_cases hj : j = i
    · subst hj
      rw [hx] at hy
      cases hy
      simp [curB, addRow] at hc
      exact .inl ⟨rfl, hc.symm⟩
    · right
      cases y <;> simp only [curB, addRow] at * <;> rwa [if_neg (fun hh => hj hh.1)] at hc
  refine ⟨⟨?_, ?_, ?_, ?_, ?_, ?_, r.sb⟩, ex⟩
  · intro b o u hi
    simp only [addRow] at hi
    split at hi
    · rename_i hb
      obtain ⟨rfl, hb⟩ := hb
      rw [cell_of (heap_alloc_new' W _)]
      exact ⟨hi, h1 o u hb hi⟩
    · have := r.imm b o u hi
      rw [World.cell?_alloc_lt _ _ _ (by exact immLt r hi)]
      exact this
  · intro j y hy
    by_cases hj : j = i
    · subst hj
      rw [hx] at hy
      cases hy
      refine ⟨fun v hv => ?_, fun b hb => ?_⟩
      · simp only [addRow]
        rw [if_neg (by omega)]
        exact q1 v hv
      · simp only [addRow, true_and, if_true] at hb
        cases hb
        refine ⟨r.base, c, e, fr, heap_alloc_new' _ _, by simp [addRow], hs, fun o ho hc => ⟨?_, ?_⟩⟩
        · simp only [addRow]
          rw [if_neg (by omega)]
          exact immNew r (Nat.le_refl _)
        · have := hfr o hc
          simp only [World.frozen?, heap_alloc_new' W _]
          simpa using this
    · refine (r.obj j y hy).mono ex (fun b hc => ?_) (fun v hv => ?_)
      · have hl := (curLt r hy hc).1
        refine ⟨heap_alloc_old _ _ hl, fun o ho => ?_⟩
        simp only [addRow]
        rw [if_neg (by omega)]
        exact ho
      · simp only [addRow]
        rw [if_neg (by omega)]
        exact hv
  · intro a j y z b hy hz hcy hcz
    rcases hcur a y b hy hcy with ⟨rfl, rfl⟩ | h1'
    · rcases hcur j z _ hz hcz with ⟨rfl, _⟩ | h2'
      · rfl
      · have := (curLt r hz h2').1; omega
    · rcases hcur j z b hz hcz with ⟨rfl, rfl⟩ | h2'
      · have := (curLt r hy h1').1; omega
      · exact r.inj a j y z b hy hz h1' h2'
  · intro j v hj
    simp only [addRow]
    rw [if_neg (by have := (List.getElem?_eq_some_iff.1 hx).1; omega)]
    exact r.new j v hj
  · intro b m hb
    simp only [addRow] at hb
    split at hb
    · rename_i hh; subst hh; simp
    · have := r.lt b m hb; simp; omega
  · have := r.base; simp; omega
/-- a row's block takes more where it lies -/
theorem heap_setCells_at {b : Nat} {e : TypeId} {fr : Nat × Nat} : ∀ (us : List Value) (off : Nat) (W : World) (c : Array Value), W.heap[b]? = some (.cells c e fr) → off + us.length ≤ c.size →
    ∃ c', (W.setCells b off us).heap[b]? = some (.cells c' e fr) ∧ c'.size = c.size ∧ (∀ o, o < off → c'[o]? = c[o]?) ∧ (∀ o, off + us.length ≤ o → c'[o]? = c[o]?) ∧ ∀ j u, us[j]? = some u → c'[off + j]? = some u
  | [], off, W, c, h, _ => ⟨c, h, rfl, fun _ _ => rfl, fun _ _ => rfl, fun j u hj => by simp at hj⟩
  | u :: us, off, W, c, h, hl => by
    simp only [List.length_cons] at hl
    obtain ⟨c', q1, q2, q3, q4, q5⟩ := heap_setCells_at us (off + 1) (W.setCell ⟨b, off, none⟩ u) _ (heap_setCell_at h off u) (by rw [Array.size_setIfInBounds]; omega)
    refine ⟨c', q1, by rw [q2, Array.size_setIfInBounds], fun o ho => ?_, fun o ho => ?_, fun j v hj => ?_⟩
    · rw [q3 o (by omega), Array.getElem?_setIfInBounds]; simp; omega
    · simp only [List.length_cons] at ho
      rw [q4 o (by omega), Array.getElem?_setIfInBounds]; simp; omega
    · cases j with
      | zero =>
        simp at hj
        subst hj
        rw [Nat.add_zero, q3 off (by omega), Array.getElem?_setIfInBounds]
        simp; omega
      | succ j =>
        rw [show off + (j + 1) = off + 1 + j by omega]
        exact q5 j v (by simpa using hj)
theorem heap_setCells_ne {b k : Nat} (hk : k ≠ b) : ∀ (us : List Value) (off : Nat) (W : World), (W.setCells b off us).heap[k]? = W.heap[k]?
  | [], off, W => rfl
  | u :: us, off, W => (heap_setCells_ne hk us (off + 1) _).trans (Below.heap_setCell W _ _ k hk)
theorem size_setCells {b : Nat} : ∀ (us : List Value) (off : Nat) (W : World), (W.setCells b off us).heap.size = W.heap.size
  | [], off, W => rfl
  | u :: us, off, W => (size_setCells us (off + 1) _).trans (World.size_setCell _ _ _)
theorem Rel.rowIn {S : St} {h : Heap} {B : Nat} {W : World} (r : Rel S h B W) {i n b : Nat} {k : Option Nat} (hx : h[i]? = some (.row k n)) (hb : S.blk i n = some b) {c : Array Value} {e : TypeId} {fr : Nat × Nat} (hh : W.heap[b]? = some (.cells c e fr)) (m : Nat) (hm : 0 < m) (us : List Value) (hl : us.length = m * kz k) (hr : (n + m) * kz k ≤ c.size) (h1 : ∀ u ∈ us, u.oneCell' = true) :
    ∃ S', Rel S' (h.set i (.row k (n + m))) B (W.setCells b (n * kz k) us) ∧ Ext S S' ∧ S'.blk i (n + m) = some b ∧ (∀ j u, us[j]? = some u → S'.imm b (n * kz k + j) = some u) ∧ S'.sz b = some c.size ∧ (∀ b' o, b' ≠ b → S'.imm b' o = S.imm b' o) := by
  obtain ⟨q1, q2⟩ := r.obj i _ hx
  obtain ⟨qB, c0, e0, fr0, hh0, hsz, hsn, hfree⟩ := q2 b hb
  rw [hh] at hh0
  cases hh0
  have hadd : n * kz k + us.length = (n + m) * kz k := by rw [hl, Nat.add_mul]
  obtain ⟨c', p1, p2, p3, p4, p5⟩ := heap_setCells_at us (n * kz k) W c hh (by omega)
  have hlt := (List.getElem?_eq_some_iff.1 hx).1
  have hnone := q1 (n + m) (by omega)
  let S' : St := { blk := fun j w => if j = i ∧ w = n + m then some b else S.blk j w, sz := S.sz, imm := fun b' o => if b' = b ∧ n * kz k ≤ o ∧ o < (n + m) * kz k then c'[o]? else S.imm b' o, base := S.base }
  have himm : ∀ b' o u, S.imm b' o = some u → S'.imm b' o = some u := fun b' o u hi => by
    show (if _ then _ else _) = _
    rw [if_neg ?_]
    · exact hi
    · rintro ⟨rfl, ho, ho2⟩
      rw [(hfree o ho (by omega)).1] at hi
      cases hi
  have ex : Ext S S' := ⟨fun j v b' hb' => by
      show (if _ then _ else _) = _
      rw [if_neg (by rintro ⟨rfl, rfl⟩; rw [hnone] at hb'; cases hb')]
      exact hb', fun _ _ h => h, himm, rfl, fun b' o u hi => by
      by_cases hb' : b' = b ∧ n * kz k ≤ o ∧ o < (n + m) * kz k
      · right; rw [r.sb, hb'.1]; exact qB
      · left; have : S'.imm b' o = S.imm b' o := if_neg hb'; rw [← this]; exact hi⟩
  refine ⟨S', ⟨?_, ?_, ?_, ?_, ?_, ?_, r.sb⟩, ex, ?_, ?_, hsz, ?_⟩
  · intro b' o u hi
    by_cases hb' : b' = b
    · subst hb'
      rw [cell_of p1]
      by_cases ho : n * kz k ≤ o ∧ o < (n + m) * kz k
      · have hi' : c'[o]? = some u := by have : S'.imm b' o = c'[o]? := if_pos ⟨rfl, ho⟩; rw [← this]; exact hi
        refine ⟨hi', ?_⟩
        have hj : us[o - n * kz k]? = some u := by
          have hlt' : o - n * kz k < us.length := by omega
          have := p5 (o - n * kz k) us[o - n * kz k] (by rw [List.getElem?_eq_getElem hlt'])
          rw [show n * kz k + (o - n * kz k) = o by omega] at this
          rw [List.getElem?_eq_getElem hlt', ← this, hi']
        exact h1 u (List.mem_of_getElem? hj)
      · have hi' : S.imm b' o = some u := by have : S'.imm b' o = S.imm b' o := if_neg (fun z => ho z.2); rw [← this]; exact hi
        have := r.imm b' o u hi'
        rw [cell_of hh] at this
        refine ⟨?_, this.2⟩
        by_cases h2 : o < n * kz k
        · rw [p3 o h2]; exact this.1
        · rw [p4 o (by omega)]; exact this.1
    · have hi' : S.imm b' o = some u := by have : S'.imm b' o = S.imm b' o := if_neg (fun z => hb' z.1); rw [← this]; exact hi
      have := r.imm b' o u hi'
      rw [World.cell?_of_block (w := W) (a := ⟨b', o, none⟩) (heap_setCells_ne hb' us _ W)]
      exact this
  · intro j y hy
    by_cases hj : j = i
    · subst hj
      rw [getElem?_set_eq' hlt] at hy
      cases hy
      refine ⟨fun v hv => ?_, fun b' hb' => ?_⟩
      · show (if _ then _ else _) = _
        rw [if_neg (by omega)]
        exact q1 v (by omega)
      · have : b' = b := by have : S'.blk j (n + m) = some b := if_pos ⟨rfl, rfl⟩; rw [this] at hb'; exact (Option.some.inj hb').symm
        subst this
        refine ⟨qB, c', e, fr, p1, by rw [p2]; exact hsz, by rw [p2]; exact hr, fun o ho hc => ⟨?_, ?_⟩⟩
        · show (if _ then _ else _) = _
          rw [if_neg (by omega)]
          exact (hfree o (by rw [Nat.add_mul] at ho; omega) (by omega)).1
        · have := (hfree o (by rw [Nat.add_mul] at ho; omega) (by omega)).2
          rw [World.frozen?_setCells]
          exact this
    · rw [getElem?_set_ne' (fun hh => hj hh.symm)] at hy
      refine (r.obj j y hy).mono ex (fun b' hc => ?_) (fun v hv => ?_)
      · have hne : b' ≠ b := by rintro rfl; exact hj (r.inj j i y _ b' hy hx hc hb)
        refine ⟨heap_setCells_ne hne us _ W, fun o ho => ?_⟩
        show (if _ then _ else _) = _
        rw [if_neg (fun z => hne z.1)]
        exact ho
      · show (if _ then _ else _) = _
        rw [if_neg (fun z => hj z.1)]
        exact hv
  · have hcur : ∀ (j : Nat) (y : AObj) (b' : Nat), (h.set i (.row k (n + m)))[j]? = some y → curB S' j y = some b' → ∃ y', h[j]? = some y' ∧ curB S j y' = some b' := by
      intro j y b' hy hc
      by_cases hj : j = i
      · subst hj
        rw [getElem?_set_eq' hlt] at hy
        cases hy
        have : S'.blk j (n + m) = some b := if_pos ⟨rfl, rfl⟩
        simp only [curB] at hc
        rw [this] at hc
        cases hc
        exact ⟨_, hx, hb⟩
      · rw [getElem?_set_ne' (fun hh => hj hh.symm)] at hy
        refine ⟨y, hy, ?_⟩
        have hq : ∀ v, S'.blk j v = S.blk j v := fun v => if_neg (fun z => hj z.1)
        cases y <;> simp only [curB, hq] at * <;> exact hc
    intro a j y z b' hy hz hcy hcz
    obtain ⟨y', hy', e1⟩ := hcur a y b' hy hcy
    obtain ⟨z', hz', e2⟩ := hcur j z b' hz hcz
    exact r.inj a j y' z' b' hy' hz' e1 e2
  · intro j v hj
    rw [List.length_set] at hj
    show (if _ then _ else _) = _
    rw [if_neg (by omega)]
    exact r.new j v hj
  · intro b' m' hs
    rw [size_setCells]
    exact r.lt b' m' hs
  · rw [size_setCells]; exact r.base
  · exact if_pos ⟨rfl, rfl⟩
  · intro j u hj
    have hjl := (List.getElem?_eq_some_iff.1 hj).1
    show (if _ then _ else _) = _
    rw [if_pos ⟨rfl, by omega, by omega⟩]
    exact p5 j u hj
  · intro b' o hne
    exact if_neg (fun z => hne z.1)
end Go.Proofs.Ytpnkldjbiinnpaa.AM
