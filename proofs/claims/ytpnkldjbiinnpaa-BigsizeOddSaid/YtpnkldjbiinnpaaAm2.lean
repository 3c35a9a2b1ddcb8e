import Derived.Test.YtpnkldjbiinnpaaAm1
/- The plain machine's heap in the model's world: the relation, and how it goes on. -/
namespace Go.Proofs.Ytpnkldjbiinnpaa.AM
open Go Go.RowKit
set_option linter.unusedVariables false
set_option linter.unusedSimpArgs false
def curB (S : St) (i : Nat) : AObj → Option Nat
  | .cells _ => S.blk i 0
  | .row _ n => S.blk i n
  | .map _ => S.blk i 0
def ObjR (S : St) (B : Nat) (W : World) (i : Nat) : AObj → Prop
  | .cells cs => ∃ b c e, S.blk i 0 = some b ∧ B ≤ b ∧ W.heap[b]? = some (.cells c e (0, 0)) ∧ VL S cs c.toList ∧ (∀ u ∈ c.toList, u.oneCell' = true) ∧ S.sz b = some c.size ∧ (∀ o, S.imm b o = none)
  | .row k n => (∀ v, n < v → S.blk i v = none) ∧ ∀ b, S.blk i n = some b → B ≤ b ∧ ∃ c e fr, W.heap[b]? = some (.cells c e fr) ∧ S.sz b = some c.size ∧ n * kz k ≤ c.size ∧ ∀ o, n * kz k ≤ o → o < c.size → S.imm b o = none ∧ W.frozen? ⟨b, o, none⟩ = false
  | .map es => False
structure Rel (S : St) (h : Heap) (B : Nat) (W : World) : Prop where
  imm : ∀ b o u, S.imm b o = some u → W.cell? ⟨b, o, none⟩ = some u ∧ u.oneCell' = true
  obj : ∀ (i : Nat) (x : AObj), h[i]? = some x → ObjR S B W i x
  inj : ∀ (i j : Nat) (x y : AObj) (b : Nat), h[i]? = some x → h[j]? = some y → curB S i x = some b → curB S j y = some b → i = j
  new : ∀ i v, h.length ≤ i → S.blk i v = none
  lt : ∀ b n, S.sz b = some n → b < W.heap.size
  base : B ≤ W.heap.size
  sb : S.base = B
theorem immLt {S h B W} (r : Rel S h B W) {b o u} (hi : S.imm b o = some u) : b < W.heap.size := World.block_lt_of_cell? _ _ (r.imm _ _ _ hi).1
theorem ObjR.mono {S S' : St} {B : Nat} {W W' : World} {i : Nat} {x : AObj} (e : Ext S S') (h : ObjR S B W i x)
    (hb : ∀ b, curB S i x = some b → W'.heap[b]? = W.heap[b]? ∧ ∀ o, S.imm b o = none → S'.imm b o = none)
    (hn : ∀ v, S.blk i v = none → S'.blk i v = none) : ObjR S' B W' i x := by
  cases x with
  | cells cs =>
    obtain ⟨b, c, el, h1, h2, h3, h4, h5, h6, h7⟩ := h
    obtain ⟨q1, q2⟩ := hb b h1
    exact ⟨b, c, el, e.blk _ _ _ h1, h2, by rw [q1]; exact h3, VL.mono e _ h4, h5, e.sz _ _ h6, fun o => q2 o (h7 o)⟩
  | row k n =>
    obtain ⟨h1, h2⟩ := h
    refine ⟨fun v hv => hn v (h1 v hv), fun b hb' => ?_⟩
    have hb0 : S.blk i n = some b := by
      cases h0 : S.blk i n with
      | none => rw [hn n h0] at hb'; cases hb'
      | some b0 => have := e.blk _ _ _ h0; rw [hb'] at this; exact this.symm
    obtain ⟨q0, c, el, fr, h3, h4, h5, h6⟩ := h2 b hb0
    obtain ⟨q1, q2⟩ := hb b hb0
    refine ⟨q0, c, el, fr, by rw [q1]; exact h3, e.sz _ _ h4, h5, fun o ho hc => ⟨q2 o (h6 o ho hc).1, ?_⟩⟩
    rw [World.frozen?_of_block (w := W) (a := ⟨b, o, none⟩) q1]
    exact (h6 o ho hc).2
  | map es => exact h
/-- The world goes on, nothing that is known turns. -/
theorem Rel.world {S : St} {h : Heap} {B : Nat} {W W' : World} (r : Rel S h B W) (hb : Below W.heap.size W W') : Rel S h B W' where
  imm := fun b o u hi => by
    have := r.imm b o u hi
    rw [hb.cell (p := ⟨b, o, none⟩) (immLt r hi)]
    exact this
  obj := fun i x hx => (r.obj i x hx).mono (Ext.refl S) (fun b hc => ⟨hb.block b (by
    cases x with
    | cells cs => obtain ⟨b', c, el, h1, h2, h3, _⟩ := r.obj i _ hx; simp only [curB] at hc; rw [h1] at hc; cases hc; exact (Array.getElem?_eq_some_iff.1 h3).1
    | row k n => obtain ⟨_, h2⟩ := r.obj i _ hx; obtain ⟨_, c, el, fr, h3, _⟩ := h2 b hc; exact (Array.getElem?_eq_some_iff.1 h3).1
    | map es => exact (r.obj i _ hx).elim), fun o ho => ho⟩) (fun v hv => hv)
  inj := r.inj
  new := r.new
  lt := fun b n hs => Nat.lt_of_lt_of_le (r.lt b n hs) hb.size
  base := Nat.le_trans r.base hb.size
  sb := r.sb
theorem curLt {S h B W} (r : Rel S h B W) {i : Nat} {x : AObj} (hx : h[i]? = some x) {b : Nat} (hc : curB S i x = some b) : b < W.heap.size ∧ B ≤ b ∧ ∃ c e fr, W.heap[b]? = some (.cells c e fr) ∧ S.sz b = some c.size := by
  cases x with
  | cells cs => obtain ⟨b', c, el, h1, h2, h3, _, _, h6, _⟩ := r.obj i _ hx; simp only [curB] at hc; rw [h1] at hc; cases hc; exact ⟨(Array.getElem?_eq_some_iff.1 h3).1, h2, c, el, _, h3, h6⟩
  | row k n => obtain ⟨_, h2⟩ := r.obj i _ hx; obtain ⟨q, c, el, fr, h3, h4, _⟩ := h2 b hc; exact ⟨(Array.getElem?_eq_some_iff.1 h3).1, q, c, el, fr, h3, h4⟩
  | map es => exact (r.obj i _ hx).elim
/-! ### a new box -/
def addBlk (S : St) (i v b n : Nat) : St := { S with blk := fun j w => if j = i ∧ w = v then some b else S.blk j w, sz := fun c => if c = b then some n else S.sz c }
theorem heap_alloc_new' (W : World) (o : Obj) : (W.alloc o).heap[W.heap.size]? = some o := by show (W.heap.push o)[W.heap.size]? = _; simp
theorem heap_alloc_old (W : World) (o : Obj) {b : Nat} (h : b < W.heap.size) : (W.alloc o).heap[b]? = W.heap[b]? := Below.heap_alloc W o b h
theorem addBlk_ext {S h B W} (r : Rel S h B W) (i v n : Nat) (hf : S.blk i v = none) (hs : S.sz W.heap.size = none) : Ext S (addBlk S i v W.heap.size n) where
  blk := fun j w b hb => by
    simp only [addBlk]
    split
    · rename_i hh; obtain ⟨rfl, rfl⟩ := hh; rw [hf] at hb; cases hb
    · exact hb
  sz := fun b m hb => by
    simp only [addBlk]
    split
    · rename_i hh; subst hh; rw [hs] at hb; cases hb
    · exact hb
  imm := fun _ _ _ h => h
  base := rfl
  low := fun _ _ _ h => .inl h
theorem szNew {S h B W} (r : Rel S h B W) {b : Nat} (hb : W.heap.size ≤ b) : S.sz b = none := by
  cases hs : S.sz b with
  | none => rfl
  | some n => exact absurd (r.lt _ _ hs) (by omega)
theorem immNew {S h B W} (r : Rel S h B W) {b o : Nat} (hb : W.heap.size ≤ b) : S.imm b o = none := by
  cases hs : S.imm b o with
  | none => rfl
  | some n => exact absurd (immLt r hs) (by omega)
theorem Rel.newBox {S : St} {h : Heap} {B : Nat} {W : World} (r : Rel S h B W) (cs : List AV) (c : Array Value) (e : TypeId) (hv : VL S cs c.toList) (h1 : ∀ u ∈ c.toList, u.oneCell' = true) :
    Rel (addBlk S h.length 0 W.heap.size c.size) (h ++ [.cells cs]) B (W.alloc (.cells c e)) ∧ Ext S (addBlk S h.length 0 W.heap.size c.size) := by
  have hf : ∀ v, S.blk h.length v = none := fun v => r.new _ _ (Nat.le_refl _)
  have hsz := szNew r (Nat.le_refl W.heap.size)
  have ex := addBlk_ext r h.length 0 c.size (hf 0) hsz
  have hcur : ∀ (i : Nat) (x : AObj) (b : Nat), h[i]? = some x → curB (addBlk S h.length 0 W.heap.size c.size) i x = some b → curB S i x = some b := by
    intro i x b hx hc
    have hi : i ≠ h.length := by have := (List.getElem?_eq_some_iff.1 hx).1; omega
    cases x <;> simp only [curB, addBlk] at * <;> rwa [if_neg (fun hh => hi hh.1)] at hc
  refine ⟨⟨?_, ?_, ?_, ?_, ?_, ?_, r.sb⟩, ex⟩
  · intro b o u hi
    have := r.imm b o u hi
    rw [World.cell?_alloc_lt _ _ _ (by exact immLt r hi)]
    exact this
  · intro i x hx
    rw [List.getElem?_append] at hx
    split at hx
    · refine (r.obj i x hx).mono ex (fun b hc => ⟨heap_alloc_old _ _ (curLt r hx hc).1, fun o ho => ho⟩) (fun v hv => ?_)
      simp only [addBlk]
      rw [if_neg (by intro hh; omega)]
      exact hv
    · rename_i hlt
      have hi : i = h.length := by have := (List.getElem?_eq_some_iff.1 hx).1; simp at this; omega
      subst hi
      simp at hx
      subst hx
      exact ⟨W.heap.size, c, e, by simp [addBlk], r.base, heap_alloc_new' _ _, VL.mono ex _ hv, h1, by simp [addBlk], fun o => immNew r (Nat.le_refl _)⟩
  · intro i j x y b hx hy hcx hcy
    rw [List.getElem?_append] at hx hy
    by_cases hi : i < h.length <;> by_cases hj : j < h.length <;> simp only [hi, hj, if_true, if_false] at hx hy
    · exact r.inj i j x y b hx hy (hcur _ _ _ hx hcx) (hcur _ _ _ hy hcy)
    · have := (curLt r hx (hcur _ _ _ hx hcx)).1
      have hj' : j = h.length := by have := (List.getElem?_eq_some_iff.1 hy).1; simp at this; omega
      subst hj'
      simp at hy
      subst hy
      simp [curB, addBlk] at hcy
      omega
    · have := (curLt r hy (hcur _ _ _ hy hcy)).1
      have hj' : i = h.length := by have := (List.getElem?_eq_some_iff.1 hx).1; simp at this; omega
      subst hj'
      simp at hx
      subst hx
      simp [curB, addBlk] at hcx
      omega
    · have := (List.getElem?_eq_some_iff.1 hx).1
      have := (List.getElem?_eq_some_iff.1 hy).1
      simp at *
      omega
  · intro i v hi
    simp only [addBlk, List.length_append, List.length_cons, List.length_nil] at *
    rw [if_neg (by omega)]
    exact r.new i v (by omega)
  · intro b n hs
    simp only [addBlk] at hs
    split at hs
    · rename_i hb; subst hb; simp
    · have := r.lt b n hs; simp; omega
  · have := r.base; simp; omega
/-! ### a row that has no block yet -/
theorem Rel.newRow {S : St} {h : Heap} {B : Nat} {W : World} (r : Rel S h B W) (k : Option Nat) (n : Nat) : Rel S (h ++ [.row k n]) B W := by
  refine ⟨r.imm, ?_, ?_, ?_, r.lt, r.base, r.sb⟩
  · intro i x hx
    rw [List.getElem?_append] at hx
    split at hx
    · exact r.obj i x hx
    · have hi : i = h.length := by have := (List.getElem?_eq_some_iff.1 hx).1; simp at this; omega
      subst hi
      simp at hx
      subst hx
      exact ⟨fun v _ => r.new _ _ (Nat.le_refl _), fun b hb => by rw [r.new _ _ (Nat.le_refl _)] at hb; cases hb⟩
  · intro i j x y b hx hy hcx hcy
    rw [List.getElem?_append] at hx hy
    by_cases hi : i < h.length <;> by_cases hj : j < h.length <;> simp only [hi, hj, if_true, if_false] at hx hy
    · exact r.inj i j x y b hx hy hcx hcy
    · have hj' : j = h.length := by have := (List.getElem?_eq_some_iff.1 hy).1; simp at this; omega
      subst hj'
      simp at hy
      subst hy
      simp [curB, r.new _ _ (Nat.le_refl _)] at hcy
    · have hj' : i = h.length := by have := (List.getElem?_eq_some_iff.1 hx).1; simp at this; omega
      subst hj'
      simp at hx
      subst hx
      simp [curB, r.new _ _ (Nat.le_refl _)] at hcx
    · have := (List.getElem?_eq_some_iff.1 hx).1
      have := (List.getElem?_eq_some_iff.1 hy).1
      simp at *
      omega
  · intro i v hi
    simp at hi
    exact r.new i v (by omega)
end Go.Proofs.Ytpnkldjbiinnpaa.AM
