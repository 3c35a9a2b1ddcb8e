import Derived.Test.YtpnkldjbiinnpaaAm0
/- How the plain machine's values and heaps lie in the model's memory. -/
namespace Go.Proofs.Ytpnkldjbiinnpaa.AM
open Go Go.RowKit
set_option linter.unusedVariables false
set_option linter.unusedSimpArgs false
abbrev Imm := Nat → Nat → Option Value
/-- where things lie: a box's or row's blocks, blocks' sizes, cells that stay as they are -/
structure St where
  blk : Nat → Nat → Option Nat
  sz : Nat → Option Nat
  imm : Imm
  base : Nat := 0
def OwnV (S : St) (own : AOwn) (k : Option Nat) (len : Nat) (ao : Option Addr) (cap : Nat) : Prop :=
  match own with
  | .full => cap = len
  | .tok i => cap ≤ maxLen ∧ (cap = len ∨ ∃ b n, S.blk i len = some b ∧ S.sz b = some n ∧ ao = some ⟨b, 0, none⟩ ∧ cap * kz k ≤ n)
  | _ => True
mutual
def V (S : St) : AV → Value → Prop
  | .sc v, u => u = v
  | .unk, _ => True
  | .ptr id off, u => ∃ b, S.blk id 0 = some b ∧ u = .pointer (some ⟨b, off, none⟩)
  | .ref cs, u => ∃ b o, u = .pointer (some ⟨b, o, none⟩) ∧ VM S cs b o
  | .slice own k els, u => ∃ ao cap, u = .slice ao els.length cap ∧ els.length ≤ cap ∧ OwnV S own k els.length ao cap ∧ (els = [] ∨ ∃ b o, ao = some ⟨b, o, none⟩ ∧ VE S k els b o)
  | .ms id off k len, u => ∃ b n cap, S.blk id 0 = some b ∧ S.sz b = some n ∧ len ≤ cap ∧ off + cap * kz k ≤ n ∧ u = .slice (some ⟨b, off, none⟩) len cap
  | .func fn x y, u => ∃ x' y', u = .func fn x' y' ∧ VL S x x'.toList ∧ VL S y y'.toList
  | .agg cs, u => ∃ a, u = .agg a ∧ VL S cs a.toList
  | .tup vs, u => ∃ a, u = .tuple a ∧ VL S vs a.toList
  | .map id, u => ∃ b, S.blk id 0 = some b ∧ u = .map (some b)
def VL (S : St) : List AV → List Value → Prop
  | [], l => l = []
  | x :: xs, l => ∃ u us, l = u :: us ∧ V S x u ∧ VL S xs us
def VM (S : St) : List AV → Nat → Nat → Prop
  | [], _, _ => True
  | x :: xs, b, o => (∃ u, S.imm b o = some u ∧ V S x u) ∧ VM S xs b (o + 1)
def VE (S : St) (k : Option Nat) : List AV → Nat → Nat → Prop
  | [], _, _ => True
  | .agg cs :: r, b, o => k = some cs.length ∧ VM S cs b o ∧ VE S k r b (o + cs.length)
  | x :: r, b, o => k = none ∧ (∃ u, S.imm b o = some u ∧ V S x u) ∧ VE S k r b (o + 1)
end
/-- what is known stays known -/
structure Ext (S S' : St) : Prop where
  blk : ∀ i v b, S.blk i v = some b → S'.blk i v = some b
  sz : ∀ b n, S.sz b = some n → S'.sz b = some n
  imm : ∀ b o u, S.imm b o = some u → S'.imm b o = some u
  base : S'.base = S.base
  low : ∀ b o u, S'.imm b o = some u → S.imm b o = some u ∨ S.base ≤ b
theorem Ext.refl (S : St) : Ext S S := ⟨fun _ _ _ h => h, fun _ _ h => h, fun _ _ _ h => h, rfl, fun _ _ _ h => .inl h⟩
theorem Ext.trans {a b c : St} (h : Ext a b) (k : Ext b c) : Ext a c := ⟨fun _ _ _ x => k.blk _ _ _ (h.blk _ _ _ x), fun _ _ x => k.sz _ _ (h.sz _ _ x), fun _ _ _ x => k.imm _ _ _ (h.imm _ _ _ x), k.base.trans h.base, fun b o u x => by
  rcases k.low b o u x with x | x
  · exact h.low b o u x
  · rw [h.base] at x; exact .inr x⟩
theorem OwnV.mono {S S' : St} (e : Ext S S') {own k len ao cap} (h : OwnV S own k len ao cap) : OwnV S' own k len ao cap := by
  cases own <;> simp only [OwnV] at *
  · exact h
  · obtain ⟨hm, h⟩ := h
    refine ⟨hm, ?_⟩
    rcases h with h | ⟨b, n, h1, h2, h3, h4⟩
    · exact .inl h
    · exact .inr ⟨b, n, e.blk _ _ _ h1, e.sz _ _ h2, h3, h4⟩
mutual
theorem V.mono {S S' : St} (e : Ext S S') : ∀ (x : AV) {u : Value}, V S x u → V S' x u
  | .sc v, u, h => by simpa only [V] using h
  | .unk, u, h => by simp only [V]
  | .ptr id off, u, h => by
    simp only [V] at *
    obtain ⟨b, h1, h2⟩ := h
    exact ⟨b, e.blk _ _ _ h1, h2⟩
  | .ref cs, u, h => by
    simp only [V] at *
    obtain ⟨b, o, h1, h2⟩ := h
    exact ⟨b, o, h1, VM.mono e cs h2⟩
  | .slice own k els, u, h => by
    simp only [V] at *
    obtain ⟨ao, cap, h1, h2, h3, h4⟩ := h
    refine ⟨ao, cap, h1, h2, h3.mono e, ?_⟩
    rcases h4 with h4 | ⟨b, o, h4, h5⟩
    · exact .inl h4
    · exact .inr ⟨b, o, h4, VE.mono e els h5⟩
  | .ms id off k len, u, h => by
    simp only [V] at *
    obtain ⟨b, n, cap, h1, h2, h3, h4, h5⟩ := h
    exact ⟨b, n, cap, e.blk _ _ _ h1, e.sz _ _ h2, h3, h4, h5⟩
  | .func fn x y, u, h => by
    simp only [V] at *
    obtain ⟨x', y', h1, h2, h3⟩ := h
    exact ⟨x', y', h1, VL.mono e x h2, VL.mono e y h3⟩
  | .agg cs, u, h => by
    simp only [V] at *
    obtain ⟨a, h1, h2⟩ := h
    exact ⟨a, h1, VL.mono e cs h2⟩
  | .tup vs, u, h => by
    simp only [V] at *
    obtain ⟨a, h1, h2⟩ := h
    exact ⟨a, h1, VL.mono e vs h2⟩
  | .map id, u, h => by
    simp only [V] at *
    obtain ⟨b, h1, h2⟩ := h
    exact ⟨b, e.blk _ _ _ h1, h2⟩
theorem VL.mono {S S' : St} (e : Ext S S') : ∀ (x : List AV) {u : List Value}, VL S x u → VL S' x u
  | [], u, h => by simpa only [VL] using h
  | x :: xs, u, h => by
    simp only [VL] at *
    obtain ⟨a, l, h1, h2, h3⟩ := h
    exact ⟨a, l, h1, V.mono e x h2, VL.mono e xs h3⟩
theorem VM.mono {S S' : St} (e : Ext S S') : ∀ (x : List AV) {b o : Nat}, VM S x b o → VM S' x b o
  | [], _, _, h => by simp only [VM]
  | x :: xs, b, o, h => by
    simp only [VM] at *
    obtain ⟨⟨u, h1, h2⟩, h3⟩ := h
    exact ⟨⟨u, e.imm _ _ _ h1, V.mono e x h2⟩, VM.mono e xs h3⟩
theorem VE.mono {S S' : St} (e : Ext S S') {k : Option Nat} : ∀ (x : List AV) {b o : Nat}, VE S k x b o → VE S' k x b o
  | [], _, _, h => by simp only [VE]
  | .agg cs :: r, b, o, h => by
    simp only [VE] at *
    exact ⟨h.1, VM.mono e cs h.2.1, VE.mono e r h.2.2⟩
  | .sc v :: r, b, o, h => by
    simp only [VE] at *
    obtain ⟨h0, ⟨u, h1, h2⟩, h3⟩ := h
    exact ⟨h0, ⟨u, e.imm _ _ _ h1, V.mono e (.sc v) h2⟩, VE.mono e r h3⟩
  | .unk :: r, b, o, h => by
    simp only [VE] at *
    obtain ⟨h0, ⟨u, h1, h2⟩, h3⟩ := h
    exact ⟨h0, ⟨u, e.imm _ _ _ h1, V.mono e .unk h2⟩, VE.mono e r h3⟩
  | .ptr i f :: r, b, o, h => by
    simp only [VE] at *
    obtain ⟨h0, ⟨u, h1, h2⟩, h3⟩ := h
    exact ⟨h0, ⟨u, e.imm _ _ _ h1, V.mono e (.ptr i f) h2⟩, VE.mono e r h3⟩
  | .ref c :: r, b, o, h => by
    simp only [VE] at *
    obtain ⟨h0, ⟨u, h1, h2⟩, h3⟩ := h
    exact ⟨h0, ⟨u, e.imm _ _ _ h1, V.mono e (.ref c) h2⟩, VE.mono e r h3⟩
  | .slice w q l :: r, b, o, h => by
    simp only [VE] at *
    obtain ⟨h0, ⟨u, h1, h2⟩, h3⟩ := h
    exact ⟨h0, ⟨u, e.imm _ _ _ h1, V.mono e (.slice w q l) h2⟩, VE.mono e r h3⟩
  | .ms i f q l :: r, b, o, h => by
    simp only [VE] at *
    obtain ⟨h0, ⟨u, h1, h2⟩, h3⟩ := h
    exact ⟨h0, ⟨u, e.imm _ _ _ h1, V.mono e (.ms i f q l) h2⟩, VE.mono e r h3⟩
  | .func f x y :: r, b, o, h => by
    simp only [VE] at *
    obtain ⟨h0, ⟨u, h1, h2⟩, h3⟩ := h
    exact ⟨h0, ⟨u, e.imm _ _ _ h1, V.mono e (.func f x y) h2⟩, VE.mono e r h3⟩
  | .tup vs :: r, b, o, h => by
    simp only [VE] at *
    obtain ⟨h0, ⟨u, h1, h2⟩, h3⟩ := h
    exact ⟨h0, ⟨u, e.imm _ _ _ h1, V.mono e (.tup vs) h2⟩, VE.mono e r h3⟩
  | .map i :: r, b, o, h => by
    simp only [VE] at *
    obtain ⟨h0, ⟨u, h1, h2⟩, h3⟩ := h
    exact ⟨h0, ⟨u, e.imm _ _ _ h1, V.mono e (.map i) h2⟩, VE.mono e r h3⟩
end
/-- the same for what bears names of one kind alone -/
structure ExtP (p : Nat → Bool) (S S' : St) : Prop where
  blk : ∀ i v b, p i = true → S.blk i v = some b → S'.blk i v = some b
  sz : ∀ i v b n, p i = true → S.blk i v = some b → S.sz b = some n → S'.sz b = some n
  imm : ∀ b o u, S.imm b o = some u → S'.imm b o = some u
mutual
theorem V.nam {S S' : St} {p : Nat → Bool} (e : ExtP p S S') : ∀ (x : AV) {u : Value}, nam p x = true → V S x u → V S' x u
  | .sc v, u, _, h => by simpa only [V] using h
  | .unk, u, _, h => by simp only [V]
  | .ptr id off, u, g, h => by
    simp only [V, AM.nam] at *
    obtain ⟨b, h1, h2⟩ := h
    exact ⟨b, e.blk _ _ _ g h1, h2⟩
  | .ref cs, u, g, h => by
    simp only [V, AM.nam] at *
    obtain ⟨b, o, h1, h2⟩ := h
    exact ⟨b, o, h1, VM.nam e cs g h2⟩
  | .slice own k els, u, g, h => by
    simp only [V, AM.nam, Bool.and_eq_true] at *
    obtain ⟨ao, cap, h1, h2, h3, h4⟩ := h
    refine ⟨ao, cap, h1, h2, ?_, ?_⟩
    · cases own <;> simp only [OwnV] at *
      · exact h3
      · obtain ⟨hm, h3⟩ := h3
        refine ⟨hm, ?_⟩
        rcases h3 with h3 | ⟨b, n, e1, e2, e3, e4⟩
        · exact .inl h3
        · exact .inr ⟨b, n, e.blk _ _ _ g.1 e1, e.sz _ _ _ _ g.1 e1 e2, e3, e4⟩
    rcases h4 with h4 | ⟨b, o, h4, h5⟩
    · exact .inl h4
    · exact .inr ⟨b, o, h4, VE.nam e els g.2 h5⟩
  | .ms id off k len, u, g, h => by
    simp only [V, AM.nam] at *
    obtain ⟨b, n, cap, h1, h2, h3, h4, h5⟩ := h
    exact ⟨b, n, cap, e.blk _ _ _ g h1, e.sz _ _ _ _ g h1 h2, h3, h4, h5⟩
  | .func fn x y, u, g, h => by
    simp only [V, AM.nam, Bool.and_eq_true] at *
    obtain ⟨x', y', h1, h2, h3⟩ := h
    exact ⟨x', y', h1, VL.nam e x g.1 h2, VL.nam e y g.2 h3⟩
  | .agg cs, u, g, h => by
    simp only [V, AM.nam] at *
    obtain ⟨a, h1, h2⟩ := h
    exact ⟨a, h1, VL.nam e cs g h2⟩
  | .tup vs, u, g, h => by
    simp only [V, AM.nam] at *
    obtain ⟨a, h1, h2⟩ := h
    exact ⟨a, h1, VL.nam e vs g h2⟩
  | .map id, u, g, h => by
    simp only [V, AM.nam] at *
    obtain ⟨b, h1, h2⟩ := h
    exact ⟨b, e.blk _ _ _ g h1, h2⟩
theorem VL.nam {S S' : St} {p : Nat → Bool} (e : ExtP p S S') : ∀ (x : List AV) {u : List Value}, namL p x = true → VL S x u → VL S' x u
  | [], u, _, h => by simpa only [VL] using h
  | x :: xs, u, g, h => by
    simp only [VL, AM.namL, Bool.and_eq_true] at *
    obtain ⟨a, l, h1, h2, h3⟩ := h
    exact ⟨a, l, h1, V.nam e x g.1 h2, VL.nam e xs g.2 h3⟩
theorem VM.nam {S S' : St} {p : Nat → Bool} (e : ExtP p S S') : ∀ (x : List AV) {b o : Nat}, namL p x = true → VM S x b o → VM S' x b o
  | [], _, _, _, h => by simp only [VM]
  | x :: xs, b, o, g, h => by
    simp only [VM, AM.namL, Bool.and_eq_true] at *
    obtain ⟨⟨u, h1, h2⟩, h3⟩ := h
    exact ⟨⟨u, e.imm _ _ _ h1, V.nam e x g.1 h2⟩, VM.nam e xs g.2 h3⟩
theorem VE.nam {S S' : St} {p : Nat → Bool} (e : ExtP p S S') {k : Option Nat} : ∀ (x : List AV) {b o : Nat}, namL p x = true → VE S k x b o → VE S' k x b o
  | [], _, _, _, h => by simp only [VE]
  | .agg cs :: r, b, o, g, h => by
    simp only [VE, AM.namL, AM.nam, Bool.and_eq_true] at *
    exact ⟨h.1, VM.nam e cs g.1 h.2.1, VE.nam e r g.2 h.2.2⟩
  | .sc v :: r, b, o, g, h => by
    simp only [VE] at h ⊢
    rw [AM.namL, Bool.and_eq_true] at g
    obtain ⟨h0, ⟨u, h1, h2⟩, h3⟩ := h
    exact ⟨h0, ⟨u, e.imm _ _ _ h1, V.nam e (.sc v) g.1 h2⟩, VE.nam e r g.2 h3⟩
  | .unk :: r, b, o, g, h => by
    simp only [VE] at h ⊢
    rw [AM.namL, Bool.and_eq_true] at g
    obtain ⟨h0, ⟨u, h1, h2⟩, h3⟩ := h
    exact ⟨h0, ⟨u, e.imm _ _ _ h1, V.nam e (.unk) g.1 h2⟩, VE.nam e r g.2 h3⟩
  | .ptr i f :: r, b, o, g, h => by
    simp only [VE] at h ⊢
    rw [AM.namL, Bool.and_eq_true] at g
    obtain ⟨h0, ⟨u, h1, h2⟩, h3⟩ := h
    exact ⟨h0, ⟨u, e.imm _ _ _ h1, V.nam e (.ptr i f) g.1 h2⟩, VE.nam e r g.2 h3⟩
  | .ref c :: r, b, o, g, h => by
    simp only [VE] at h ⊢
    rw [AM.namL, Bool.and_eq_true] at g
    obtain ⟨h0, ⟨u, h1, h2⟩, h3⟩ := h
    exact ⟨h0, ⟨u, e.imm _ _ _ h1, V.nam e (.ref c) g.1 h2⟩, VE.nam e r g.2 h3⟩
  | .slice w q l :: r, b, o, g, h => by
    simp only [VE] at h ⊢
    rw [AM.namL, Bool.and_eq_true] at g
    obtain ⟨h0, ⟨u, h1, h2⟩, h3⟩ := h
    exact ⟨h0, ⟨u, e.imm _ _ _ h1, V.nam e (.slice w q l) g.1 h2⟩, VE.nam e r g.2 h3⟩
  | .ms i f q l :: r, b, o, g, h => by
    simp only [VE] at h ⊢
    rw [AM.namL, Bool.and_eq_true] at g
    obtain ⟨h0, ⟨u, h1, h2⟩, h3⟩ := h
    exact ⟨h0, ⟨u, e.imm _ _ _ h1, V.nam e (.ms i f q l) g.1 h2⟩, VE.nam e r g.2 h3⟩
  | .func f x y :: r, b, o, g, h => by
    simp only [VE] at h ⊢
    rw [AM.namL, Bool.and_eq_true] at g
    obtain ⟨h0, ⟨u, h1, h2⟩, h3⟩ := h
    exact ⟨h0, ⟨u, e.imm _ _ _ h1, V.nam e (.func f x y) g.1 h2⟩, VE.nam e r g.2 h3⟩
  | .tup vs :: r, b, o, g, h => by
    simp only [VE] at h ⊢
    rw [AM.namL, Bool.and_eq_true] at g
    obtain ⟨h0, ⟨u, h1, h2⟩, h3⟩ := h
    exact ⟨h0, ⟨u, e.imm _ _ _ h1, V.nam e (.tup vs) g.1 h2⟩, VE.nam e r g.2 h3⟩
  | .map i :: r, b, o, g, h => by
    simp only [VE] at h ⊢
    rw [AM.namL, Bool.and_eq_true] at g
    obtain ⟨h0, ⟨u, h1, h2⟩, h3⟩ := h
    exact ⟨h0, ⟨u, e.imm _ _ _ h1, V.nam e (.map i) g.1 h2⟩, VE.nam e r g.2 h3⟩
end
/-! ### lists -/
theorem VL.length {S : St} : ∀ {x : List AV} {u : List Value}, VL S x u → u.length = x.length
  | [], u, h => by simp only [VL] at h; rw [h]; rfl
  | x :: xs, u, h => by
    simp only [VL] at h
    obtain ⟨a, l, rfl, _, h3⟩ := h
    simp [VL.length h3]
theorem VL.get {S : St} : ∀ {x : List AV} {u : List Value}, VL S x u → ∀ {i : Nat} {y : AV}, x[i]? = some y → ∃ v, u[i]? = some v ∧ V S y v
  | [], u, h, i, y, hy => by simp at hy
  | x :: xs, u, h, i, y, hy => by
    simp only [VL] at h
    obtain ⟨a, l, rfl, h2, h3⟩ := h
    cases i with
    | zero => simp at hy; subst hy; exact ⟨a, by simp, h2⟩
    | succ i => simpa using VL.get h3 (by simpa using hy)
theorem VL.mk {S : St} : ∀ {x : List AV} {u : List Value}, u.length = x.length → (∀ (i : Nat) (y : AV) (v : Value), x[i]? = some y → u[i]? = some v → V S y v) → VL S x u
  | [], u, hl, h => by simp only [VL]; exact List.eq_nil_of_length_eq_zero (by simpa using hl)
  | x :: xs, [], hl, h => by simp at hl
  | x :: xs, a :: l, hl, h => by
    simp only [VL]
    exact ⟨a, l, rfl, h 0 x a (by simp) (by simp), VL.mk (by simpa using hl) fun i y v hy hv => h (i + 1) y v (by simpa using hy) (by simpa using hv)⟩
theorem VL.append {S : St} {x y : List AV} {u v : List Value} (h : VL S x u) (k : VL S y v) : VL S (x ++ y) (u ++ v) := by
  induction x generalizing u with
  | nil => simp only [VL] at h; subst h; simpa using k
  | cons a r ih =>
    simp only [VL, List.cons_append] at h ⊢
    obtain ⟨b, l, rfl, h2, h3⟩ := h
    exact ⟨b, l ++ v, rfl, h2, ih h3⟩
theorem VL.take {S : St} {x : List AV} {u : List Value} (h : VL S x u) (n : Nat) : VL S (x.take n) (u.take n) := by
  induction x generalizing u n with
  | nil => simp only [VL] at h; subst h; simp [VL]
  | cons a r ih =>
    simp only [VL] at h
    obtain ⟨b, l, rfl, h2, h3⟩ := h
    cases n with
    | zero => simp [VL]
    | succ n => simp only [List.take_succ_cons, VL]; exact ⟨b, _, rfl, h2, ih h3 n⟩
theorem VL.drop {S : St} {x : List AV} {u : List Value} (h : VL S x u) (n : Nat) : VL S (x.drop n) (u.drop n) := by
  induction x generalizing u n with
  | nil => simp only [VL] at h; subst h; simp [VL]
  | cons a r ih =>
    cases n with
    | zero => simpa using h
    | succ n =>
      simp only [VL] at h
      obtain ⟨b, l, rfl, h2, h3⟩ := h
      simpa using ih h3 n
theorem VL.set {S : St} {x : List AV} {u : List Value} (h : VL S x u) (n : Nat) {y : AV} {v : Value} (hv : V S y v) : VL S (x.set n y) (u.set n v) := by
  induction x generalizing u n with
  | nil => simp only [VL] at h; subst h; simp [VL]
  | cons a r ih =>
    simp only [VL] at h
    obtain ⟨b, l, rfl, h2, h3⟩ := h
    cases n with
    | zero => simp only [List.set_cons_zero, VL]; exact ⟨v, l, rfl, hv, h3⟩
    | succ n => simp only [List.set_cons_succ, VL]; exact ⟨b, _, rfl, h2, ih h3 n⟩
theorem VL.map {S : St} {α : Type} (l : List α) (f : α → AV) (g : α → Value) (h : ∀ a, a ∈ l → V S (f a) (g a)) : VL S (l.map f) (l.map g) := by
  induction l with
  | nil => simp [VL]
  | cons a r ih => simp only [List.map_cons, VL]; exact ⟨_, _, rfl, h a (by simp), ih fun b hb => h b (by simp [hb])⟩
theorem VL.replicate {S : St} {x : AV} {u : Value} (n : Nat) (h : V S x u) : VL S (List.replicate n x) (List.replicate n u) := by
  induction n with
  | zero => simp [VL]
  | succ n ih => simp only [List.replicate_succ, VL]; exact ⟨_, _, rfl, h, ih⟩
theorem VL.flatten {S : St} : ∀ {x : List (List AV)} {u : List (List Value)}, x.length = u.length → (∀ (i : Nat) (y : List AV) (v : List Value), x[i]? = some y → u[i]? = some v → VL S y v) → VL S x.flatten u.flatten
  | [], [], _, _ => by simp [VL]
  | [], _ :: _, h, _ => by simp at h
  | _ :: _, [], h, _ => by simp at h
  | y :: ys, v :: vs, hl, h => by
    simp only [List.flatten_cons]
    exact VL.append (h 0 y v (by simp) (by simp)) (VL.flatten (by simpa using hl) fun i a b ha hb => h (i + 1) a b (by simpa using ha) (by simpa using hb))
/-- cells in memory that stays -/
theorem VM.get {S : St} : ∀ {x : List AV} {b o : Nat}, VM S x b o → ∀ {i : Nat} {y : AV}, x[i]? = some y → ∃ v, S.imm b (o + i) = some v ∧ V S y v
  | [], b, o, h, i, y, hy => by simp at hy
  | x :: xs, b, o, h, i, y, hy => by
    simp only [VM] at h
    obtain ⟨⟨u, h1, h2⟩, h3⟩ := h
    cases i with
    | zero => simp at hy; subst hy; exact ⟨u, by simpa using h1, h2⟩
    | succ i =>
      obtain ⟨v, e1, e2⟩ := VM.get h3 (i := i) (by simpa using hy)
      exact ⟨v, by rw [← e1]; congr 1; omega, e2⟩
theorem VM.mk {S : St} : ∀ {x : List AV} {b o : Nat}, (∀ (i : Nat) (y : AV), x[i]? = some y → ∃ v, S.imm b (o + i) = some v ∧ V S y v) → VM S x b o
  | [], b, o, h => by simp only [VM]
  | x :: xs, b, o, h => by
    simp only [VM]
    refine ⟨by simpa using h 0 x (by simp), VM.mk fun i y hy => ?_⟩
    obtain ⟨v, h1, h2⟩ := h (i + 1) y (by simpa using hy)
    exact ⟨v, by rw [← h1]; congr 1; omega, h2⟩
theorem VM.drop {S : St} {x : List AV} {b o : Nat} (h : VM S x b o) (n : Nat) : VM S (x.drop n) b (o + n) :=
  VM.mk fun i y hy => by
    obtain ⟨v, h1, h2⟩ := h.get (i := n + i) (by rw [List.getElem?_drop] at hy; exact hy)
    exact ⟨v, by rw [← h1]; congr 1; omega, h2⟩
theorem VM.take {S : St} {x : List AV} {b o : Nat} (h : VM S x b o) (n : Nat) : VM S (x.take n) b o :=
  VM.mk fun i y hy => by
    rw [List.getElem?_take] at hy
    split at hy
    · exact h.get hy
    · simp at hy
/-- one element in memory that stays -/
def V1 (S : St) (k : Option Nat) (x : AV) (b o : Nat) : Prop := match x with
  | .agg cs => k = some cs.length ∧ VM S cs b o
  | x => k = none ∧ ∃ u, S.imm b o = some u ∧ V S x u
theorem VE.cons {S : St} {k : Option Nat} {x : AV} {r : List AV} {b o : Nat} : VE S k (x :: r) b o ↔ V1 S k x b o ∧ VE S k r b (o + kz k) := by
  cases x <;> simp only [VE, V1]
  case agg cs =>
    constructor
    · rintro ⟨rfl, h2, h3⟩; exact ⟨⟨rfl, h2⟩, h3⟩
    · rintro ⟨⟨rfl, h2⟩, h3⟩; exact ⟨rfl, h2, h3⟩
  all_goals
    constructor
    · rintro ⟨rfl, h2, h3⟩; exact ⟨⟨rfl, h2⟩, h3⟩
    · rintro ⟨⟨rfl, h2⟩, h3⟩; exact ⟨rfl, h2, h3⟩
theorem VE.get {S : St} {k : Option Nat} : ∀ {x : List AV} {b o : Nat}, VE S k x b o → ∀ {i : Nat} {y : AV}, x[i]? = some y → V1 S k y b (o + i * kz k)
  | [], b, o, h, i, y, hy => by simp at hy
  | x :: xs, b, o, h, i, y, hy => by
    rw [VE.cons] at h
    cases i with
    | zero => simp at hy; subst hy; simpa using h.1
    | succ i =>
      have := VE.get h.2 (i := i) (by simpa using hy)
      rw [show o + (i + 1) * kz k = o + kz k + i * kz k by rw [Nat.succ_mul]; omega]
      exact this
theorem VE.mk {S : St} {k : Option Nat} : ∀ {x : List AV} {b o : Nat}, (∀ (i : Nat) (y : AV), x[i]? = some y → V1 S k y b (o + i * kz k)) → VE S k x b o
  | [], b, o, h => by simp only [VE]
  | x :: xs, b, o, h => by
    rw [VE.cons]
    refine ⟨by simpa using h 0 x (by simp), VE.mk fun i y hy => ?_⟩
    have := h (i + 1) y (by simpa using hy)
    rw [show o + kz k + i * kz k = o + (i + 1) * kz k by rw [Nat.succ_mul]; omega]
    exact this
theorem VE.drop {S : St} {k : Option Nat} {x : List AV} {b o : Nat} (h : VE S k x b o) (n : Nat) : VE S k (x.drop n) b (o + n * kz k) :=
  VE.mk fun i y hy => by
    have := h.get (i := n + i) (by rw [List.getElem?_drop] at hy; exact hy)
    rw [show o + n * kz k + i * kz k = o + (n + i) * kz k by rw [Nat.add_mul]; omega]
    exact this
theorem VE.take {S : St} {k : Option Nat} {x : List AV} {b o : Nat} (h : VE S k x b o) (n : Nat) : VE S k (x.take n) b o :=
  VE.mk fun i y hy => by
    rw [List.getElem?_take] at hy
    split at hy
    · exact h.get hy
    · simp at hy
theorem V1.mono {S S' : St} (e : Ext S S') {k : Option Nat} {x : AV} {b o : Nat} (h : V1 S k x b o) : V1 S' k x b o := by
  cases x <;> simp only [V1] at *
  case agg cs => exact ⟨h.1, VM.mono e cs h.2⟩
  all_goals
    obtain ⟨h0, u, h1, h2⟩ := h
    exact ⟨h0, u, e.imm _ _ _ h1, V.mono e _ h2⟩
theorem V1.cells {S : St} {k : Option Nat} {x : AV} {b o : Nat} (h : V1 S k x b o) : VM S (elCells x) b o ∧ (elCells x).length = kz k := by
  cases x <;> simp only [V1, elCells] at *
  case agg cs => obtain ⟨rfl, h⟩ := h; exact ⟨h, rfl⟩
  all_goals
    obtain ⟨rfl, u, h1, h2⟩ := h
    refine ⟨?_, rfl⟩
    simp only [VM, and_true]
    exact ⟨u, h1, h2⟩
/-! rigid values are what they are -/
mutual
theorem rigid_imp {S S' : St} : ∀ (x : AV) {u : Value}, rigid x = true → V S x u → V S' x u
  | .sc v, u, hr, h => by simpa only [V] using h
  | .agg cs, u, hr, h => by
    simp only [V, rigid] at *
    obtain ⟨a, h1, h2⟩ := h
    exact ⟨a, h1, rigid_impL cs hr h2⟩
  | .tup cs, u, hr, h => by
    simp only [V, rigid] at *
    obtain ⟨a, h1, h2⟩ := h
    exact ⟨a, h1, rigid_impL cs hr h2⟩
  | .unk, u, hr, h => by simp [rigid] at hr
  | .ptr i f, u, hr, h => by simp [rigid] at hr
  | .ref c, u, hr, h => by simp [rigid] at hr
  | .slice w q l, u, hr, h => by simp [rigid] at hr
  | .ms i f q l, u, hr, h => by simp [rigid] at hr
  | .func f x y, u, hr, h => by simp [rigid] at hr
  | .map i, u, hr, h => by simp [rigid] at hr
theorem rigid_impL {S S' : St} : ∀ (x : List AV) {u : List Value}, rigidL x = true → VL S x u → VL S' x u
  | [], u, hr, h => by simpa only [VL] using h
  | a :: r, u, hr, h => by
    simp only [VL, rigidL, Bool.and_eq_true] at *
    obtain ⟨b, l, h1, h2, h3⟩ := h
    exact ⟨b, l, h1, rigid_imp a hr.1 h2, rigid_impL r hr.2 h3⟩
end
mutual
theorem rigid_one {S S' : St} : ∀ (x : AV) {u u' : Value}, rigid x = true → V S x u → V S' x u' → u = u'
  | .sc v, u, u', hr, h, h' => by simp only [V] at h h'; rw [h, h']
  | .agg cs, u, u', hr, h, h' => by
    simp only [V, rigid] at *
    obtain ⟨a, rfl, h2⟩ := h
    obtain ⟨a', rfl, h2'⟩ := h'
    rw [Array.toList_inj.1 (rigid_oneL cs hr h2 h2')]
  | .tup cs, u, u', hr, h, h' => by
    simp only [V, rigid] at *
    obtain ⟨a, rfl, h2⟩ := h
    obtain ⟨a', rfl, h2'⟩ := h'
    rw [Array.toList_inj.1 (rigid_oneL cs hr h2 h2')]
  | .unk, u, u', hr, h, h' => by simp [rigid] at hr
  | .ptr i f, u, u', hr, h, h' => by simp [rigid] at hr
  | .ref c, u, u', hr, h, h' => by simp [rigid] at hr
  | .slice w q l, u, u', hr, h, h' => by simp [rigid] at hr
  | .ms i f q l, u, u', hr, h, h' => by simp [rigid] at hr
  | .func f x y, u, u', hr, h, h' => by simp [rigid] at hr
  | .map i, u, u', hr, h, h' => by simp [rigid] at hr
theorem rigid_oneL {S S' : St} : ∀ (x : List AV) {u u' : List Value}, rigidL x = true → VL S x u → VL S' x u' → u = u'
  | [], u, u', hr, h, h' => by simp only [VL] at h h'; rw [h, h']
  | a :: r, u, u', hr, h, h' => by
    simp only [VL, rigidL, Bool.and_eq_true] at hr h h'
    obtain ⟨b, l, rfl, h2, h3⟩ := h
    obtain ⟨b', l', rfl, h2', h3'⟩ := h'
    rw [rigid_one a hr.1 h2 h2', rigid_oneL r hr.2 h3 h3']
end
end Go.Proofs.Ytpnkldjbiinnpaa.AM
