import Derived.Test.YtpnkldjbiinnpaaAm15
/- Calls of functions that make all for themselves; the whole machine. -/
namespace Go.Proofs.Ytpnkldjbiinnpaa.AM
open Go Go.RowKit
set_option linter.unusedVariables false
set_option linter.unusedSimpArgs false
def immSt (imm : Imm) (b : Nat) : St := { blk := fun _ _ => none, sz := fun _ => none, imm := imm, base := b }
mutual
theorem nam_true : ∀ (x : AV), nam (fun _ => true) x = true
  | .sc _ | .unk | .ptr .. | .ms .. | .map _ => by simp only [nam]
  | .ref cs => by simp only [nam]; exact namL_true cs
  | .slice o k els => by simp only [nam, namL_true els, Bool.and_true]; cases o <;> rfl
  | .func _ a b => by simp only [nam, namL_true a, namL_true b, Bool.and_true]
  | .agg cs => by simp only [nam]; exact namL_true cs
  | .tup cs => by simp only [nam]; exact namL_true cs
theorem namL_true : ∀ (x : List AV), namL (fun _ => true) x = true
  | [] => rfl
  | x :: xs => by simp only [namL, nam_true x, namL_true xs, Bool.and_true]
end
theorem immSt_any {imm : Imm} {b : Nat} {S : St} (h : ∀ b o u, imm b o = some u → S.imm b o = some u) : ExtP (fun _ => true) (immSt imm b) S := ⟨fun _ _ _ _ h => (by simp [immSt] at h), fun _ _ _ _ _ h => (by simp [immSt] at h), h⟩
theorem V_of_immSt {imm : Imm} {b : Nat} {S : St} (h : ∀ b o u, imm b o = some u → S.imm b o = some u) {x : AV} {u : Value} (hv : V (immSt imm b) x u) : V S x u := V.nam (immSt_any h) x (nam_true x) hv
theorem closed_ext {S : St} {imm : Imm} {b : Nat} (h : ∀ b o u, S.imm b o = some u → imm b o = some u) : ExtP (fun _ => false) S (immSt imm b) := ⟨fun _ _ _ h => (by cases h), fun _ _ _ _ h => (by cases h), h⟩
def ImmOK (imm : Imm) (W : World) : Prop := ∀ b o u, imm b o = some u → W.cell? ⟨b, o, none⟩ = some u ∧ u.oneCell' = true
def Fr1 (imm : Imm) (B : Nat) (W : World) (k : Option Nat) (els : List AV) (u : Value) : Prop :=
  ∃ ao cap, u = .slice ao els.length cap ∧ cap ≤ maxLen ∧ (cap = els.length ∨ ∃ b c e fr, ao = some ⟨b, 0, none⟩ ∧ B ≤ b ∧ W.heap[b]? = some (.cells c e fr) ∧ cap * kz k ≤ c.size ∧ els.length * kz k ≤ c.size ∧ ∀ o, els.length * kz k ≤ o → o < c.size → imm b o = none ∧ W.frozen? ⟨b, o, none⟩ = false)
structure FreshR (imm : Imm) (B : Nat) (W : World) (v : AV) (u : Value) : Prop where
  one : ∀ k els, v = .slice .fresh k els → Fr1 imm B W k els u
  tup : ∀ k els r, v = .tup (.slice .fresh k els :: r) → ∃ u0 us, u = .tuple (u0 :: us).toArray ∧ Fr1 imm B W k els u0
def PRet (imm : Imm) (W : World) (v : AV) (e : Ending) (W' : World) : Prop :=
  ∃ u imm', e = .returned u ∧ (∀ b o, b < W.heap.size → imm' b o = imm b o) ∧ ImmOK imm' W' ∧ V (immSt imm' W.heap.size) v u ∧ FreshR imm' W.heap.size W' v u ∧ Below W.heap.size W W'
def PSound (P : Program) (gl : Nat → Option (List Value)) (f : Nat) (g : List AV → Option AV) : Prop :=
  ∀ args v, g args = some v → ∀ (imm : Imm) (W : World) (cargs : Array Value), ImmOK imm W → GlobOK gl imm → VL (immSt imm W.heap.size) args cargs.toList → Calls P f cargs W (PRet imm W v)
/-! ### freezing -/
def isBox (S : St) (h : Heap) (b : Nat) : Prop := ∃ (i : Nat) (cs : List AV), h[i]? = some (.cells cs) ∧ S.blk i 0 = some b
open Classical in
noncomputable def fzImm (S : St) (h : Heap) (W : World) : Imm := fun b o => match S.imm b o with | some u => some u | none => if isBox S h b then W.cell? ⟨b, o, none⟩ else none
section
variable {S : St} {h : Heap} {B : Nat} {W : World}
theorem fzImm_sub : ∀ b o u, S.imm b o = some u → fzImm S h W b o = some u := fun b o u hi => by simp only [fzImm, hi]
theorem fzImm_box {b o : Nat} {u : Value} (hb : isBox S h b) (hi : S.imm b o = none) (hc : W.cell? ⟨b, o, none⟩ = some u) : fzImm S h W b o = some u := by simp only [fzImm, hi, if_pos hb]; exact hc
theorem fzImm_not {b o : Nat} (hb : ¬ isBox S h b) : fzImm S h W b o = S.imm b o := by
  simp only [fzImm]
  cases hi : S.imm b o with
  | some u => rfl
  | none => simp only [if_neg hb]
theorem fzImm_ok (r : Rel S h B W) : ImmOK (fzImm S h W) W := by
  intro b o u hu
  simp only [fzImm] at hu
  split at hu
  · rename_i u' hi; cases hu; exact r.imm b o u hi
  · split at hu
    · rename_i hbox
      obtain ⟨i, cs, hi, hb⟩ := hbox
      obtain ⟨b', c, e, p1, p2, p3, p4, p5, p6, p7⟩ := r.obj i _ hi
      rw [hb] at p1
      cases p1
      refine ⟨hu, p5 u ?_⟩
      rw [cell_of p3] at hu
      rw [Array.mem_toList_iff]
      exact Array.mem_of_getElem? hu
    · cases hu
theorem fzImm_low (r : Rel S h B W) {b o : Nat} (hb : b < B) : fzImm S h W b o = S.imm b o := by
  refine fzImm_not ?_
  rintro ⟨i, cs, hi, hb'⟩
  obtain ⟨b', c, e, p1, p2, _⟩ := r.obj i _ hi
  rw [hb'] at p1
  cases p1
  omega
theorem namL_flat {p : Nat → Bool} : ∀ {els : List AV}, namL p els = true → namL p (flat els) = true
  | [], _ => rfl
  | x :: els, hn => by
    simp only [namL, Bool.and_eq_true] at hn
    have ih := namL_flat hn.2
    have happ : ∀ (a b : List AV), namL p a = true → namL p b = true → namL p (a ++ b) = true := by
      intro a b ha hb
      induction a with
      | nil => exact hb
      | cons y a iha => simp only [namL, List.cons_append, Bool.and_eq_true] at *; exact ⟨ha.1, iha ha.2⟩
    simp only [flat, List.map_cons, List.flatten_cons]
    refine happ _ _ ?_ ih
    cases x <;> simp only [elCells, namL, nam, Bool.and_true, Bool.and_eq_true] at * <;> first | exact hn.1 | trivial
theorem ms_V (r : Rel S h B W) {id off len : Nat} {k : Option Nat} {els : List AV} {u : Value} (hv : V S (.ms id off k len) u) (hm : msEls h id off k len = some els) (hc : closedL els = true) {imm : Imm} {b0 : Nat} (himm : ∀ b o u, S.imm b o = some u → imm b o = some u) (hbx : ∀ b o u, isBox S h b → S.imm b o = none → W.cell? ⟨b, o, none⟩ = some u → imm b o = some u) : V (immSt imm b0) (.slice (msOwn h id off k len) k els) u := by
  simp only [V] at hv
  obtain ⟨b, N, cap, q1, q2, q3, q4, q5⟩ := hv
  obtain ⟨hlen, us, g1, g2, g3, g4, g5⟩ := msEls_cells r hm q1
  have hm0 := hm
  simp only [msEls, Option.bind_eq_some_iff] at hm0
  obtain ⟨cs0, hb0, _⟩ := hm0
  obtain ⟨hbi, b', c', e', w1, w2, w3, w4, w5, w6, w7, w8⟩ := box_rel r hb0
  rw [q1] at w1
  cases w1
  have hbox : isBox S h b := ⟨id, cs0, hbi, q1⟩
  simp only [V]
  refine ⟨_, cap, by rw [hlen]; exact q5, by omega, ?_, .inr ⟨b, off, rfl, VE_of_flat g5 (VL.nam (closed_ext himm) _ (namL_flat hc) g2) fun j w hj => hbx b _ w hbox (w8 _) (g4 j w hj)⟩⟩
  unfold msOwn
  rw [hb0]
  simp only
  split
  · rename_i hfull
    simp only [OwnV]
    rw [q2] at w6
    cases w6
    rw [w7, ← hfull.2] at q4
    have : cap * kz k ≤ len * kz k := by omega
    have := Nat.le_of_mul_le_mul_right this hfull.1
    omega
  · trivial
theorem freeze1_ok (r : Rel S h B W) {first : Bool} {x y : AV} {u : Value} {b0 : Nat} (hf : freeze1 first h x = some y) (hv : V S x u) :
    V (immSt (fzImm S h W) b0) y u ∧ ∀ k els, y = .slice .fresh k els → first = true ∧ Fr1 (fzImm S h W) B W k els u := by
  have hcl : ∀ {z : AV}, closed z = true → V S z u → V (immSt (fzImm S h W) b0) z u := fun {z} hz hz' => V.nam (closed_ext fzImm_sub) z hz hz'
  have none_ : ∀ {o : AOwn} {k : Option Nat} {els : List AV}, closedL els = true → V S (.slice o k els) u → V (immSt (fzImm S h W) b0) (.slice .none k els) u := by
    intro o k els hc hv
    refine hcl (by simp only [closed, nam, Bool.true_and]; exact hc) ?_
    simp only [V] at hv ⊢
    obtain ⟨ao, cap, h1, h2, h3, h4⟩ := hv
    exact ⟨ao, cap, h1, h2, trivial, h4⟩
  unfold freeze1 at hf
  split at hf
  · rename_i i k els
    split at hf
    · rename_i hc
      split at hf
      · rename_i hfst
        split at hf
        · rename_i k' n hrow
          split at hf
          · rename_i hk
            subst hk
            split at hf
            · rename_i hn
              subst hn
              cases hf
              simp only [V, OwnV] at hv
              obtain ⟨ao, cap, h1, h2, h3, h4⟩ := hv
              refine ⟨?_, fun k2 els2 he => ?_⟩
              · simp only [V, OwnV]
                refine ⟨ao, cap, h1, h2, trivial, ?_⟩
                rcases h4 with h4 | ⟨b, o, h4, h5⟩
                · exact .inl h4
                · exact .inr ⟨b, o, h4, VE.nam (closed_ext fzImm_sub) els hc h5⟩
              · cases he
                refine ⟨hfst, ao, cap, h1, h3.1, ?_⟩
                obtain ⟨_, h3⟩ := h3
                rcases h3 with h3 | ⟨b, n, e1, e2, e3, e4⟩
                · exact .inl h3
                · obtain ⟨_, q2⟩ := r.obj i _ hrow
                  obtain ⟨qB, c, e, fr, g1, g2, g3, g4⟩ := q2 b e1
                  rw [e2] at g2
                  cases g2
                  refine .inr ⟨b, c, e, fr, e3, qB, g1, e4, g3, fun o ho hc' => ⟨?_, (g4 o ho hc').2⟩⟩
                  rw [fzImm_not]
                  · exact (g4 o ho hc').1
                  · rintro ⟨j, cs, hj, hb⟩
                    have := r.inj i j _ _ b hrow hj e1 hb
                    subst this
                    rw [hrow] at hj
                    cases hj
            · cases hf
              exact ⟨none_ hc hv, fun _ _ he => by cases he⟩
          · cases hf
            exact ⟨none_ hc hv, fun _ _ he => by cases he⟩
        · cases hf
          exact ⟨none_ hc hv, fun _ _ he => by cases he⟩
      · cases hf
        exact ⟨none_ hc hv, fun _ _ he => by cases he⟩
    · cases hf
  · split at hf
    · rename_i hc
      cases hf
      exact ⟨none_ hc hv, fun _ _ he => by cases he⟩
    · cases hf
  · rename_i id off k len
    simp only [Option.bind_eq_some_iff] at hf
    obtain ⟨els, hm, hf⟩ := hf
    split at hf
    · rename_i hc
      cases hf
      refine ⟨ms_V r hv hm hc fzImm_sub fun b o w hb hi hw => fzImm_box hb hi hw, fun k2 els2 he => ?_⟩
      exfalso
      simp only [AV.slice.injEq] at he
      have := he.1
      unfold msOwn at this
      split at this
      · split at this <;> cases this
      · cases this
    · cases hf
  · rename_i cs
    split at hf
    · rename_i hc
      cases hf
      refine ⟨hcl (by simp only [closed, nam]; exact hc) ?_, fun _ _ he => by cases he⟩
      simp only [V] at hv ⊢
      obtain ⟨a, h1, h2⟩ := hv
      exact ⟨a, h1, stripL_V h2⟩
    · cases hf
  · rename_i hnt hnf hnm hna
    split at hf
    · rename_i hc
      cases hf
      exact ⟨hcl hc hv, fun k els he => absurd he (hnf k els)⟩
    · cases hf
theorem freezeL_ok (r : Rel S h B W) {b0 : Nat} : ∀ {xs ys : List AV} {us : List Value}, freezeL h xs = some ys → VL S xs us → VL (immSt (fzImm S h W) b0) ys us
  | [], ys, us, hf, hv => by simp only [freezeL] at hf; cases hf; simpa only [VL] using hv
  | x :: xs, ys, us, hf, hv => by
    simp only [freezeL, Option.bind_eq_some_iff, Option.map_eq_some_iff] at hf
    obtain ⟨y, hy, ys', hys, rfl⟩ := hf
    simp only [VL] at hv ⊢
    obtain ⟨a, l, h1, h2, h3⟩ := hv
    exact ⟨a, l, h1, (freeze1_ok r hy h2).1, freezeL_ok r hys h3⟩
theorem freeze1_tup {first : Bool} {x y : AV} (hx : ∀ l, x ≠ .tup l) (hf : freeze1 first h x = some y) : ∀ l, y ≠ .tup l := by
  rintro l rfl
  unfold freeze1 at hf
  split at hf
  · split at hf
    · split at hf
      · split at hf
        · split at hf
          · split at hf <;> cases hf
          · cases hf
        · cases hf
      · cases hf
    · cases hf
  · split at hf <;> cases hf
  · simp only [Option.bind_eq_some_iff] at hf
    obtain ⟨els, hm, hf⟩ := hf
    split at hf <;> cases hf
  · split at hf <;> cases hf
  · split at hf
    · cases hf; exact hx l rfl
    · cases hf
theorem freeze_ok (r : Rel S h B W) {x y : AV} {u : Value} {b0 : Nat} (hf : freeze h x = some y) (hv : V S x u) :
    V (immSt (fzImm S h W) b0) y u ∧ FreshR (fzImm S h W) B W y u := by
  unfold freeze at hf
  split at hf
  · cases hf
    refine ⟨?_, ⟨fun _ _ he => (by cases he), fun _ _ _ he => (by cases he)⟩⟩
    simp only [V, VL] at hv ⊢
    exact hv
  · rename_i x xs
    simp only [Option.bind_eq_some_iff, Option.map_eq_some_iff] at hf
    obtain ⟨y, hy, ys, hys, rfl⟩ := hf
    simp only [V, VL] at hv
    obtain ⟨a, rfl, w, l, h1, h2, h3⟩ := hv
    obtain ⟨g1, g2⟩ := freeze1_ok (b0 := b0) r hy h2
    have ha : a = (w :: l).toArray := by rw [← h1]
    subst ha
    refine ⟨?_, ⟨fun _ _ he => (by cases he), fun k els r' he => ?_⟩⟩
    · simp only [V, VL]
      exact ⟨_, rfl, w, l, rfl, g1, freezeL_ok r hys h3⟩
    · simp only [AV.tup.injEq, List.cons.injEq] at he
      exact ⟨w, l, rfl, (g2 k els he.1).2⟩
  · rename_i hne hnc
    obtain ⟨g1, g2⟩ := freeze1_ok (b0 := b0) r hf hv
    refine ⟨g1, ⟨fun k els he => (g2 k els he).2, fun k els r' he => ?_⟩⟩
    refine absurd he (freeze1_tup (fun l hl => ?_) hf _)
    cases l with
    | nil => exact hne hl
    | cons a l => exact hnc a l hl
theorem fzL_len : ∀ {x y : List AV}, fzL h x = some y → y.length = x.length
  | [], y, hf => by simp only [fzL] at hf; cases hf; rfl
  | x :: xs, y, hf => by
    simp only [fzL, Option.bind_eq_some_iff, Option.map_eq_some_iff] at hf
    obtain ⟨x', h1, xs', h2, rfl⟩ := hf
    simp [fzL_len h2]
theorem fz_nonagg {x y : AV} (hx : ∀ c, x ≠ .agg c) (hf : fz h x = some y) : ∀ c, y ≠ .agg c := by
  rintro c rfl
  cases x <;> simp only [fz, Option.bind_eq_some_iff, Option.map_eq_some_iff] at hf
  case agg c' => exact hx _ rfl
  all_goals first
    | (cases hf; done)
    | (obtain ⟨_, _, hf⟩ := hf; split at hf <;> cases hf; done)
    | (obtain ⟨_, _, hf⟩ := hf; cases hf; done)
    | (obtain ⟨_, _, _, _, hf⟩ := hf; cases hf; done)
theorem V1.of {S : St} {k : Option Nat} {y : AV} {b o : Nat} (hy : ∀ c, y ≠ .agg c) (hk : k = none) (hv : ∃ u, S.imm b o = some u ∧ V S y u) : V1 S k y b o := by
  unfold V1
  split
  · rename_i c; exact absurd rfl (hy c)
  · exact ⟨hk, hv⟩
mutual
theorem fz_ok (r : Rel S h B W) {b0 : Nat} : ∀ {x y : AV} {u : Value}, fz h x = some y → V S x u → V (immSt (fzImm S h W) b0) y u
  | .sc v, y, u, hf, hv => by simp only [fz] at hf; cases hf; simpa only [V] using hv
  | .unk, y, u, hf, hv => by simp only [fz] at hf; cases hf; simp only [V]
  | .ptr id off, y, u, hf, hv => by
    simp only [fz, Option.bind_eq_some_iff] at hf
    obtain ⟨cs, hb, hf⟩ := hf
    split at hf
    · rename_i hc
      cases hf
      obtain ⟨hbi, b', c, e', w1, w2, w3, w4, w5, w6, w7, w8⟩ := box_rel r hb
      simp only [V] at hv ⊢
      obtain ⟨b, q1, rfl⟩ := hv
      rw [q1] at w1
      have w1 := Option.some.inj w1
      subst w1
      refine ⟨b, off, rfl, ?_⟩
      have hall : VM (immSt (fzImm S h W) b0) cs b 0 := by
        refine VM.mk fun i z hz => ?_
        obtain ⟨w, g1, g2⟩ := (VL.nam (closed_ext (b := b0) (imm := fzImm S h W) fzImm_sub) cs hc w4).get hz
        refine ⟨w, fzImm_box ⟨id, cs, hbi, q1⟩ (w8 _) ?_, g2⟩
        rw [cell_of w3]
        simpa using g1
      have := hall.drop off
      simpa using this
    · cases hf
  | .ms id off k len, y, u, hf, hv => by
    simp only [fz, Option.bind_eq_some_iff] at hf
    obtain ⟨els, hm, hf⟩ := hf
    split at hf
    · rename_i hc
      cases hf
      exact ms_V r hv hm hc fzImm_sub fun b o w hb hi hw => fzImm_box hb hi hw
    · cases hf
  | .map i, y, u, hf, hv => by simp only [fz] at hf; cases hf
  | .ref cs, y, u, hf, hv => by
    simp only [fz, Option.map_eq_some_iff] at hf
    obtain ⟨cs', h1, rfl⟩ := hf
    simp only [V] at hv ⊢
    obtain ⟨b, o, rfl, h2⟩ := hv
    exact ⟨b, o, rfl, fzM_ok r h1 h2⟩
  | .slice o k els, y, u, hf, hv => by
    simp only [fz, Option.map_eq_some_iff] at hf
    obtain ⟨els', h1, rfl⟩ := hf
    simp only [V] at hv ⊢
    obtain ⟨ao, cap, h2, h3, h4, h5⟩ := hv
    have hl : els'.length = els.length := fzL_len h1
    refine ⟨ao, cap, by rw [hl]; exact h2, by rw [hl]; exact h3, ?_, ?_⟩
    · cases o <;> simp only [stripO, OwnV] at *
      rw [hl]; exact h4
    · rcases h5 with h5 | ⟨b, q, h5, h6⟩
      · exact .inl (by subst h5; exact List.eq_nil_of_length_eq_zero hl)
      · exact .inr ⟨b, q, h5, fzE_ok r h1 h6⟩
  | .func fn p q, y, u, hf, hv => by
    simp only [fz, Option.bind_eq_some_iff, Option.map_eq_some_iff] at hf
    obtain ⟨p', h1, q', h2, rfl⟩ := hf
    simp only [V] at hv ⊢
    obtain ⟨x', y', h3, h4, h5⟩ := hv
    exact ⟨x', y', h3, fzL_ok r h1 h4, fzL_ok r h2 h5⟩
  | .agg cs, y, u, hf, hv => by
    simp only [fz, Option.map_eq_some_iff] at hf
    obtain ⟨cs', h1, rfl⟩ := hf
    simp only [V] at hv ⊢
    obtain ⟨a, h2, h3⟩ := hv
    exact ⟨a, h2, fzL_ok r h1 h3⟩
  | .tup cs, y, u, hf, hv => by
    simp only [fz, Option.map_eq_some_iff] at hf
    obtain ⟨cs', h1, rfl⟩ := hf
    simp only [V] at hv ⊢
    obtain ⟨a, h2, h3⟩ := hv
    exact ⟨a, h2, fzL_ok r h1 h3⟩
theorem fzL_ok (r : Rel S h B W) {b0 : Nat} : ∀ {x y : List AV} {u : List Value}, fzL h x = some y → VL S x u → VL (immSt (fzImm S h W) b0) y u
  | [], y, u, hf, hv => by simp only [fzL] at hf; cases hf; simpa only [VL] using hv
  | x :: xs, y, u, hf, hv => by
    simp only [fzL, Option.bind_eq_some_iff, Option.map_eq_some_iff] at hf
    obtain ⟨x', h1, xs', h2, rfl⟩ := hf
    simp only [VL] at hv ⊢
    obtain ⟨a, l, h3, h4, h5⟩ := hv
    exact ⟨a, l, h3, fz_ok r h1 h4, fzL_ok r h2 h5⟩
theorem fzM_ok (r : Rel S h B W) {b0 : Nat} : ∀ {x y : List AV} {b o : Nat}, fzL h x = some y → VM S x b o → VM (immSt (fzImm S h W) b0) y b o
  | [], y, b, o, hf, hv => by simp only [fzL] at hf; cases hf; simp only [VM]
  | x :: xs, y, b, o, hf, hv => by
    simp only [fzL, Option.bind_eq_some_iff, Option.map_eq_some_iff] at hf
    obtain ⟨x', h1, xs', h2, rfl⟩ := hf
    simp only [VM] at hv ⊢
    obtain ⟨⟨u, h3, h4⟩, h5⟩ := hv
    exact ⟨⟨u, fzImm_sub _ _ _ h3, fz_ok r h1 h4⟩, fzM_ok r h2 h5⟩
theorem fzE_ok (r : Rel S h B W) {b0 : Nat} {k : Option Nat} : ∀ {x y : List AV} {b o : Nat}, fzL h x = some y → VE S k x b o → VE (immSt (fzImm S h W) b0) k y b o
  | [], y, b, o, hf, hv => by simp only [fzL] at hf; cases hf; simp only [VE]
  | x :: xs, y, b, o, hf, hv => by
    simp only [fzL, Option.bind_eq_some_iff, Option.map_eq_some_iff] at hf
    obtain ⟨x', h1, xs', h2, rfl⟩ := hf
    rw [VE.cons] at hv ⊢
    refine ⟨?_, fzE_ok r h2 hv.2⟩
    cases x with
    | agg cs =>
      simp only [fz, Option.map_eq_some_iff] at h1
      obtain ⟨cs', h1, rfl⟩ := h1
      have hl : cs'.length = cs.length := fzL_len h1
      have := hv.1
      simp only [V1] at this ⊢
      exact ⟨by rw [hl]; exact this.1, fzM_ok r h1 this.2⟩
    | sc v => obtain ⟨hk, w, g1, g2⟩ := hv.1; exact V1.of (fz_nonagg (by intro c hc; cases hc) h1) hk ⟨w, fzImm_sub _ _ _ g1, fz_ok r h1 g2⟩
    | unk => obtain ⟨hk, w, g1, g2⟩ := hv.1; exact V1.of (fz_nonagg (by intro c hc; cases hc) h1) hk ⟨w, fzImm_sub _ _ _ g1, fz_ok r h1 g2⟩
    | ptr i f => obtain ⟨hk, w, g1, g2⟩ := hv.1; exact V1.of (fz_nonagg (by intro c hc; cases hc) h1) hk ⟨w, fzImm_sub _ _ _ g1, fz_ok r h1 g2⟩
    | ref c => obtain ⟨hk, w, g1, g2⟩ := hv.1; exact V1.of (fz_nonagg (by intro c hc; cases hc) h1) hk ⟨w, fzImm_sub _ _ _ g1, fz_ok r h1 g2⟩
    | slice w q l => obtain ⟨hk, w, g1, g2⟩ := hv.1; exact V1.of (fz_nonagg (by intro c hc; cases hc) h1) hk ⟨w, fzImm_sub _ _ _ g1, fz_ok r h1 g2⟩
    | ms i f q l => obtain ⟨hk, w, g1, g2⟩ := hv.1; exact V1.of (fz_nonagg (by intro c hc; cases hc) h1) hk ⟨w, fzImm_sub _ _ _ g1, fz_ok r h1 g2⟩
    | func f p q => obtain ⟨hk, w, g1, g2⟩ := hv.1; exact V1.of (fz_nonagg (by intro c hc; cases hc) h1) hk ⟨w, fzImm_sub _ _ _ g1, fz_ok r h1 g2⟩
    | tup l => obtain ⟨hk, w, g1, g2⟩ := hv.1; exact V1.of (fz_nonagg (by intro c hc; cases hc) h1) hk ⟨w, fzImm_sub _ _ _ g1, fz_ok r h1 g2⟩
    | map i => obtain ⟨hk, w, g1, g2⟩ := hv.1; exact V1.of (fz_nonagg (by intro c hc; cases hc) h1) hk ⟨w, fzImm_sub _ _ _ g1, fz_ok r h1 g2⟩
end
end
end Go.Proofs.Ytpnkldjbiinnpaa.AM
