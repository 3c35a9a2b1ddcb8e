import Derived.Test.YtpnkldjbiinnpaaAm16
/- Calls: the whole machine. -/
namespace Go.Proofs.Ytpnkldjbiinnpaa.AM
open Go Go.RowKit
set_option linter.unusedVariables false
set_option linter.unusedSimpArgs false
/-- a row over a block that is there -/
theorem Rel.rowOwn {S : St} {h : Heap} {B : Nat} {W : World} (r : Rel S h B W) {m0 : Nat} (hlt : ∀ b n, S.sz b = some n → b < m0) (hB : B ≤ m0) {k : Option Nat} {n b : Nat} {c : Array Value} {e : TypeId} {fr : Nat × Nat} (hm : m0 ≤ b) (hh : W.heap[b]? = some (.cells c e fr)) (hs : n * kz k ≤ c.size) (hfr : ∀ o, n * kz k ≤ o → o < c.size → S.imm b o = none ∧ W.frozen? ⟨b, o, none⟩ = false) :
    Rel (addBlk S h.length n b c.size) (h ++ [.row k n]) B W ∧ Ext S (addBlk S h.length n b c.size) := by
  have hf : ∀ v, S.blk h.length v = none := fun v => r.new _ _ (Nat.le_refl _)
  have hsz : S.sz b = none := by
    cases hq : S.sz b with
    | none => rfl
    | some n => exact absurd (hlt _ _ hq) (by omega)
  have ex : Ext S (addBlk S h.length n b c.size) := ⟨fun j w b' hb => by
    simp only [addBlk]
    split
    · rename_i hh; obtain ⟨rfl, rfl⟩ := hh; rw [hf] at hb; cases hb
    · exact hb, fun b' m hb => by
    simp only [addBlk]
    split
    · rename_i hh; subst hh; rw [hsz] at hb; cases hb
    · exact hb, fun _ _ _ h => h, rfl, fun _ _ _ h => .inl h⟩
  have hcur : ∀ (i : Nat) (x : AObj) (b' : Nat), h[i]? = some x → curB (addBlk S h.length n b c.size) i x = some b' → curB S i x = some b' := by
    intro i x b' hx hc
    have hi : i ≠ h.length := by have := (List.getElem?_eq_some_iff.1 hx).1; omega
    cases x <;> simp only [curB, addBlk] at * <;> rwa [if_neg (fun hh => hi hh.1)] at hc
  have hne : ∀ (i : Nat) (x : AObj) (b' : Nat), h[i]? = some x → curB S i x = some b' → b' < m0 := by
    intro i x b' hx hc
    obtain ⟨_, _, c', e', fr', _, g⟩ := curLt r hx hc
    exact hlt _ _ g
  refine ⟨⟨r.imm, ?_, ?_, ?_, ?_, r.base, r.sb⟩, ex⟩
  · intro i x hx
    rw [List.getElem?_append] at hx
    split at hx
    · refine (r.obj i x hx).mono ex (fun b' hc => ⟨rfl, fun o ho => ho⟩) (fun v hv => ?_)
      simp only [addBlk]
      rw [if_neg (by intro hh; omega)]
      exact hv
    · rename_i hlt'
      have hi : i = h.length := by have := (List.getElem?_eq_some_iff.1 hx).1; simp at this; omega
      subst hi
      simp at hx
      subst hx
      refine ⟨fun v hv => ?_, fun b' hb => ?_⟩
      · simp only [addBlk]
        rw [if_neg (by omega)]
        exact hf v
      · simp only [addBlk, true_and, and_self, if_true] at hb
        cases hb
        exact ⟨by omega, c, e, fr, hh, by simp [addBlk], hs, hfr⟩
  · intro i j x y b' hx hy hcx hcy
    rw [List.getElem?_append] at hx hy
    by_cases hi : i < h.length <;> by_cases hj : j < h.length <;> simp only [hi, hj, if_true, if_false] at hx hy
    · exact r.inj i j x y b' hx hy (hcur _ _ _ hx hcx) (hcur _ _ _ hy hcy)
    · have := hne _ _ _ hx (hcur _ _ _ hx hcx)
      have hj' : j = h.length := by have := (List.getElem?_eq_some_iff.1 hy).1; simp at this; omega
      subst hj'
      simp at hy
      subst hy
      simp [curB, addBlk] at hcy
      omega
    · have := hne _ _ _ hy (hcur _ _ _ hy hcy)
      have hj' : i = h.length := by have := (List.getElem?_eq_some_iff.1 hx).1; simp at this; omega
      subst hj'
      simp at hx
      subst hx
      simp [curB, addBlk] at hcx
      omega
    · have := (List.getElem?_eq_some_iff.1 hx).1
      have := (List.getElem?_eq_some_iff.1 hy).1
      simp at *
      omega
  · intro i v hi
    simp only [addBlk, List.length_append, List.length_cons, List.length_nil] at *
    rw [if_neg (by omega)]
    exact r.new i v (by omega)
  · intro b' n' hs'
    simp only [addBlk] at hs'
    split at hs'
    · rename_i hb; subst hb; exact (Array.getElem?_eq_some_iff.1 hh).1
    · exact r.lt b' n' hs'
def GPostW (S : St) (h' : Heap) (v : AV) (B : Nat) (W : World) (e : Ending) (W' : World) : Prop := ∃ u S', e = .returned u ∧ Ext S S' ∧ Rel S' h' B W' ∧ V S' v u ∧ Below W.heap.size W W'
section
variable {P : Program} {gl : Nat → Option (List Value)} {h h' : Heap} {v : AV} {S : St} {B : Nat} {W : World}
/-- the part of what is taken over that lies in one slice -/
theorem own_V {imm : Imm} {W' : World} {S2 : St} (r2 : Rel S2 h B W') (himm : S2.imm = imm) (hlt : ∀ b n, S2.sz b = some n → b < W.heap.size) (hB : B ≤ W.heap.size) {k : Option Nat} {els : List AV} {u : Value} (hf : Fr1 imm W.heap.size W' k els u) (hv : V S2 (.slice .fresh k els) u) :
    ∃ S3, Ext S2 S3 ∧ Rel S3 (h ++ [.row k els.length]) B W' ∧ V S3 (.slice (.tok h.length) k els) u := by
  obtain ⟨ao, cap, h1, hcm, h2⟩ := hf
  subst himm
  have hv0 := hv
  simp only [V] at hv
  obtain ⟨ao', cap', h1', h3, h4, h5⟩ := hv
  rw [h1] at h1'
  cases h1'
  rcases h2 with h2 | ⟨b, c, e, fr, g1, g2, g3, g4, g5, g6⟩
  · refine ⟨S2, Ext.refl _, r2.newRow k _, ?_⟩
    simp only [V, OwnV]
    exact ⟨ao, cap, h1, h3, ⟨hcm, .inl h2⟩, h5⟩
  · obtain ⟨q1, q2⟩ := r2.rowOwn hlt hB g2 g3 g5 g6
    refine ⟨_, q2, q1, ?_⟩
    have := V.mono q2 _ hv0
    simp only [V, OwnV] at this ⊢
    obtain ⟨ao2, cap2, w1, w2, w3, w4⟩ := this
    rw [h1] at w1
    cases w1
    exact ⟨ao, cap, h1, w2, ⟨hcm, .inr ⟨b, c.size, by simp [addBlk], by simp [addBlk], g1, g4⟩⟩, w4⟩
theorem adopt_ok {imm' : Imm} {W' : World} {u : Value} (r : Rel S h B W) (k1 : ∀ b o, b < W.heap.size → imm' b o = S.imm b o) (k2 : ImmOK imm' W') (k3 : V (immSt imm' W.heap.size) v u) (k4 : FreshR imm' W.heap.size W' v u) (k5 : Below W.heap.size W W') :
    ∃ S', Ext S S' ∧ Rel S' (adopt v h).2 B W' ∧ V S' (adopt v h).1 u := by
  let S2 : St := { S with imm := imm' }
  have ex : Ext S S2 := ⟨fun _ _ _ h => h, fun _ _ h => h, fun b o u hi => by
    show imm' b o = _
    rw [k1 b o (immLt r hi)]
    exact hi, rfl, fun b o u hi => by
    by_cases hb : b < W.heap.size
    · left
      rw [← k1 b o hb]
      exact hi
    · right
      rw [r.sb]
      have := r.base
      omega⟩
  have r' := r.world k5
  have r2 : Rel S2 h B W' := ⟨k2, fun i x hx => (r'.obj i x hx).mono ex (fun b hc => ⟨rfl, fun o ho => by
      show imm' b o = _
      rw [k1 b o (curLt r hx hc).1]
      exact ho⟩) (fun v hv => hv), fun i j x y b hx hy hcx hcy => r.inj i j x y b hx hy (by cases x <;> exact hcx) (by cases y <;> exact hcy), r.new, fun b n hs => Nat.lt_of_lt_of_le (r.lt b n hs) k5.size, r'.base, r.sb⟩
  have hvS : V S2 v u := V_of_immSt (S := S2) (fun _ _ _ h => h) k3
  unfold adopt
  split
  · rename_i k els
    obtain ⟨S3, g1, g2, g3⟩ := own_V r2 rfl (fun b n hs => r.lt b n hs) r.base (k4.one k els rfl) hvS
    exact ⟨S3, ex.trans g1, g2, g3⟩
  · rename_i k els rest
    obtain ⟨u0, us, rfl, hfr⟩ := k4.tup k els rest rfl
    simp only [V] at hvS
    obtain ⟨a, ha, hvl⟩ := hvS
    cases ha
    simp only [VL] at hvl
    obtain ⟨u0', us', he, hv0, hvr⟩ := hvl
    cases he
    obtain ⟨S3, g1, g2, g3⟩ := own_V r2 rfl (fun b n hs => r.lt b n hs) r.base hfr (by simp only [V]; exact hv0)
    refine ⟨S3, ex.trans g1, g2, ?_⟩
    simp only [V, VL]
    refine ⟨_, rfl, u0, us, rfl, ?_, VL.mono g1 _ hvr⟩
    simpa only [V] using g3
  · exact ⟨S2, ex, r2, hvS⟩
theorem pcall_ok {f : Nat} {g : List AV → Option AV} (hp : PSound P gl f g) {args : List AV} (hx : pcall g args h = some (v, h')) (r : Rel S h B W) {cargs : Array Value} (hv : VL S args cargs.toList) (hg : GlobOK gl S.imm) :
    Calls P f cargs W (GPostW S h' v B W) := by
  simp only [pcall, Option.bind_eq_some_iff, Prod.exists] at hx
  obtain ⟨args', bor, hprep, v', hg1, hx⟩ := hx
  unfold prep at hprep
  split at hprep
  · rename_i hc
    cases hprep
    simp only [Bool.false_eq_true, if_false, Option.some.injEq] at hx
    refine (hp _ _ hg1 S.imm W cargs r.imm hg (VL.nam (closed_ext fun _ _ _ h => h) _ hc (stripL_V hv))).mono ?_
    rintro e W' ⟨u, imm', rfl, k1, k2, k3, k4, k5⟩
    obtain ⟨S', w1, w2, w3⟩ := adopt_ok r k1 k2 k3 k4 k5
    rw [hx] at w2 w3
    exact ⟨u, S', rfl, w1, w2, w3, k5⟩
  · simp only [Option.map_eq_some_iff, Prod.mk.injEq] at hprep
    obtain ⟨a, ha, rfl, rfl⟩ := hprep
    simp only [if_true] at hx
    split at hx
    · rename_i hrig
      cases hx
      refine (hp _ _ hg1 (fzImm S h W) W cargs (fzImm_ok r) (fun g l hl j w hw => fzImm_sub _ _ _ (hg g l hl j w hw)) (fzL_ok r ha hv)).mono ?_
      rintro e W' ⟨u, imm', rfl, k1, k2, k3, k4, k5⟩
      refine ⟨u, S, rfl, Ext.refl _, r.world k5, ?_, k5⟩
      rw [conc_eq _ hrig k3]
      exact rigid_V _ hrig
    · cases hx
/-- a table of functions is what the program holds -/
structure TabOK (P : Program) (gl : Nat → Option (List Value)) (T : Tab) : Prop where
  ext : ∀ f g, T.ext f = some g → Callable P f ∧ PSound P gl f g
  fn : ∀ f F, T.fn f = some F → FnOK P gl f F
  nat : ∀ f g, T.nat f = some g → Callable P f ∧ ∀ (args : List AV) (h : Heap) (v : AV) (h' : Heap), g args h = some (v, h') → ∀ (S : St) (B : Nat) (W : World) (cargs : Array Value), Rel S h B W → VL S args cargs.toList → GlobOK gl S.imm → Calls P f cargs W (GPost S h' v B W) := by intro f g h; cases h
/-- a body that makes all for itself -/
theorem body_PSound (hm : P.follows .mixedOrders = true) {C : Cl} (hC : ClOK P gl C) {f : Nat} {F : AFn} (hF : FnOK P gl f F) {n : Nat} {args : List AV} (hlen : args.length = F.np) (hx : ((aexec C n F.body (initE 0 args) []).bind (finish F)).bind (fun (v, h) => freeze h v) = some v) (imm : Imm) (W : World) (cargs : Array Value) (hi : ImmOK imm W) (hg : GlobOK gl imm) (hv : VL (immSt imm W.heap.size) args cargs.toList) :
    Calls P f cargs W (PRet imm W v) := by
  rw [Option.bind_eq_some_iff] at hx
  obtain ⟨⟨v', h'⟩, hx1, hx2⟩ := hx
  have r0 : Rel (immSt imm W.heap.size) [] W.heap.size W := ⟨hi, fun i x hx => by simp at hx, fun i j x y b hx => by simp at hx, fun _ _ _ => rfl, fun _ _ h => by simp [immSt] at h, Nat.le_refl _, rfl⟩
  refine (run_fn hm hC hF hlen hx1 r0 hv hg).mono ?_
  rintro e W' ⟨u, S', rfl, k1, k2, k3, k4⟩
  obtain ⟨g1, g2⟩ := freeze_ok (b0 := W.heap.size) k2 hx2 k3
  refine ⟨u, fzImm S' h' W', rfl, fun b o hb => ?_, fzImm_ok k2, g1, g2, k4⟩
  rw [fzImm_low k2 hb]
  cases hq : imm b o with
  | some w => exact k1.imm _ _ _ hq
  | none =>
    cases hq' : S'.imm b o with
    | none => rfl
    | some w =>
      rcases k1.low _ _ _ hq' with h1 | h1
      · simp only [immSt] at h1; rw [hq] at h1; cases h1
      · simp only [immSt] at h1; omega
theorem gcall_both (hm : P.follows .mixedOrders = true) {T : Tab} (hT : TabOK P gl T) : ∀ n, ClOK P gl ⟨gcall T n, T.pure⟩
  | 0 => ⟨fun f args h v h' hx => (by simp [gcall] at hx), fun f args h v h' _ hx => (by simp [gcall] at hx)⟩
  | n + 1 => by
    have ih := gcall_both hm hT n
    have ext : ∀ f g, T.ext f = some g → ∀ (args : List AV) (h : Heap) (v : AV) (h' : Heap), gcall T (n + 1) f args h = some (v, h') → Callable P f ∧ ∀ (S : St) (B : Nat) (W : World) (cargs : Array Value), Rel S h B W → VL S args cargs.toList → GlobOK gl S.imm → Calls P f cargs W (GPostW S h' v B W) := by
      intro f g hfg args h v h' hx
      simp only [gcall, hfg] at hx
      obtain ⟨hc, hp⟩ := hT.ext f g hfg
      exact ⟨hc, fun S B W cargs r hv hgl => pcall_ok hp hx r hv hgl⟩
    have pur : ∀ f F, T.ext f = none → T.fn f = some F → F.pure = true → ∀ (args : List AV) (h : Heap) (v : AV) (h' : Heap), gcall T (n + 1) f args h = some (v, h') → Callable P f ∧ ∀ (S : St) (B : Nat) (W : World) (cargs : Array Value), Rel S h B W → VL S args cargs.toList → GlobOK gl S.imm → Calls P f cargs W (GPostW S h' v B W) := by
      intro f F hfn hfF hpu args h v h' hx
      have hF := hT.fn f F hfF
      simp only [gcall, hfn, hfF] at hx
      split at hx
      · rename_i hlen
        refine ⟨hF.callable, fun S B W cargs r hv hgl => ?_⟩
        -- only lists of the right length are ever tried
        have hx' : pcall (fun a => if a.length = F.np then ((aexec ⟨gcall T n, T.pure⟩ n F.body (initE 0 a) []).bind (finish F)).bind (fun (v, h) => freeze h v) else none) args h = some (v, h') := by
          simp only [pcall] at hx ⊢
          rw [Option.bind_eq_some_iff] at hx ⊢
          obtain ⟨⟨a, bor⟩, h1, hx⟩ := hx
          refine ⟨⟨a, bor⟩, h1, ?_⟩
          simp only at hx ⊢
          rw [Option.bind_eq_some_iff] at hx ⊢
          obtain ⟨w, h2, h3⟩ := hx
          refine ⟨w, ?_, h3⟩
          have ha : a.length = F.np := by
            unfold prep at h1
            split at h1
            · cases h1; simpa using hlen
            · simp only [Option.map_eq_some_iff, Prod.mk.injEq] at h1
              obtain ⟨a', h4, rfl, rfl⟩ := h1
              rw [fzL_len h4]; exact hlen
          rw [if_pos ha]
          exact h2
        refine pcall_ok (fun args' v' hxx imm W' cargs' hi hg' hv' => ?_) hx' r hv hgl
        simp only at hxx
        split at hxx
        · rename_i hlen'
          exact body_PSound hm ih hF hlen' hxx imm W' cargs' hi hg' hv'
        · cases hxx
      · cases hx
    have toG : ∀ {S : St} {h' : Heap} {v : AV} {B : Nat} {W : World} (hB : B ≤ W.heap.size) {e W'}, GPostW S h' v B W e W' → GPost S h' v B W e W' := by
      rintro S h' v B W hB e W' ⟨u, S', h1, h2, h3, h4, h5⟩
      exact ⟨u, S', h1, h2, h3, h4, h5.mono hB⟩
    have toQ : ∀ {S : St} {h' : Heap} {v : AV} {B : Nat} {W : World} {e W'}, GPostW S h' v B W e W' → QPost v W e W' := by
      rintro S h' v B W e W' ⟨u, S', h1, h2, h3, h4, h5⟩
      exact ⟨u, S', h1, h4, h5⟩
    refine ⟨fun f args h v h' hx => ?_, fun f args h v h' hpu hx => ?_⟩
    · cases hfe : T.ext f with
      | some g =>
        obtain ⟨h1, h2⟩ := ext f g hfe args h v h' hx
        exact ⟨h1, fun S B W cargs r hv hgl => (h2 S B W cargs r hv hgl).mono fun e W' => toG r.base⟩
      | none =>
        cases hfF : T.fn f with
        | none =>
          simp only [gcall, hfe, hfF, Option.bind_eq_some_iff] at hx
          obtain ⟨g, hg1, hg2⟩ := hx
          obtain ⟨h1, h2⟩ := hT.nat f g hg1
          exact ⟨h1, h2 args h v h' hg2⟩
        | some F =>
          by_cases hpu : F.pure = true
          · obtain ⟨h1, h2⟩ := pur f F hfe hfF hpu args h v h' hx
            exact ⟨h1, fun S B W cargs r hv hgl => (h2 S B W cargs r hv hgl).mono fun e W' => toG r.base⟩
          · have hF := hT.fn f F hfF
            simp only [gcall, hfe, hfF] at hx
            split at hx
            · rename_i hlen
              exact ⟨hF.callable, fun S B W cargs r hv hgl => run_fn hm ih hF hlen hx r hv hgl⟩
            · cases hx
    · simp only [Tab.pure, Bool.or_eq_true] at hpu
      intro S B W cargs r hv hgl
      cases hfe : T.ext f with
      | some g => exact ((ext f g hfe args h v h' hx).2 S B W cargs r hv hgl).mono fun e W' => toQ
      | none =>
        cases hfF : T.fn f with
        | none => rw [hfe, hfF] at hpu; simp at hpu
        | some F =>
          rw [hfe, hfF] at hpu
          simp only [Option.isSome_none, Bool.false_eq_true, false_or] at hpu
          exact ((pur f F hfe hfF hpu args h v h' hx).2 S B W cargs r hv hgl).mono fun e W' => toQ
/-- what the plain machine's call gives, the program's gives -/
theorem calls_of_gcall (hm : P.follows .mixedOrders = true) {T : Tab} (hT : TabOK P gl T) {n f : Nat} {args : List AV} {W : World} {v : AV} {h' : Heap} (hx : gcall T n f args [] = some (v, h')) {imm : Imm} (hi : ImmOK imm W) (hg : GlobOK gl imm) {cargs : Array Value} (hv : VL (immSt imm W.heap.size) args cargs.toList) :
    Calls P f cargs W (fun e W' => ∃ u S', e = .returned u ∧ V S' v u ∧ Below W.heap.size W W') := by
  have r0 : Rel (immSt imm W.heap.size) [] W.heap.size W := ⟨hi, fun i x hx => by simp at hx, fun i j x y b hx => by simp at hx, fun _ _ _ => rfl, fun _ _ h => by simp [immSt] at h, Nat.le_refl _, rfl⟩
  refine (((gcall_both hm hT n).call f args [] v h' hx).2 _ _ W cargs r0 hv hg).mono ?_
  rintro e W' ⟨u, S', h1, h2, h3, h4, h5⟩
  exact ⟨u, S', h1, h4, h5⟩
end
end Go.Proofs.Ytpnkldjbiinnpaa.AM
