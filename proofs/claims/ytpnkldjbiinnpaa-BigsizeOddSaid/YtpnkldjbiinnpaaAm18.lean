import Derived.Test.YtpnkldjbiinnpaaAm17
/- The plain machine without fuel: its limit, and the equations that it keeps. -/
namespace Go.Proofs.Ytpnkldjbiinnpaa.AM
open Go
set_option linter.unusedVariables false
def ole {α : Type} (a b : Option α) : Prop := ∀ r, a = some r → b = some r
theorem ole.refl {α : Type} (a : Option α) : ole a a := fun _ h => h
theorem ole.trans {α : Type} {a b c : Option α} (h : ole a b) (k : ole b c) : ole a c := fun r x => k r (h r x)
theorem ole.bind {α β : Type} {a b : Option α} {f g : α → Option β} (h : ole a b) (k : ∀ x, ole (f x) (g x)) : ole (a.bind f) (b.bind g) := by
  intro r hr
  rw [Option.bind_eq_some_iff] at hr ⊢
  obtain ⟨x, h1, h2⟩ := hr
  exact ⟨x, h x h1, k x r h2⟩
theorem ole.map {α β : Type} {a b : Option α} {f : α → β} (h : ole a b) : ole (a.map f) (b.map f) := by
  intro r hr
  rw [Option.map_eq_some_iff] at hr ⊢
  obtain ⟨x, h1, h2⟩ := hr
  exact ⟨x, h x h1, h2⟩
structure CLe (C C' : Cl) : Prop where
  pure : C.pure = C'.pure
  call : ∀ f args h, ole (C.call f args h) (C'.call f args h)
theorem aop_le {C C' : Cl} (hc : CLe C C') (o : AOp) (e : Env) (h : Heap) : ole (aop C o e h) (aop C' o e h) := by
  cases o
  case call f args =>
    simp only [aop]
    split
    · exact hc.call _ _ _
    · exact ole.refl _
  all_goals exact ole.refl _
theorem aops_le {C C' : Cl} (hc : CLe C C') : ∀ (l : List AOper) (e : Env) (h : Heap), ole (aops C l e h) (aops C' l e h)
  | [], e, h => ole.refl _
  | o :: r, e, h => by
    simp only [aops]
    refine (ole.refl _).bind fun w => ?_
    split
    · exact (aop_le hc _ _ _).bind fun p => aops_le hc r _ _
    · exact aops_le hc r _ _
theorem quietV_le {C C' : Cl} (hc : CLe C C') (o : AOp) (e : Env) (h : Heap) : ole (quietV C o e h) (quietV C' o e h) := by
  unfold quietV
  split
  · exact (aop_le hc _ _ _).map
  · split
    · exact (aop_le hc _ _ _).bind fun _ => ole.refl _
    · exact (aop_le hc _ _ _).bind fun _ => ole.refl _
    · split
      · rw [hc.pure]
        split
        · exact (aop_le hc _ _ _).bind fun _ => ole.refl _
        · exact ole.refl _
      · exact ole.refl _
    · exact ole.refl _
theorem aopsQ_le {C C' : Cl} (hc : CLe C C') : ∀ (l : List AOper) (e : Env) (h : Heap), ole (aopsQ C l e h) (aopsQ C' l e h)
  | [], e, h => ole.refl _
  | o :: r, e, h => by
    simp only [aopsQ]
    refine (ole.refl _).bind fun w => ?_
    split
    · exact (quietV_le hc _ _ _).bind fun p => aopsQ_le hc r _ _
    · exact aopsQ_le hc r _ _
theorem runD_le {C C' : Cl} (hc : CLe C C') : ∀ (l : List AOper) (e : Env) (h : Heap) (hs : List Heap), ole (runD C l e h hs) (runD C' l e h hs)
  | [], e, h, hs => ole.refl _
  | o :: r, e, h, hs => by
    simp only [runD]
    refine (ole.refl _).bind fun w => ?_
    split
    · exact (aop_le hc _ _ _).bind fun p => runD_le hc r _ _ _
    · exact runD_le hc r _ _ _
theorem chkO_le {C C' : Cl} (hc : CLe C C') (e e' : Env) (o : AOper) : ∀ (l : List Heap), chkO C e e' o l = true → chkO C' e e' o l = true
  | [], _ => rfl
  | h :: l, hh => by
    simp only [chkO, Bool.and_eq_true] at hh ⊢
    refine ⟨?_, chkO_le hc e e' o l hh.2⟩
    cases hq : aop C o.op e h with
    | none => rw [hq] at hh; simp [chkV] at hh
    | some p =>
      rw [aop_le hc _ _ _ p hq]
      rw [hq] at hh
      exact hh.1
theorem chkD_le {C C' : Cl} (hc : CLe C C') (e' : Env) (hs : List Heap) : ∀ (e : Env) (l : List AOper) (st : List (Nat × Nat)), chkD C e' hs e l st = true → chkD C' e' hs e l st = true
  | _, [], _, _ => by simp [chkD]
  | _, _ :: _, [], _ => by simp [chkD]
  | e, o :: r, (lo, hi) :: s, hh => by
    simp only [chkD, Bool.and_eq_true] at hh ⊢
    refine ⟨?_, chkD_le hc e' hs _ r s hh.2⟩
    split
    · rename_i hcond
      rw [if_pos hcond] at hh
      cases hw : wantE o.guard e with
      | none => rfl
      | some w =>
        cases w with
        | false => rfl
        | true =>
          rw [hw] at hh
          exact chkO_le hc e e' o _ hh.1
    · rfl
/-- what is known of the run in the order of the text, looked over -/
def chkR (C : Cl) (e : Env) (ops : List AOper) (st : List (Nat × Nat)) (r : Env × Heap × List Heap) : Option Res := if chkD C r.1 r.2.2 e ops st = true then some (.normal, r.1, r.2.1) else none
theorem chkR_le {C C' : Cl} (hc : CLe C C') (e : Env) (ops : List AOper) (st : List (Nat × Nat)) (r : Env × Heap × List Heap) : ole (chkR C e ops st r) (chkR C' e ops st r) := by
  intro x hx
  unfold chkR at hx ⊢
  split at hx
  · rename_i h
    rw [if_pos (chkD_le hc _ _ _ _ _ h)]
    exact hx
  · cases hx
theorem aloop_le {b b' : Env → Heap → Option Res} (hb : ∀ e h, ole (b e h) (b' e h)) (keep : List Nat) (gc : Bool) (m : Nat) : ∀ (n n' : Nat) (e : Env) (h : Heap), n ≤ n' → ole (aloop b keep gc m n e h) (aloop b' keep gc m n' e h)
  | 0, n', e, h, _ => fun r hr => by simp [aloop] at hr
  | n + 1, 0, e, h, hn => by omega
  | n + 1, n' + 1, e, h, hn => by
    simp only [aloop]
    refine (ole.refl _).bind fun p => (hb _ _).bind fun q => ?_
    split
    · exact aloop_le hb keep gc m n n' _ _ (by omega)
    · exact ole.refl _
theorem aexec_le {C C' : Cl} (hc : CLe C C') {n n' : Nat} (hn : n ≤ n') : ∀ (c : AC) (e : Env) (h : Heap), ole (aexec C n c e h) (aexec C' n' c e h)
  | .skip, e, h => ole.refl _
  | .reg ops, e, h => (aops_le hc _ _ _).map
  | .regQ ops, e, h => (aopsQ_le hc _ _ _).map
  | .regD ops st, e, h => (runD_le hc _ _ _ _).bind fun r => chkR_le hc e ops st r
  | .seq a b, e, h => by
    simp only [aexec]
    refine (aexec_le hc hn a e h).bind fun p => ?_
    split
    · exact aexec_le hc hn b _ _
    · exact ole.refl _
  | .cond c a b, e, h => by
    simp only [aexec]
    split
    · exact aexec_le hc hn a e h
    · exact aexec_le hc hn b e h
    · exact ole.refl _
  | .block id b, e, h => (aexec_le hc hn b e h).map
  | .loop keep gc b, e, h => by
    simp only [aexec]
    exact aloop_le (fun e h => aexec_le hc hn b e h) _ _ _ _ _ _ _ hn
  | .exit id, e, h => ole.refl _
  | .scope b, e, h => aexec_le hc hn b e h
  | .ret, e, h => ole.refl _
theorem pcall_le {g g' : List AV → Option AV} (hg : ∀ a, ole (g a) (g' a)) (args : List AV) (h : Heap) : ole (pcall g args h) (pcall g' args h) := by
  unfold pcall
  refine (ole.refl _).bind fun p => (hg _).bind fun v => ole.refl _
theorem gcall_le (T : Tab) : ∀ n, CLe ⟨gcall T n, T.pure⟩ ⟨gcall T (n + 1), T.pure⟩
  | 0 => ⟨rfl, fun f args h r hr => by simp [gcall] at hr⟩
  | n + 1 => ⟨rfl, fun f args h => by
    have ih := gcall_le T n
    simp only [gcall]
    split
    · exact ole.refl _
    · split
      · exact ole.refl _
      · split
        · split
          · exact pcall_le (fun a => ((aexec_le ih (Nat.le_succ n) _ _ _).bind fun _ => ole.refl _).bind fun _ => ole.refl _) _ _
          · exact (aexec_le ih (Nat.le_succ n) _ _ _).bind fun _ => ole.refl _
        · exact ole.refl _⟩
/-! ### limits -/
def Mono {α : Type} (p : Nat → Option α) : Prop := ∀ n, ole (p n) (p (n + 1))
theorem Mono.le {α : Type} {p : Nat → Option α} (h : Mono p) {n m : Nat} (hn : n ≤ m) : ole (p n) (p m) := by
  obtain ⟨d, rfl⟩ := Nat.exists_eq_add_of_le hn
  induction d with
  | zero => exact ole.refl _
  | succ d ih => exact (ih (by omega)).trans (h _)
open Classical in
noncomputable def lim {α : Type} (p : Nat → Option α) : Option α := if h : ∃ r, ∃ n, p n = some r then some (Classical.choose h) else none
theorem lim_iff {α : Type} {p : Nat → Option α} (h : Mono p) {r : α} : lim p = some r ↔ ∃ n, p n = some r := by
  unfold lim
  constructor
  · intro hl
    split at hl
    · rename_i hx
      have := Classical.choose_spec hx
      cases hl
      exact this
    · cases hl
  · rintro ⟨n, hn⟩
    have hx : ∃ r, ∃ n, p n = some r := ⟨r, n, hn⟩
    rw [dif_pos hx]
    obtain ⟨m, hm⟩ := Classical.choose_spec hx
    have h1 := h.le (Nat.le_max_left n m) _ hn
    have h2 := h.le (Nat.le_max_right n m) _ hm
    rw [h1] at h2
    exact h2.symm
theorem opt_ext {α : Type} {a b : Option α} (h : ∀ r, a = some r ↔ b = some r) : a = b := by
  cases a with
  | none => cases b with
    | none => rfl
    | some y => exact absurd ((h y).2 rfl) (by simp)
  | some x => exact ((h x).1 rfl).symm
theorem lim_const {α : Type} (a : Option α) : lim (fun _ => a) = a := opt_ext fun r => by
  rw [lim_iff (fun _ => ole.refl _)]
  exact ⟨fun ⟨_, h⟩ => h, fun h => ⟨0, h⟩⟩
theorem lim_bind {α β : Type} {p : Nat → Option α} {q : Nat → α → Option β} (hp : Mono p) (hq : ∀ a, Mono fun n => q n a) : lim (fun n => (p n).bind (q n)) = (lim p).bind fun a => lim fun n => q n a := opt_ext fun r => by
  rw [lim_iff (fun n => (hp n).bind fun a => hq a n), Option.bind_eq_some_iff]
  constructor
  · rintro ⟨n, hn⟩
    rw [Option.bind_eq_some_iff] at hn
    obtain ⟨a, h1, h2⟩ := hn
    exact ⟨a, (lim_iff hp).2 ⟨n, h1⟩, (lim_iff (hq a)).2 ⟨n, h2⟩⟩
  · rintro ⟨a, h1, h2⟩
    obtain ⟨n, h1⟩ := (lim_iff hp).1 h1
    obtain ⟨m, h2⟩ := (lim_iff (hq a)).1 h2
    refine ⟨max n m, ?_⟩
    rw [Option.bind_eq_some_iff]
    exact ⟨a, hp.le (Nat.le_max_left n m) _ h1, (hq a).le (Nat.le_max_right n m) _ h2⟩
theorem lim_map {α β : Type} {p : Nat → Option α} {f : α → β} (hp : Mono p) : lim (fun n => (p n).map f) = (lim p).map f := by
  have := lim_bind (q := fun _ a => some (f a)) hp (fun _ _ => ole.refl _)
  simp only [lim_const] at this
  have e : ∀ o : Option α, o.map f = o.bind fun a => some (f a) := fun o => by cases o <;> rfl
  simp only [e]
  exact this
theorem lim_sand {α : Type} {p q : Nat → Option α} (hp : Mono p) (hq : Mono q) (h1 : ∀ n, ole (p n) (q n)) (h2 : ∀ n, ole (q n) (p (n + 1))) : lim p = lim q := opt_ext fun r => by
  rw [lim_iff hp, lim_iff hq]
  exact ⟨fun ⟨n, h⟩ => ⟨n, h1 n r h⟩, fun ⟨n, h⟩ => ⟨n + 1, h2 n r h⟩⟩
section
variable (T : Tab)
abbrev Cn (n : Nat) : Cl := ⟨gcall T n, T.pure⟩
/-- the machine's call -/
noncomputable def ag (f : Nat) (args : List AV) (h : Heap) : Option (AV × Heap) := lim fun n => gcall T n f args h
noncomputable abbrev Cω : Cl := ⟨ag T, T.pure⟩
/-- the machine's run of code -/
noncomputable def ax (c : AC) (e : Env) (h : Heap) : Option Res := lim fun n => aexec (Cn T n) n c e h
noncomputable def axl (keep : List Nat) (gc : Bool) (b : AC) (m : Nat) (e : Env) (h : Heap) : Option Res := lim fun n => aloop (aexec (Cn T n) n b) keep gc m n e h
variable {T : Tab}
theorem aop_lim (o : AOp) (e : Env) (h : Heap) : lim (fun n => aop (Cn T n) o e h) = aop (Cω T) o e h := by
  cases o
  case call f args =>
    simp only [aop]
    split
    · rfl
    · exact lim_const _
  all_goals exact lim_const _
theorem mono_aop (o : AOp) (e : Env) (h : Heap) : Mono fun n => aop (Cn T n) o e h := fun n => aop_le (gcall_le T n) o e h
theorem aops_lim : ∀ (l : List AOper) (e : Env) (h : Heap), lim (fun n => aops (Cn T n) l e h) = aops (Cω T) l e h
  | [], e, h => lim_const _
  | o :: r, e, h => by
    simp only [aops]
    cases wantE o.guard e with
    | none => exact lim_const _
    | some w =>
      simp only [Option.bind_some]
      cases w with
      | true =>
        simp only [if_true]
        rw [lim_bind (q := fun n (p : AV × Heap) => aops (Cn T n) r (setE e o.dst p.1) p.2) (mono_aop _ _ _) (fun p n => aops_le (gcall_le T n) _ _ _), aop_lim]
        congr 1
        funext p
        exact aops_lim r _ _
      | false => exact aops_lim r _ _
theorem quietV_lim (o : AOp) (e : Env) (h : Heap) : lim (fun n => quietV (Cn T n) o e h) = quietV (Cω T) o e h := by
  unfold quietV
  split
  · rw [lim_map (mono_aop _ _ _), aop_lim]
  · split
    · rw [lim_bind (q := fun _ (p : AV × Heap) => if rigid p.1 = true then some p.1 else none) (mono_aop _ _ _) (fun _ _ => ole.refl _), aop_lim]
      simp only [lim_const]
    · rw [lim_bind (q := fun _ (p : AV × Heap) => if rigid p.1 = true then some p.1 else none) (mono_aop _ _ _) (fun _ _ => ole.refl _), aop_lim]
      simp only [lim_const]
    · split
      · split
        · rw [lim_bind (q := fun _ (p : AV × Heap) => if rigid p.1 = true then some p.1 else none) (mono_aop _ _ _) (fun _ _ => ole.refl _), aop_lim]
          simp only [lim_const]
        · exact lim_const _
      · exact lim_const _
    · exact lim_const _
theorem aopsQ_lim : ∀ (l : List AOper) (e : Env) (h : Heap), lim (fun n => aopsQ (Cn T n) l e h) = aopsQ (Cω T) l e h
  | [], e, h => lim_const _
  | o :: r, e, h => by
    simp only [aopsQ]
    cases wantE o.guard e with
    | none => exact lim_const _
    | some w =>
      simp only [Option.bind_some]
      cases w with
      | true =>
        simp only [if_true]
        rw [lim_bind (q := fun n (p : AV) => aopsQ (Cn T n) r (setE e o.dst p) h) (fun n => quietV_le (gcall_le T n) _ _ _) (fun p n => aopsQ_le (gcall_le T n) _ _ _), quietV_lim]
        congr 1
        funext p
        exact aopsQ_lim r _ _
      | false => exact aopsQ_lim r _ _
theorem mono_ax (c : AC) (e : Env) (h : Heap) : Mono fun n => aexec (Cn T n) n c e h := fun n => aexec_le (gcall_le T n) (Nat.le_succ n) c e h
@[simp] theorem ax_skip (e : Env) (h : Heap) : ax T .skip e h = some (.normal, e, h) := lim_const _
@[simp] theorem ax_reg (ops : List AOper) (e : Env) (h : Heap) : ax T (.reg ops) e h = (aops (Cω T) ops e h).map fun (e, h) => (.normal, e, h) := by
  unfold ax
  simp only [aexec]
  rw [lim_map (fun n => aops_le (gcall_le T n) _ _ _), aops_lim]
@[simp] theorem ax_regQ (ops : List AOper) (e : Env) (h : Heap) : ax T (.regQ ops) e h = (aopsQ (Cω T) ops e h).map fun e => (.normal, e, h) := by
  unfold ax
  simp only [aexec]
  rw [lim_map (fun n => aopsQ_le (gcall_le T n) _ _ _), aopsQ_lim]
theorem runD_lim : ∀ (l : List AOper) (e : Env) (h : Heap) (hs : List Heap), lim (fun n => runD (Cn T n) l e h hs) = runD (Cω T) l e h hs
  | [], e, h, hs => lim_const _
  | o :: r, e, h, hs => by
    simp only [runD]
    cases wantE o.guard e with
    | none => exact lim_const _
    | some w =>
      simp only [Option.bind_some]
      cases w with
      | true =>
        simp only [if_true]
        rw [lim_bind (q := fun n (p : AV × Heap) => runD (Cn T n) r (setE e o.dst p.1) p.2 (grow o.op h hs)) (mono_aop _ _ _) (fun p n => runD_le (gcall_le T n) _ _ _ _), aop_lim]
        congr 1
        funext p
        exact runD_lim r _ _ _
      | false => exact runD_lim r _ _ _
theorem chkV_lim (d : Option Nat) (e e' : Env) (o : AOp) (h : Heap) : chkV (aop (Cω T) o e h) d e' = true ↔ ∃ n, chkV (aop (Cn T n) o e h) d e' = true := by
  have hl := aop_lim (T := T) o e h
  constructor
  · intro hx
    cases hq : aop (Cω T) o e h with
    | none => rw [hq] at hx; simp [chkV] at hx
    | some p =>
      rw [hq] at hx hl
      obtain ⟨n, hn⟩ := (lim_iff (mono_aop o e h)).1 hl
      exact ⟨n, by rw [hn]; exact hx⟩
  · rintro ⟨n, hx⟩
    cases hq : aop (Cn T n) o e h with
    | none => rw [hq] at hx; simp [chkV] at hx
    | some p =>
      have := (lim_iff (mono_aop o e h)).2 ⟨n, hq⟩
      rw [hl] at this
      rw [this]
      rw [hq] at hx
      exact hx
theorem chkO_lim (e e' : Env) (o : AOper) : ∀ (l : List Heap), chkO (Cω T) e e' o l = true ↔ ∃ n, chkO (Cn T n) e e' o l = true
  | [] => ⟨fun _ => ⟨0, rfl⟩, fun _ => rfl⟩
  | h :: l => by
    simp only [chkO, Bool.and_eq_true, chkV_lim, chkO_lim e e' o l]
    constructor
    · rintro ⟨⟨n, h1⟩, m, h2⟩
      refine ⟨max n m, ?_, ?_⟩
      · have le : ∀ d, chkV (aop (Cn T (n + d)) o.op e h) o.dst e' = true := by
          intro d
          induction d with
          | zero => exact h1
          | succ d ih =>
            cases hq : aop (Cn T (n + d)) o.op e h with
            | none => rw [hq] at ih; simp [chkV] at ih
            | some p =>
              rw [show n + (d + 1) = n + d + 1 by omega, aop_le (gcall_le T (n + d)) _ _ _ p hq]
              rw [hq] at ih
              exact ih
        have := le (max n m - n)
        rwa [show n + (max n m - n) = max n m by omega] at this
      · have le : ∀ d, chkO (Cn T (m + d)) e e' o l = true := by
          intro d
          induction d with
          | zero => exact h2
          | succ d ih => exact chkO_le (gcall_le T (m + d)) e e' o l ih
        have := le (max n m - m)
        rwa [show m + (max n m - m) = max n m by omega] at this
    · rintro ⟨n, h1, h2⟩
      exact ⟨⟨n, h1⟩, n, h2⟩
theorem chkD_lim (e' : Env) (hs : List Heap) : ∀ (e : Env) (l : List AOper) (st : List (Nat × Nat)), chkD (Cω T) e' hs e l st = true ↔ ∃ n, chkD (Cn T n) e' hs e l st = true
  | _, [], _ => by simp [chkD]
  | _, _ :: _, [] => by simp [chkD]
  | e, o :: r, (lo, hi) :: s => by
    have up : ∀ m d, chkD (Cn T m) e' hs (nxE e e' o.dst) r s = true → chkD (Cn T (m + d)) e' hs (nxE e e' o.dst) r s = true := by
      intro m d h
      induction d with
      | zero => exact h
      | succ d ih => exact chkD_le (gcall_le T (m + d)) _ _ _ _ _ ih
    have upO : ∀ (l : List Heap) m d, chkO (Cn T m) e e' o l = true → chkO (Cn T (m + d)) e e' o l = true := by
      intro l m d h
      induction d with
      | zero => exact h
      | succ d ih => exact chkO_le (gcall_le T (m + d)) e e' o l ih
    simp only [chkD, Bool.and_eq_true, chkD_lim e' hs _ r s]
    split
    · cases hw : wantE o.guard e with
      | none => simp [chkW]
      | some w =>
        cases w with
        | false => simp [chkW]
        | true =>
          simp only [chkW, chkO_lim]
          constructor
          · rintro ⟨⟨n, h1⟩, m, h2⟩
            refine ⟨max n m, ?_, ?_⟩
            · have := upO _ n (max n m - n) h1
              rwa [show n + (max n m - n) = max n m by omega] at this
            · have := up m (max n m - m) h2
              rwa [show m + (max n m - m) = max n m by omega] at this
          · rintro ⟨n, h1, h2⟩
            exact ⟨⟨n, h1⟩, n, h2⟩
    · simp
theorem chkR_lim (e : Env) (ops : List AOper) (st : List (Nat × Nat)) (r : Env × Heap × List Heap) : lim (fun n => chkR (Cn T n) e ops st r) = chkR (Cω T) e ops st r := opt_ext fun x => by
  rw [lim_iff (fun n => chkR_le (gcall_le T n) e ops st r)]
  unfold chkR
  constructor
  · rintro ⟨n, hx⟩
    split at hx
    · rename_i hc
      rw [if_pos ((chkD_lim _ _ _ _ _).2 ⟨n, hc⟩)]
      exact hx
    · cases hx
  · intro hx
    split at hx
    · rename_i hc
      obtain ⟨n, hn⟩ := (chkD_lim _ _ _ _ _).1 hc
      exact ⟨n, by rw [if_pos hn]; exact hx⟩
    · cases hx
theorem ax_regD (ops : List AOper) (st : List (Nat × Nat)) (e : Env) (h : Heap) : ax T (.regD ops st) e h = (runD (Cω T) ops e h []).bind (chkR (Cω T) e ops st) := by
  unfold ax
  have : (fun n => aexec (Cn T n) n (.regD ops st) e h) = fun n => (runD (Cn T n) ops e h []).bind (chkR (Cn T n) e ops st) := by
    funext n
    simp only [aexec]
    rfl
  rw [this, lim_bind (fun n => runD_le (gcall_le T n) _ _ _ _) (fun r n => chkR_le (gcall_le T n) e ops st r), runD_lim]
  congr 1
  funext r
  exact chkR_lim e ops st r
def nextR (k : Env → Heap → Option Res) : Res → Option Res
  | (.normal, e, h) => k e h
  | x => some x
@[simp] theorem nextR_normal (k : Env → Heap → Option Res) (e : Env) (h : Heap) : nextR k (.normal, e, h) = k e h := rfl
@[simp] theorem nextR_ret (k : Env → Heap → Option Res) (e : Env) (h : Heap) : nextR k (.ret, e, h) = some (.ret, e, h) := rfl
@[simp] theorem nextR_exit (k : Env → Heap → Option Res) (i : Nat) (e : Env) (h : Heap) : nextR k (.exit i, e, h) = some (.exit i, e, h) := rfl
theorem nextR_le {k k' : Env → Heap → Option Res} (hk : ∀ e h, ole (k e h) (k' e h)) (x : Res) : ole (nextR k x) (nextR k' x) := by
  obtain ⟨x, e, h⟩ := x
  cases x
  · exact hk e h
  · exact ole.refl _
  · exact ole.refl _
theorem nextR_lim {k : Nat → Env → Heap → Option Res} (x : Res) : lim (fun n => nextR (k n) x) = nextR (fun e h => lim fun n => k n e h) x := by
  obtain ⟨x, e, h⟩ := x
  cases x
  · rfl
  · exact lim_const _
  · exact lim_const _
@[simp] theorem ax_seq (a b : AC) (e : Env) (h : Heap) : ax T (.seq a b) e h = (ax T a e h).bind (nextR (ax T b)) := by
  unfold ax
  rw [show (fun n => aexec (Cn T n) n (.seq a b) e h) = fun n => (aexec (Cn T n) n a e h).bind (nextR (aexec (Cn T n) n b)) from by
    funext n
    simp only [aexec]
    congr 1
    funext ⟨x, e, h⟩
    cases x <;> rfl]
  rw [lim_bind (mono_ax _ _ _) (fun x n => nextR_le (fun e h => mono_ax b e h n) x)]
  congr 1
  funext x
  exact nextR_lim x
@[simp] theorem ax_cond (c : Opd) (a b : AC) (e : Env) (h : Heap) : ax T (.cond c a b) e h = match evO e c with
    | .sc (.bool true) => ax T a e h
    | .sc (.bool false) => ax T b e h
    | _ => none := by
  unfold ax
  simp only [aexec]
  split
  · rename_i hq; simp only [hq]
  · rename_i hq; simp only [hq]
  · rename_i h1 h2
    rw [lim_const]
    split
    · exact absurd (by assumption) h1
    · exact absurd (by assumption) h2
    · rfl
@[simp] theorem ax_block (id : Nat) (b : AC) (e : Env) (h : Heap) : ax T (.block id b) e h = (ax T b e h).map fun (x, e, h) => (outOf id x, e, h) := by
  unfold ax
  simp only [aexec]
  rw [lim_map (mono_ax _ _ _)]
@[simp] theorem ax_loop (keep : List Nat) (gc : Bool) (b : AC) (e : Env) (h : Heap) : ax T (.loop keep gc b) e h = axl T keep gc b h.length e h := rfl
@[simp] theorem ax_exit (id : Nat) (e : Env) (h : Heap) : ax T (.exit id) e h = some (.exit id, e, h) := lim_const _
@[simp] theorem ax_scope (b : AC) (e : Env) (h : Heap) : ax T (.scope b) e h = ax T b e h := rfl
@[simp] theorem ax_ret (e : Env) (h : Heap) : ax T .ret e h = some (.ret, e, h) := lim_const _
theorem axl_eq (keep : List Nat) (gc : Bool) (b : AC) (m : Nat) (e : Env) (h : Heap) : axl T keep gc b m e h = (trim keep gc m e h).bind fun p => (ax T b p.1 p.2).bind (nextR (axl T keep gc b m)) := by
  have step : ∀ (c : Env → Heap → Option Res) (n : Nat) (e : Env) (h : Heap), aloop c keep gc m (n + 1) e h = (trim keep gc m e h).bind fun p => (c p.1 p.2).bind (nextR (aloop c keep gc m n)) := by
    intro c n e h
    simp only [aloop]
    congr 1
    funext p
    congr 1
    funext ⟨x, e, h⟩
    cases x <;> rfl
  have bl : ∀ n e h, ole (aexec (Cn T n) n b e h) (aexec (Cn T (n + 1)) (n + 1) b e h) := fun n e h => mono_ax b e h n
  have m1 : ∀ e h, Mono fun n => aloop (aexec (Cn T n) n b) keep gc m n e h := fun e h n => aloop_le (bl n) _ _ _ _ _ _ _ (Nat.le_succ n)
  have m2 : ∀ e h, Mono fun n => aloop (aexec (Cn T (n + 1)) (n + 1) b) keep gc m n e h := fun e h n => aloop_le (bl (n + 1)) _ _ _ _ _ _ _ (Nat.le_succ n)
  have m3 : Mono fun n => aloop (aexec (Cn T (n + 1)) (n + 1) b) keep gc m (n + 1) e h := fun n => m1 e h (n + 1)
  have e2 : ∀ e h, lim (fun n => aloop (aexec (Cn T (n + 1)) (n + 1) b) keep gc m n e h) = axl T keep gc b m e h := fun e h => (lim_sand (m1 e h) (m2 e h) (fun n => aloop_le (bl n) _ _ _ _ _ _ _ (Nat.le_refl n)) (fun n => aloop_le (fun _ _ => ole.refl _) _ _ _ _ _ _ _ (Nat.le_succ n))).symm
  have e1 : axl T keep gc b m e h = lim fun n => aloop (aexec (Cn T (n + 1)) (n + 1) b) keep gc m (n + 1) e h := lim_sand (m1 e h) m3 (fun n => m1 e h n) (fun n => ole.refl _)
  rw [e1]
  simp only [step]
  cases htr : trim keep gc m e h with
  | none => exact lim_const _
  | some p =>
  simp only [Option.bind_some]
  rw [lim_bind (q := fun n x => nextR (aloop (aexec (Cn T (n + 1)) (n + 1) b) keep gc m n) x) (fun n => bl (n + 1) _ _) (fun x n => nextR_le (fun e h => m2 e h n) x)]
  have e3 : lim (fun n => aexec (Cn T (n + 1)) (n + 1) b p.1 p.2) = ax T b p.1 p.2 := (lim_sand (mono_ax b p.1 p.2) (fun n => bl (n + 1) _ _) (fun n => bl n _ _) (fun n => ole.refl _)).symm
  rw [e3]
  congr 1
  funext x
  rw [nextR_lim]
  congr 1
  funext e h
  exact e2 e h
/-- a run of a body that makes all for itself -/
noncomputable def prun (T : Tab) (F : AFn) (a : List AV) : Option AV := ((ax T F.body (initE 0 a) []).bind (finish F)).bind fun (v, h) => freeze h v
theorem mono_gcall (f : Nat) (args : List AV) (h : Heap) : Mono fun n => gcall T n f args h := fun n => (gcall_le T n).call f args h
theorem ag_shift (f : Nat) (args : List AV) (h : Heap) : ag T f args h = lim fun n => gcall T (n + 1) f args h :=
  lim_sand (mono_gcall f args h) (fun n => mono_gcall f args h (n + 1)) (fun n => mono_gcall f args h n) (fun n => ole.refl _)
theorem ag_pure {f : Nat} {F : AFn} (hx : T.ext f = none) (hf : T.fn f = some F) (hp : F.pure = true) (args : List AV) (hl : args.length = F.np) (h : Heap) : ag T f args h = pcall (prun T F) args h := by
  rw [ag_shift]
  simp only [gcall, hx, hf, if_pos hl, hp, if_true]
  unfold pcall
  cases prep h args with
  | none => exact lim_const _
  | some p =>
  simp only [Option.bind_some]
  rw [lim_bind (q := fun _ v => if p.2 then (if rigid v then some (v, h) else none) else some (adopt v h)) (fun n => ((mono_ax _ _ _ n).bind fun _ => ole.refl _).bind fun _ => ole.refl _) (fun _ _ => ole.refl _)]
  simp only [lim_const]
  congr 1
  unfold prun
  rw [lim_bind (q := fun _ (p : AV × Heap) => freeze p.2 p.1) (fun n => (mono_ax _ _ _ n).bind fun _ => ole.refl _) (fun _ _ => ole.refl _)]
  simp only [lim_const]
  congr 1
  rw [lim_bind (q := fun _ x => finish F x) (mono_ax _ _ _) (fun _ _ => ole.refl _)]
  simp only [lim_const]
  rfl
theorem ag_gen {f : Nat} {F : AFn} (hx : T.ext f = none) (hf : T.fn f = some F) (hp : F.pure = false) (args : List AV) (hl : args.length = F.np) (h : Heap) : ag T f args h = (ax T F.body (initE 0 args) h).bind (finish F) := by
  rw [ag_shift]
  simp only [gcall, hx, hf, if_pos hl, hp, Bool.false_eq_true, if_false]
  rw [lim_bind (q := fun _ x => finish F x) (mono_ax _ _ _) (fun _ _ => ole.refl _)]
  simp only [lim_const]
  rfl
theorem ag_ext {f : Nat} {g : List AV → Option AV} (hx : T.ext f = some g) (args : List AV) (h : Heap) : ag T f args h = pcall g args h := by
  rw [ag_shift]
  simp only [gcall, hx]
  exact lim_const _
theorem ag_nat {f : Nat} {g : List AV → Heap → Option (AV × Heap)} (hx : T.ext f = none) (hf : T.fn f = none) (hn : T.nat f = some g) (args : List AV) (h : Heap) : ag T f args h = g args h := by
  rw [ag_shift]
  simp only [gcall, hx, hf, hn, Option.bind_some]
  exact lim_const _
theorem gcall_of_ag {f : Nat} {args : List AV} {h : Heap} {r : AV × Heap} (hr : ag T f args h = some r) : ∃ n, gcall T n f args h = some r := (lim_iff (mono_gcall f args h)).1 hr
theorem ag_of_gcall {f : Nat} {args : List AV} {h : Heap} {r : AV × Heap} {n : Nat} (hr : gcall T n f args h = some r) : ag T f args h = some r := (lim_iff (mono_gcall f args h)).2 ⟨n, hr⟩
end
end Go.Proofs.Ytpnkldjbiinnpaa.AM
