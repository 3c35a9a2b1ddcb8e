import Derived.Test.YtpnkldjbiinnpaaAm12
/- The plain machine's operations, in one law; regions. -/
namespace Go.Proofs.Ytpnkldjbiinnpaa.AM
open Go Go.RowKit
set_option linter.unusedVariables false
set_option linter.unusedSimpArgs false
section
variable {P : Program} {E : Env0} {o : Oper} {C : Cl} {e : Env} {h h' : Heap} {v : AV} {S : St} {B : Nat} {W : World} {a : Act}
/-- operations that touch no memory -/
theorem op_still {x : AOp} (hc : compOp P E o = some x) (hst : x.still = true) (hx : aop C x e h = some (v, h')) (r : Rel S h B W) (he : EnvR S e a E.nt) (hg : GlobOK E.gl S.imm) : h' = h ∧ ExS P o a S v := by
  cases hop : o.op <;> simp only [compOp, hop] at hc
  case move y =>
    split at hc
    · cases hc; cases hst
    · simp only [Option.map_eq_some_iff] at hc
      obtain ⟨y', h1, rfl⟩ := hc
      simp only [aop] at hx
      cases hx
      exact ⟨rfl, ex_move (.inl hop) h1 r he hg⟩
  case assign y =>
    split at hc
    · cases hc; cases hst
    · simp only [Option.map_eq_some_iff] at hc
      obtain ⟨y', h1, rfl⟩ := hc
      simp only [aop] at hx
      cases hx
      exact ⟨rfl, ex_move (.inr hop) h1 r he hg⟩
  case pick c p q =>
    simp only [Option.bind_eq_some_iff, Option.map_eq_some_iff] at hc
    obtain ⟨c', h1, p', h2, q', h3, rfl⟩ := hc
    exact ex_pick hop h1 h2 h3 hx r he hg
  case alloc t =>
    simp only [Option.bind_eq_some_iff] at hc
    obtain ⟨z, h1, h2⟩ := hc
    split at h2 <;> cases h2
    cases hst
  case box t y =>
    simp only [Option.map_eq_some_iff] at hc
    obtain ⟨y', h1, rfl⟩ := hc
    cases hst
  case build t parts =>
    simp only [Option.bind_eq_some_iff] at hc
    obtain ⟨z, hz, u, hu, hc⟩ := hc
    split at hc
    · rename_i fs
      split at hc
      · rename_i hall
        simp only [Option.map_eq_some_iff] at hc
        obtain ⟨ps, h1, rfl⟩ := hc
        exact ex_build hop hz hu (.inl ⟨fs, rfl, hall, h1⟩) hx r he hg
      · cases hc
    · rename_i n el
      simp only [Option.bind_eq_some_iff, Option.map_eq_some_iff] at hc
      obtain ⟨i, hi, ps, h1, rfl⟩ := hc
      exact ex_build hop hz hu (.inr ⟨n, el, i, rfl, hi, h1⟩) hx r he hg
    · cases hc
  case buildSlice t len parts =>
    simp only [Option.bind_eq_some_iff] at hc
    obtain ⟨u, hu, hc⟩ := hc
    split at hc
    · simp only [Option.bind_eq_some_iff] at hc
      obtain ⟨k, hk, z, hz, i, hi, hc⟩ := hc
      split at hc
      · simp only [Option.map_eq_some_iff] at hc
        obtain ⟨ps, h1, rfl⟩ := hc
        cases hst
      · cases hc
    · cases hc
  case load t y =>
    simp only [Option.bind_eq_some_iff, Option.map_eq_some_iff] at hc
    obtain ⟨k, hk, y', h1, rfl⟩ := hc
    cases hst
  case store t y z =>
    simp only [Option.bind_eq_some_iff, Option.map_eq_some_iff] at hc
    obtain ⟨i, hi, y', h1, z', h2, rfl⟩ := hc
    cases hst
  case nilCheck y =>
    simp only [Option.map_eq_some_iff] at hc
    obtain ⟨y', h1, rfl⟩ := hc
    exact ex_nilCheck hop h1 hx r he hg
  case binOp op t p q ty =>
    simp only [Option.bind_eq_some_iff] at hc
    obtain ⟨u, hu, hc⟩ := hc
    split at hc
    · simp only [Option.bind_eq_some_iff, Option.map_eq_some_iff] at hc
      obtain ⟨p', h1, q', h2, rfl⟩ := hc
      exact ex_bin hop h1 h2 hx r he hg
    · have key : ∀ neg, ((op = .eql ∧ neg = false) ∨ (op = .neq ∧ neg = true)) → compEq P E neg t p q = some x → h' = h ∧ ExS P o a S v := by
        intro neg hneg hc
        simp only [compEq, Option.bind_eq_some_iff] at hc
        obtain ⟨u', hu', hc⟩ := hc
        split at hc
        · simp only [Option.bind_eq_some_iff, Option.map_eq_some_iff] at hc
          obtain ⟨p', h1, q', h2, rfl⟩ := hc
          exact ex_eqBool hop hu' hneg h1 h2 hx r he hg
        · simp only [Option.bind_eq_some_iff] at hc
          obtain ⟨ue, hue, i, hi, hc⟩ := hc
          split at hc
          · split at hc
            · rename_i hcond
              simp only [Option.bind_eq_some_iff, Option.map_eq_some_iff] at hc
              obtain ⟨p', h1, q', h2, rfl⟩ := hc
              exact ex_eqArr hop hu' hue hi hcond.1 hcond.2 hneg h1 h2 hx r he hg
            · cases hc
          · cases hc
        · simp only [Option.bind_eq_some_iff] at hc
          obtain ⟨k, hk, hc⟩ := hc
          split at hc
          · rename_i hn
            simp only [Option.map_eq_some_iff] at hc
            obtain ⟨p', h1, rfl⟩ := hc
            exact ex_eqNil hop hu' hk hneg (.inl ⟨hn, rfl⟩) h1 hx r he hg
          · split at hc
            · rename_i hn
              simp only [Option.map_eq_some_iff] at hc
              obtain ⟨p', h1, rfl⟩ := hc
              exact ex_eqNil hop hu' hk hneg (.inr ⟨hn, rfl⟩) h1 hx r he hg
            · cases hc
      split at hc
      · exact key false (.inl ⟨rfl, rfl⟩) hc
      · exact key true (.inr ⟨rfl, rfl⟩) hc
      · cases hc
  case unOp op t y =>
    simp only [Option.map_eq_some_iff] at hc
    obtain ⟨y', h1, rfl⟩ := hc
    exact ex_un hop h1 hx r he hg
  case convert s d y =>
    simp only [Option.bind_eq_some_iff] at hc
    obtain ⟨us, hus, ud, hud, hc⟩ := hc
    split at hc
    · simp only [Option.map_eq_some_iff] at hc
      obtain ⟨y', h1, rfl⟩ := hc
      exact ex_convInt hop hus hud h1 hx r he hg
    · simp only [Option.map_eq_some_iff] at hc
      obtain ⟨y', h1, rfl⟩ := hc
      exact ex_convSS hop hus hud h1 hx r he hg
    · simp only [Option.bind_eq_some_iff] at hc
      obtain ⟨ue, hue, hc⟩ := hc
      split at hc
      · simp only [Option.map_eq_some_iff] at hc
        obtain ⟨y', h1, rfl⟩ := hc
        cases hst
      · cases hc
    · simp only [Option.bind_eq_some_iff] at hc
      obtain ⟨ue, hue, hc⟩ := hc
      split at hc
      · simp only [Option.map_eq_some_iff] at hc
        obtain ⟨y', h1, rfl⟩ := hc
        cases hst
      · cases hc
    · cases hc
  case sliceToArrayPointer t y =>
    simp only [Option.bind_eq_some_iff] at hc
    obtain ⟨u, hu, hc⟩ := hc
    split at hc
    · simp only [Option.bind_eq_some_iff] at hc
      obtain ⟨k, hk, hc⟩ := hc
      split at hc
      · simp only [Option.map_eq_some_iff] at hc
        obtain ⟨y', h1, rfl⟩ := hc
        exact ex_toArr hop hu h1 hx r he hg
      · cases hc
    · cases hc
  case makeFunc fn first caps =>
    simp only [Option.bind_eq_some_iff, Option.map_eq_some_iff] at hc
    obtain ⟨p, h1, q, h2, rfl⟩ := hc
    exact ex_makeFunc hop h1 h2 hx r he hg
  case makeSlice t l c =>
    simp only [Option.bind_eq_some_iff] at hc
    obtain ⟨u, hu, hc⟩ := hc
    split at hc
    · simp only [Option.bind_eq_some_iff] at hc
      obtain ⟨k, hk, z, hz, i, hi, hc⟩ := hc
      split at hc
      · simp only [Option.bind_eq_some_iff, Option.map_eq_some_iff] at hc
        obtain ⟨p, h1, q, h2, rfl⟩ := hc
        cases hst
      · cases hc
    · cases hc
  case slice t y lo hi mx =>
    simp only [Option.bind_eq_some_iff] at hc
    obtain ⟨u, hu, y', h1, lo', h2, hi', h3, mx', h4, hc⟩ := hc
    split at hc
    · cases hc
      exact ex_slice hop hu (.inl ⟨rfl, rfl⟩) h1 h2 h3 h4 hx r he hg
    · simp only [Option.bind_eq_some_iff] at hc
      obtain ⟨k, hk, i, hi2, hc⟩ := hc
      split at hc
      · rename_i hs
        cases hc
        exact ex_slice hop hu (.inr (.inl ⟨_, i, rfl, rfl, hi2, hs⟩)) h1 h2 h3 h4 hx r he hg
      · cases hc
    · simp only [Option.bind_eq_some_iff] at hc
      obtain ⟨k, hk, i, hi2, hc⟩ := hc
      split at hc
      · rename_i hs
        cases hc
        exact ex_slice hop hu (.inr (.inr ⟨_, _, i, rfl, rfl, hi2, hs⟩)) h1 h2 h3 h4 hx r he hg
      · cases hc
    · cases hc
  case fieldAddr t y f =>
    simp only [Option.bind_eq_some_iff] at hc
    obtain ⟨u, hu, hc⟩ := hc
    split at hc
    · simp only [Option.bind_eq_some_iff] at hc
      obtain ⟨fd, hf, i, hi, hc⟩ := hc
      split at hc
      · cases hc
      · rename_i hs
        simp only [Option.map_eq_some_iff] at hc
        obtain ⟨y', h1, rfl⟩ := hc
        exact ex_fieldAddr hop hu hf hi hs h1 hx r he hg
    · cases hc
  case field t y f =>
    simp only [Option.bind_eq_some_iff] at hc
    obtain ⟨u, hu, hc⟩ := hc
    split at hc
    · simp only [Option.bind_eq_some_iff, Option.map_eq_some_iff] at hc
      obtain ⟨fd, hf, k, hk, y', h1, rfl⟩ := hc
      exact ex_field hop hu hf hk h1 hx r he hg
    · cases hc
  case indexAddr t y ix =>
    simp only [Option.bind_eq_some_iff] at hc
    obtain ⟨u, hu, y', h1, ix', h2, hc⟩ := hc
    split at hc
    · simp only [Option.bind_eq_some_iff] at hc
      obtain ⟨k, hk, i, hi, hc⟩ := hc
      split at hc
      · cases hc
        exact ex_indexAddr hop hu (.inl ⟨rfl, rfl⟩) hk h1 h2 hx r he hg
      · cases hc
    · simp only [Option.bind_eq_some_iff] at hc
      obtain ⟨k, hk, i, hi, hc⟩ := hc
      split at hc
      · cases hc
        exact ex_indexAddr hop hu (.inr ⟨_, rfl, rfl⟩) hk h1 h2 hx r he hg
      · cases hc
    · cases hc
  case index t y ix =>
    simp only [Option.bind_eq_some_iff] at hc
    obtain ⟨u, hu, y', h1, ix', h2, hc⟩ := hc
    split at hc
    · cases hc
      exact ex_indexStr hop hu h1 h2 hx r he hg
    · simp only [Option.bind_eq_some_iff] at hc
      obtain ⟨k, hk, i, hi, hc⟩ := hc
      split at hc
      · cases hc
        exact ex_index hop hu hk h1 h2 hx r he hg
      · cases hc
    · cases hc
  case extract t i =>
    simp only [Option.map_eq_some_iff] at hc
    obtain ⟨y', h1, rfl⟩ := hc
    exact ex_extract hop h1 hx r he hg
  case call c =>
    obtain ⟨callee, args, ts⟩ := c
    simp only at hc
    split at hc
    · simp only [Option.bind_eq_some_iff, Option.map_eq_some_iff] at hc
      obtain ⟨f, hf, l, hl, rfl⟩ := hc
      cases hst
    · rename_i b
      have hargs : ∀ l, args.toList = l → args = l.toArray := fun l hl => by rw [← hl]
      unfold compB at hc
      split at hc
      · rename_i y hy
        obtain rfl := hargs _ hy
        simp only [Option.bind_eq_some_iff] at hc
        obtain ⟨t, ht, u, hu, hc⟩ := hc
        split at hc
        · simp only [Option.map_eq_some_iff] at hc
          obtain ⟨y', h1, rfl⟩ := hc
          exact ex_lenT hop ht hu h1 hx r he hg
        · simp only [Option.map_eq_some_iff] at hc
          obtain ⟨y', h1, rfl⟩ := hc
          exact ex_len hop ht hu h1 hx r he hg
        · cases hc
          simp only [aop, evO] at hx
          cases hx
          exact ⟨rfl, ex_lenC hop ht (.inl ⟨_, hu⟩) r⟩
        · simp only [Option.bind_eq_some_iff] at hc
          obtain ⟨u2, hu2, hc⟩ := hc
          split at hc
          · cases hc
            simp only [aop, evO] at hx
            cases hx
            exact ⟨rfl, ex_lenC hop ht (.inr ⟨_, _, hu, hu2⟩) r⟩
          · cases hc
        · cases hc
      · simp only [Option.bind_eq_some_iff] at hc
        obtain ⟨t, ht, tx, htx, u, hu, ux, hux, hc⟩ := hc
        split at hc
        · cases hc
        · simp only [Option.bind_eq_some_iff] at hc
          obtain ⟨k, hk, i, hi, hc⟩ := hc
          split at hc
          · split at hc
            · simp only [Option.bind_eq_some_iff, Option.map_eq_some_iff] at hc
              obtain ⟨s', h1, x', h2, rfl⟩ := hc
              cases hst
            · cases hc
          · cases hc
        · cases hc
      · simp only [Option.bind_eq_some_iff] at hc
        obtain ⟨t, ht, u, hu, hc⟩ := hc
        split at hc
        · simp only [Option.bind_eq_some_iff] at hc
          obtain ⟨k, hk, i, hi, hc⟩ := hc
          split at hc
          · simp only [Option.bind_eq_some_iff, Option.map_eq_some_iff] at hc
            obtain ⟨s', h1, x', h2, rfl⟩ := hc
            cases hst
          · cases hc
        · cases hc
      · rename_i p q hy
        obtain rfl := hargs _ hy
        simp only [Option.bind_eq_some_iff, Option.map_eq_some_iff] at hc
        obtain ⟨p', h1, q', h2, rfl⟩ := hc
        exact ex_minmax hop (.inr ⟨rfl, rfl⟩) h1 h2 hx r he hg
      · rename_i p q hy
        obtain rfl := hargs _ hy
        simp only [Option.bind_eq_some_iff, Option.map_eq_some_iff] at hc
        obtain ⟨p', h1, q', h2, rfl⟩ := hc
        exact ex_minmax hop (.inl ⟨rfl, rfl⟩) h1 h2 hx r he hg
      · cases hc
    · cases hc
  all_goals cases hc
/-- all operations but calls -/
theorem op_sound {x : AOp} (hc : compOp P E o = some x) (hnc : ∀ f l, x ≠ .call f l) (hx : aop C x e h = some (v, h')) (r : Rel S h B W) (he : EnvR S e a E.nt) (hg : GlobOK E.gl S.imm) : ExOK P o a S h' v B W := by
  by_cases hst : x.still = true
  · exact ExS.ok (op_still hc hst hx r he hg) r
  cases hop : o.op <;> simp only [compOp, hop] at hc
  case move y =>
    split at hc
    · rename_i k heq
      cases hc
      exact ex_acc (.inl hop) rfl hx r
    · simp only [Option.map_eq_some_iff] at hc
      obtain ⟨y', h1, rfl⟩ := hc
      exact absurd rfl hst
  case assign y =>
    split at hc
    · rename_i k heq
      cases hc
      exact ex_acc (.inr hop) rfl hx r
    · simp only [Option.map_eq_some_iff] at hc
      obtain ⟨y', h1, rfl⟩ := hc
      exact absurd rfl hst
  case alloc t =>
    simp only [Option.bind_eq_some_iff] at hc
    obtain ⟨z, h1, h2⟩ := hc
    split at h2
    · rename_i hone
      cases h2
      exact ex_alloc hop h1 hone hx r
    · cases h2
  case box t y =>
    simp only [Option.map_eq_some_iff] at hc
    obtain ⟨y', h1, rfl⟩ := hc
    exact ex_box hop h1 hx r he hg
  case buildSlice t len parts =>
    simp only [Option.bind_eq_some_iff] at hc
    obtain ⟨u, hu, hc⟩ := hc
    split at hc
    · simp only [Option.bind_eq_some_iff] at hc
      obtain ⟨k, hk, z, hz, i, hi, hc⟩ := hc
      split at hc
      · rename_i hcond
        simp only [Option.map_eq_some_iff] at hc
        obtain ⟨ps, h1, rfl⟩ := hc
        obtain ⟨i', f1, f2, f3⟩ := kOf_size hk
        exact ex_buildSlice hop hu (by omega) hz hi hcond.1 hcond.2.1 hcond.2.2 h1 hx r he hg
      · cases hc
    · cases hc
  case load t y =>
    simp only [Option.bind_eq_some_iff, Option.map_eq_some_iff] at hc
    obtain ⟨k, hk, y', h1, rfl⟩ := hc
    exact ExR.ok (ex_load hop hk h1 hx r he hg) r
  case store t y z =>
    simp only [Option.bind_eq_some_iff, Option.map_eq_some_iff] at hc
    obtain ⟨i, hi, y', h1, z', h2, rfl⟩ := hc
    exact ex_store hop hi h1 h2 hx r he hg
  case convert s d y =>
    simp only [Option.bind_eq_some_iff] at hc
    obtain ⟨us, hus, ud, hud, hc⟩ := hc
    split at hc
    · simp only [Option.map_eq_some_iff] at hc
      obtain ⟨y', h1, rfl⟩ := hc
      exact absurd rfl hst
    · simp only [Option.map_eq_some_iff] at hc
      obtain ⟨y', h1, rfl⟩ := hc
      exact absurd rfl hst
    · simp only [Option.bind_eq_some_iff] at hc
      obtain ⟨ue, hue, hc⟩ := hc
      split at hc
      · simp only [Option.map_eq_some_iff] at hc
        obtain ⟨y', h1, rfl⟩ := hc
        exact ex_convBytes hop hus hud hue h1 hx r he hg
      · cases hc
    · simp only [Option.bind_eq_some_iff] at hc
      obtain ⟨ue, hue, hc⟩ := hc
      split at hc
      · simp only [Option.map_eq_some_iff] at hc
        obtain ⟨y', h1, rfl⟩ := hc
        exact ExR.ok (ex_convStr hop hus hue hud h1 hx r he hg) r
      · cases hc
    · cases hc
  case makeSlice t l c =>
    simp only [Option.bind_eq_some_iff] at hc
    obtain ⟨u, hu, hc⟩ := hc
    split at hc
    · simp only [Option.bind_eq_some_iff] at hc
      obtain ⟨k, hk, z, hz, i, hi, hc⟩ := hc
      split at hc
      · rename_i hcond
        simp only [Option.bind_eq_some_iff, Option.map_eq_some_iff] at hc
        obtain ⟨p, h1, q, h2, rfl⟩ := hc
        obtain ⟨i', f1, f2, f3⟩ := kOf_size hk
        have hz' : i.zero = some z := by simp only [zeroOf, Option.bind_eq_some_iff] at hz; obtain ⟨j, hj, hz⟩ := hz; rw [hi] at hj; cases hj; exact hz
        exact ex_makeSlice hop hu (by omega) hi hz' hcond.1 hcond.2.1 hcond.2.2 h1 h2 hx r he hg
      · cases hc
    · cases hc
  case call c =>
    obtain ⟨callee, args, ts⟩ := c
    simp only at hc
    split at hc
    · simp only [Option.bind_eq_some_iff, Option.map_eq_some_iff] at hc
      obtain ⟨f, hf, l, hl, rfl⟩ := hc
      exact absurd rfl (hnc _ _)
    · rename_i b
      have hargs : ∀ l, args.toList = l → args = l.toArray := fun l hl => by rw [← hl]
      unfold compB at hc
      split at hc
      · rename_i y hy
        simp only [Option.bind_eq_some_iff] at hc
        obtain ⟨t, ht, u, hu, hc⟩ := hc
        split at hc
        · simp only [Option.map_eq_some_iff] at hc; obtain ⟨y', h1, rfl⟩ := hc; exact absurd rfl hst
        · simp only [Option.map_eq_some_iff] at hc; obtain ⟨y', h1, rfl⟩ := hc; exact absurd rfl hst
        · cases hc; exact absurd rfl hst
        · simp only [Option.bind_eq_some_iff] at hc
          obtain ⟨u2, hu2, hc⟩ := hc
          split at hc
          · cases hc; exact absurd rfl hst
          · cases hc
        · cases hc
      · rename_i p q hy
        obtain rfl := hargs _ hy
        simp only [Option.bind_eq_some_iff] at hc
        obtain ⟨t, ht, tx, htx, u, hu, ux, hux, hc⟩ := hc
        split at hc
        · cases hc
        · rename_i el hni
          simp only [Option.bind_eq_some_iff] at hc
          obtain ⟨k, hk, i, hi, hc⟩ := hc
          split at hc
          · rename_i z hz
            split at hc
            · rename_i hcond
              simp only [Option.bind_eq_some_iff, Option.map_eq_some_iff] at hc
              obtain ⟨s', h1, x', h2, rfl⟩ := hc
              obtain ⟨i', f1, f2, f3⟩ := kOf_size hk
              exact ex_append hop ht htx hu hux (fun d hd => hni d hd) (by omega) hi hz hcond.1 hcond.2.1 hcond.2.2.1 hcond.2.2.2 h1 h2 hx r he hg
            · cases hc
          · cases hc
        · cases hc
      · rename_i p q hy
        obtain rfl := hargs _ hy
        simp only [Option.bind_eq_some_iff] at hc
        obtain ⟨t, ht, u, hu, hc⟩ := hc
        split at hc
        · simp only [Option.bind_eq_some_iff] at hc
          obtain ⟨k, hk, i, hi, hc⟩ := hc
          split at hc
          · rename_i hs
            simp only [Option.bind_eq_some_iff, Option.map_eq_some_iff] at hc
            obtain ⟨s', h1, x', h2, rfl⟩ := hc
            exact ex_copy hop ht hu hi hs h1 h2 hx r he hg
          · cases hc
        · cases hc
      · simp only [Option.bind_eq_some_iff, Option.map_eq_some_iff] at hc
        obtain ⟨p', h1, q', h2, rfl⟩ := hc
        exact absurd rfl hst
      · simp only [Option.bind_eq_some_iff, Option.map_eq_some_iff] at hc
        obtain ⟨p', h1, q', h2, rfl⟩ := hc
        exact absurd rfl hst
      · cases hc
    · cases hc
  -- the rest is still
  case pick c p q => simp only [Option.bind_eq_some_iff, Option.map_eq_some_iff] at hc; obtain ⟨c', h1, p', h2, q', h3, rfl⟩ := hc; exact absurd rfl hst
  case nilCheck y => simp only [Option.map_eq_some_iff] at hc; obtain ⟨y', h1, rfl⟩ := hc; exact absurd rfl hst
  case unOp op t y => simp only [Option.map_eq_some_iff] at hc; obtain ⟨y', h1, rfl⟩ := hc; exact absurd rfl hst
  case extract t i => simp only [Option.map_eq_some_iff] at hc; obtain ⟨y', h1, rfl⟩ := hc; exact absurd rfl hst
  case makeFunc fn first caps => simp only [Option.bind_eq_some_iff, Option.map_eq_some_iff] at hc; obtain ⟨p, h1, q, h2, rfl⟩ := hc; exact absurd rfl hst
  case build t parts =>
    simp only [Option.bind_eq_some_iff] at hc
    obtain ⟨z, hz, u, hu, hc⟩ := hc
    split at hc
    · split at hc
      · simp only [Option.map_eq_some_iff] at hc; obtain ⟨ps, h1, rfl⟩ := hc; exact absurd rfl hst
      · cases hc
    · simp only [Option.bind_eq_some_iff, Option.map_eq_some_iff] at hc; obtain ⟨i, hi, ps, h1, rfl⟩ := hc; exact absurd rfl hst
    · cases hc
  case binOp op t p q ty =>
    simp only [Option.bind_eq_some_iff] at hc
    obtain ⟨u, hu, hc⟩ := hc
    split at hc
    · simp only [Option.bind_eq_some_iff, Option.map_eq_some_iff] at hc; obtain ⟨p', h1, q', h2, rfl⟩ := hc; exact absurd rfl hst
    · have key : ∀ neg, compEq P E neg t p q ≠ some x := by
        intro neg hc
        simp only [compEq, Option.bind_eq_some_iff] at hc
        obtain ⟨u', hu', hc⟩ := hc
        split at hc
        · simp only [Option.bind_eq_some_iff, Option.map_eq_some_iff] at hc; obtain ⟨p', h1, q', h2, rfl⟩ := hc; exact absurd rfl hst
        · simp only [Option.bind_eq_some_iff] at hc
          obtain ⟨ue, hue, i, hi, hc⟩ := hc
          split at hc
          · split at hc
            · simp only [Option.bind_eq_some_iff, Option.map_eq_some_iff] at hc; obtain ⟨p', h1, q', h2, rfl⟩ := hc; exact absurd rfl hst
            · cases hc
          · cases hc
        · simp only [Option.bind_eq_some_iff] at hc
          obtain ⟨k, hk, hc⟩ := hc
          split at hc
          · simp only [Option.map_eq_some_iff] at hc; obtain ⟨p', h1, rfl⟩ := hc; exact absurd rfl hst
          · split at hc
            · simp only [Option.map_eq_some_iff] at hc; obtain ⟨p', h1, rfl⟩ := hc; exact absurd rfl hst
            · cases hc
      split at hc
      · exact absurd hc (key _)
      · exact absurd hc (key _)
      · cases hc
  case sliceToArrayPointer t y =>
    simp only [Option.bind_eq_some_iff] at hc
    obtain ⟨u, hu, hc⟩ := hc
    split at hc
    · simp only [Option.bind_eq_some_iff] at hc
      obtain ⟨k, hk, hc⟩ := hc
      split at hc
      · simp only [Option.map_eq_some_iff] at hc; obtain ⟨y', h1, rfl⟩ := hc; exact absurd rfl hst
      · cases hc
    · cases hc
  case slice t y lo hi mx =>
    simp only [Option.bind_eq_some_iff] at hc
    obtain ⟨u, hu, y', h1, lo', h2, hi', h3, mx', h4, hc⟩ := hc
    split at hc
    · cases hc; exact absurd rfl hst
    · simp only [Option.bind_eq_some_iff] at hc
      obtain ⟨k, hk, i, hi2, hc⟩ := hc
      split at hc <;> cases hc
      exact absurd rfl hst
    · simp only [Option.bind_eq_some_iff] at hc
      obtain ⟨k, hk, i, hi2, hc⟩ := hc
      split at hc <;> cases hc
      exact absurd rfl hst
    · cases hc
  case fieldAddr t y f =>
    simp only [Option.bind_eq_some_iff] at hc
    obtain ⟨u, hu, hc⟩ := hc
    split at hc
    · simp only [Option.bind_eq_some_iff] at hc
      obtain ⟨fd, hf, i, hi, hc⟩ := hc
      split at hc
      · cases hc
      · simp only [Option.map_eq_some_iff] at hc; obtain ⟨y', h1, rfl⟩ := hc; exact absurd rfl hst
    · cases hc
  case field t y f =>
    simp only [Option.bind_eq_some_iff] at hc
    obtain ⟨u, hu, hc⟩ := hc
    split at hc
    · simp only [Option.bind_eq_some_iff, Option.map_eq_some_iff] at hc; obtain ⟨fd, hf, k, hk, y', h1, rfl⟩ := hc; exact absurd rfl hst
    · cases hc
  case indexAddr t y ix =>
    simp only [Option.bind_eq_some_iff] at hc
    obtain ⟨u, hu, y', h1, ix', h2, hc⟩ := hc
    split at hc
    · simp only [Option.bind_eq_some_iff] at hc
      obtain ⟨k, hk, i, hi, hc⟩ := hc
      split at hc <;> cases hc
      exact absurd rfl hst
    · simp only [Option.bind_eq_some_iff] at hc
      obtain ⟨k, hk, i, hi, hc⟩ := hc
      split at hc <;> cases hc
      exact absurd rfl hst
    · cases hc
  case index t y ix =>
    simp only [Option.bind_eq_some_iff] at hc
    obtain ⟨u, hu, y', h1, ix', h2, hc⟩ := hc
    split at hc
    · cases hc; exact absurd rfl hst
    · simp only [Option.bind_eq_some_iff] at hc
      obtain ⟨k, hk, i, hi, hc⟩ := hc
      split at hc <;> cases hc
      exact absurd rfl hst
    · cases hc
  all_goals cases hc
end
end Go.Proofs.Ytpnkldjbiinnpaa.AM
