import Derived.Test.YtpnkldjbiinnpaaBzJ
/- bigsize's calls. -/
namespace Go.Proofs.Ytpnkldjbiinnpaa.AM
open Go
set_option maxRecDepth 100000
set_option maxHeartbeats 4000000
set_option linter.unusedSimpArgs false
set_option linter.unusedVariables false
theorem closed2 {o : AOwn} {a b : List Int} (ho : stripO o = .none) : closedL ([AV.slice o none (a.map u8), AV.slice .none none (b.map u64)].map strip) = true := by
  have h1 := u8_closed a
  have h2 := u64_closed b
  simp only [List.map_cons, List.map_nil, strip, ho, show stripO .none = .none from rfl, closedL, namL, nam, Bool.and_true, Bool.true_and] at h1 h2 ⊢
  rw [h1, h2]; rfl
theorem call_dec (o : AOwn) (ho : stripO o = .none) (b ks : List Int) (hby : Bytes b) (hB : b.length ≤ 140737488351232) (hn : ks.length ≤ 140737488351232) : ∃ v, IsDec v (decS ks b) ∧ ∀ h, ag T 20 [.slice o none (b.map u8), .slice .none none (ks.map u64)] h = some (Go.Proofs.Ytpnkldjbiinnpaa.AM.adopt v h) := by
  obtain ⟨v, hv, hi⟩ := dec_ok b ks hby hB hn
  exact ⟨v, hi, fun h => call_pure (T := T) rfl t20 rfl rfl (closed2 ho) (by simp only [List.map_cons, List.map_nil, strip, ho]; exact hv)⟩
theorem call_rdec (b ks : List Int) (hby : Bytes b) (hB : b.length ≤ 140737488351232) (hn : ks.length ≤ 140737488351232) : ∃ v, IsDec v (decS ks b) ∧ ∀ h, ag T 22 [.slice .none none (b.map u8), .slice .none none (ks.map u64)] h = some (Go.Proofs.Ytpnkldjbiinnpaa.AM.adopt v h) := by
  obtain ⟨v, hv, hi⟩ := rdec_ok b ks hby hB hn
  exact ⟨v, hi, fun h => call_pure (T := T) rfl t22 rfl rfl (closed2 rfl) (by simp only [List.map_cons, List.map_nil, strip, stripO]; exact hv)⟩
theorem call_enc (l : List Rc) (hok : ∀ r ∈ l, Rc.ok r) (hv : ∀ r ∈ l, r.v.length ≤ 140737488351232) (hn : l.length ≤ 140737488351232) : ∃ v, IsEnc v (encS l) ∧ ∀ o, stripO o = .none → ∀ h, ag T 18 [.slice o (some 2) (l.map Rc.av)] h = some (Go.Proofs.Ytpnkldjbiinnpaa.AM.adopt v h) := by
  obtain ⟨v, hw, hi⟩ := enc_ok l hok hv hn
  refine ⟨v, hi, fun o ho h => call_pure (T := T) rfl t18 rfl rfl ?_ (by simp only [List.map_cons, List.map_nil, strip, ho]; exact hw)⟩
  have h1 := rc_closed l
  simp only [List.map_cons, List.map_nil, strip, ho, closedL, namL, nam, Bool.and_true, Bool.true_and] at h1 ⊢
  exact h1
theorem call_renc (l : List Rc) (hok : ∀ r ∈ l, Rc.ok r) (hv : ∀ r ∈ l, r.v.length ≤ 140737488351232) (hn : l.length ≤ 140737488351232) : ∃ v, IsEnc v (encS l) ∧ ∀ o, stripO o = .none → ∀ h, ag T 19 [.slice o (some 2) (l.map Rc.av)] h = some (Go.Proofs.Ytpnkldjbiinnpaa.AM.adopt v h) := by
  obtain ⟨v, hw, hi⟩ := renc_ok l hok hv hn
  refine ⟨v, hi, fun o ho h => call_pure (T := T) rfl t19 rfl rfl ?_ (by simp only [List.map_cons, List.map_nil, strip, ho]; exact hw)⟩
  have h1 := rc_closed l
  simp only [List.map_cons, List.map_nil, strip, ho, closedL, namL, nam, Bool.and_true, Bool.true_and] at h1 ⊢
  exact h1
theorem ag_any {f : Nat} {F : AFn} {args : List AV} {v : Value} (hx : T.ext f = none) (hf : T.fn f = some F) (hp : F.pure = true) (hl : args.length = F.np) (hm : args.map strip = args) (hc : closedL args = true) (hr : ag T f args [] = some (.sc v, [])) (h : Heap) : ag T f args h = some (.sc v, h) := by
  rw [ag_pure hx hf hp args hl] at hr ⊢
  simp only [pcall, prep, hm, if_pos hc, Option.bind_some, Bool.false_eq_true, if_false, Option.bind_eq_some_iff] at hr ⊢
  obtain ⟨w, h1, h2⟩ := hr
  refine ⟨w, h1, ?_⟩
  unfold adopt at h2 ⊢
  split at h2
  · cases h2
  · cases h2
  · cases h2; rfl
theorem v_le_flat : ∀ {l : List Rc} {r : Rc}, r ∈ l → r.v.length ≤ (flatS l).length
  | q :: l, r, h => by
    have h6 : flatS (q :: l) = recS q ++ flatS l := by unfold flatS; rw [List.flatMap_cons]
    rw [h6, List.length_append]
    rcases List.mem_cons.1 h with rfl | h
    · unfold recS
      simp only [List.length_append]
      omega
    · have := v_le_flat h
      omega
end Go.Proofs.Ytpnkldjbiinnpaa.AM
