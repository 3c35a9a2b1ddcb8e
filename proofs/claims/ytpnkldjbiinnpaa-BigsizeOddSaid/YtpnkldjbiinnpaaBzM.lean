import Derived.Test.YtpnkldjbiinnpaaBzL
import Derived.Test.YtpnkldjbiinnpaaBzK
import Derived.Test.YtpnkldjbiinnpaaAm21
/- layer 01: Decodes, as it comes in. -/
namespace Go.Proofs.Ytpnkldjbiinnpaa.AM
open Go
set_option linter.unusedSimpArgs false
set_option linter.unusedVariables false
theorem decodes_ok (b ks : List Int) (hby : Bytes b) (hB : b.length ≤ 140737488351232) (hn : ks.length ≤ 140737488351232) : prun T F9 [.slice .none none (b.map u8), .slice .none none (ks.map u64)] = some (.sc (.bool true)) := by
  obtain ⟨v, _, i⟩ := dec_ok b ks hby hB hn
  rcases i with ⟨h1, h2, _⟩ | ⟨h1, _⟩
  · refine decodes_run b ks hby hB hn ?_ ?_ ?_
    · rw [h2]; simp
    · rw [h2]; simp
    · intro h; exact absurd h h1
  · obtain ⟨q1, q2, q3, q4⟩ := decodes_law ks b hby h1
    exact decodes_run b ks hby hB hn q4 q3 fun _ => ⟨q1, q2⟩
theorem wf_u8 {x : Int} (h : (Lit.int .u8 x).wf = true) : 0 ≤ x ∧ x ≤ 255 := by
  simp [Lit.wf, IntKind.min, IntKind.max, IntKind.bits, IntKind.signed] at h
  omega
theorem bytes_of : ∀ {ys : List (List AV)}, (∀ y ∈ ys, (∃ x : Int, y = [u8 x] ∧ (Lit.int .u8 x).wf = true) ∧ y.length = kz none ∧ oneL y = true) → ∃ l : List Int, ys.map (mkEl none) = l.map u8 ∧ l.length = ys.length ∧ Bytes l := by
  intro ys
  induction ys with
  | nil => intro _; exact ⟨[], rfl, rfl, by intro c hc; cases hc⟩
  | cons y ys ih =>
    intro h
    obtain ⟨l, h1, h2, h3⟩ := ih fun z hz => h z (List.mem_cons_of_mem _ hz)
    obtain ⟨⟨x, rfl, hx⟩, _, _⟩ := h y List.mem_cons_self
    refine ⟨x :: l, by rw [List.map_cons, List.map_cons, h1]; rfl, by simp [h2], ?_⟩
    intro c hc
    rcases List.mem_cons.1 hc with rfl | hc
    · exact wf_u8 hx
    · exact h3 c hc
theorem nums_of : ∀ {ys : List (List AV)}, (∀ y ∈ ys, (∃ x : Int, y = [u64 x] ∧ (Lit.int .u64 x).wf = true) ∧ y.length = kz none ∧ oneL y = true) → ∃ l : List Int, ys.map (mkEl none) = l.map u64 ∧ l.length = ys.length := by
  intro ys
  induction ys with
  | nil => intro _; exact ⟨[], rfl, rfl⟩
  | cons y ys ih =>
    intro h
    obtain ⟨l, h1, h2⟩ := ih fun z hz => h z (List.mem_cons_of_mem _ hz)
    obtain ⟨⟨x, rfl, hx⟩, _, _⟩ := h y List.mem_cons_self
    exact ⟨x :: l, by rw [List.map_cons, List.map_cons, h1]; rfl, by simp [h2]⟩
end Go.Proofs.Ytpnkldjbiinnpaa.AM
