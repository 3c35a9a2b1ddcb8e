import Derived.Test.YtakgaofemfpakaaPolL
import Derived.Test.YtakgaofemfpakaaAm21
import Derived.ProofKit
set_option maxRecDepth 100000
set_option linter.unusedVariables false
namespace Go.Proofs.Ytakgaofemfpakaa.AM
open Go Go.RowKit
theorem wf_i64 {n : Int} (h : (Lit.int .i64 n).wf = true) : I64 n := by
  simp [Lit.wf] at h
  unfold I64
  have h1 := h.1
  have h2 := h.2
  simp [IntKind.min, IntKind.max, IntKind.bits, IntKind.signed] at h1 h2
  omega
theorem rd25 : Reads Try.prog 25 (fun xs => ∃ x : R5, xs = [i64 x.b, i64 x.r, i64 x.d, i64 x.g, i64 x.f] ∧ x.ok) := by
  have i3 := Reads.int Try.underlying3
  have f23 : Reads Try.prog 23 _ := Reads.struct Try.underlying23 (by kernel_rfl) (ReadsF.cons (a := 1) i3 rfl (by kernel_rfl) (ReadsF.cons (a := 1) i3 rfl (by kernel_rfl) ReadsF.nil))
  have f25 : Reads Try.prog 25 _ := Reads.struct Try.underlying25 (by kernel_rfl) (ReadsF.cons (a := 2) f23 rfl (by kernel_rfl) (ReadsF.cons (a := 1) i3 rfl (by kernel_rfl) (ReadsF.cons (a := 1) i3 rfl (by kernel_rfl) (ReadsF.cons (a := 1) i3 rfl (by kernel_rfl) ReadsF.nil))))
  refine f25.imp ?_
  rintro xs ⟨_, _, rfl, ⟨_, _, rfl, ⟨b, rfl, hb⟩, _, _, rfl, ⟨r, rfl, hr⟩, rfl⟩, _, _, rfl, ⟨d, rfl, hd⟩, _, _, rfl, ⟨g, rfl, hg⟩, _, _, rfl, ⟨f, rfl, hf⟩, rfl⟩
  exact ⟨⟨b, r, d, g, f⟩, rfl, wf_i64 hb, wf_i64 hr, wf_i64 hd, wf_i64 hg, wf_i64 hf⟩
theorem rules_of : ∀ {ys : List (List AV)}, (∀ y ∈ ys, (∃ x : R5, y = [i64 x.b, i64 x.r, i64 x.d, i64 x.g, i64 x.f] ∧ x.ok) ∧ y.length = kz (some 5) ∧ oneL y = true) → ∃ l : List R5, ys.map (mkEl (some 5)) = l.map R5.av ∧ l.length = ys.length ∧ ∀ x ∈ l, x.ok
  | [], _ => ⟨[], rfl, rfl, fun x hx => by cases hx⟩
  | y :: ys, h => by
    obtain ⟨⟨x, rfl, hx⟩, _⟩ := h y List.mem_cons_self
    obtain ⟨l, h1, h2, h3⟩ := rules_of fun y hy => h y (List.mem_cons_of_mem _ hy)
    refine ⟨x :: l, by simp only [List.map_cons, h1]; rfl, by simp [h2], fun z hz => ?_⟩
    rcases List.mem_cons.1 hz with rfl | hz
    · exact hx
    · exact h3 z hz
end Go.Proofs.Ytakgaofemfpakaa.AM
