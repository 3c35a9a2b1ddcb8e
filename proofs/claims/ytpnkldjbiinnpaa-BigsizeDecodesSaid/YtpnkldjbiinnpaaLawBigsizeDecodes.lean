/- For all values BigsizeDecodes returns true, without a condition. -/
import Derived.Test.YtpnkldjbiinnpaaRows
import Derived.Test.YtpnkldjbiinnpaaBzM
import Derived.WalkKit
import Derived.ProofKit
import Derived.OpenShut
import Derived.ShutString
import Derived.ChangeOld
import Derived.Below
import Derived.SizedLaws
import Derived.Carry
import Derived.Lib.SmallJoins
import Derived.JoinedCond
import Derived.Deep.CondSized
import Derived.Deep.Slices
namespace Go.Proofs.Ytpnkldjbiinnpaa.bigsizeDecodes
open Go.ChangeShapes Go.WideShapes Go.ChangeAt Go.RowKit Go.Joins Go.Deep
open Go.ChangeMaps (open_string shut_string)
set_option linter.unusedVariables false
theorem own : ownKnob Try.prog.godebug = none := by kernel_rfl
theorem laidOut : laidOutB Try.prog = true := by kernel_rfl
def IsRow (k : IntKind) (w : World) (a : Option Addr) (len cap : Nat) (zs : List Int) : Prop :=
  (a = none ∧ len = 0 ∧ cap = 0 ∧ zs = []) ∨
  ∃ x, a = some x ∧ len ≤ cap ∧ cap ≤ maxLen ∧ zs.length = cap ∧ (∀ i, i < zs.length → w.cell? (x.add i) = some (.int k (zs.getD i 0))) ∧ ∀ n ∈ zs, (Lit.int k n).wf = true
set_option maxRecDepth 100000 in
theorem lifted (os : Os) (started : os.Started) (H : Type) (enc : TypeId × Value → H) :
    ReturnsInHanded {} Try.checked os 9 .any (Rows.bigsizeDecodesSpec.pre6 enc Try.prog Try.f9 Rows.bigsizeDecodesRow.domain false) (Rows.bigsizeDecodesSpec.post enc Try.prog Try.f9 false true false false) := by
  refine returnsInHanded_of_change_sized (C := Try.checked) own started (by kernel_rfl) Try.func9
    (ChangeSpec.witness6 (enc := enc) (C := Try.checked) false ⟨#[], #[.slice none 0 0, .slice none 0 0], []⟩ 8 (by kernel_rfl) (by kernel_rfl) (by kernel_rfl) (by kernel_rfl)) ?_
  intro W base args ds gs before hval0 hW hcnd hsz0 _
  have hsz : (DataW.weightsEach Try.prog (Try.f9.params.toList ++ Rows.bigsizeDecodesSpec.plain.varTypes Try.prog) (ds ++ gs)).all (· ≤ reachBytes) = true := hsz0
  have hval : ∀ (j : Nat) t v, Try.f9.params[j]? = some t → args[j]? = some v → Value.okWide Try.prog W .any base t v := hval0
  have hW' := hW
  obtain ⟨p, q, hA0, hV, rfl, hfz, hnd⟩ := hW
  have hA : DataW.TrodAll enc Try.prog W 0 (fun _ => true) true Try.f9.params.toList args.toList ds p := hA0
  rw [Try.params9] at hA hval hsz
  obtain ⟨v0, vs0, d0, ds0, p0, q0, hargs, rfl, rfl, h0, r0⟩ := trodAll_cons hA
  obtain ⟨v1, vs1, d1, ds1, p1, q1, rfl, rfl, rfl, h1, r1⟩ := trodAll_cons r0
  obtain ⟨rfl, rfl, rfl⟩ := trodAll_nil r1
  obtain rfl : args = #[v0, v1] := by cases args; simp_all
  obtain ⟨rfl, rfl⟩ := trodVars_none hV
  have k0 := h0
  have lt0 : ∀ x ∈ p0, x.block < W.heap.size := by obtain ⟨m, hm⟩ := k0; exact DataW.trod_lt m _ _ _ hm
  obtain ⟨a0, len0, cap0, rfl⟩ := okWide_slice Try.underlying23 (hval 0 23 v0 rfl rfl)
  have y0 := AM.sized hsz (j := 0) (t := 23) rfl rfl Try.underlying23 (B := 1) (by kernel_rfl) h0
  obtain ⟨fuel0, hf0⟩ := h0
  obtain ⟨xs0, hv0, _, _, ys0, rfl, _, hys0⟩ := (AM.Reads.slice (k := none) Try.underlying23 (by kernel_rfl) (by decide) (AM.Reads.int Try.underlying5)).of (b0 := W.heap.size) hf0
  obtain ⟨l0, hl0, hm0, hb0⟩ := AM.bytes_of hys0
  rw [hl0] at hv0
  have hw0 : AM.VL (AM.immSt (AM.memImm W) W.heap.size) [.slice .none none (l0.map AM.u8)] [.slice a0 len0 cap0] := by simpa [Value.cells] using hv0
  have hlen0 : len0 = l0.length := by
    simp only [AM.VL, AM.V] at hw0
    obtain ⟨u, us, hu, ⟨ao, cap, hu2, _⟩, _⟩ := hw0
    cases hu
    cases hu2
    simp
  rw [hlen0] at y0
  have k1 := h1
  have lt1 : ∀ x ∈ p1, x.block < W.heap.size := by obtain ⟨m, hm⟩ := k1; exact DataW.trod_lt m _ _ _ hm
  obtain ⟨a1, len1, cap1, rfl⟩ := okWide_slice Try.underlying43 (hval 1 43 v1 rfl rfl)
  have y1 := AM.sized hsz (j := 1) (t := 43) rfl rfl Try.underlying43 (B := 8) (by kernel_rfl) h1
  obtain ⟨fuel1, hf1⟩ := h1
  obtain ⟨xs1, hv1, _, _, ys1, rfl, _, hys1⟩ := (AM.Reads.slice (k := none) Try.underlying43 (by kernel_rfl) (by decide) (AM.Reads.int Try.underlying22)).of (b0 := W.heap.size) hf1
  obtain ⟨l1, hl1, hm1⟩ := AM.nums_of hys1
  rw [hl1] at hv1
  have hw1 : AM.VL (AM.immSt (AM.memImm W) W.heap.size) [.slice .none none (l1.map AM.u64)] [.slice a1 len1 cap1] := by simpa [Value.cells] using hv1
  have hlen1 : len1 = l1.length := by
    simp only [AM.VL, AM.V] at hw1
    obtain ⟨u, us, hu, ⟨ao, cap, hu2, _⟩, _⟩ := hw1
    cases hu
    cases hu2
    simp
  rw [hlen1] at y1
  clear hA0 hval0 hsz0 hsz
  refine (AM.law_imm (W := W) AM.mixed AM.tabOK (AM.call_sc (h := []) rfl AM.t9 rfl rfl rfl (AM.closed2 (o := .none) rfl) (AM.decodes_ok l0 l1 hb0 (by omega) (by omega))) (AM.memImm_ok W) (fun g l hl => by cases hl) (cargs := #[.slice a0 len0 cap0, .slice a1 len1 cap1]) (hw0.append hw1)).mono fun e W' ⟨he, bel⟩ => ?_
  subst he
  exact ⟨_, rfl, _, _, _, [], _, [], hW', trodAll_mk1 (shut_bool Try.underlying4 _), (trodAll_cons_mk (Below.trod laidOut (by kernel_rfl) (of_decide_eq_true (by kernel_rfl)) k0 bel lt0) (trodAll_cons_mk (Below.trod laidOut (by kernel_rfl) (of_decide_eq_true (by kernel_rfl)) k1 bel lt1) trodAll_mk0)), rfl, bel.frame _, fun h => by cases h⟩
theorem proved : Rows.BigsizeDecodesSaid :=
  OpenClaim.holds_of_wide 9 Try.f9 rfl rfl rfl rfl rfl rfl rfl ⟨rfl, rfl, rfl, rfl, rfl⟩ rfl rfl rfl rfl rfl (by kernel_rfl) Try.func9 (by kernel_rfl)
    (of_decide_eq_true (by kernel_rfl)) (by unfold Func.isWrapper; first | (rw [if_pos (by decide +kernel)]; kernel_rfl) | (rw [if_neg (by decide +kernel)]; exact ⟨rfl, rfl⟩))
    (fun os started H enc _ => lifted os started H enc)
#print axioms proved
end Go.Proofs.Ytpnkldjbiinnpaa.bigsizeDecodes
namespace Go.Proofs.Ytpnkldjbiinnpaa
/-- The row, under a short name, for the claim. -/
theorem bigsizeDecodes_holds : Rows.BigsizeDecodesSaid := bigsizeDecodes.proved
end Go.Proofs.Ytpnkldjbiinnpaa
