/- For all values PolicyRises returns true, without a condition. -/
import Derived.Test.YtakgaofemfpakaaRows
import Derived.Test.YtakgaofemfpakaaPolG
import Derived.Test.YtakgaofemfpakaaAm20
import Derived.WalkKit
import Derived.ProofKit
import Derived.OpenShut
import Derived.ShutString
import Derived.ChangeOld
import Derived.Below
import Derived.SizedLaws
import Derived.Carry
import Derived.Lib.SmallJoins
import Derived.JoinedCond
import Derived.Deep.CondSized
import Derived.Deep.Slices
namespace Go.Proofs.Ytakgaofemfpakaa.policyRises
open Go.ChangeShapes Go.WideShapes Go.ChangeAt Go.RowKit Go.Joins Go.Deep
open Go.ChangeMaps (open_string shut_string)
set_option linter.unusedVariables false
theorem own : ownKnob Try.prog.godebug = none := by kernel_rfl
theorem laidOut : laidOutB Try.prog = true := by kernel_rfl
def IsRow (k : IntKind) (w : World) (a : Option Addr) (len cap : Nat) (zs : List Int) : Prop :=
  (a = none ∧ len = 0 ∧ cap = 0 ∧ zs = []) ∨
  ∃ x, a = some x ∧ len ≤ cap ∧ cap ≤ maxLen ∧ zs.length = cap ∧ (∀ i, i < zs.length → w.cell? (x.add i) = some (.int k (zs.getD i 0))) ∧ ∀ n ∈ zs, (Lit.int k n).wf = true
set_option maxRecDepth 100000 in
theorem lifted (os : Os) (started : os.Started) (H : Type) (enc : TypeId × Value → H) :
    ReturnsInHanded {} Try.checked os 4 .any (Rows.policyRisesSpec.pre6 enc Try.prog Try.f4 Rows.policyRisesRow.domain false) (Rows.policyRisesSpec.post enc Try.prog Try.f4 false true false false) := by
  refine returnsInHanded_of_change_sized (C := Try.checked) own started (by kernel_rfl) Try.func4
    (ChangeSpec.witness6 (enc := enc) (C := Try.checked) false ⟨#[], #[.agg (Array.replicate 5 (.int .i64 0)), .agg (Array.replicate 3 (.int .i64 0) ++ Array.replicate 32 (.int .u8 0) ++ Array.replicate 1 (.int .i64 0) ++ Array.replicate 32 (.int .u8 0) ++ Array.replicate 1 (.int .i64 0) ++ Array.replicate 32 (.int .u8 0)), .int .i64 0, .int .i64 0, .int .i64 0, .int .i64 0, .int .i64 0], []⟩ 8 (by kernel_rfl) (by kernel_rfl) (by kernel_rfl) (by kernel_rfl)) ?_
  intro W base args ds gs before hval0 hW hcnd hsz0 _
  have hsz : (DataW.weightsEach Try.prog (Try.f4.params.toList ++ Rows.policyRisesSpec.plain.varTypes Try.prog) (ds ++ gs)).all (· ≤ reachBytes) = true := hsz0
  have hval : ∀ (j : Nat) t v, Try.f4.params[j]? = some t → args[j]? = some v → Value.okWide Try.prog W .any base t v := hval0
  have hW' := hW
  obtain ⟨p, q, hA0, hV, rfl, hfz, hnd⟩ := hW
  have hA : DataW.TrodAll enc Try.prog W 0 (fun _ => true) true Try.f4.params.toList args.toList ds p := hA0
  rw [Try.params4] at hA hval hsz
  obtain ⟨v0, vs0, d0, ds0, p0, q0, hargs, rfl, rfl, h0, r0⟩ := trodAll_cons hA
  obtain ⟨v1, vs1, d1, ds1, p1, q1, rfl, rfl, rfl, h1, r1⟩ := trodAll_cons r0
  obtain ⟨v2, vs2, d2, ds2, p2, q2, rfl, rfl, rfl, h2, r2⟩ := trodAll_cons r1
  obtain ⟨v3, vs3, d3, ds3, p3, q3, rfl, rfl, rfl, h3, r3⟩ := trodAll_cons r2
  obtain ⟨v4, vs4, d4, ds4, p4, q4, rfl, rfl, rfl, h4, r4⟩ := trodAll_cons r3
  obtain ⟨v5, vs5, d5, ds5, p5, q5, rfl, rfl, rfl, h5, r5⟩ := trodAll_cons r4
  obtain ⟨v6, vs6, d6, ds6, p6, q6, rfl, rfl, rfl, h6, r6⟩ := trodAll_cons r5
  obtain ⟨rfl, rfl, rfl⟩ := trodAll_nil r6
  obtain rfl : args = #[v0, v1, v2, v3, v4, v5, v6] := by cases args; simp_all
  obtain ⟨rfl, rfl⟩ := trodVars_none hV
  have k0 := h0
  have lt0 : ∀ x ∈ p0, x.block < W.heap.size := by obtain ⟨m, hm⟩ := k0; exact DataW.trod_lt m _ _ _ hm
  obtain ⟨c0, rfl, s0, g0⟩ := AM.okWide_ints (ks := (List.replicate 5 .i64)) (N := 5) (by kernel_rfl) (by kernel_rfl) (by kernel_rfl) (by kernel_rfl) (hval 0 25 v0 rfl rfl)
  have k1 := h1
  have lt1 : ∀ x ∈ p1, x.block < W.heap.size := by obtain ⟨m, hm⟩ := k1; exact DataW.trod_lt m _ _ _ hm
  obtain ⟨c1, rfl, s1, g1⟩ := AM.okWide_ints (ks := (List.replicate 3 .i64 ++ List.replicate 32 .u8 ++ List.replicate 1 .i64 ++ List.replicate 32 .u8 ++ List.replicate 1 .i64 ++ List.replicate 32 .u8)) (N := 101) (by kernel_rfl) (by kernel_rfl) (by kernel_rfl) (by kernel_rfl) (hval 1 28 v1 rfl rfl)
  obtain ⟨a2, rfl, rfl, rfl, w2⟩ := open_int Try.underlying3 (hval 2 3 v2 rfl rfl) h2
  obtain ⟨a3, rfl, rfl, rfl, w3⟩ := open_int Try.underlying3 (hval 3 3 v3 rfl rfl) h3
  obtain ⟨a4, rfl, rfl, rfl, w4⟩ := open_int Try.underlying3 (hval 4 3 v4 rfl rfl) h4
  obtain ⟨a5, rfl, rfl, rfl, w5⟩ := open_int Try.underlying3 (hval 5 3 v5 rfl rfl) h5
  obtain ⟨a6, rfl, rfl, rfl, w6⟩ := open_int Try.underlying3 (hval 6 3 v6 rfl rfl) h6
  obtain ⟨b, gb, hb⟩ := g0 0 .i64 rfl
  obtain ⟨r, gr, hr⟩ := g0 1 .i64 rfl
  obtain ⟨d, gd, _⟩ := g0 2 .i64 rfl
  obtain ⟨g, gg, _⟩ := g0 3 .i64 rfl
  obtain ⟨f, gf, _⟩ := g0 4 .i64 rfl
  have e0 := AM.arr5 s0 gb gr gd gg gf
  subst e0
  obtain ⟨ch, gch, _⟩ := g1 0 .i64 rfl
  obtain ⟨am, gam, ha⟩ := g1 1 .i64 rfl
  obtain ⟨ex, gex, hx⟩ := g1 2 .i64 rfl
  obtain ⟨tot, gtot, _⟩ := g1 35 .i64 rfl
  have hall := AM.all_ints (ks := (List.replicate 3 .i64 ++ List.replicate 32 .u8 ++ List.replicate 1 .i64 ++ List.replicate 32 .u8 ++ List.replicate 1 .i64 ++ List.replicate 32 .u8)) s1 g1
  have hh : AM.HopOK (c1.toList.map .sc) ch am ex tot := ⟨by simp [s1], AM.ints_one hall, AM.sc_closed _, AM.sc_strip _, by simp [gch], by simp [gam], by simp [gex], by simp [gtot]⟩
  clear hA0 hval0 hsz0 hsz
  refine (AM.law_sc (W := W) AM.mixed AM.tabOK rfl AM.t4 rfl (args := [AM.rulesA b r d g f, .agg (c1.toList.map .sc), AM.i64 a2, AM.i64 a3, AM.i64 a4, AM.i64 a5, AM.i64 a6]) rfl rfl (by simp only [AM.closedL, AM.namL, AM.nam, hh.cl, Bool.and_self, Bool.true_and, Bool.and_true]) (AM.law4 hh hb hr ha hx) (fun g l hl => by cases hl) (AM.VL_cons (AM.V_agg (AM.VL_map_sc [_, _, _, _, _])) (AM.VL_cons (AM.V_agg (AM.VL_map_sc _)) (AM.VL_cons (AM.V_sc _) (AM.VL_cons (AM.V_sc _) (AM.VL_cons (AM.V_sc _) (AM.VL_cons (AM.V_sc _) (AM.VL_cons (AM.V_sc _) AM.VL_nil)))))))).mono fun e W' ⟨he, bel⟩ => ?_
  subst he
  exact ⟨_, rfl, _, _, _, [], _, [], hW', trodAll_mk1 (shut_bool Try.underlying4 _), (trodAll_cons_mk (Below.trod laidOut (by kernel_rfl) (of_decide_eq_true (by kernel_rfl)) k0 bel lt0) (trodAll_cons_mk (Below.trod laidOut (by kernel_rfl) (of_decide_eq_true (by kernel_rfl)) k1 bel lt1) (trodAll_cons_mk (shut_int Try.underlying3 w2) (trodAll_cons_mk (shut_int Try.underlying3 w3) (trodAll_cons_mk (shut_int Try.underlying3 w4) (trodAll_cons_mk (shut_int Try.underlying3 w5) (trodAll_cons_mk (shut_int Try.underlying3 w6) trodAll_mk0))))))), rfl, bel.frame _, fun h => by cases h⟩
theorem proved : Rows.PolicyRisesSaid :=
  OpenClaim.holds_of_wide 4 Try.f4 rfl rfl rfl rfl rfl rfl rfl ⟨rfl, rfl, rfl, rfl, rfl⟩ rfl rfl rfl rfl rfl (by kernel_rfl) Try.func4 (by kernel_rfl)
    (of_decide_eq_true (by kernel_rfl)) (by unfold Func.isWrapper; first | (rw [if_pos (by decide +kernel)]; kernel_rfl) | (rw [if_neg (by decide +kernel)]; exact ⟨rfl, rfl⟩))
    (fun os started H enc _ => lifted os started H enc)
#print axioms proved
end Go.Proofs.Ytakgaofemfpakaa.policyRises
namespace Go.Proofs.Ytakgaofemfpakaa
/-- The row, under a short name, for the claim. -/
theorem policyRises_holds : Rows.PolicyRisesSaid := policyRises.proved
end Go.Proofs.Ytakgaofemfpakaa
