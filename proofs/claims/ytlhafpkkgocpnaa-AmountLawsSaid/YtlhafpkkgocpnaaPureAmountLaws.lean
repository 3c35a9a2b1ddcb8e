import Derived.Test.YtlhafpkkgocpnaaPlain2
import Derived.Test.YtlhafpkkgocpnaaPureAmountSums
import Derived.Test.YtlhafpkkgocpnaaPA10
import Derived.OpenShut
/- Sums are the same in any order, and taken away again: for every input AmountLaws returns true. -/
namespace Go.Proofs.Ytlhafpkkgocpnaa.Pure
open Go.RowKit Go.Proofs.Ytlhafpkkgocpnaa.PA Go.Proofs.YtlhafpkkgocpnaaW.PrintWords Go.Proofs.YtlhafpkkgocpnaaW.PrintLast Go.Proofs.YtlhafpkkgocpnaaW.PrintMore

theorem AmountLaws : tollhouselaw02_AmountLaws.Pure := by
  intro a b c wa wb wc
  have ha : I64 a := bounds_i64 wa
  have hb : I64 b := bounds_i64 wb
  have hc : I64 c := bounds_i64 wc
  refine ⟨20, ?_⟩
  unfold tollhouselaw02_AmountLaws.f
  rw [add_f 19 a b ha hb, add_f 19 b a hb ha, lives_f 13, addS_comm b a]
  simp only [Option.bind_some, if_true, bne_self_eq_false]
  rw [tollhouselaw02_AmountLaws.j0, if_neg (by simp)]
  rcases addS_snd a b with ⟨h, h0, h1, h2, h3⟩ | ⟨h, h3, _⟩ | ⟨h, h3, _⟩
  · rw [h, if_pos rfl, h3]
    have hs : I64 (a + b) := by unfold I64; omega
    have hw : ∀ x ∈ [a, b, c], I64 x := by
      intro x hx
      simp at hx
      rcases hx with rfl | rfl | rfl <;> assumption
    rw [sub_f 18 (a + b) b hs hb, sum_f [a, b, c] (by simp) hw 18 (by simp), add_f 18 (a + b) c hs hc]
    simp only [Option.bind_some]
    have e1 : subS (a + b) b = (a, 0) := by
      unfold subS
      rw [if_neg (by omega), if_neg (by omega), Int.add_sub_cancel]
    have e0 : addS 0 a = (a, 0) := by
      unfold addS
      unfold I64 at ha
      rw [if_neg (by omega), if_neg (by omega), Int.zero_add]
    have e2 : addS a b = (a + b, 0) := by
      rw [← h, ← h3]
    have e3 : sumS [a, b, c] = addS (a + b) c := by
      unfold sumS neg
      by_cases hn : c < 0
      · rw [if_pos (by simp [hn])]
        unfold addS
        rw [if_pos (Or.inr hn)]
      · rw [if_neg (by simp [hn]; omega)]
        simp only [sumFrom]
        rw [e0]
        simp only [if_true]
        rw [e2]
        simp only [if_true]
        rcases addS_snd (a + b) c with ⟨g, _, _, _, _⟩ | ⟨g, g3, _⟩ | ⟨g, g3, _⟩
        · rw [if_pos g, ← g]
        · rw [if_neg (by omega), ← g3]
        · rw [if_neg (by omega), ← g3]
    rw [e1, e3]
    simp
  · rw [h, if_neg (by omega), h3]; rfl
  · rw [h, if_neg (by omega), h3]; rfl
end Go.Proofs.Ytlhafpkkgocpnaa.Pure
