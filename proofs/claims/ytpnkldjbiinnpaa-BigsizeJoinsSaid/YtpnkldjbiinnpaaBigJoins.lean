import Derived.Test.YtpnkldjbiinnpaaBigEnc
import Derived.Test.YtpnkldjbiinnpaaPD4
/- Two streams, one behind the other. -/
namespace Go.Proofs.Ytpnkldjbiinnpaa.Pure
open Go.RowKit Go.Proofs.Ytpnkldjbiinnpaa.PD Go.Proofs.YtpnkldjbiinnpaaW.PrintWords Go.Proofs.YtpnkldjbiinnpaaW.PrintLast
open Go.Proofs.Ytpnkldjbiinnpaa.PC hiding S38 z38 k38 rd_T38
set_option linter.unusedVariables false
set_option linter.unusedSimpArgs false
theorem joins_half (l : List S38) (h : ∀ r ∈ l, RecOk r) (hm : l.length ≤ 140737488351232) (n : Nat) (k : Nat) (hk : 3 * l.length + 5 ≤ k) (ho : (encS l).2 = 0) :
    ((bigsize_Encode.f k (l.take n)).bind fun a => ((bigsize_Encode.f k (l.drop n)).bind fun b => (if a.2 = 0 then (if b.2 = 0 then (if (strOfNums a.1).size + (strOfNums b.1).size ≤ 9223372036854775807 then (some (((strOfNums a.1) ++ (strOfNums b.1)).toList == (strOfNums (encS l).1).toList)) else (none)) else (some false)) else (some false)))) = some true := by
  obtain ⟨ha, h1, h2, h3⟩ := encS_ok ho
  have e : flat l = flat (l.take n) ++ flat (l.drop n) := by rw [← flat_append, List.take_append_drop]
  have el := congrArg List.length e
  rw [List.length_append] at el
  rw [enc_f (l.take n) (fun r hr => h r (List.mem_of_mem_take hr)) (by rw [List.length_take]; omega) k (by rw [List.length_take]; omega), Option.bind_some,
    enc_f (l.drop n) (fun r hr => h r (List.mem_of_mem_drop hr)) (by rw [List.length_drop]; omega) k (by rw [List.length_drop]; omega), Option.bind_some,
    encS_good (asc_take ha n) (by rw [List.length_take]; omega) (by omega), encS_good (asc_drop ha n) (by rw [List.length_drop]; omega) (by omega), if_pos rfl, if_pos rfl,
    if_pos (by rw [strOfNums_size, strOfNums_size]; show (flat (l.take n)).length + (flat (l.drop n)).length ≤ _; omega), str_append, h3]
  show some ((strOfNums (flat (l.take n) ++ flat (l.drop n))).toList == (strOfNums (flat l)).toList) = some true
  rw [← e]; simp
theorem joins_body (l : List S38) (h : ∀ r ∈ l, RecOk r) (hm : l.length ≤ 140737488351232) (K : Nat) (hK : 3 * l.length + 5 ≤ K) (ho : (encS l).2 = 0) : ∀ x7 : Int, -(l.length : Int) ≤ x7 → x7 ≤ l.length → tollhouselaw01_BigsizeJoins.j0 (K + 1) l (encS l).1 x7 = some true := by
  intro x7 h0 h1
  unfold tollhouselaw01_BigsizeJoins.j0
  dsimp only
  have e2 : wrap64 (-x7) = -x7 := wrap64_of ⟨by omega, by omega⟩
  rw [e2]
  by_cases hn : x7 < 0
  · rw [if_pos hn, if_pos (by omega), if_pos (by omega)]
    exact joins_half l h hm _ _ (by omega) ho
  · rw [if_neg hn, if_pos (by omega), if_pos (by omega)]
    exact joins_half l h hm _ _ (by omega) ho
theorem joins (l : List S38) (h : ∀ r ∈ l, RecOk r) (hm : l.length ≤ 140737488351232) (a : Int) : tollhouselaw01_BigsizeJoins.f (3 * l.length + 6) l a = some true := by
  unfold tollhouselaw01_BigsizeJoins.f
  rw [enc_f l h (by omega) _ (by omega), Option.bind_some, lives_f, Option.bind_some, if_pos rfl]
  by_cases ho : (encS l).2 = 0
  · rw [if_pos ho]
    have e1 : wrap64 ((l.length : Int) + 1) = l.length + 1 := wrap64_of ⟨by omega, by omega⟩
    have body := joins_body l h hm (3 * l.length + 5) (by omega) ho
    by_cases hl : (l.length : Int) > 0
    · rw [if_pos hl, e1, if_neg (by omega)]
      have b1 := Int.tmod_lt_of_pos a (show (0 : Int) < l.length + 1 by omega)
      have b2 : -((l.length : Int) + 1) < Int.tmod a (l.length + 1) := Int.lt_tmod_of_pos a (by omega)
      exact body _ (by omega) (by omega)
    · rw [if_neg hl]
      exact body 0 (by omega) (by omega)
  · rw [if_neg ho, encS_bad ho]; rfl
end Go.Proofs.Ytpnkldjbiinnpaa.Pure
