import Derived.Test.YtpnkldjbiinnpaaBigPure
import Derived.Test.YtpnkldjbiinnpaaPD2
import Derived.Test.YtpnkldjbiinnpaaPD3
/- The stream of any records, in plain lists. -/
namespace Go.Proofs.Ytpnkldjbiinnpaa.Pure
open Go.RowKit Go.Proofs.Ytpnkldjbiinnpaa.PD Go.Proofs.YtpnkldjbiinnpaaW.PrintWords Go.Proofs.YtpnkldjbiinnpaaW.PrintLast
open Go.Proofs.Ytpnkldjbiinnpaa.PC hiding S38 z38 k38 rd_T38
set_option linter.unusedVariables false
set_option linter.unusedSimpArgs false
def RecOk (r : S38) : Prop := (0 ≤ r.f0 ∧ r.f0 ≤ 18446744073709551615) ∧ Bytes r.f1 ∧ r.f1.length ≤ 140737488355328
def recS (r : S38) : List Int := numS r.f0 ++ numS r.f1.length ++ r.f1
def flat (l : List S38) : List Int := l.flatMap recS
def rat (l : List S38) (i : Nat) : S38 := l.getD i z38
def Asc (l : List S38) : Prop := ∀ i, i + 1 < l.length → (rat l i).f0 < (rat l (i + 1)).f0
open Classical in
noncomputable def encS (l : List S38) : List Int × Int := if Asc l then (if l.length ≤ 64 ∧ (flat l).length ≤ 65536 then (flat l, 0) else ([], 3)) else ([], 11)
theorem rat_rd (l : List S38) (i : Nat) : rd_T38 l (i : Int) = rat l i := rfl
theorem rat_mem {l : List S38} {i : Nat} (h : i < l.length) : rat l i ∈ l := by
  unfold rat
  rw [List.getD_eq_getElem?_getD, List.getElem?_eq_getElem h]
  exact List.getElem_mem h
theorem take_snoc (l : List S38) (i : Nat) (h : i < l.length) : l.take (i + 1) = l.take i ++ [rat l i] := by
  rw [List.take_succ_eq_append_getElem h]
  unfold rat
  rw [List.getD_eq_getElem?_getD, List.getElem?_eq_getElem h]
  rfl
theorem flat_snoc (l : List S38) (i : Nat) (h : i < l.length) : flat (l.take (i + 1)) = flat (l.take i) ++ recS (rat l i) := by
  rw [take_snoc l i h]; unfold flat; rw [List.flatMap_append, List.flatMap_singleton]
theorem flat_append (a b : List S38) : flat (a ++ b) = flat a ++ flat b := List.flatMap_append
theorem flat_take_le (l : List S38) (i : Nat) : (flat (l.take i)).length ≤ (flat l).length := by
  have : flat l = flat (l.take i) ++ flat (l.drop i) := by rw [← flat_append, List.take_append_drop]
  rw [this, List.length_append]; omega
theorem recS_len (r : S38) (h : RecOk r) : ((recS r).length : Int) = sizeS r.f0 + sizeS r.f1.length + r.f1.length ∧ ((recS r).length : Int) ≤ 140737488355346 := by
  have a := numS_len r.f0
  have b := numS_len r.f1.length
  have c := sizeS_le r.f0
  have d := sizeS_le r.f1.length
  have e := h.2.2
  unfold recS
  rw [List.length_append, List.length_append]
  omega
theorem recS_bytes (r : S38) (h : RecOk r) : Bytes (recS r) := bytes_append (bytes_append (numS_bytes _ h.1.1) (numS_bytes _ (by omega))) h.2.1
theorem flat_bytes {l : List S38} (h : ∀ r ∈ l, RecOk r) : Bytes (flat l) := fun c hc => by
  unfold flat at hc
  rw [List.mem_flatMap] at hc
  obtain ⟨r, hr, hc⟩ := hc
  exact recS_bytes r (h r hr) c hc
theorem flat_bound (l : List S38) (h : ∀ r ∈ l, RecOk r) : ((flat l).length : Int) ≤ l.length * 140737488355346 := by
  induction l with
  | nil => simp [flat]
  | cons r l ih =>
    have a := (recS_len r (h r List.mem_cons_self)).2
    have b := ih (fun x hx => h x (List.mem_cons_of_mem _ hx))
    have e : (flat (r :: l)).length = (recS r).length + (flat l).length := by unfold flat; rw [List.flatMap_cons, List.length_append]
    rw [e, List.length_cons]
    omega
theorem enc_l1 (l : List S38) (h : ∀ r ∈ l, RecOk r) (hl : l.length ≤ 64) (hf : (flat l).length ≤ 65536) (k : Nat) : ∀ (j i : Nat), i + j = l.length → bigsize_Encode.l1 (k + j + 1) (flat (l.take i)) l (l.length : Int) (i : Int) = some (flat l, 0)
  | 0, i, hi => by
    unfold bigsize_Encode.l1
    rw [if_neg (by omega), List.take_of_length_le (by omega)]
  | j + 1, i, hi => by
    have hr := h _ (rat_mem (l := l) (i := i) (by omega))
    have hs := flat_snoc l i (by omega)
    have hle := flat_take_le l (i + 1)
    have hlen := recS_len _ hr
    have hc := sizeS_le (rat l i).f0
    have hd := sizeS_le (rat l i).f1.length
    have na := numS_len (rat l i).f0
    have nb := numS_len (rat l i).f1.length
    rw [hs, List.length_append] at hle
    unfold bigsize_Encode.l1
    rw [if_pos (by omega), if_pos (by omega), if_pos (by omega), rat_rd, put_f _ _ hr.1.1 (by omega), Option.bind_some, wrapU_of (x := ((rat l i).f1.length : Int)) (by omega) (by omega), put_f _ _ (by omega) (by rw [List.length_append]; omega), Option.bind_some,
      if_pos (by rw [List.length_append, List.length_append]; omega), wrap64_of (x := (i : Int) + 1) ⟨by omega, by omega⟩]
    have e : flat (l.take i) ++ numS (rat l i).f0 ++ numS ((rat l i).f1.length : Int) ++ (rat l i).f1 = flat (l.take (i + 1)) := by
      rw [hs]; unfold recS; simp
    rw [e]
    have := enc_l1 l h hl hf k j (i + 1) (by omega)
    rwa [show ((i + 1 : Nat) : Int) = (i : Int) + 1 by omega] at this
theorem enc_l0 (l : List S38) (h : ∀ r ∈ l, RecOk r) (hm : l.length ≤ 9223372036854775000) (k : Nat) : ∀ (j i : Nat) (x4 : Int), i + j = l.length → (l.length ≤ 64 → x4 = (flat (l.take i)).length) → (∀ n, n + 1 < l.length → n + 1 < i → (rat l n).f0 < (rat l (n + 1)).f0) →
    bigsize_Encode.l0 (k + 2 * j + l.length + 3) l x4 l (l.length : Int) (i : Int) = some (encS l)
  | 0, i, x4, hi, hx, hasc => by
    have ha : Asc l := fun n hn => hasc n hn (by omega)
    unfold bigsize_Encode.l0 encS
    rw [if_neg (by omega), if_pos ha]
    by_cases h64 : l.length ≤ 64
    · rw [if_neg (by omega)]
      have e := hx h64
      rw [List.take_of_length_le (by omega)] at e
      show (if decide (x4 > 65536) = true then some (([] : List Int), (3 : Int)) else (bigsize_Encode.l1 (k + 2 * 0 + l.length + 1) ([] : List Int) l (l.length : Int) 0)) = _
      by_cases h6 : (flat l).length ≤ 65536
      · rw [if_neg (by simp; omega), if_pos ⟨h64, h6⟩]
        have := enc_l1 l h h64 h6 k l.length 0 (by omega)
        rw [show k + 2 * 0 + l.length + 1 = k + l.length + 1 by omega]
        exact this
      · rw [if_pos (by simp; omega), if_neg (fun z => h6 z.2)]
    · rw [if_pos (by omega), if_neg (fun z => h64 z.1)]
      rfl
  | j + 1, i, x4, hi, hx, hasc => by
    have hr := h _ (rat_mem (l := l) (i := i) (by omega))
    have hc := sizeS_le (rat l i).f0
    have hd := sizeS_le (rat l i).f1.length
    have hlen := recS_len _ hr
    have hl47 := hr.2.2
    have next : ∀ (K : Nat), (∀ n, n + 1 < l.length → n + 1 < i + 1 → (rat l n).f0 < (rat l (n + 1)).f0) → K = k + 2 * j + l.length + 4 → bigsize_Encode.j1 K l x4 l (l.length : Int) (i : Int) false (rat l i).f0 (rat l i).f1 = some (encS l) := by
      intro K ha hK
      subst hK
      unfold bigsize_Encode.j1
      rw [if_neg (by decide), size_f _ hr.1.1, Option.bind_some, wrapU_of (x := ((rat l i).f1.length : Int)) (by omega) (by omega), size_f _ (by omega), Option.bind_some, wrap64_of (x := (i : Int) + 1) ⟨by omega, by omega⟩,
        wrap64_of (x := sizeS (rat l i).f0 + sizeS (rat l i).f1.length) ⟨by omega, by omega⟩, wrap64_of (x := sizeS (rat l i).f0 + sizeS (rat l i).f1.length + (rat l i).f1.length) ⟨by omega, by omega⟩]
      have := enc_l0 l h hm k j (i + 1) (wrap64 (x4 + (sizeS (rat l i).f0 + sizeS (rat l i).f1.length + (rat l i).f1.length))) (by omega) (fun h64 => by
        have e := hx h64
        have fb := flat_bound (l.take (i + 1)) (fun r hr => h r (List.mem_of_mem_take hr))
        rw [List.length_take] at fb
        have fs := congrArg List.length (flat_snoc l i (by omega))
        rw [List.length_append] at fs
        have z : ((l.take (i + 1)).length : Int) ≤ 64 := by rw [List.length_take]; omega
        have fb2 : ((flat (l.take (i + 1))).length : Int) ≤ 9007199254742144 := by omega
        rw [wrap64_of ⟨by omega, by omega⟩]
        omega) ha
      rwa [show ((i + 1 : Nat) : Int) = (i : Int) + 1 by omega] at this
    rw [show k + 2 * (j + 1) + l.length + 3 = (k + 2 * j + l.length + 4) + 1 by omega]
    unfold bigsize_Encode.l0
    rw [if_pos (by omega), if_pos (by omega), if_pos (by omega), rat_rd]
    by_cases h0 : i = 0
    · subst h0
      rw [if_neg (by decide)]
      exact next _ (fun n _ hn => by omega) rfl
    · rw [if_pos (by omega), wrap64_of (x := (i : Int) - 1) ⟨by omega, by omega⟩, if_pos (by omega), if_pos (by omega)]
      obtain ⟨i', rfl⟩ : ∃ i', i = i' + 1 := ⟨i - 1, by omega⟩
      rw [show ((i' + 1 : Nat) : Int) - 1 = (i' : Int) by omega, rat_rd]
      by_cases hle : (rat l (i' + 1)).f0 ≤ (rat l i').f0
      · rw [show decide ((rat l (i' + 1)).f0 ≤ (rat l i').f0) = true from decide_eq_true hle]
        have hn : ¬ Asc l := fun ha => by have := ha i' (by omega); omega
        unfold bigsize_Encode.j1 encS
        rw [if_pos rfl, if_neg hn]
      · rw [show decide ((rat l (i' + 1)).f0 ≤ (rat l i').f0) = false from decide_eq_false hle]
        refine next _ (fun n hn hn2 => ?_) rfl
        by_cases e : n = i'
        · subst e; omega
        · exact hasc n hn (by omega)
theorem enc_f (l : List S38) (h : ∀ r ∈ l, RecOk r) (hm : l.length ≤ 9223372036854775000) (k : Nat) (hk : 3 * l.length + 3 ≤ k) : bigsize_Encode.f k l = some (encS l) := by
  obtain ⟨c, rfl⟩ : ∃ c, k = c + 2 * l.length + l.length + 3 := ⟨k - (3 * l.length + 3), by omega⟩
  exact enc_l0 l h hm c l.length 0 0 (by omega) (fun _ => rfl) (fun n _ hn => by omega)
theorem asc_take {l : List S38} (h : Asc l) (n : Nat) : Asc (l.take n) := fun i hi => by
  rw [List.length_take] at hi
  have := h i (by omega)
  unfold rat at *
  rw [List.getD_eq_getElem?_getD, List.getD_eq_getElem?_getD] at *
  rwa [List.getElem?_take_of_lt (by omega), List.getElem?_take_of_lt (by omega)]
theorem asc_drop {l : List S38} (h : Asc l) (n : Nat) : Asc (l.drop n) := fun i hi => by
  rw [List.length_drop] at hi
  have := h (n + i) (by omega)
  unfold rat at *
  rw [List.getD_eq_getElem?_getD, List.getD_eq_getElem?_getD] at *
  rwa [List.getElem?_drop, List.getElem?_drop]
theorem encS_ok {l : List S38} (h : (encS l).2 = 0) : Asc l ∧ l.length ≤ 64 ∧ (flat l).length ≤ 65536 ∧ encS l = (flat l, 0) := by
  unfold encS at *
  by_cases ha : Asc l
  · rw [if_pos ha] at h ⊢
    by_cases hb : l.length ≤ 64 ∧ (flat l).length ≤ 65536
    · rw [if_pos hb]; exact ⟨ha, hb.1, hb.2, rfl⟩
    · rw [if_neg hb] at h; cases h
  · rw [if_neg ha] at h; cases h
theorem encS_good {l : List S38} (h : Asc l) (h1 : l.length ≤ 64) (h2 : (flat l).length ≤ 65536) : encS l = (flat l, 0) := by
  unfold encS
  rw [if_pos h, if_pos ⟨h1, h2⟩]
theorem encS_bad {l : List S38} (h : (encS l).2 ≠ 0) : (encS l).1 = [] := by
  unfold encS at *
  by_cases ha : Asc l
  · rw [if_pos ha] at h ⊢
    by_cases hb : l.length ≤ 64 ∧ (flat l).length ≤ 65536
    · rw [if_pos hb] at h; exact absurd rfl h
    · rw [if_neg hb]
  · rw [if_neg ha]
end Go.Proofs.Ytpnkldjbiinnpaa.Pure
