import Derived.Test.YtpnkldjbiinnpaaBigPlain
import Derived.Test.YtpnkldjbiinnpaaPE5
import Derived.Test.YtpnkldjbiinnpaaOpens2
/- The first record of a type. -/
namespace Go.Proofs.Ytpnkldjbiinnpaa.PureE
open Go.RowKit Go.Proofs.Ytpnkldjbiinnpaa.PE Go.Proofs.YtpnkldjbiinnpaaW.PrintWords Go.Proofs.YtpnkldjbiinnpaaW.PrintLast
open Go.Proofs.Ytpnkldjbiinnpaa.PC hiding S38 z38 k38 rd_T38
set_option linter.unusedVariables false
set_option linter.unusedSimpArgs false
theorem bytes_of {l : List Int} (h : ∀ x ∈ l, (Lit.int .u8 x).wf = true) : Bytes l := fun c hc => (U8_iff c).1 (h c hc)
theorem read_f (l : List Int) (h : Bytes l) (hl : l.length ≤ 9223372036854775807) : bigsize_Read.f l = some (readS l) := by
  unfold bigsize_Read.f; rw [if_pos ⟨h, hl⟩]
theorem put_f (l : List Int) (x : Int) (h : 0 ≤ x) (hl : l.length ≤ 140737488355000) : bigsize_Put.f l x = some (l ++ numS x) := by
  unfold bigsize_Put.f; rw [if_pos ⟨h, hl⟩]
theorem lives_f : tollhouselaw01_lives.f = some true := by
  unfold tollhouselaw01_lives.f
  rw [read_f _ (by intro c hc; simp at hc; omega) (by decide), read_f _ (by intro c hc; simp at hc; omega) (by decide), put_f _ _ (by omega) (by decide)]
  decide +kernel
theorem finds_l (l : List S38) (t : Int) (hm : l.length ≤ 140737488351232) (k : Nat) : ∀ (j i : Nat), i + j = l.length → (∀ n : Nat, n < i → (rd_T38 l n).f0 ≠ t) → tollhouselaw01_BigsizeFinds.l0 (k + j + 1) l t (findS l t).1 (findS l t).2 i = some true
  | 0, i, hi, hn => by
    unfold tollhouselaw01_BigsizeFinds.l0
    rw [if_neg (by omega), lives_f, Option.bind_some, if_pos rfl, find_none (fun n h => hn n (by omega)), if_neg (by decide)]
    rfl
  | j + 1, i, hi, hn => by
    unfold tollhouselaw01_BigsizeFinds.l0
    rw [if_pos (by omega), if_pos (by omega)]
    by_cases h : (rd_T38 l i).f0 = t
    · rw [if_pos h, lives_f, Option.bind_some, if_pos rfl, (find_some (by omega) h hn).1, if_pos rfl]
      simp
    · rw [if_neg h, wrap64_of (x := (i : Int) + 1) ⟨by omega, by omega⟩]
      have := finds_l l t hm k j (i + 1) (by omega) (fun n hn2 => by
        by_cases e : n = i
        · subst e; exact h
        · exact hn n (by omega))
      rwa [show ((i + 1 : Nat) : Int) = (i : Int) + 1 by omega] at this
theorem finds (l : List S38) (t : Int) (hm : l.length ≤ 140737488351232) (hv : ∀ r ∈ l, r.f1.length ≤ 140737488351232) : tollhouselaw01_BigsizeFinds.f (l.length + 1) l t = some true := by
  unfold tollhouselaw01_BigsizeFinds.f bigsize_Find.f
  rw [if_pos ⟨by omega, fun r hr => by have := hv r hr; omega⟩, Option.bind_some]
  have := finds_l l t hm 0 l.length 0 (by omega) (fun n h => absurd h (Nat.not_lt_zero _))
  rwa [Nat.zero_add] at this
end Go.Proofs.Ytpnkldjbiinnpaa.PureE
namespace Go.Proofs.Ytpnkldjbiinnpaa.BigOpenE
open Go.RowKit Go.Proofs.YtpnkldjbiinnpaaW.PrintWords
instance : Inhabited PE.S38 := ⟨PE.z38⟩
theorem open23 : Opens2.Opens Try.prog (Kd.slice 5 (Kd.int .u8)) 23 (fun xs => xs.length ≤ maxLen ∧ ∀ x ∈ xs, (Lit.int .u8 x).wf = true) (fun xs => (xs.map fun _ => 1).sum + 1) (fun xs => xs.length * Try.prog.bytesOf 5 ≤ reachBytes ∧ ∀ x ∈ xs, True) :=
  Opens2.slice Try.underlying23 (by kernel_rfl) (Opens2.int Try.underlying5)
theorem open38 : Opens2.Opens Try.prog PE.k38 38 (fun x => (Lit.int .u64 x.f0).wf = true ∧ x.f1.length ≤ maxLen ∧ ∀ y ∈ x.f1, (Lit.int .u8 y).wf = true) (fun x => 1 + ((x.f1.map fun _ => 1).sum + 1) + 1) (fun x => True ∧ x.f1.length * Try.prog.bytesOf 5 ≤ reachBytes ∧ ∀ y ∈ x.f1, True) :=
  Opens2.iso (Opens2.struct Try.underlying38 (by kernel_rfl) (Opens2.OpensF.cons (Opens2.int Try.underlying22) rfl (by kernel_rfl) (Opens2.OpensF.one open23 rfl (by kernel_rfl)))) (fun x : PE.S38 => (x.f0, x.f1)) (fun v => ⟨v.1, v.2⟩) (fun _ => rfl)
theorem bytes5 : Try.prog.bytesOf 5 = 1 := by kernel_rfl
theorem bytes38 : Try.prog.bytesOf 38 = 32 := by kernel_rfl
def I34 (l : List PE.S38) : Prop := l.length ≤ maxLen ∧ ∀ x ∈ l, (Lit.int .u64 x.f0).wf = true ∧ x.f1.length ≤ maxLen ∧ ∀ y ∈ x.f1, (Lit.int .u8 y).wf = true
def W34 (l : List PE.S38) : Prop := l.length * Try.prog.bytesOf 38 ≤ reachBytes ∧ ∀ x ∈ l, True ∧ x.f1.length * Try.prog.bytesOf 5 ≤ reachBytes ∧ ∀ y ∈ x.f1, True
theorem open34 : Opens2.Opens Try.prog (Kd.slice 38 PE.k38) 34 I34 (fun l => (l.map fun x => 1 + ((x.f1.map fun _ => 1).sum + 1) + 1).sum + 1) W34 := Opens2.slice Try.underlying34 (by kernel_rfl) open38
theorem val_ok {l : List PE.S38} (hW : W34 l) : ∀ r ∈ l, r.f1.length ≤ 140737488351232 := fun r hr => by
  obtain ⟨_, h4, _⟩ := hW.2 r hr
  rw [bytes5] at h4
  unfold reachBytes at h4
  omega
theorem len_ok {l : List PE.S38} (hW : W34 l) : l.length ≤ 140737488351232 := by
  have h := hW.1
  rw [bytes38] at h
  unfold reachBytes at h
  omega
end Go.Proofs.Ytpnkldjbiinnpaa.BigOpenE
