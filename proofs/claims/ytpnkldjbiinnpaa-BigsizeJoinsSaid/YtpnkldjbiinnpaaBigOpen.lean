import Derived.Test.YtpnkldjbiinnpaaBigEnc
import Derived.Test.YtpnkldjbiinnpaaOpens2
/- Records that came in. -/
namespace Go.Proofs.Ytpnkldjbiinnpaa.BigOpen
open Go.RowKit Go.Proofs.YtpnkldjbiinnpaaW.PrintWords
instance : Inhabited PD.S38 := ⟨PD.z38⟩
theorem open23 : Opens2.Opens Try.prog (Kd.slice 5 (Kd.int .u8)) 23 (fun xs => xs.length ≤ maxLen ∧ ∀ x ∈ xs, (Lit.int .u8 x).wf = true) (fun xs => (xs.map fun _ => 1).sum + 1) (fun xs => xs.length * Try.prog.bytesOf 5 ≤ reachBytes ∧ ∀ x ∈ xs, True) :=
  Opens2.slice Try.underlying23 (by kernel_rfl) (Opens2.int Try.underlying5)
theorem open38 : Opens2.Opens Try.prog PD.k38 38 (fun x => (Lit.int .u64 x.f0).wf = true ∧ x.f1.length ≤ maxLen ∧ ∀ y ∈ x.f1, (Lit.int .u8 y).wf = true) (fun x => 1 + ((x.f1.map fun _ => 1).sum + 1) + 1) (fun x => True ∧ x.f1.length * Try.prog.bytesOf 5 ≤ reachBytes ∧ ∀ y ∈ x.f1, True) :=
  Opens2.iso (Opens2.struct Try.underlying38 (by kernel_rfl) (Opens2.OpensF.cons (Opens2.int Try.underlying22) rfl (by kernel_rfl) (Opens2.OpensF.one open23 rfl (by kernel_rfl)))) (fun x : PD.S38 => (x.f0, x.f1)) (fun v => ⟨v.1, v.2⟩) (fun _ => rfl)
theorem bytes5 : Try.prog.bytesOf 5 = 1 := by kernel_rfl
theorem bytes38 : Try.prog.bytesOf 38 = 32 := by kernel_rfl
def I34 (l : List PD.S38) : Prop := l.length ≤ maxLen ∧ ∀ x ∈ l, (Lit.int .u64 x.f0).wf = true ∧ x.f1.length ≤ maxLen ∧ ∀ y ∈ x.f1, (Lit.int .u8 y).wf = true
def W34 (l : List PD.S38) : Prop := l.length * Try.prog.bytesOf 38 ≤ reachBytes ∧ ∀ x ∈ l, True ∧ x.f1.length * Try.prog.bytesOf 5 ≤ reachBytes ∧ ∀ y ∈ x.f1, True
theorem open34 : Opens2.Opens Try.prog (Kd.slice 38 PD.k38) 34 I34 (fun l => (l.map fun x => 1 + ((x.f1.map fun _ => 1).sum + 1) + 1).sum + 1) W34 := Opens2.slice Try.underlying34 (by kernel_rfl) open38
theorem recOk {l : List PD.S38} (hI : I34 l) (hW : W34 l) : ∀ r ∈ l, Pure.RecOk r := fun r hr => by
  obtain ⟨h1, h2, h3⟩ := hI.2 r hr
  obtain ⟨_, h4, _⟩ := hW.2 r hr
  rw [bytes5] at h4
  unfold reachBytes at h4
  exact ⟨(PC.U64_iff _).1 h1, Pure.bytes_of h3, by omega⟩
theorem len_ok {l : List PD.S38} (hW : W34 l) : l.length ≤ 140737488351232 := by
  have h := hW.1
  rw [bytes38] at h
  unfold reachBytes at h
  omega
end Go.Proofs.Ytpnkldjbiinnpaa.BigOpen
