import Derived.Test.YtpnkldjbiinnpaaAm19
import Derived.WideShapes
/- From the plain machine to a law's row: what comes in, as plain values; what the call gives. -/
namespace Go.Proofs.Ytpnkldjbiinnpaa.AM
open Go Go.RowKit
set_option linter.unusedVariables false
/-- a law's function that gives true -/
theorem law_imm {P : Program} {gl : Nat → Option (List Value)} (hm : P.follows .mixedOrders = true) {T : Tab} (hT : TabOK P gl T) {f : Nat} {args : List AV} {h' : Heap} (hr : ag T f args [] = some (.sc (.bool true), h')) {imm : Imm} {W : World} (hi : ImmOK imm W) (hg : GlobOK gl imm) {cargs : Array Value} (hv : VL (immSt imm W.heap.size) args cargs.toList) :
    Calls P f cargs W (fun e W' => e = .returned (.bool true) ∧ Below W.heap.size W W') := by
  obtain ⟨n, hn⟩ := gcall_of_ag hr
  refine (calls_of_gcall hm hT hn hi hg hv).mono ?_
  rintro e W' ⟨u, S', rfl, hu, hb⟩
  simp only [V] at hu
  subst hu
  exact ⟨rfl, hb⟩
theorem law_sc {P : Program} {gl : Nat → Option (List Value)} (hm : P.follows .mixedOrders = true) {T : Tab} (hT : TabOK P gl T) {f : Nat} {F : AFn} (hx : T.ext f = none) (hf : T.fn f = some F) (hp : F.pure = true) {args : List AV} (hl : args.length = F.np) (hst : args.map strip = args) (hc : closedL args = true) (hr : prun T F args = some (.sc (.bool true))) (hg : GlobOK gl (fun _ _ => none)) {W : World} {cargs : Array Value} (hv : VL (immSt (fun _ _ => none) W.heap.size) args cargs.toList) :
    Calls P f cargs W (fun e W' => e = .returned (.bool true) ∧ Below W.heap.size W W') :=
  law_imm hm hT (call_sc (h := []) hx hf hp hl hst hc hr) (fun _ _ _ h => by cases h) hg hv
/-! ### structs of whole numbers -/
def kindOf (P : Program) (t : TypeId) : Option IntKind := match P.underlying t with | some (.int k) => some k | _ => none
def kindsOf (P : Program) (t : TypeId) : Option (List IntKind) := (P.cellTypes P.depth t).bind fun ts => ts.mapM (kindOf P)
theorem mapM_get {α β : Type} {f : α → Option β} : ∀ {l : List α} {r : List β}, l.mapM f = some r → ∀ (i : Nat) (a : α), l[i]? = some a → ∃ b, r[i]? = some b ∧ f a = some b
  | [], r, h, i, a, ha => by simp at ha
  | x :: l, r, h, i, a, ha => by
    rw [List.mapM_cons] at h
    simp only [bind, Option.bind_eq_some_iff, pure] at h
    obtain ⟨b, hb, r', hr, h⟩ := h
    cases h
    cases i with
    | zero => simp at ha; subst ha; exact ⟨b, rfl, hb⟩
    | succ i => exact mapM_get hr i a (by simpa using ha)
theorem mapM_len {α β : Type} {f : α → Option β} : ∀ {l : List α} {r : List β}, l.mapM f = some r → r.length = l.length
  | [], r, h => by rw [List.mapM_nil] at h; cases h; rfl
  | x :: l, r, h => by
    rw [List.mapM_cons] at h
    simp only [bind, Option.bind_eq_some_iff, pure] at h
    obtain ⟨b, hb, r', hr, h⟩ := h
    cases h
    simp [mapM_len hr]
/-- a struct (or array) of whole numbers that came in -/
theorem okWide_ints {P : Program} {W : World} {base : Nat} {t : TypeId} {v : Value} {ks : List IntKind} {N : Nat} (hk : kindsOf P t = some ks) (hN : P.cellsOf t = N) (hl : ks.length = N) (hst : (match P.underlying t with | some (.struct _) | some (.array _ _) => true | _ => false) = true) (h : Value.okWide P W .any base t v) :
    ∃ cs : Array Value, v = .agg cs ∧ cs.size = N ∧ ∀ (i : Nat) (k : IntKind), ks[i]? = some k → ∃ n, cs[i]? = some (.int k n) ∧ k.has n := by
  have main : (∃ cs, v = .agg cs ∧ cs.size = P.cellsOf t ∧ Row.okWide P W .any base t cs) → ∃ cs : Array Value, v = .agg cs ∧ cs.size = N ∧ ∀ (i : Nat) (k : IntKind), ks[i]? = some k → ∃ n, cs[i]? = some (.int k n) ∧ k.has n := by
    rintro ⟨cs, rfl, hs, ts, hts, _, hrow⟩
    refine ⟨cs, rfl, hs.trans hN, fun i k hik => ?_⟩
    have hi : i < ks.length := (List.getElem?_eq_some_iff.1 hik).1
    have hcs : cs[i]? = some cs[i] := Array.getElem?_eq_getElem (by omega)
    obtain ⟨u, hu, hok⟩ := hrow i _ hcs
    simp only [kindsOf, hts, Option.bind_some] at hk
    have hlen := mapM_len hk
    rw [Nat.mod_eq_of_lt (by omega)] at hu
    obtain ⟨k', hk', hku⟩ := mapM_get hk i u hu
    rw [hik] at hk'
    cases hk'
    unfold kindOf at hku
    split at hku
    · rename_i k2 hund
      cases hku
      unfold Cell.okWide at hok
      rw [hund] at hok
      have hok' : Cell.ok P W .any base u cs[i] := by
        cases hc : cs[i] <;> rw [hc] at hok <;> exact hok
      unfold Cell.ok at hok'
      rw [hund] at hok'
      cases hc : cs[i] <;> rw [hc] at hok' <;> first | exact hok'.elim | skip
      rename_i k3 n
      obtain ⟨rfl, hn⟩ := hok'
      exact ⟨n, by rw [hcs, hc], hn⟩
    · cases hku
  unfold Value.okWide at h
  split at h
  · exact main h
  · exact main h
  · rename_i h1 h2
    split at hst
    · rename_i fs hu; exact absurd hu (h1 fs)
    · rename_i n e hu; exact absurd hu (h2 n e)
    · cases hst
theorem all_ints {ks : List IntKind} {cs : Array Value} (hs : cs.size = ks.length) (h : ∀ (i : Nat) (k : IntKind), ks[i]? = some k → ∃ n, cs[i]? = some (.int k n) ∧ k.has n) : ∀ w ∈ cs.toList, ∃ k n, w = .int k n := by
  intro w hw
  obtain ⟨i, hi, rfl⟩ := List.mem_iff_getElem.1 hw
  simp only [Array.length_toList] at hi
  have hk : ks[i]? = some ks[i] := List.getElem?_eq_getElem (by omega)
  obtain ⟨n, hn, _⟩ := h i _ hk
  refine ⟨ks[i], n, ?_⟩
  rw [Array.getElem?_eq_getElem hi] at hn
  simpa using Option.some.inj hn
theorem ints_one : ∀ {l : List Value}, (∀ w ∈ l, ∃ k n, w = .int k n) → oneL (l.map .sc) = true
  | [], _ => rfl
  | w :: l, h => by
    obtain ⟨k, n, rfl⟩ := h w List.mem_cons_self
    simp only [List.map_cons, oneL, one, oneCell, Bool.true_and]
    exact ints_one fun w hw => h w (List.mem_cons_of_mem _ hw)
theorem sc_closed : ∀ (l : List Value), closedL (l.map .sc) = true
  | [] => rfl
  | w :: l => by
    have := sc_closed l
    simp only [closedL, List.map_cons, namL, nam, Bool.true_and] at this ⊢
    exact this
theorem sc_rigid : ∀ (l : List Value), rigidL (l.map .sc) = true
  | [] => rfl
  | w :: l => by simp only [List.map_cons, rigidL, rigid, Bool.true_and]; exact sc_rigid l
theorem sc_strip (l : List Value) : (l.map AV.sc).map strip = l.map .sc := by rw [List.map_map]; rfl
theorem VL_nil {S : St} : VL S [] [] := by simp only [VL]
theorem VL_cons {S : St} {x : AV} {u : Value} {xs : List AV} {us : List Value} (h : V S x u) (hs : VL S xs us) : VL S (x :: xs) (u :: us) := by
  simp only [VL]; exact ⟨u, us, rfl, h, hs⟩
theorem V_agg {S : St} {cs : List AV} {a : Array Value} (h : VL S cs a.toList) : V S (.agg cs) (.agg a) := by
  simp only [V]; exact ⟨a, rfl, h⟩
theorem arr5 {cs : Array Value} (hs : cs.size = 5) {a b c d e : Value} (h0 : cs[0]? = some a) (h1 : cs[1]? = some b) (h2 : cs[2]? = some c) (h3 : cs[3]? = some d) (h4 : cs[4]? = some e) : cs = #[a, b, c, d, e] := by
  apply Array.ext_getElem?
  intro i
  match i with
  | 0 => simpa using h0
  | 1 => simpa using h1
  | 2 => simpa using h2
  | 3 => simpa using h3
  | 4 => simpa using h4
  | i + 5 => simp [hs]
end Go.Proofs.Ytpnkldjbiinnpaa.AM
