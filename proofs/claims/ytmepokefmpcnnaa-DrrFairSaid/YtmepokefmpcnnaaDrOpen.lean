/- What layer 28's first law is given. -/
import Derived.Test.YtmepokefmpcnnaaDrPlain4
import Derived.Test.YtmepokefmpcnnaaEngRX
import Derived.Carry
import Derived.Test.YtmepokefmpcnnaaRows
set_option maxRecDepth 100000
set_option linter.unusedVariables false
set_option linter.unusedSimpArgs false
namespace Go.Proofs.Ytmepokefmpcnnaa.DrrFair
open Go.ChangeShapes Go.WideShapes Go.ChangeAt Go.RowKit Go.Wb
open Go.Proofs.Ytmepokefmpcnnaa
open Dr
theorem hu85 : Try.prog.underlying 85 = some (.slice 3) := by kernel_rfl
theorem hu86 : Try.prog.underlying 86 = some (.slice 89) := by kernel_rfl
theorem hu89 : Try.prog.underlying 89 = some (.slice 72) := by kernel_rfl
theorem hu3 : Try.prog.underlying 3 = some (.int .i64) := by kernel_rfl
theorem hu72 : Try.prog.underlying 72 = some (.int .u16) := by kernel_rfl
theorem hu5 : Try.prog.underlying 5 = some (.int .u8) := by kernel_rfl
theorem z3 : Try.prog.cellsOf 3 = 1 := by kernel_rfl
theorem z89 : Try.prog.cellsOf 89 = 1 := by kernel_rfl
theorem z72 : Try.prog.cellsOf 72 = 1 := by kernel_rfl
/-- a slice of the arguments -/
def Arg (bs : List (List Value)) (v : Value) (xs : List Value) : Prop :=
  xs = [] ∧ (v = .slice none 0 0 ∨ v = .chan none) ∨ ∃ id c zs, v = .slice (some ⟨id, 0, none⟩) xs.length c ∧ bs[id]? = some (xs ++ zs)
theorem Arg.of {bs : List (List Value)} {Q : Value → Prop} {v : Value} {xs : List Value} (h : SlV bs Q v xs) : Arg bs v xs := by
  rcases h.2 with ⟨h1, h2⟩ | ⟨h1, h2⟩ | ⟨id, c, zs, h1, k2, k3, k4, k5, k6⟩
  · exact .inl ⟨h2, .inl h1⟩
  · exact .inl ⟨h2, .inr h1⟩
  · exact .inr ⟨id, c, zs, h1, k5⟩
theorem Arg.len {bs : List (List Value)} {v : Value} {xs : List Value} (h : Arg bs v xs) (C : Tgt → List Value → M Value) (Φ : Value → Hp → Prop) (S : Hp) : wp (X C (.len .slice (.const v))) Φ S = Φ (i64 xs.length) S := by
  rcases h with ⟨rfl, rfl | rfl⟩ | ⟨id, c, zs, rfl, k⟩
  · rw [P_lenS]; rfl
  · rw [P_lenE]; rfl
  · rw [P_lenS]
/-- of what is not empty: where it lies, and that it lies there in each later heap -/
theorem Arg.pos {bs : List (List Value)} {v : Value} {xs : List Value} (h : Arg bs v xs) (h0 : 0 < xs.length) : ∃ id c zs, v = .slice (some ⟨id, 0, none⟩) xs.length c ∧ id < bs.length ∧ ∀ S, Fra [] (roHp bs) S → S.heap.get id = some (.ro (xs ++ zs)) := by
  rcases h with ⟨rfl, _⟩ | ⟨id, c, zs, rfl, k⟩
  · simp at h0
  · refine ⟨id, c, zs, rfl, (List.getElem?_eq_some_iff.1 k).1, fun S hF => ?_⟩
    rw [hF.heap id (List.getElem?_eq_some_iff.1 k).1 (by simp), roHp_get, k]; rfl
theorem ints_all (k : IntKind) : ∀ (xs : List Value), (∀ x ∈ xs, ∃ n, x = .int k n ∧ k.has n) → ∃ ns : List Int, xs = ns.map (.int k) ∧ ∀ n ∈ ns, k.has n
  | [], h => ⟨[], rfl, by simp⟩
  | x :: xs, h => by
    obtain ⟨n, rfl, hn⟩ := h x (List.mem_cons_self ..)
    obtain ⟨ns, rfl, hs⟩ := ints_all k xs fun x hx => h x (List.mem_cons_of_mem _ hx)
    exact ⟨n :: ns, rfl, by simpa using ⟨hn, hs⟩⟩
/-- the quantums -/
theorem arg85 {bs : List (List Value)} {v : Value} (h : ShpV Try.prog bs 5 85 v) : ∃ qs : List Int, Arg bs v (ints qs) := by
  obtain ⟨xs, h1, h2⟩ := slV_of hu85 z3 h
  obtain ⟨ns, rfl, _⟩ := ints_all .i64 xs fun x hx => shp_int hu3 (h1 x hx)
  exact ⟨ns, Arg.of ⟨h1, h2⟩⟩
/-- the costs -/
theorem arg86 {bs : List (List Value)} {v : Value} (h : ShpV Try.prog bs 5 86 v) : ∃ xs : List Value, Arg bs v xs ∧ ∀ x ∈ xs, ∃ ns : List Int, Arg bs x (ns.map (.int .u16)) ∧ ∀ n ∈ ns, 0 ≤ n ∧ n < 65536 := by
  obtain ⟨xs, h1, h2⟩ := slV_of hu86 z89 h
  refine ⟨xs, Arg.of ⟨h1, h2⟩, fun x hx => ?_⟩
  have hV : ShpV Try.prog bs (3 + 1) 89 x := by
    have := h1 x hx
    unfold ShpV
    rw [hu89]
    exact this
  obtain ⟨ys, g1, g2⟩ := slV_of hu89 z72 hV
  obtain ⟨ns, rfl, hn⟩ := ints_all .u16 ys fun x hx => shp_int hu72 (g1 x hx)
  refine ⟨ns, Arg.of ⟨g1, g2⟩, fun n hm => ?_⟩
  have := hn n hm
  simp [IntKind.has, IntKind.min, IntKind.max, IntKind.bits, IntKind.signed] at this
  omega
end Go.Proofs.Ytmepokefmpcnnaa.DrrFair
