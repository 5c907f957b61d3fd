/- The engine, part O: the arguments of a law, opened but as far as their shape goes. -/
import Derived.Test.YtmepokefmpcnnaaEngL
set_option linter.unusedSimpArgs false
set_option linter.unusedVariables false
namespace Go.Wb
open Go.RowKit Go.ChangeShapes Go.WideShapes
variable {P : Program} {W : World} {base : Nat}

/-- names for places that came in -/
def Ren.of (l : List (Nat × Nat)) : Ren := { dom := fun i => i < l.length, to := fun i => (l.getD i (0, 0)).1, base := fun i => (l.getD i (0, 0)).2, size := fun _ => 0, ext := fun _ => none }

theorem cell_int {t : TypeId} {k : IntKind} {v : Value} (ht : P.underlying t = some (.int k)) (h : Cell.okWide P W .any base t v) : ∃ n, v = .int k n := by
  cases v <;> simp [Cell.okWide, Cell.ok, ht] at h
  obtain ⟨rfl, _⟩ := h
  exact ⟨_, rfl⟩
theorem cell_slice {t e : TypeId} {v : Value} (ht : P.underlying t = some (.slice e)) (h : Cell.okWide P W .any base t v) : v = .slice none 0 0 ∨ ∃ b o n c, v = .slice (some ⟨b, o, none⟩) n c ∧ n ≤ c := by
  cases v with
  | slice a n c =>
    cases a with
    | none =>
      cases n <;> cases c <;> simp [Cell.okWide, Cell.ok, ht] at h
      exact .inl rfl
    | some a =>
      simp only [Cell.okWide, Cell.ok, ht, World.has] at h
      obtain ⟨h1, _, _, h2, _⟩ := h
      obtain ⟨b, o, s⟩ := a
      simp only at h2
      subst h2
      exact .inr ⟨b, o, n, c, rfl, h1⟩
  | _ => simp [Cell.okWide, Cell.ok, ht] at h

theorem slice_named {r : Ren} {i n c : Nat} (hd : r.dom i) (he : r.ext i = none) : VRel r (.slice (some ⟨i, 0, none⟩) n c) (.slice (some ⟨r.to i, r.base i, none⟩) n c) := by
  have := VRel.slc (r := r) (b := i) (o := 0) (n := n) (c := c) (c' := c) hd (fun _ => rfl) (Nat.le_refl _) (fun z hz => by rw [he] at hz; cases hz)
  simpa using this
theorem cells_list {cs : Array Value} {n : Nat} (h : cs.size = n) : ∃ l : List Value, l.length = n ∧ cs = ⟨l⟩ := ⟨cs.toList, by simpa using h, rfl⟩
theorem list_cons {n : Nat} {l : List Value} (h : l.length = n + 1) : ∃ x r, l = x :: r := by
  cases l with
  | nil => simp at h
  | cons x r => exact ⟨x, r, rfl⟩
theorem cell_bool {t : TypeId} {v : Value} (ht : P.underlying t = some .bool) (h : Cell.okWide P W .any base t v) : ∃ b, v = .bool b := by
  cases v <;> simp [Cell.okWide, Cell.ok, ht] at h
  exact ⟨_, rfl⟩
theorem cell_str {t : TypeId} {v : Value} (ht : P.underlying t = some .string) (h : Cell.okWide P W .any base t v) : ∃ s, v = .string s := by
  cases v <;> simp [Cell.okWide, Cell.ok, ht] at h
  exact ⟨_, rfl⟩
theorem okWide_str {t : TypeId} {v : Value} (ht : P.underlying t = some .string) (h : Value.okWide P W .any base t v) : ∃ s, v = .string s :=
  cell_str ht (by simpa only [Value.okWide, ht] using h)
theorem okWide_bool' {t : TypeId} {v : Value} (ht : P.underlying t = some .bool) (h : Value.okWide P W .any base t v) : ∃ b, v = .bool b :=
  cell_bool ht (by simpa only [Value.okWide, ht] using h)
end Go.Wb
