/- The engine, part Sh: what the arguments' shapes tell of structs, and of slices of them. -/
import Derived.Test.YtmepokefmpcnnaaEngX
import Derived.Test.YtmepokefmpcnnaaEngT
set_option linter.unusedSimpArgs false
set_option linter.unusedVariables false
namespace Go.Wb
variable {P : Program} {bs : List (List Value)}
theorem shpV_of {g : Nat} {t : TypeId} {v : Value} (hs : ∀ fs, P.underlying t ≠ some (.struct fs)) (h : Shp P bs g t [v]) : ShpV P bs g t v := by
  unfold ShpV
  split
  · rename_i fs hf; exact absurd hf (hs fs)
  · exact h
/-- fields, by their types alone -/
def ShpT (Q : TypeId → List Value → Prop) (P : Program) : List TypeId → List Value → Prop
  | [], cs => cs = []
  | t :: ts, cs => ∃ a b, cs = a ++ b ∧ a.length = P.cellsOf t ∧ Q t a ∧ ShpT Q P ts b
theorem ShpT.of {Q : TypeId → List Value → Prop} : ∀ {fs : List Field} {cs : List Value}, ShpF Q P fs cs → ShpT Q P (fs.map (·.type)) cs
  | [], _, h => h
  | _ :: _, _, ⟨a, b, h1, h2, h3, h4⟩ => ⟨a, b, h1, h2, h3, ShpT.of h4⟩
def fts : Option TypeDesc → List TypeId
  | some (.struct fs) => fs.toList.map (·.type)
  | _ => []
theorem shp_struct {g : Nat} {t u : TypeId} {ts : List TypeId} {cs : List Value} (hu : fts (P.underlying t) = u :: ts) (h : Shp P bs (g + 1) t cs) : ShpT (Shp P bs g) P (u :: ts) cs := by
  unfold Shp at h
  cases ho : P.underlying t with
  | none => rw [ho] at hu; cases hu
  | some o =>
    rw [ho] at h hu
    cases o
    case struct fs => rw [← hu]; exact ShpT.of h
    all_goals simp [fts] at hu
/-- a slice of such elements: these, and what lies behind -/
def SlW (bs : List (List Value)) (z : Nat) (Q : List Value → Prop) (v : Value) (es : List (List Value)) : Prop :=
  (∀ x ∈ es, x.length = z ∧ Q x) ∧ ((v = .slice none 0 0 ∧ es = []) ∨ (v = .chan none ∧ es = []) ∨ ∃ id c zs, v = .slice (some ⟨id, 0, none⟩) es.length c ∧ es.length ≤ c ∧ c ≤ maxLen ∧ bs[id]? = some (es.flatten ++ zs))
theorem slW_of {g : Nat} {t e : TypeId} {v : Value} (hu : P.underlying t = some (.slice e)) (h : Shp P bs (g + 1) t [v]) : ∃ es, SlW bs (P.cellsOf e) (Shp P bs g e) v es := by
  simp only [Shp, hu] at h
  rcases h with h | h | ⟨id, n, c, es, h1, h2, h3, h4, h5, h6, h7⟩
  · exact ⟨[], fun x hx => by simp at hx, .inl ⟨by simpa using h, rfl⟩⟩
  · exact ⟨[], fun x hx => by simp at hx, .inr (.inl ⟨by simpa using h, rfl⟩)⟩
  · have hl : (es.take n).length = n := by rw [List.length_take]; omega
    refine ⟨es.take n, fun x hx => h7 x (List.mem_of_mem_take hx), .inr (.inr ⟨id, c, (es.drop n).flatten, ?_, by omega, h4, ?_⟩)⟩
    · rw [hl]; simpa using h1
    · rw [← List.flatten_append, List.take_append_drop]; exact h5
theorem flat_len {z : Nat} : ∀ (es : List (List Value)), (∀ x ∈ es, x.length = z) → es.flatten.length = es.length * z
  | [], _ => by simp
  | e :: es, h => by
    rw [List.flatten_cons, List.length_append, flat_len es (fun x hx => h x (List.mem_cons_of_mem _ hx)), h e (List.mem_cons_self ..), List.length_cons, Nat.add_mul]; omega
theorem flat_take {z : Nat} : ∀ (es : List (List Value)) (zs : List Value), (∀ x ∈ es, x.length = z) → ∀ (i : Nat) (e : List Value), es[i]? = some e → ((es.flatten ++ zs).drop (i * z)).take z = e ∧ i * z + z ≤ (es.flatten ++ zs).length
  | [], zs, h, i, e, hi => by simp at hi
  | d :: es, zs, h, 0, e, hi => by
    obtain rfl : d = e := by simpa using hi
    have hd := h d (List.mem_cons_self ..)
    rw [Nat.zero_mul, List.drop_zero, List.flatten_cons, List.append_assoc]
    exact ⟨by rw [← hd]; exact List.take_left .., by rw [List.length_append]; omega⟩
  | d :: es, zs, h, i + 1, e, hi => by
    have hd := h d (List.mem_cons_self ..)
    obtain ⟨h1, h2⟩ := flat_take es zs (fun x hx => h x (List.mem_cons_of_mem _ hx)) i e (by simpa using hi)
    rw [List.flatten_cons, List.append_assoc, Nat.add_mul, Nat.one_mul]
    refine ⟨?_, by rw [List.length_append, hd]; omega⟩
    rw [List.drop_append, hd, List.drop_of_length_le (by omega), List.nil_append, show i * z + z - z = i * z by omega]
    exact h1
end Go.Wb
