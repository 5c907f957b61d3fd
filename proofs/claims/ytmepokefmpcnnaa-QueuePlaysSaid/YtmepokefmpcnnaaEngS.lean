/- The engine, part S: a summary out of a run. -/
import Derived.Test.YtmepokefmpcnnaaEngK2
set_option linter.unusedSimpArgs false
set_option linter.unusedVariables false
namespace Go.Wb
open Go.RowKit
variable {P : Program}

theorem list_plain_eq {r : Ren} {p : Value → Bool} : ∀ {l l' : List Value}, l.length = l'.length → (∀ (i : Nat) (v v' : Value), l[i]? = some v → l'[i]? = some v' → VRel r v v') → (∀ v v', p v = true → VRel r v v' → v' = v) → l.all p = true → l' = l
  | [], [], _, _, _, _ => rfl
  | [], _ :: _, h, _, _, _ => by simp at h
  | _ :: _, [], h, _, _, _ => by simp at h
  | v :: l, v' :: l', h, k, q, ha => by
    simp only [List.all_cons, Bool.and_eq_true] at ha
    rw [q v v' ha.1 (k 0 v v' rfl rfl), list_plain_eq (l := l) (l' := l') (by simpa using h) (fun i a b h1 h2 => k (i + 1) a b (by simpa using h1) (by simpa using h2)) q ha.2]
theorem plainF_eq {r : Ren} : ∀ (n : Nat) (v v' : Value), plainF n v = true → VRel r v v' → v' = v
  | 0, v, v', h, k => by simp [plainF] at h
  | n + 1, v, v', h, k => by
    cases k with
    | bool b => rfl
    | int k n => rfl
    | string s => rfl
    | ptrNil => rfl
    | slcNil => rfl
    | mapNil => rfl
    | nilFunc => rfl
    | nilIface => rfl
    | ptr hd => simp [plainF] at h
    | map hd => simp [plainF] at h
    | slc hd h1 h2 h3 => simp [plainF] at h
    | slc0 hd h1 h2 h3 => simp [plainF] at h
    | slcE a => simp [plainF] at h
    | yield hd => simp [plainF] at h
    | func h1 h2 h3 h4 =>
      simp only [plainF, Bool.and_eq_true] at h
      have e1 := list_plain_eq h1 h2 (fun v v' => plainF_eq n v v') h.1
      have e2 := list_plain_eq h3 h4 (fun v v' => plainF_eq n v v') h.2
      rw [Array.toList_inj.1 e1, Array.toList_inj.1 e2]
    | agg h1 h2 =>
      simp only [plainF] at h
      rw [Array.toList_inj.1 (list_plain_eq h1 h2 (fun v v' => plainF_eq n v v') h)]
    | tuple h1 h2 =>
      simp only [plainF] at h
      rw [Array.toList_inj.1 (list_plain_eq h1 h2 (fun v v' => plainF_eq n v v') h)]
    | iface h1 =>
      simp only [plainF] at h
      rw [plainF_eq n _ _ h h1]
theorem plain_eq {r : Ren} {v v' : Value} (h : plain v = true) (k : VRel r v v') : v' = v := plainF_eq 6 v v' h k

/-- a function that answers, from an empty start, as g does: it does so everywhere -/
theorem sum_of_run (hm : P.follows .mixedOrders = true) {F : Nat → Option AFn} (hF : TabOk P F) {f : FuncId} {g : List Value → Option Value}
    (h : ∀ args v, g args = some v → args.all plain = true ∧ plain v = true ∧ ∃ n, (callN F n (.fn f) args (names 0)).map (·.1) = some v) : SumOk P f g := by
  intro args v hg r w args' ha
  obtain ⟨h1, h2, n, h3⟩ := h args v hg
  have ea : args'.toList = args := list_plain_eq ha.length ha.at (fun v v' hp hv => plain_eq hp hv) h1
  cases hc : callN F n (.fn f) args (names 0) with
  | none => rw [hc] at h3; simp at h3
  | some vs =>
    obtain ⟨v0, S'⟩ := vs
    rw [hc] at h3
    obtain rfl : v0 = v := by simpa using h3
    have hal : LRel Ren.empty args args'.toList := by
      rw [ea]
      clear ha ea hc hg
      induction args with
      | nil => exact .nil
      | cons a l ih =>
        simp only [List.all_cons, Bool.and_eq_true] at h1
        exact .cons (plain_rel h1.1) (ih h1.2)
    obtain ⟨D, r', w', v', hs, hv, hct⟩ := callN_ok hm hF n (.fn f) args v0 (names 0) S' hc Ren.empty w (start_rel (P := P) 0) (fun id _ _ hd => hd) args' hal trivial
    obtain rfl := plain_eq h2 hv
    exact ⟨w', ⟨hs.os, hs.tape, hs.output, hs.size, fun k hk => hs.frame k hk start_dead⟩, h2, hct⟩

/-- a table with a summary more -/
def withSum (F : Nat → Option AFn) (f : Nat) (g : List Value → Option Value) (i : Nat) : Option AFn := match Nat.beq i f with
  | true => some (.sum g)
  | false => F i
theorem withSum_ok {F : Nat → Option AFn} (hF : TabOk P F) {f : Nat} {g : List Value → Option Value} (hg : SumOk P f g) : TabOk P (withSum F f g) := by
  intro i af h
  unfold withSum at h
  split at h
  · rename_i e
    have e := Nat.eq_of_beq_eq_true e
    subst e
    exact .inr ⟨g, by simpa using h.symm, hg⟩
  · exact hF i af h
end Go.Wb
