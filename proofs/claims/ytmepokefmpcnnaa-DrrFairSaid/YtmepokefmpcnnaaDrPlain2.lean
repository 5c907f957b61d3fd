/- A call of Serve keeps what makes turns fair. -/
import Derived.Test.YtmepokefmpcnnaaDrPlain
set_option linter.unusedVariables false
set_option linter.unusedSimpArgs false
namespace Go.Proofs.Ytmepokefmpcnnaa.Dr
def at' (l : List Int) (i : Nat) : Int := l.getD i 0
theorem at'_set {l : List Int} {t : Nat} {x : Int} (ht : t < l.length) : at' (l.set t x) = fun i => if i = t then x else at' l i := by
  funext i
  unfold at'
  rw [List.getD_eq_getElem?_getD, List.getD_eq_getElem?_getD, List.getElem?_set]
  by_cases h : t = i
  · subst h; rw [if_pos rfl, if_pos ht, if_pos rfl]; rfl
  · rw [if_neg h, if_neg (fun hc => h hc.symm)]
theorem at'_get {l : List Int} {i : Nat} (h : i < l.length) : l[i]? = some (at' l i) := by
  unfold at'
  rw [List.getElem?_eq_getElem h, List.getD_eq_getElem?_getD, List.getElem?_eq_getElem h]; rfl
theorem Inv.d_le {n : Nat} {q d B : Nat → Int} {t : Nat} {bg : Bool} {e : Nat → Int} {s m : Nat} (h : Inv n q d B t bg e s m) {i : Nat} (hi : i < n) (hq : 0 ≤ q i) : d i < 1600 + q i := by
  have := h.up i hi
  unfold cur at this
  split at this <;> omega
theorem served {n : Nat} {cs qs ds : List Int} {B e : Nat → Int} {t s m : Nat} {bg : Bool} (hc : cs.length = n) (hq : qs.length = n) (hd : ds.length = n)
    (hcs : ∀ i, i < n → 1 ≤ at' cs i ∧ at' cs i ≤ 1600) (hqs : ∀ i, i < n → 1600 ≤ at' qs i ∧ at' qs i ≤ 65536) (h : Inv n (at' qs) (at' ds) B t bg e s m) :
    ∃ ds' i m', serveGo n cs qs 2 ds t bg = some (ds', i) ∧ i < n ∧ ds'.length = n ∧ Inv n (at' qs) (at' ds') (fun j => if j = i then B j + at' cs i else B j) i true e s m' := by
  have hqn : ∀ i, i < n → 0 ≤ at' qs i := fun i hi => by have := hqs i hi; omega
  -- a turn that is not begun is served
  have fresh : ∀ (f : Nat) (ds : List Int) (t m : Nat), ds.length = n → Inv n (at' qs) (at' ds) B t false e s m → ∃ ds' i m', serveGo n cs qs (f + 1) ds t false = some (ds', i) ∧ i < n ∧ ds'.length = n ∧ Inv n (at' qs) (at' ds') (fun j => if j = i then B j + at' cs i else B j) i true e s m' := by
    intro f ds t m hd h
    have ht := h.t_lt
    have c1 := hcs t ht
    have q1 := hqs t ht
    have d1 := h.nn t ht
    have d2 := h.d_le ht (hqn t ht)
    have h2 := h.begin_ hqn
    have h3 := h2.serve (c := at' cs t) (by omega) (by rw [if_pos rfl]; omega)
    refine ⟨ds.set t (at' ds t + at' qs t - at' cs t), t, m, ?_, ht, by rw [List.length_set, hd], ?_⟩
    · rw [serveGo, at'_get (l := cs) (by omega), at'_get (l := qs) (by omega), at'_get (l := ds) (by omega)]
      dsimp only
      rw [if_pos (by omega), if_neg (by omega)]
      simp only [Bool.false_eq_true, if_false]
      rw [if_pos (by omega)]
    · have hE : (fun i => if i = t then (if i = t then at' ds i + at' qs i else at' ds i) - at' cs t else (if i = t then at' ds i + at' qs i else at' ds i)) = at' (ds.set t (at' ds t + at' qs t - at' cs t)) := by
        rw [at'_set (by omega)]
        funext i
        by_cases hi : i = t
        · subst hi; simp
        · simp [hi]
      rw [← hE]
      exact h3
  cases bg with
  | false => exact fresh 1 ds t m hd h
  | true =>
    have ht := h.t_lt
    have c1 := hcs t ht
    have q1 := hqs t ht
    have d1 := h.nn t ht
    have d2 := h.d_le ht (hqn t ht)
    have hgo : serveGo n cs qs 2 ds t true = if at' cs t ≤ at' ds t then some (ds.set t (at' ds t - at' cs t), t) else serveGo n cs qs 1 (ds.set t (at' ds t)) ((t + 1) % n) false := by
      rw [serveGo, at'_get (l := cs) (by omega), at'_get (l := qs) (by omega), at'_get (l := ds) (by omega)]
      dsimp only
      rw [if_pos (by omega), if_neg (by omega)]
      simp only [if_true]
    have hset : ds.set t (at' ds t) = ds := by
      apply List.ext_getElem?
      intro i
      rw [List.getElem?_set]
      split
      · next h1 => subst h1; rw [if_pos (by omega), at'_get (by omega)]
      · rfl
    by_cases hle : at' cs t ≤ at' ds t
    · rw [hgo, if_pos hle]
      have h3 := h.serve (c := at' cs t) (by omega) hle
      refine ⟨_, t, m, rfl, ht, by rw [List.length_set, hd], ?_⟩
      rw [at'_set (by omega)]
      have hE : (fun i => if i = t then at' ds i - at' cs t else at' ds i) = fun i => if i = t then at' ds t - at' cs t else at' ds i := by
        funext i
        by_cases hi : i = t
        · subst hi; rfl
        · simp [hi]
      rw [← hE]
      exact h3
    · rw [hgo, if_neg hle, hset]
      obtain ⟨m', h4⟩ := h.pass (by omega)
      exact fresh 0 ds _ m' hd h4
end Go.Proofs.Ytmepokefmpcnnaa.Dr
