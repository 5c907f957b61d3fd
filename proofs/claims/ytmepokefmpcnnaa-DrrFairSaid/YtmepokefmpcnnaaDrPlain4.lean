/- A call of layer 28's first law: what Serve answers there, and that it stays fair. -/
import Derived.Test.YtmepokefmpcnnaaDrPlain3
set_option linter.unusedVariables false
set_option linter.unusedSimpArgs false
namespace Go.Proofs.Ytmepokefmpcnnaa.Dr
open Go.Wb
theorem costs_map {c : Nat → Int} {n : Nat} (hn : n ≤ 6) (hc : ∀ i, i < n → 64 ≤ c i ∧ c i ≤ 1600) : (keysN n).map (costOf (costsN c n)) = (List.range n).map c := by
  unfold keysN
  rw [List.map_map]
  apply List.map_congr_left
  intro i hi
  rw [List.mem_range] at hi
  have := hc i hi
  exact costOf_N hn hi (by omega)
theorem at'_range {c : Nat → Int} {n i : Nat} (h : i < n) : at' ((List.range n).map c) i = c i := by
  unfold at'
  rw [List.getD_eq_getElem?_getD, List.getElem?_map, List.getElem?_range h]; rfl
theorem Inv.congr {n : Nat} {q d B B' : Nat → Int} {t : Nat} {bg : Bool} {e : Nat → Int} {s m : Nat} (h : Inv n q d B t bg e s m) (hB : ∀ i, i < n → B i = B' i) : Inv n q d B' t bg e s m :=
  ⟨h.s_lt, h.t_lt, fun i hi => by rw [← hB i hi]; exact h.eq i hi, h.nn, h.up, h.eu, h.el⟩
/-- one call -/
theorem call {n : Nat} {c : Nat → Int} {qs ds : List Int} {B e : Nat → Int} {t s m : Nat} {bg : Bool} (h0 : 0 < n) (hn : n ≤ 6) (hc : ∀ i, i < n → 64 ≤ c i ∧ c i ≤ 1600) (hq : qs.length = n) (hd : ds.length = n)
    (hqs : ∀ i, i < n → 1600 ≤ at' qs i ∧ at' qs i ≤ 65536) (h : Inv n (at' qs) (at' ds) B t bg e s m) :
    ∃ ds' i m', serve 2 (costsN c n) ⟨keysN n, qs, ds, t, bg⟩ = some (⟨keysN n, qs, ds', i, true⟩, some i) ∧ i < n ∧ ds'.length = n ∧ Inv n (at' qs) (at' ds') (fun j => if j = i then B j + c i else B j) i true e s m' := by
  obtain ⟨ds', i, m', h1, h2, h3, h4⟩ := served (cs := (List.range n).map c) (by simp) hq hd (fun i hi => by rw [at'_range hi]; have := hc i hi; omega) hqs h
  refine ⟨ds', i, m', ?_, h2, h3, ?_⟩
  · unfold serve
    dsimp only
    rw [costs_map hn hc, keysN_len, h1, if_neg]
    intro hall
    rw [List.all_eq_true] at hall
    have := of_decide_eq_true (hall (keyN 0) (List.mem_of_getElem? (keysN_get h0)))
    rw [costOf_N hn h0 (by have := hc 0 h0; omega)] at this
    have := hc 0 h0
    omega
  · rw [at'_range h2] at h4
    exact h4
/-- the start -/
theorem Inv.zero {n : Nat} {qs : List Int} (h0 : 0 < n) (hqs : ∀ i, i < n → 0 ≤ at' qs i) : Inv n (at' qs) (at' (List.replicate n 0)) (fun _ => 0) 0 false (fun _ => 0) 0 0 := by
  have hz : ∀ i, at' (List.replicate n 0) i = 0 := by
    intro i
    unfold at'
    rw [List.getD_eq_getElem?_getD, List.getElem?_replicate]
    split <;> rfl
  have hc : ∀ i q, cur 0 false i q = 0 := by intro i q; simp [cur]
  refine ⟨h0, h0, fun i hi => ?_, fun i hi => ?_, fun i hi => ?_, fun i hi => by omega, fun i hi => .inl (Int.le_refl _)⟩
  · rw [hz, hc]
    have : Wn n 0 0 (ofs n 0 0) i = 0 := by unfold Wn; rw [ofs_self h0, if_neg (by omega)]
    rw [this]; simp
  · rw [hz]; omega
  · rw [hz, hc]; omega
/-- the window starts anew -/
theorem Inv.again {n : Nat} {q d B : Nat → Int} {t : Nat} {bg : Bool} {e : Nat → Int} {s m : Nat} (h : Inv n q d B t bg e s m) (hq : ∀ i, i < n → 0 ≤ q i) : ∃ e' s' m', Inv n q d (fun _ => 0) t bg e' s' m' :=
  ⟨_, _, _, Inv.start h.t_lt hq h.nn h.up⟩
end Go.Proofs.Ytmepokefmpcnnaa.Dr
