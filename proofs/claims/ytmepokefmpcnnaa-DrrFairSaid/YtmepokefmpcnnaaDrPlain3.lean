/- The keys of layer 28's first law. -/
import Derived.Test.YtmepokefmpcnnaaDrPlain2
set_option linter.unusedVariables false
set_option linter.unusedSimpArgs false
namespace Go.Proofs.Ytmepokefmpcnnaa.Dr
open Go.Wb
/-- the key of a number -/
def keyN (i : Nat) : ByteArray := ⟨#[UInt8.ofNat (97 + i)]⟩
theorem keyN_slt : ∀ i, i < 6 → ∀ j, j < 6 → slt (keyN i) (keyN j) = decide (i < j) := by
  intro i hi j hj
  have h : ∀ a b : UInt8, slt ⟨#[a]⟩ ⟨#[b]⟩ = decide (a < b) := by
    intro a b
    unfold slt
    rw [ByteArray.toList_eq, ByteArray.toList_eq]
    simp [Op.bytesLess]
  unfold keyN
  rw [h]
  have e : (UInt8.ofNat (97 + i) < UInt8.ofNat (97 + j)) ↔ i < j := by
    rw [UInt8.lt_iff_toNat_lt, UInt8.toNat_ofNat', UInt8.toNat_ofNat', Nat.mod_eq_of_lt (by omega), Nat.mod_eq_of_lt (by omega)]
    omega
  by_cases hij : i < j
  · rw [decide_eq_true hij, decide_eq_true (e.2 hij)]
  · rw [decide_eq_false hij, decide_eq_false fun c => hij (e.1 c)]
theorem keyN_inj {i j : Nat} (hi : i < 6) (hj : j < 6) (h : keyN i = keyN j) : i = j := by
  have a := keyN_slt i hi j hj
  have b := keyN_slt j hj i hi
  rw [h, slt_irr] at a
  rw [h, slt_irr] at b
  have a := of_decide_eq_false a.symm
  have b := of_decide_eq_false b.symm
  omega
def keysN (k : Nat) : List ByteArray := (List.range k).map keyN
theorem keysN_len (k : Nat) : (keysN k).length = k := by simp [keysN]
theorem keysN_get {k i : Nat} (h : i < k) : (keysN k)[i]? = some (keyN i) := by simp [keysN, h]
theorem keysN_rise {k : Nat} (hk : k ≤ 6) : Rise (keysN k) := by
  unfold Rise
  rw [List.pairwise_iff_getElem]
  intro i j hi hj hij
  rw [keysN_len] at hi hj
  have h1 := keysN_get hi
  have h2 := keysN_get hj
  rw [(List.getElem?_eq_some_iff.1 h1).2, (List.getElem?_eq_some_iff.1 h2).2, keyN_slt i (by omega) j (by omega)]
  exact decide_eq_true hij
theorem keysN_low {k : Nat} (hk : k < 6) : lowB (keysN k) (keyN k) = k := by
  have h1 := lowB_le (keysN k) (keyN k)
  rw [keysN_len] at h1
  by_cases h : lowB (keysN k) (keyN k) < k
  · have := (lowB_iff (keysN_rise (by omega)) (t := keyN k) (keysN_get h)).1 (by rw [keyN_slt _ (by omega) _ hk]; exact decide_eq_true h)
    omega
  · omega
/-- the next key is put at the end -/
theorem addR_next {k : Nat} {qs ds : List Int} {q : Int} (hk : k < 6) (hq : mayQ q = true) (h1 : qs.length = k) (h2 : ds.length = k) :
    addR ⟨keysN k, qs, ds, 0, false⟩ (keyN k) q = (⟨keysN (k + 1), qs ++ [q], ds ++ [0], 0, false⟩, 0) := by
  have hl := keysN_low hk
  have hn : (keysN k)[k]? = none := List.getElem?_eq_none (by rw [keysN_len]; exact Nat.le_refl _)
  unfold addR
  dsimp only
  rw [if_neg (by rw [hq]; simp), hl, hn, if_neg (by simp), keysN_len, if_neg (by omega), if_neg (by omega)]
  have hins : ∀ {α : Type} (l : List α) (x : α), l.length = k → insAt l k x = l ++ [x] := by
    intro α l x h
    unfold insAt
    rw [List.take_of_length_le (by omega), List.drop_of_length_le (by omega)]
  rw [hins _ _ (keysN_len k), hins _ _ h1, hins _ _ h2]
  simp [keysN, List.range_succ]
/-- the costs of the keys' first frames -/
def costsN (c : Nat → Int) (k : Nat) : List (ByteArray × Int) := (List.range k).map fun i => (keyN i, c i)
theorem headOf_app (l l' : List (ByteArray × Int)) (k : ByteArray) (h : ∀ a n, (a, n) ∈ l → a ≠ k) : headOf (l ++ l') k = headOf l' k := by
  induction l with
  | nil => rfl
  | cons x l ih =>
    obtain ⟨a, n⟩ := x
    rw [List.cons_append, headOf, if_neg (h a n (by simp)), ih fun a n hm => h a n (by simp [hm])]
theorem costOf_N {c : Nat → Int} {k i : Nat} (hk : k ≤ 6) (hi : i < k) (hc : 1 ≤ c i ∧ c i ≤ 1600) : costOf (costsN c k) (keyN i) = c i := by
  have hh : headOf (costsN c k) (keyN i) = (c i, true) := by
    have hsplit : costsN c k = costsN c i ++ ((keyN i, c i) :: (List.range' (i + 1) (k - (i + 1))).map fun i => (keyN i, c i)) := by
      unfold costsN
      have : List.range k = List.range i ++ i :: List.range' (i + 1) (k - (i + 1)) := by
        apply List.ext_getElem?
        intro j
        by_cases h1 : j < i
        · rw [List.getElem?_append_left (by simpa using h1), List.getElem?_range (by omega), List.getElem?_range h1]
        · rw [List.getElem?_append_right (by simp; omega), List.length_range]
          by_cases h2 : j = i
          · subst h2; simp [hi]
          · rw [show j - i = (j - i - 1) + 1 by omega, List.getElem?_cons_succ]
            by_cases h3 : j < k
            · rw [List.getElem?_range' (by omega), List.getElem?_range h3]; congr 1; omega
            · rw [List.getElem?_eq_none (by simp; omega), List.getElem?_eq_none (by simp; omega)]
      rw [this]
      simp
    rw [hsplit, headOf_app, headOf, if_pos rfl]
    · rw [decide_eq_true (by omega)]
    · intro a n hm
      simp only [costsN, List.mem_map, List.mem_range] at hm
      obtain ⟨j, hj, he⟩ := hm
      have : a = keyN j := (congrArg Prod.fst he).symm
      rw [this]
      intro hc
      have := keyN_inj (by omega) (by omega) hc
      omega
  unfold costOf
  rw [hh, if_pos ⟨rfl, hc⟩]
end Go.Proofs.Ytmepokefmpcnnaa.Dr
