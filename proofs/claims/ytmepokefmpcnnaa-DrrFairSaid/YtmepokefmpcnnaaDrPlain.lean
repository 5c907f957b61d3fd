/- That turns with deficits are fair: the plain law. -/
import Derived.Test.YtmepokefmpcnnaaDrFr2
set_option linter.unusedVariables false
set_option linter.unusedSimpArgs false
namespace Go.Proofs.Ytmepokefmpcnnaa.Dr
/-- a turn from s on -/
def ofs (n s i : Nat) : Nat := (i + n - s) % n
theorem ofs_lt {n s i : Nat} (h : 0 < n) : ofs n s i < n := Nat.mod_lt _ h
theorem ofs_eq {n s i : Nat} (hs : s < n) (hi : i < n) : ofs n s i = if s ≤ i then i - s else i + n - s := by
  unfold ofs
  split
  · rw [show i + n - s = (i - s) + n by omega, Nat.add_mod_right, Nat.mod_eq_of_lt (by omega)]
  · rw [Nat.mod_eq_of_lt (by omega)]
theorem nxt_eq {n t : Nat} (ht : t < n) : (t + 1) % n = if t + 1 = n then 0 else t + 1 := by
  split
  · next h => rw [h, Nat.mod_self]
  · rw [Nat.mod_eq_of_lt (by omega)]
theorem ofs_inj {n s i j : Nat} (hs : s < n) (hi : i < n) (hj : j < n) (h : ofs n s i = ofs n s j) : i = j := by
  rw [ofs_eq hs hi, ofs_eq hs hj] at h
  split at h <;> split at h <;> omega
theorem ofs_nxt {n s t : Nat} (hs : s < n) (ht : t < n) : ofs n s ((t + 1) % n) = if ofs n s t + 1 = n then 0 else ofs n s t + 1 := by
  have h1 : (t + 1) % n < n := Nat.mod_lt _ (by omega)
  rw [ofs_eq hs h1, ofs_eq hs ht, nxt_eq ht]
  repeat' split
  all_goals omega
theorem ofs_self {n s : Nat} (hs : s < n) : ofs n s s = 0 := by rw [ofs_eq hs hs, if_pos (Nat.le_refl _)]; omega
/-- what was given since the window began -/
def Wn (n s m c i : Nat) : Nat := if ofs n s i < c then m + 1 else m
def cur (t : Nat) (bg : Bool) (i : Nat) (q : Int) : Int := if i = t ∧ bg = true then q else 0
structure Inv (n : Nat) (q d B : Nat → Int) (t : Nat) (bg : Bool) (e : Nat → Int) (s m : Nat) : Prop where
  s_lt : s < n
  t_lt : t < n
  eq : ∀ i, i < n → B i + d i = e i + (Wn n s m (ofs n s t) i : Int) * q i + cur t bg i (q i)
  nn : ∀ i, i < n → 0 ≤ d i
  up : ∀ i, i < n → d i - cur t bg i (q i) < 1600
  eu : ∀ i, i < n → e i < 1600
  el : ∀ i, i < n → 0 ≤ e i ∨ (i = s ∧ - q i ≤ e i)
/-- a window's start -/
theorem Inv.start {n : Nat} {q d : Nat → Int} {t : Nat} {bg : Bool} (ht : t < n) (hq : ∀ i, i < n → 0 ≤ q i) (hn : ∀ i, i < n → 0 ≤ d i) (hu : ∀ i, i < n → d i - cur t bg i (q i) < 1600) :
    Inv n q d (fun _ => 0) t bg (fun i => d i - cur t bg i (q i)) t 0 := by
  refine ⟨ht, ht, fun i hi => ?_, hn, hu, hu, fun i hi => ?_⟩
  · have : Wn n t 0 (ofs n t t) i = 0 := by unfold Wn; rw [ofs_self ht, if_neg (by omega)]
    rw [this]
    simp
  · have := hn i hi
    have := hq i hi
    simp only [cur]
    split
    · next h => exact .inr ⟨h.1, by omega⟩
    · exact .inl (by omega)
/-- a turn begins -/
theorem Inv.begin_ {n : Nat} {q d B : Nat → Int} {t : Nat} {e : Nat → Int} {s m : Nat} (h : Inv n q d B t false e s m) (hq : ∀ i, i < n → 0 ≤ q i) :
    Inv n q (fun i => if i = t then d i + q i else d i) B t true e s m := by
  refine ⟨h.s_lt, h.t_lt, fun i hi => ?_, fun i hi => ?_, fun i hi => ?_, h.eu, h.el⟩
  · have := h.eq i hi
    simp only [cur, Bool.false_eq_true, and_false, if_false, and_true] at this ⊢
    split <;> omega
  · have := h.nn i hi
    have := hq i hi
    split <;> omega
  · have := h.up i hi
    simp only [cur, Bool.false_eq_true, and_false, if_false, and_true] at this ⊢
    split <;> omega
/-- one that has the turn is served -/
theorem Inv.serve {n : Nat} {q d B : Nat → Int} {t : Nat} {e : Nat → Int} {s m : Nat} {c : Int} (h : Inv n q d B t true e s m) (hc : 0 ≤ c) (hd : c ≤ d t) :
    Inv n q (fun i => if i = t then d i - c else d i) (fun i => if i = t then B i + c else B i) t true e s m := by
  refine ⟨h.s_lt, h.t_lt, fun i hi => ?_, fun i hi => ?_, fun i hi => ?_, h.eu, h.el⟩
  · have := h.eq i hi
    split <;> omega
  · have := h.nn i hi
    split
    · next e => subst e; omega
    · exact this
  · have := h.up i hi
    split <;> omega
/-- the turn goes on -/
theorem Inv.pass {n : Nat} {q d B : Nat → Int} {t : Nat} {e : Nat → Int} {s m : Nat} (h : Inv n q d B t true e s m) (hd : d t < 1600) :
    ∃ m', Inv n q d B ((t + 1) % n) false e s m' := by
  have hs := h.s_lt
  have ht := h.t_lt
  have ht' : (t + 1) % n < n := Nat.mod_lt _ (by omega)
  refine ⟨if ofs n s t + 1 = n then m + 1 else m, hs, ht', fun i hi => ?_, h.nn, fun i hi => ?_, h.eu, h.el⟩
  · have h1 := h.eq i hi
    have h2 : Wn n s (if ofs n s t + 1 = n then m + 1 else m) (ofs n s ((t + 1) % n)) i = if i = t then Wn n s m (ofs n s t) i + 1 else Wn n s m (ofs n s t) i := by
      rw [ofs_nxt hs ht]
      have hlt := ofs_lt (n := n) (s := s) (i := i) (by omega)
      unfold Wn
      by_cases hit : i = t
      · subst hit
        rw [if_pos rfl, if_neg (Nat.lt_irrefl (ofs n s i))]
        split
        · rw [if_neg (by omega)]
        · rw [if_pos (by omega)]
      · have hne : ofs n s i ≠ ofs n s t := fun hc => hit (ofs_inj hs hi ht hc)
        rw [if_neg hit]
        split
        · rw [if_neg (by omega), if_pos (by omega)]
        · by_cases h3 : ofs n s i < ofs n s t
          · rw [if_pos (by omega), if_pos h3]
          · rw [if_neg (by omega), if_neg h3]
    rw [h2, h1]
    simp only [cur, Bool.false_eq_true, and_false, if_false, and_true]
    by_cases hit : i = t
    · rw [if_pos hit, if_pos hit, Int.natCast_add, Int.add_mul]
      omega
    · rw [if_neg hit, if_neg hit]
  · have := h.up i hi
    simp only [cur, Bool.false_eq_true, and_false, if_false, and_true] at this ⊢
    by_cases hit : i = t
    · subst hit; omega
    · rw [if_neg hit] at this; exact this
/-- fair -/
theorem Inv.fair {n : Nat} {q d B : Nat → Int} {t : Nat} {bg : Bool} {e : Nat → Int} {s m : Nat} (h : Inv n q d B t bg e s m) (hq : ∀ i, i < n → 0 ≤ q i) {a b : Nat} (ha : a < n) (hb : b < n) :
    B a * q b - B b * q a ≤ q a * q b + 1600 * (q a + q b) := by
  have qa := hq a ha
  have qb := hq b hb
  have pab : 0 ≤ q a * q b := Int.mul_nonneg qa qb
  by_cases hab : a = b
  · subst hab; omega
  have hs := h.s_lt
  have ht := h.t_lt
  have a1 := h.eq a ha
  have a2 := h.nn a ha
  have a3 := h.eu a ha
  have b1 := h.eq b hb
  have b2 := h.up b hb
  -- what a was given, at most
  obtain ⟨x, hx⟩ : ∃ x : Int, x = (Wn n s m (ofs n s t) a : Int) + (if a = t ∧ bg = true then 1 else 0) := ⟨_, rfl⟩
  have hA : B a ≤ 1600 + x * q a := by
    have : x * q a = (Wn n s m (ofs n s t) a : Int) * q a + cur t bg a (q a) := by
      rw [hx, Int.add_mul]
      unfold cur
      split <;> simp
    omega
  obtain ⟨y, hy⟩ : ∃ y : Int, y = (Wn n s m (ofs n s t) b : Int) := ⟨_, rfl⟩
  have hB : e b + y * q b - 1600 ≤ B b := by rw [hy]; omega
  have wa : x ≤ m + 1 ∧ (x ≤ m ∨ ofs n s a ≤ ofs n s t) := by
    rw [hx]
    unfold Wn
    by_cases hat : a = t
    · subst hat
      rw [if_neg (Nat.lt_irrefl (ofs n s a))]
      split <;> omega
    · rw [if_neg (fun (hc : a = t ∧ bg = true) => hat hc.1)]
      split <;> omega
  have wb : (m : Int) ≤ y ∧ (ofs n s b < ofs n s t → y = m + 1) := by
    rw [hy]
    unfold Wn
    split <;> omega
  have m1 := Int.mul_le_mul_of_nonneg_right hA qb
  have m2 := Int.mul_le_mul_of_nonneg_right hB qa
  have r1 : (1600 + x * q a) * q b = 1600 * q b + x * (q a * q b) := by rw [Int.add_mul, Int.mul_assoc]
  have r2 : (e b + y * q b - 1600) * q a = e b * q a + y * (q a * q b) - 1600 * q a := by
    rw [Int.sub_mul, Int.add_mul, Int.mul_assoc y, Int.mul_comm (q b)]
  rw [r1] at m1
  rw [r2] at m2
  generalize hP : q a * q b = P at pab m1 m2 r1 r2 ⊢
  rcases h.el b hb with h0 | ⟨hbs, h0⟩
  · have p1 : 0 ≤ e b * q a := Int.mul_nonneg h0 qa
    have p2 : x * P ≤ (y + 1) * P := Int.mul_le_mul_of_nonneg_right (by omega) pab
    rw [Int.add_mul, Int.one_mul] at p2
    omega
  · have p1 : -(q b) * q a ≤ e b * q a := Int.mul_le_mul_of_nonneg_right h0 qa
    rw [Int.neg_mul, Int.mul_comm (q b), hP] at p1
    have hxy : x ≤ y := by
      have h1 : ofs n s b = 0 := by rw [hbs]; exact ofs_self hs
      have h2 : ofs n s a ≠ 0 := fun hc => hab (by rw [hbs]; exact ofs_inj hs ha hs (by rw [hc, ofs_self hs]))
      have := wb.2
      rcases wa.2 with h3 | h3
      · omega
      · have := this (by omega); omega
    have p2 : x * P ≤ y * P := Int.mul_le_mul_of_nonneg_right hxy pab
    omega
end Go.Proofs.Ytmepokefmpcnnaa.Dr
