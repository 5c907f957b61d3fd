/- What layer 41's reader does at each byte. -/
import Derived.Test.YtmepokefmpcnnaaHtText
import Derived.Test.YtmepokefmpcnnaaEngRX
set_option maxRecDepth 100000
set_option linter.unusedVariables false
set_option linter.unusedSimpArgs false
namespace Go.Proofs.Ytmepokefmpcnnaa.Ht
open Go.Wb
/-- a reader: what is next, within the line, used, lines, status, over, error -/
structure R where
  nx : Nat
  a : Nat
  u : Nat
  l : Nat
  s : Nat
  o : Bool
  e : Int
deriving DecidableEq
def rv (r : R) : List Value := [.func (.func r.nx) ⟨[]⟩ ⟨[]⟩, .int .i64 r.a, .int .i64 r.u, .int .i64 r.l, .int .i64 r.s, .bool r.o, .int .i64 r.e]
abbrev ptr (b : Nat) : Value := .pointer (some ⟨b, 0, none⟩)
/-- the end of a line -/
def endR (r : R) : R := { r with l := r.l + 1, nx := 181, o := decide (r.a = 0), a := 0 }
theorem s171 {n : Nat} {S : Hp} {p : Nat} {x : Option Nat} {s : Bool} {r : R} {Φ : Value → Hp → Prop} (h : S.heap.get p = some (.cells x s (rv r))) (hl : r.l ≤ 5000)
    (ks : ∀ S', Fra [p] S S' → S'.heap.get p = some (.cells x s (rv (endR r))) → Φ (.bool true) S') : wp (callN T (n + 1) (.fn 171) [ptr p, .int .u8 10]) Φ S := by
  refine c171 g171 ?_
  unfold P171
  unfold rv at h
  simp (disch := first | omega | (simp only [Hp.add_next, Hp.put_next]; done) | (simp only [Hp.add_next, Hp.put_next]; omega) | fail) only [↓P_fldA, ↓P_nil, ↓P_load1, ↓P_store, ifP_bool, ifB_false, ↓P_eql, ↓P_neq, ↓P_add64, blkP_cells, rdP_cells, optP_some, condP_of, put_at, List.getElem?_cons_zero, List.getElem?_cons_succ, List.length_cons, List.length_nil, Nat.zero_add, Nat.add_zero, Nat.reduceAdd, Nat.reduceLeDiff, and_self, and_true, Bool.not_true, decide_true, List.size_toArray, splice_z, splice_1, splice_3, overlay_n, overlay_c, List.all_cons, List.all_nil, one_int, one_bool, one_fn, cells_int, cells_bool, cells_fn, Bool.and_self, splice_5, h]
  have hz : decide (((r.a : Nat) : Int) = 0) = decide (r.a = 0) := by by_cases h : r.a = 0 <;> simp [h]
  refine ks _ (by repeat' (first | exact Fra.refl _ _ | assumption | apply Fra.add | (refine Fra.put ?_ ?_ _) | exact Or.inl (by (first | omega | (simp only [Hp.add_next, Hp.put_next]; done) | (simp only [Hp.add_next, Hp.put_next]; omega))) | exact Or.inr (by simp))) ?_
  rw [put_at]
  simp only [rv, endR, hz]
  rfl
/-- the bytes that must end a line -/
def ends (r : R) (c : Int) : Option R := if c = 13 then some { r with nx := 170 } else if c = 10 then some (endR r) else none
theorem s149 {n : Nat} {S : Hp} {p : Nat} {x : Option Nat} {s : Bool} {r r' : R} {c : Int} {Φ : Value → Hp → Prop} (h : S.heap.get p = some (.cells x s (rv r))) (hl : r.l ≤ 5000) (hs : ends r c = some r')
    (ks : ∀ S', Fra [p] S S' → S'.heap.get p = some (.cells x s (rv r')) → Φ (.bool true) S') : wp (callN T (n + 1 + 1) (.fn 149) [ptr p, .int .u8 c]) Φ S := by
  refine c149 g149 ?_
  unfold P149
  have h' := h
  unfold rv at h
  unfold ends at hs
  by_cases h1 : c = 13
  · rw [if_pos h1] at hs
    cases hs
    subst h1
    simp (disch := first | omega | (simp only [Hp.add_next, Hp.put_next]; done) | (simp only [Hp.add_next, Hp.put_next]; omega) | fail) only [↓P_fldA, ↓P_nil, ↓P_store, ifP_bool, ifB_true, ↓P_eql, ↓P_callF2, blkP_cells, condP_of, List.length_cons, List.length_nil, Nat.zero_add, Nat.add_zero, Nat.reduceAdd, Nat.reduceLeDiff, and_true, decide_true, List.size_toArray, splice_z, overlay_n, overlay_c, List.all_cons, List.all_nil, one_fn, cells_fn, Bool.and_self, List.nil_append, List.append_nil, h]
    exact ks _ (by repeat' (first | exact Fra.refl _ _ | assumption | apply Fra.add | (refine Fra.put ?_ ?_ _) | exact Or.inl (by (first | omega | (simp only [Hp.add_next, Hp.put_next]; done) | (simp only [Hp.add_next, Hp.put_next]; omega))) | exact Or.inr (by simp))) (put_at _ _ _)
  · rw [if_neg h1] at hs
    by_cases h2 : c = 10
    · rw [if_pos h2] at hs
      cases hs
      subst h2
      have e1 : decide ((10 : Int) = 13) = false := rfl
      simp (disch := first | omega | (simp only [Hp.add_next, Hp.put_next]; done) | (simp only [Hp.add_next, Hp.put_next]; omega) | fail) only [↓P_fldA, ↓P_nil, ↓P_store, ifP_bool, ifB_true, ifB_false, ↓P_eql, ↓P_callF2, condP_of, List.length_cons, List.length_nil, Nat.zero_add, Nat.add_zero, and_true, decide_true, List.size_toArray, splice_z, List.all_cons, List.all_nil, one_fn, cells_fn, Bool.and_self, List.nil_append, List.append_nil, e1]
      exact s171 h' hl ks
    · rw [if_neg h2] at hs; cases hs
/-- a byte of a text -/
def text (r : R) (c : Int) : Option R := if c ≥ 32 ∨ c = 9 then some r else ends r c
theorem s169 {n : Nat} {S : Hp} {p : Nat} {x : Option Nat} {s : Bool} {r r' : R} {c : Int} {Φ : Value → Hp → Prop} (h : S.heap.get p = some (.cells x s (rv r))) (hl : r.l ≤ 5000) (hs : text r c = some r')
    (ks : ∀ S', Fra [p] S S' → S'.heap.get p = some (.cells x s (rv r')) → Φ (.bool true) S') : wp (callN T (n + 1 + 1 + 1) (.fn 169) [ptr p, .int .u8 c]) Φ S := by
  refine c169 g169 ?_
  unfold P169
  unfold text at hs
  by_cases h1 : c ≥ 32 ∨ c = 9
  · rw [if_pos h1] at hs
    cases hs
    have e : (decide (c ≥ 32) || decide (c = 9)) = true := by simpa using h1
    simp (disch := first | omega | (simp only [Hp.add_next, Hp.put_next]; done) | (simp only [Hp.add_next, Hp.put_next]; omega) | fail) only [↓P_andQ, andQ_ft, orQ_p, ↓P_geq, ↓P_eql, ↓P_callF2, List.nil_append, List.append_nil, e]
    exact ks _ (Fra.refl _ _) h
  · rw [if_neg h1] at hs
    have e : (decide (c ≥ 32) || decide (c = 9)) = false := by
      rw [Bool.or_eq_false_iff, decide_eq_false_iff_not, decide_eq_false_iff_not]; omega
    simp (disch := first | omega | (simp only [Hp.add_next, Hp.put_next]; done) | (simp only [Hp.add_next, Hp.put_next]; omega) | fail) only [↓P_andQ, andQ_ff, orQ_p, ↓P_geq, ↓P_eql, ↓P_callF2, List.nil_append, List.append_nil, e]
    refine s149 h hl hs fun S' hF h' => ?_
    exact ks S' hF h'
/-- a letter or a digit -/
def wordB (c : Int) : Bool := (decide (c ≥ 48) && decide (c ≤ 57)) || ((decide (c ≥ 97) && decide (c ≤ 122)) || (decide (c ≥ 65) && decide (c ≤ 90)))
theorem s184 {n : Nat} {S : Hp} {c : Int} {Φ : Value → Hp → Prop} (ks : Φ (.bool (wordB c)) S) : wp (callN T (n + 1) (.fn 184) [.int .u8 c]) Φ S := by
  refine c184 g184 ?_
  unfold P184
  simp (disch := first | omega | (simp only [Hp.add_next, Hp.put_next]; done) | (simp only [Hp.add_next, Hp.put_next]; omega) | fail) only [↓P_andQ, andQ_p, orQ_p, ↓P_leq, ↓P_geq]
  have : wordB c = ((decide (c ≥ 48) && decide (c ≤ 57) || decide (c ≥ 97) && decide (c ≤ 122)) || decide (c ≥ 65) && decide (c ≤ 90)) := by
    unfold wordB; simp only [Bool.or_assoc]
  rw [this] at ks
  exact ks
/-- a byte of a name; those that are asked -/
def name (r : R) (c : Int) : Option R := if c = 120 ∨ c = 97 ∨ c = 45 then some { r with a := r.a + 1 } else if c = 58 ∧ 0 < r.a then some { r with nx := 148 } else if (c = 10 ∨ c = 13) ∧ r.a = 0 then ends r c else none
theorem s183 {n : Nat} {S : Hp} {p : Nat} {x : Option Nat} {s : Bool} {r r' : R} {c : Int} {Φ : Value → Hp → Prop} (h : S.heap.get p = some (.cells x s (rv r))) (hl : r.l ≤ 5000) (ha : r.a ≤ 5000) (hs : name r c = some r')
    (ks : ∀ S', Fra [p] S S' → S'.heap.get p = some (.cells x s (rv r')) → Φ (.bool true) S') : wp (callN T (n + 1 + 1 + 1) (.fn 183) [ptr p, .int .u8 c]) Φ S := by
  refine c183 g183 ?_
  unfold P183
  have h' := h
  unfold rv at h
  unfold name at hs
  have inc : ∀ S', Fra [p] S S' → S'.heap.get p = some (.cells x s (rv { r with a := r.a + 1 })) → r' = { r with a := r.a + 1 } → Φ (.bool true) S' := fun S' h1 h2 h3 => by subst h3; exact ks S' h1 h2
  have k45 := kix ix45 (n + 1)
  have k58 := kix ix58 (n + 1)
  have k10 := kix ix10 (n + 1)
  have k13 := kix ix13 (n + 1)
  unfold signs at k45 k58 k10 k13
  have w120 : wordB 120 = true := rfl
  have w97 : wordB 97 = true := rfl
  have w45 : wordB 45 = false := rfl
  have w58 : wordB 58 = false := rfl
  have w10 : wordB 10 = false := rfl
  have w13 : wordB 13 = false := rfl
  have d8 : decide ((8 : Int) ≥ 0) = true := rfl
  have d1 : decide ((-1 : Int) ≥ 0) = false := rfl
  have e58 : decide ((58 : Int) = 58) = true := rfl
  have e10 : decide ((10 : Int) = 58) = false := rfl
  have e13 : decide ((13 : Int) = 58) = false := rfl
  by_cases h1 : c = 120 ∨ c = 97 ∨ c = 45
  · rw [if_pos h1] at hs
    cases hs
    rcases h1 with rfl | rfl | rfl
    · simp (disch := first | omega | (simp only [Hp.add_next, Hp.put_next]; done) | (simp only [Hp.add_next, Hp.put_next]; omega) | fail) only [↓P_fldA, ↓P_nil, ↓P_load1, ↓P_store, ↓P_andQ, ↓P_eql, ↓P_callF1, ↓P_callF2, condP_of, List.length_cons, List.length_nil, Nat.zero_add, Nat.add_zero, and_true, List.size_toArray, splice_z, List.all_cons, List.all_nil, one_fn, cells_fn, Bool.and_self, List.nil_append, List.append_nil]
      refine s184 ?_
      simp (disch := first | omega | (simp only [Hp.add_next, Hp.put_next]; done) | (simp only [Hp.add_next, Hp.put_next]; omega) | fail) only [↓P_andQ, andQ_ft, ifP_bool, ifB_true, ↓P_add64, blkP_cells, rdP_cells, optP_some, condP_of, List.getElem?_cons_zero, List.getElem?_cons_succ, List.length_cons, List.length_nil, Nat.zero_add, Nat.reduceAdd, Nat.reduceLeDiff, and_self, List.size_toArray, splice_z, splice_1, overlay_n, overlay_c, List.all_cons, List.all_nil, one_int, cells_int, Bool.and_self, h, w120]
      exact ks _ (by repeat' (first | exact Fra.refl _ _ | assumption | apply Fra.add | (refine Fra.put ?_ ?_ _) | exact Or.inl (by (first | omega | (simp only [Hp.add_next, Hp.put_next]; done) | (simp only [Hp.add_next, Hp.put_next]; omega))) | exact Or.inr (by simp))) (put_at _ _ _)
    · simp (disch := first | omega | (simp only [Hp.add_next, Hp.put_next]; done) | (simp only [Hp.add_next, Hp.put_next]; omega) | fail) only [↓P_fldA, ↓P_nil, ↓P_load1, ↓P_store, ↓P_andQ, ↓P_eql, ↓P_callF1, ↓P_callF2, condP_of, List.length_cons, List.length_nil, Nat.zero_add, Nat.add_zero, and_true, List.size_toArray, splice_z, List.all_cons, List.all_nil, one_fn, cells_fn, Bool.and_self, List.nil_append, List.append_nil]
      refine s184 ?_
      simp (disch := first | omega | (simp only [Hp.add_next, Hp.put_next]; done) | (simp only [Hp.add_next, Hp.put_next]; omega) | fail) only [↓P_andQ, andQ_ft, ifP_bool, ifB_true, ↓P_add64, blkP_cells, rdP_cells, optP_some, condP_of, List.getElem?_cons_zero, List.getElem?_cons_succ, List.length_cons, List.length_nil, Nat.zero_add, Nat.reduceAdd, Nat.reduceLeDiff, and_self, List.size_toArray, splice_z, splice_1, overlay_n, overlay_c, List.all_cons, List.all_nil, one_int, cells_int, Bool.and_self, h, w97]
      exact ks _ (by repeat' (first | exact Fra.refl _ _ | assumption | apply Fra.add | (refine Fra.put ?_ ?_ _) | exact Or.inl (by (first | omega | (simp only [Hp.add_next, Hp.put_next]; done) | (simp only [Hp.add_next, Hp.put_next]; omega))) | exact Or.inr (by simp))) (put_at _ _ _)
    · simp (disch := first | omega | (simp only [Hp.add_next, Hp.put_next]; done) | (simp only [Hp.add_next, Hp.put_next]; omega) | fail) only [↓P_fldA, ↓P_nil, ↓P_load1, ↓P_store, ↓P_andQ, ↓P_eql, ↓P_callF1, ↓P_callF2, condP_of, List.length_cons, List.length_nil, Nat.zero_add, Nat.add_zero, and_true, List.size_toArray, splice_z, List.all_cons, List.all_nil, one_fn, cells_fn, Bool.and_self, List.nil_append, List.append_nil]
      refine s184 ?_
      simp (disch := first | omega | (simp only [Hp.add_next, Hp.put_next]; done) | (simp only [Hp.add_next, Hp.put_next]; omega) | fail) only [↓P_andQ, orQ_p, ifP_bool, ifB_true, ↓P_geq, ↓P_add64, blkP_cells, rdP_cells, optP_some, condP_of, List.getElem?_cons_zero, List.getElem?_cons_succ, List.length_cons, List.length_nil, Nat.zero_add, Nat.reduceAdd, Nat.reduceLeDiff, and_self, List.size_toArray, splice_z, splice_1, overlay_n, overlay_c, List.all_cons, List.all_nil, one_int, cells_int, Bool.and_self, Bool.or_true, h, w45, k45, d8]
      exact ks _ (by repeat' (first | exact Fra.refl _ _ | assumption | apply Fra.add | (refine Fra.put ?_ ?_ _) | exact Or.inl (by (first | omega | (simp only [Hp.add_next, Hp.put_next]; done) | (simp only [Hp.add_next, Hp.put_next]; omega))) | exact Or.inr (by simp))) (put_at _ _ _)
  · rw [if_neg h1] at hs
    by_cases h2 : c = 58 ∧ 0 < r.a
    · rw [if_pos h2] at hs
      cases hs
      obtain ⟨rfl, h2⟩ := h2
      have e2 : decide ((r.a : Int) > 0) = true := decide_eq_true (by omega)
      simp (disch := first | omega | (simp only [Hp.add_next, Hp.put_next]; done) | (simp only [Hp.add_next, Hp.put_next]; omega) | fail) only [↓P_fldA, ↓P_nil, ↓P_load1, ↓P_store, ↓P_andQ, andQ_tt, ↓P_eql, ↓P_callF1, ↓P_callF2, condP_of, List.length_cons, List.length_nil, Nat.zero_add, Nat.add_zero, and_true, decide_true, List.size_toArray, splice_z, List.all_cons, List.all_nil, one_fn, cells_fn, Bool.and_self, List.nil_append, List.append_nil]
      refine s184 ?_
      simp (disch := first | omega | (simp only [Hp.add_next, Hp.put_next]; done) | (simp only [Hp.add_next, Hp.put_next]; omega) | fail) only [↓P_andQ, orQ_p, ifP_bool, ifB_true, ifB_false, ↓P_gtr, ↓P_geq, blkP_cells, rdP_cells, optP_some, condP_of, List.getElem?_cons_zero, List.getElem?_cons_succ, List.length_cons, List.length_nil, Nat.zero_add, Nat.reduceAdd, Nat.reduceLeDiff, overlay_n, overlay_c, Bool.or_self, h, w58, k58, d1, e2]
      exact ks _ (by repeat' (first | exact Fra.refl _ _ | assumption | apply Fra.add | (refine Fra.put ?_ ?_ _) | exact Or.inl (by (first | omega | (simp only [Hp.add_next, Hp.put_next]; done) | (simp only [Hp.add_next, Hp.put_next]; omega))) | exact Or.inr (by simp))) (put_at _ _ _)
    · rw [if_neg h2] at hs
      by_cases h3 : (c = 10 ∨ c = 13) ∧ r.a = 0
      · rw [if_pos h3] at hs
        obtain ⟨h3, h4⟩ := h3
        have e2 : decide ((r.a : Int) = 0) = true := decide_eq_true (by omega)
        rcases h3 with rfl | rfl
        · simp (disch := first | omega | (simp only [Hp.add_next, Hp.put_next]; done) | (simp only [Hp.add_next, Hp.put_next]; omega) | fail) only [↓P_fldA, ↓P_nil, ↓P_load1, ↓P_store, ↓P_andQ, ↓P_eql, ↓P_callF1, ↓P_callF2, condP_of, List.length_cons, List.length_nil, Nat.zero_add, Nat.add_zero, and_true, List.size_toArray, splice_z, List.all_cons, List.all_nil, one_fn, cells_fn, Bool.and_self, List.nil_append, List.append_nil]
          refine s184 ?_
          simp (disch := first | omega | (simp only [Hp.add_next, Hp.put_next]; done) | (simp only [Hp.add_next, Hp.put_next]; omega) | fail) only [↓P_andQ, andQ_tt, andQ_tf, orQ_p, ifP_bool, ifB_false, ↓P_geq, ↓P_eql, rdP_cells, optP_some, List.getElem?_cons_zero, List.getElem?_cons_succ, Bool.or_self, h, w10, k10, d1, e10, e2]
          refine s149 h' hl hs fun S' hF h' => ?_
          exact ks S' hF h'
        · simp (disch := first | omega | (simp only [Hp.add_next, Hp.put_next]; done) | (simp only [Hp.add_next, Hp.put_next]; omega) | fail) only [↓P_fldA, ↓P_nil, ↓P_load1, ↓P_store, ↓P_andQ, ↓P_eql, ↓P_callF1, ↓P_callF2, condP_of, List.length_cons, List.length_nil, Nat.zero_add, Nat.add_zero, and_true, List.size_toArray, splice_z, List.all_cons, List.all_nil, one_fn, cells_fn, Bool.and_self, List.nil_append, List.append_nil]
          refine s184 ?_
          simp (disch := first | omega | (simp only [Hp.add_next, Hp.put_next]; done) | (simp only [Hp.add_next, Hp.put_next]; omega) | fail) only [↓P_andQ, andQ_tt, andQ_tf, orQ_p, ifP_bool, ifB_false, ↓P_geq, ↓P_eql, rdP_cells, optP_some, List.getElem?_cons_zero, List.getElem?_cons_succ, Bool.or_self, h, w13, k13, d1, e13, e2]
          refine s149 h' hl hs fun S' hF h' => ?_
          exact ks S' hF h'
      · rw [if_neg h3] at hs; cases hs
def begins : List Nat := [72, 84, 84, 80, 47, 49, 46, 48, 32, 48, 48, 48]
/-- a byte of the first line, up to its status -/
def first (r : R) (c : Int) : Option R :=
  if r.a = 12 then (if c = 32 then some { r with nx := 148 } else ends r c)
  else if 9 ≤ r.a then (if 48 ≤ c ∧ c ≤ 57 ∧ (r.a = 9 → 49 ≤ c ∧ c ≤ 53) ∧ r.a < 12 then some { r with s := 10 * r.s + (c - 48).toNat, a := r.a + 1 } else none)
  else if r.a = 7 then (if 48 ≤ c ∧ c ≤ 57 then some { r with a := r.a + 1 } else none)
  else (if begins[r.a]? = some c.toNat ∧ 0 ≤ c then some { r with a := r.a + 1 } else none)
theorem s130 {n : Nat} {S : Hp} {p : Nat} {x : Option Nat} {s : Bool} {r r' : R} {c : Int} {Φ : Value → Hp → Prop} (h : S.heap.get p = some (.cells x s (rv r))) (hl : r.l ≤ 5000) (hst : r.s ≤ 100000) (hs : first r c = some r')
    (ks : ∀ S', Fra [p] S S' → S'.heap.get p = some (.cells x s (rv r')) → Φ (.bool true) S') : wp (callN T (n + 1 + 1 + 1) (.fn 130) [ptr p, .int .u8 c]) Φ S := by
  refine c130 g130 ?_
  unfold P130
  have h' := h
  unfold rv at h
  unfold first at hs
  by_cases h12 : r.a = 12
  · rw [if_pos h12] at hs
    have e12 : decide ((r.a : Int) = 12) = true := decide_eq_true (by omega)
    by_cases hc : c = 32
    · rw [if_pos hc] at hs
      cases hs
      subst hc
      have e1 : decide ((32 : Int) = 32) = true := rfl
      simp (disch := first | omega | (simp only [Hp.add_next, Hp.put_next]; done) | (simp only [Hp.add_next, Hp.put_next]; omega) | fail) only [↓P_not, ↓P_fldA, ↓P_nil, ↓P_load1, ↓P_store, ↓P_andQ, andQ_p, orQ_p, ifP_bool, ifB_true, ↓P_lss, ↓P_leq, ↓P_gtr, ↓P_geq, ↓P_eql, ↓P_callF2, blkP_cells, rdP_cells, optP_some, condP_of, List.getElem?_cons_zero, List.getElem?_cons_succ, List.length_cons, List.length_nil, Nat.zero_add, Nat.add_zero, Nat.reduceAdd, Nat.reduceLeDiff, and_true, decide_true, List.size_toArray, splice_z, overlay_n, overlay_c, List.all_cons, List.all_nil, one_fn, cells_fn, Bool.and_self, List.nil_append, List.append_nil, h, e12]
      exact ks _ (by repeat' (first | exact Fra.refl _ _ | assumption | apply Fra.add | (refine Fra.put ?_ ?_ _) | exact Or.inl (by (first | omega | (simp only [Hp.add_next, Hp.put_next]; done) | (simp only [Hp.add_next, Hp.put_next]; omega))) | exact Or.inr (by simp))) (put_at _ _ _)
    · rw [if_neg hc] at hs
      have e1 : decide (c = 32) = false := decide_eq_false hc
      simp (disch := first | omega | (simp only [Hp.add_next, Hp.put_next]; done) | (simp only [Hp.add_next, Hp.put_next]; omega) | fail) only [↓P_not, ↓P_fldA, ↓P_nil, ↓P_load1, ↓P_store, ↓P_andQ, andQ_p, orQ_p, ifP_bool, ifB_true, ifB_false, ↓P_lss, ↓P_leq, ↓P_gtr, ↓P_geq, ↓P_eql, ↓P_callF2, rdP_cells, optP_some, condP_of, List.getElem?_cons_zero, List.getElem?_cons_succ, List.length_cons, List.length_nil, Nat.zero_add, Nat.add_zero, and_true, List.size_toArray, splice_z, List.all_cons, List.all_nil, one_fn, cells_fn, Bool.and_self, Bool.and_false, List.nil_append, List.append_nil, h, e12, e1]
      refine s149 h' hl hs fun S' hF h' => ?_
      exact ks S' hF h'
  · rw [if_neg h12] at hs
    have e12 : decide ((r.a : Int) = 12) = false := decide_eq_false (by omega)
    by_cases h9 : 9 ≤ r.a
    · rw [if_pos h9] at hs
      have e9 : decide ((r.a : Int) ≥ 9) = true := decide_eq_true (by omega)
      by_cases hd : 48 ≤ c ∧ c ≤ 57 ∧ (r.a = 9 → 49 ≤ c ∧ c ≤ 53) ∧ r.a < 12
      · rw [if_pos hd] at hs
        cases hs
        have d1 : decide (c ≥ 48) = true := decide_eq_true (by omega)
        have d2 : decide (c ≤ 57) = true := decide_eq_true (by omega)
        have e9' : (decide ((r.a : Int) = 9) && (decide (c < 49) || decide (c > 53))) = false := by
          rw [Bool.and_eq_false_iff, decide_eq_false_iff_not, Bool.or_eq_false_iff, decide_eq_false_iff_not, decide_eq_false_iff_not]
          omega
        have hcast : 10 * (r.s : Int) + (c - 48) = ((10 * r.s + (c - 48).toNat : Nat) : Int) := by omega
        simp (disch := first | omega | (simp only [Hp.add_next, Hp.put_next]; done) | (simp only [Hp.add_next, Hp.put_next]; omega) | fail) only [↓P_not, ↓P_fldA, ↓P_nil, ↓P_load1, ↓P_store, ↓P_andQ, andQ_ff, andQ_p, orQ_p, ifP_bool, ifB_true, ifB_false, ↓P_lss, ↓P_leq, ↓P_gtr, ↓P_geq, ↓P_eql, ↓P_subU8, ↓P_convI64, ↓P_callF2, rdP_cells, optP_some, condP_of, List.getElem?_cons_zero, List.getElem?_cons_succ, List.length_cons, List.length_nil, Nat.zero_add, Nat.add_zero, and_true, Bool.not_true, List.size_toArray, splice_z, List.all_cons, List.all_nil, one_fn, cells_fn, Bool.and_self, Bool.false_and, List.nil_append, List.append_nil, h, e12, e9, d1, d2, e9']
        refine jn_intro fun J hJ => ?_
        subst hJ
        simp (disch := first | omega | (simp only [Hp.add_next, Hp.put_next]; done) | (simp only [Hp.add_next, Hp.put_next]; omega) | fail) only [↓P_add64, blkP_cells, rdP_cells, optP_some, condP_of, put_at, List.getElem?_cons_zero, List.getElem?_cons_succ, List.length_cons, List.length_nil, Nat.zero_add, Nat.reduceAdd, Nat.reduceLeDiff, and_self, List.size_toArray, splice_z, splice_1, splice_4, overlay_n, overlay_c, List.all_cons, List.all_nil, one_int, cells_int, Bool.and_self, ↓P_mul64, h, hcast]
        refine ks _ (by repeat' (first | exact Fra.refl _ _ | assumption | apply Fra.add | (refine Fra.put ?_ ?_ _) | exact Or.inl (by (first | omega | (simp only [Hp.add_next, Hp.put_next]; done) | (simp only [Hp.add_next, Hp.put_next]; omega))) | exact Or.inr (by simp))) ?_
        rw [put_at]
        rfl
      · rw [if_neg hd] at hs; cases hs
    · rw [if_neg h9] at hs
      have e9 : decide ((r.a : Int) ≥ 9) = false := decide_eq_false (by omega)
      by_cases h7 : r.a = 7
      · rw [if_pos h7] at hs
        by_cases hd : 48 ≤ c ∧ c ≤ 57
        · rw [if_pos hd] at hs
          cases hs
          have e7 : decide ((r.a : Int) = 7) = true := decide_eq_true (by omega)
          have d1 : decide (c ≥ 48) = true := decide_eq_true (by omega)
          have d2 : decide (c ≤ 57) = true := decide_eq_true (by omega)
          simp (disch := first | omega | (simp only [Hp.add_next, Hp.put_next]; done) | (simp only [Hp.add_next, Hp.put_next]; omega) | fail) only [↓P_not, ↓P_fldA, ↓P_nil, ↓P_load1, ↓P_store, ↓P_ixS, ↓P_andQ, andQ_tf, andQ_ff, andQ_p, orQ_p, ifP_bool, ifB_false, ↓P_lss, ↓P_leq, ↓P_gtr, ↓P_geq, ↓P_eql, ↓P_neq, ↓P_subU8, ↓P_convI64, ↓P_callF2, rdP_cells, optP_some, condP_of, List.getElem?_cons_zero, List.getElem?_cons_succ, List.length_cons, List.length_nil, Nat.zero_add, Nat.add_zero, and_true, Bool.not_true, List.size_toArray, splice_z, List.all_cons, List.all_nil, one_fn, cells_fn, Bool.and_self, Bool.false_and, Bool.and_false, List.nil_append, List.append_nil, Int.toNat_natCast, h, e12, e9, e7, d1, d2]
          refine jn_intro fun J hJ => ?_
          subst hJ
          simp (disch := first | omega | (simp only [Hp.add_next, Hp.put_next]; done) | (simp only [Hp.add_next, Hp.put_next]; omega) | fail) only [↓P_add64, blkP_cells, rdP_cells, optP_some, condP_of, List.getElem?_cons_zero, List.getElem?_cons_succ, List.length_cons, List.length_nil, Nat.zero_add, Nat.reduceAdd, Nat.reduceLeDiff, and_self, List.size_toArray, splice_z, splice_1, overlay_n, overlay_c, List.all_cons, List.all_nil, one_int, cells_int, Bool.and_self, h]
          exact ks _ (by repeat' (first | exact Fra.refl _ _ | assumption | apply Fra.add | (refine Fra.put ?_ ?_ _) | exact Or.inl (by (first | omega | (simp only [Hp.add_next, Hp.put_next]; done) | (simp only [Hp.add_next, Hp.put_next]; omega))) | exact Or.inr (by simp))) (put_at _ _ _)
        · rw [if_neg hd] at hs; cases hs
      · rw [if_neg h7] at hs
        by_cases hd : begins[r.a]? = some c.toNat ∧ 0 ≤ c
        · rw [if_pos hd] at hs
          cases hs
          have e7 : decide ((r.a : Int) = 7) = false := decide_eq_false (by omega)
          obtain ⟨hd, hc0⟩ := hd
          have hb : ([72, 84, 84, 80, 47, 49, 46, 48, 32, 48, 48, 48] : List UInt8)[r.a]? = some (UInt8.ofNat c.toNat) := by
            have : ([72, 84, 84, 80, 47, 49, 46, 48, 32, 48, 48, 48] : List UInt8) = begins.map UInt8.ofNat := rfl
            rw [this, List.getElem?_map, hd]; rfl
          have hc : decide (c = ((UInt8.ofNat c.toNat).toNat : Int)) = true := by
            refine decide_eq_true ?_
            have hm : c.toNat ∈ begins := List.mem_of_getElem? hd
            have : c.toNat < 256 := by
              have h : ∀ x ∈ begins, x < 256 := by decide
              exact h _ hm
            rw [UInt8.toNat_ofNat', Nat.mod_eq_of_lt (by omega)]
            omega
          simp (disch := first | omega | (simp only [Hp.add_next, Hp.put_next]; done) | (simp only [Hp.add_next, Hp.put_next]; omega) | fail) only [↓P_not, ↓P_fldA, ↓P_nil, ↓P_load1, ↓P_store, ↓P_ixS, ↓P_andQ, andQ_p, orQ_p, ifP_bool, ifB_false, ↓P_lss, ↓P_leq, ↓P_gtr, ↓P_geq, ↓P_eql, ↓P_neq, ↓P_callF2, rdP_cells, optP_some, condP_of, List.getElem?_cons_zero, List.getElem?_cons_succ, List.length_cons, List.length_nil, Nat.zero_add, Nat.add_zero, and_true, Bool.not_true, Bool.not_false, List.size_toArray, splice_z, List.all_cons, List.all_nil, one_fn, cells_fn, Bool.and_self, Bool.false_and, Bool.and_false, List.nil_append, List.append_nil, Int.toNat_natCast, h, e12, e9, e7, hb, hc]
          refine jn_intro fun J hJ => ?_
          subst hJ
          simp (disch := first | omega | (simp only [Hp.add_next, Hp.put_next]; done) | (simp only [Hp.add_next, Hp.put_next]; omega) | fail) only [↓P_add64, blkP_cells, rdP_cells, optP_some, condP_of, List.getElem?_cons_zero, List.getElem?_cons_succ, List.length_cons, List.length_nil, Nat.zero_add, Nat.reduceAdd, Nat.reduceLeDiff, and_self, List.size_toArray, splice_z, splice_1, overlay_n, overlay_c, List.all_cons, List.all_nil, one_int, cells_int, Bool.and_self, h]
          exact ks _ (by repeat' (first | exact Fra.refl _ _ | assumption | apply Fra.add | (refine Fra.put ?_ ?_ _) | exact Or.inl (by (first | omega | (simp only [Hp.add_next, Hp.put_next]; done) | (simp only [Hp.add_next, Hp.put_next]; omega))) | exact Or.inr (by simp))) (put_at _ _ _)
        · rw [if_neg hd] at hs; cases hs
/-- a byte -/
def stR (r : R) (c : Int) : Option R := if r.nx = 93 then first r c else if r.nx = 148 then text r c else if r.nx = 181 then name r c else if r.nx = 170 then (if c = 10 then some (endR r) else none) else none
theorem step {n : Nat} {S : Hp} {p : Nat} {x : Option Nat} {s : Bool} {r r' : R} {c : Int} {Φ : Value → Hp → Prop} (h : S.heap.get p = some (.cells x s (rv r))) (hl : r.l ≤ 5000) (hst : r.s ≤ 100000) (ha : r.a ≤ 5000) (hs : stR r c = some r')
    (ks : ∀ S', Fra [p] S S' → S'.heap.get p = some (.cells x s (rv r')) → Φ (.bool true) S') :
    wp (callN T (n + 1 + 1 + 1 + 1) (.fn r.nx) [ptr p]) (fun t47 S => wp (X (callN T (n + 1 + 1 + 1 + 1)) (.call (.const t47) [(.const (.int .u8 c))])) Φ S) S := by
  unfold stR at hs
  by_cases h1 : r.nx = 93
  · rw [if_pos h1] at hs
    rw [h1]
    refine c93 g93 ?_
    unfold P93
    simp (disch := first | omega | (simp only [Hp.add_next, Hp.put_next]; done) | (simp only [Hp.add_next, Hp.put_next]; omega) | fail) only [↓P_mkfnR0, ↓P_callF1, List.nil_append, List.append_nil, List.cons_append]
    exact s130 h hl hst hs ks
  rw [if_neg h1] at hs
  by_cases h2 : r.nx = 148
  · rw [if_pos h2] at hs
    rw [h2]
    refine c148 g148 ?_
    unfold P148
    simp (disch := first | omega | (simp only [Hp.add_next, Hp.put_next]; done) | (simp only [Hp.add_next, Hp.put_next]; omega) | fail) only [↓P_mkfnR0, ↓P_callF1, List.nil_append, List.append_nil, List.cons_append]
    exact s169 h hl hs ks
  rw [if_neg h2] at hs
  by_cases h3 : r.nx = 181
  · rw [if_pos h3] at hs
    rw [h3]
    refine c181 g181 ?_
    unfold P181
    simp (disch := first | omega | (simp only [Hp.add_next, Hp.put_next]; done) | (simp only [Hp.add_next, Hp.put_next]; omega) | fail) only [↓P_mkfnR0, ↓P_callF1, List.nil_append, List.append_nil, List.cons_append]
    exact s183 h hl ha hs ks
  rw [if_neg h3] at hs
  by_cases h4 : r.nx = 170
  · rw [if_pos h4] at hs
    split at hs
    · rename_i hc
      subst hc
      cases hs
      rw [h4]
      refine c170 g170 ?_
      unfold P170
      simp (disch := first | omega | (simp only [Hp.add_next, Hp.put_next]; done) | (simp only [Hp.add_next, Hp.put_next]; omega) | fail) only [↓P_mkfnR0, ↓P_callF1, List.nil_append, List.append_nil, List.cons_append]
      exact s171 h hl ks
    · cases hs
  · rw [if_neg h4] at hs; cases hs
end Go.Proofs.Ytmepokefmpcnnaa.Ht
