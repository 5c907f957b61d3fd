/- What layer 2's functions do: refusals, and the document's Read. -/
import Derived.Test.YtmepokefmpcnnaaDoorEtSpec
set_option maxRecDepth 100000
set_option linter.unusedVariables false
set_option linter.unusedSimpArgs false
namespace Go.Proofs.YtmepokefmpcnnaaDoor.Et
open Go.Wb
def zero13 : List Value := [u8 0, u8 0, u8 0, u8 0, u8 0, u8 0, u8 0, u8 0, u8 0, u8 0, u8 0, u8 0, .int .u16 0]
section
variable {S : Hp} {Φ : Value → Hp → Prop}
theorem s11e {n : Nat} {v : Value} {l : List Value} {W : List Nat} (hW : WF S) (h : BS S v l W) (hl : l.length < 14 ∨ 1600 < l.length)
    (k : ∀ S', Fra [] S S' → WF S' → Φ (.tuple ⟨[.agg ⟨zero13⟩, .slice none 0 0, i64 (if 1600 < l.length then 3 else 4)]⟩) S') : wp (callN T (n + 1) (.fn 11) [v]) Φ S := by
  refine c11 g11 ?_
  unfold P11
  have hlen := h.len
  have hW1 := (hW.add (.cells none false zero13)).put (b := S.next) (Nat.lt_succ_self _) (some (Blk.cells none false zero13))
  have hF1 := ((Fra.refl [] S).add (.cells none false zero13)).put (b := S.next) (.inl (Nat.le_refl _)) (some (Blk.cells none false zero13))
  have k := k _ hF1 hW1
  by_cases h1 : 1600 < l.length
  · rw [if_pos h1] at k
    have e1 : decide (((l.length : Nat) : Int) > 1600) = true := decide_eq_true (by omega)
    simp (maxSteps := 100000000) (disch := first | omega | (simp only [Hp.add_next, Hp.put_next]; done) | (simp only [Hp.add_next, Hp.put_next]; omega) | fail) only [↓P_alloc, ↓P_build, ↓P_cellN, ↓P_store, ifP_bool, ifB_true, ↓P_lss, ↓P_gtr, blkP_cells, rdP_cells, optP_some, condP_of, put_at, add_eq, List.length_cons, List.length_nil, Nat.zero_add, Nat.reduceAdd, Nat.reduceLeDiff, List.drop_zero, List.take_succ_cons, List.take_zero, and_true, fillA, Atom.ev, List.size_toArray, splice_z, overlay_n, overlay_c, List.all_cons, List.all_nil, one_int, cells_agg, Bool.and_self, hlen, e1]
    exact k
  · rw [if_neg h1] at k
    have e1 : decide (((l.length : Nat) : Int) > 1600) = false := decide_eq_false (by omega)
    have e2 : decide (((l.length : Nat) : Int) < 14) = true := decide_eq_true (by omega)
    simp (maxSteps := 100000000) (disch := first | omega | (simp only [Hp.add_next, Hp.put_next]; done) | (simp only [Hp.add_next, Hp.put_next]; omega) | fail) only [↓P_alloc, ↓P_build, ↓P_cellN, ↓P_store, ifP_bool, ifB_true, ifB_false, ↓P_lss, ↓P_gtr, blkP_cells, rdP_cells, optP_some, condP_of, put_at, add_eq, List.length_cons, List.length_nil, Nat.zero_add, Nat.reduceAdd, Nat.reduceLeDiff, List.drop_zero, List.take_succ_cons, List.take_zero, and_true, fillA, Atom.ev, List.size_toArray, splice_z, overlay_n, overlay_c, List.all_cons, List.all_nil, one_int, cells_agg, Bool.and_self, hlen, e1, e2]
    exact k
theorem s12e {n : Nat} {v : Value} {l : List Value} {W : List Nat} (hW : WF S) (h : BS S v l W) (hl : l.length < 14 ∨ 1600 < l.length)
    (k : ∀ S', Fra [] S S' → WF S' → Φ (.tuple ⟨[.agg ⟨zero13⟩, .slice none 0 0, i64 (if 1600 < l.length then 3 else 4)]⟩) S') : wp (callN T (n + 1) (.fn 12) [v]) Φ S := by
  refine c12 g12 ?_
  unfold P12
  have hlen := h.len
  by_cases h1 : 1600 < l.length
  · rw [if_pos h1] at k
    have e1 : decide (((l.length : Nat) : Int) > 1600) = true := decide_eq_true (by omega)
    simp (maxSteps := 100000000) (disch := first | omega | (simp only [Hp.add_next, Hp.put_next]; done) | (simp only [Hp.add_next, Hp.put_next]; omega) | fail) only [↓P_alloc, ↓P_build, ↓P_loadN, ↓P_cellN, ↓P_store, ifP_bool, ifB_true, ↓P_lss, ↓P_gtr, blkP_cells, rdP_cells, optP_some, condP_of, put_at, put_off, add_eq, add_off, Hp.add_next, List.length_cons, List.length_nil, Nat.zero_add, Nat.reduceAdd, Nat.reduceLeDiff, List.drop_zero, List.take_succ_cons, List.take_zero, and_self, fillA, List.size_toArray, splice_z, overlay_n, overlay_c, List.all_cons, List.all_nil, one_int, cells_agg, Bool.and_self, hlen, e1]
    refine k _ ((((Fra.refl [] S).add _).add _).put (.inl (by (first | omega | (simp only [Hp.add_next, Hp.put_next]; done) | (simp only [Hp.add_next, Hp.put_next]; omega)))) _ |>.put (.inl (by (first | omega | (simp only [Hp.add_next, Hp.put_next]; done) | (simp only [Hp.add_next, Hp.put_next]; omega)))) _) ((((hW.add _).add _).put (by (first | omega | (simp only [Hp.add_next, Hp.put_next]; done) | (simp only [Hp.add_next, Hp.put_next]; omega))) _).put (by (first | omega | (simp only [Hp.add_next, Hp.put_next]; done) | (simp only [Hp.add_next, Hp.put_next]; omega))) _)
  · rw [if_neg h1] at k
    have e1 : decide (((l.length : Nat) : Int) > 1600) = false := decide_eq_false (by omega)
    have e2 : decide (((l.length : Nat) : Int) < 14) = true := decide_eq_true (by omega)
    simp (maxSteps := 100000000) (disch := first | omega | (simp only [Hp.add_next, Hp.put_next]; done) | (simp only [Hp.add_next, Hp.put_next]; omega) | fail) only [↓P_alloc, ↓P_build, ↓P_loadN, ↓P_cellN, ↓P_store, ifP_bool, ifB_true, ifB_false, ↓P_lss, ↓P_gtr, blkP_cells, rdP_cells, optP_some, condP_of, put_at, put_off, add_eq, add_off, Hp.add_next, List.length_cons, List.length_nil, Nat.zero_add, Nat.reduceAdd, Nat.reduceLeDiff, List.drop_zero, List.take_succ_cons, List.take_zero, and_self, fillA, List.size_toArray, splice_z, overlay_n, overlay_c, List.all_cons, List.all_nil, one_int, cells_agg, Bool.and_self, hlen, e1, e2]
    refine k _ ((((Fra.refl [] S).add _).add _).put (.inl (by (first | omega | (simp only [Hp.add_next, Hp.put_next]; done) | (simp only [Hp.add_next, Hp.put_next]; omega)))) _ |>.put (.inl (by (first | omega | (simp only [Hp.add_next, Hp.put_next]; done) | (simp only [Hp.add_next, Hp.put_next]; omega)))) _) ((((hW.add _).add _).put (by (first | omega | (simp only [Hp.add_next, Hp.put_next]; done) | (simp only [Hp.add_next, Hp.put_next]; omega))) _).put (by (first | omega | (simp only [Hp.add_next, Hp.put_next]; done) | (simp only [Hp.add_next, Hp.put_next]; omega))) _)
/-- Ours -/
def oursB (a : Int) : Bool := decide (a = 2048) || decide (a = 34525)
theorem s16 {n : Nat} {a : Int} (k : Φ (.bool (oursB a)) S) : wp (callN T (n + 1) (.fn 16) [.int .u16 a]) Φ S := by
  refine c16 g16 ?_
  unfold P16
  simp (maxSteps := 100000000) (disch := first | omega | (simp only [Hp.add_next, Hp.put_next]; done) | (simp only [Hp.add_next, Hp.put_next]; omega) | fail) only [↓P_andQ, orQ_p, ↓P_eql]
  exact k
theorem s15 {n : Nat} {a : Int} (hn : 3 < n) (k : Φ (.bool (oursB a)) S) : wp (callN T (n + 1) (.fn 15) [.int .u16 a]) Φ S := by
  refine c15 g15 ?_
  unfold P15
  simp (maxSteps := 100000000) (disch := first | omega | (simp only [Hp.add_next, Hp.put_next]; done) | (simp only [Hp.add_next, Hp.put_next]; omega) | fail) only [↓P_build, optP_some, List.length_cons, List.length_nil, Nat.zero_add, Nat.reduceAdd, Nat.reduceLeDiff, and_self, if_true, fillA, Atom.ev, setAll, List.set_cons_zero, List.set_cons_succ, List.size_toArray, cells_int]
  refine ⟨fun m u0 u2 u3 u6 u7 S' => u0 = .int .u16 a ∧ u6 = .agg ⟨[.int .u16 2048, .int .u16 34525]⟩ ∧ S' = S ∧ ((m = 2 ∧ u7 = i64 0 ∧ u3 = .bool false) ∨ (m = 1 ∧ u7 = i64 1 ∧ u3 = .bool (decide (a = 2048))) ∨ (m = 0 ∧ u7 = i64 2 ∧ u3 = .bool (oursB a))), ⟨2, by omega, rfl, rfl, rfl, .inl ⟨rfl, rfl, rfl⟩⟩, ?_⟩
  rintro m S' u0 u2 u3 u6 u7 ⟨rfl, rfl, rfl, h⟩
  have c1 : decide ((2048 : Int) = a) = decide (a = 2048) := by congr 1; exact propext ⟨Eq.symm, Eq.symm⟩
  have c2 : decide ((34525 : Int) = a) = decide (a = 34525) := by congr 1; exact propext ⟨Eq.symm, Eq.symm⟩
  have d0 : decide ((0 : Int) < 2) = true := rfl
  have d1 : decide ((1 : Int) < 2) = true := rfl
  have p0 : partOf Sh.one [Value.int IntKind.u16 2048, Value.int IntKind.u16 34525] 0 = some (.int .u16 2048) := rfl
  have p1 : partOf Sh.one [Value.int IntKind.u16 2048, Value.int IntKind.u16 34525] 1 = some (.int .u16 34525) := rfl
  rcases h with ⟨rfl, rfl, rfl⟩ | ⟨rfl, rfl, rfl⟩ | ⟨rfl, rfl, rfl⟩
  · simp (maxSteps := 100000000) (disch := first | omega | (simp only [Hp.add_next, Hp.put_next]; done) | (simp only [Hp.add_next, Hp.put_next]; omega) | fail) only [↓P_ix, ↓P_andQ, orQ_p, ifP_bool, ifB_true, ↓P_lss, ↓P_eql, ↓P_add64, optP_some, condP_of, Nat.reduceMul, and_true, true_and, Bool.false_or, Int.reduceToNat, Int.le_refl, c1, d0, p0]
    exact ⟨1, by omega, by simp⟩
  · simp (maxSteps := 100000000) (disch := first | omega | (simp only [Hp.add_next, Hp.put_next]; done) | (simp only [Hp.add_next, Hp.put_next]; omega) | fail) only [↓P_ix, ↓P_andQ, orQ_p, ifP_bool, ifB_true, ↓P_lss, ↓P_eql, ↓P_add64, optP_some, condP_of, Nat.reduceMul, true_and, Int.reduceToNat, c2, d1, p1]
    exact ⟨0, by omega, by simp [oursB]⟩
  · simp (maxSteps := 100000000) (disch := first | omega | (simp only [Hp.add_next, Hp.put_next]; done) | (simp only [Hp.add_next, Hp.put_next]; omega) | fail) only [↓P_ix, ↓P_andQ, ifP_bool, ↓P_lss, ↓P_add64, Nat.reduceMul, true_and, Int.reduceToNat]
    exact k
end
end Go.Proofs.YtmepokefmpcnnaaDoor.Et
