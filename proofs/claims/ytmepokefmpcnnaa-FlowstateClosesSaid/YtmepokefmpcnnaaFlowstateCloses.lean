/- That layer 15's law 'FlowstateCloses' is true for every input; it has no conditions. -/
import Derived.Test.YtmepokefmpcnnaaFcText
import Derived.Carry
import Derived.Test.YtmepokefmpcnnaaRows
set_option maxRecDepth 100000
set_option linter.unusedVariables false
set_option linter.unusedSimpArgs false
namespace Go.Proofs.Ytmepokefmpcnnaa.FlowstateCloses
open Go.ChangeShapes Go.WideShapes Go.ChangeAt Go.RowKit Go.Wb
open Go.Proofs.Ytmepokefmpcnnaa
open Fc
noncomputable def F1 : Nat → Option AFn := withSum (withSum (withSum (withSum T 16 (plG T 16)) 17 (plG T 17)) 18 (plG T 18)) 15 (plG T 15)
theorem F1_ok : TabOk Try.prog F1 := by
  have hT := tabOk Try.prog
  have k := fun f => plG_ok Try.checked.mixed hT f
  exact withSum_ok (withSum_ok (withSum_ok (withSum_ok hT (k 16)) (k 17)) (k 18)) (k 15)
theorem F1_15 : F1 15 = some (.sum (plG T 15)) := ws_eq
theorem F1_18 : F1 18 = some (.sum (plG T 18)) := by unfold F1; rw [ws_ne rfl]; exact ws_eq
theorem F1_17 : F1 17 = some (.sum (plG T 17)) := by unfold F1; rw [ws_ne rfl, ws_ne rfl]; exact ws_eq
theorem F1_16 : F1 16 = some (.sum (plG T 16)) := by unfold F1; rw [ws_ne rfl, ws_ne rfl, ws_ne rfl]; exact ws_eq
theorem F1_3 : F1 3 = some (.go ⟨2, [.tmp 4], b3⟩) := by unfold F1; rw [ws_ne rfl, ws_ne rfl, ws_ne rfl, ws_ne rfl]; exact g3
theorem known : plG T 15 [] = some (.bool true) := plG_known (by kernel_rfl)
/-- is a flag there? -/
def flag (f k : Int) : Int := IntKind.u8.wrap (BitVec.ofInt IntKind.u8.bits f &&& BitVec.ofInt IntKind.u8.bits k).toNat
/-- the first state: of UDP, of TCP -/
def okU : Value → Bool
  | .tuple ⟨[.int .u8 a, .bool b]⟩ => decide (a = 1) && b
  | _ => false
def okF (f : Int) : Value → Bool
  | .tuple ⟨[.int .u8 a, .bool b]⟩ => (match b with
    | false => decide (a = 0)
    | true => decide (2 ≤ a) && decide (a ≤ 4) && (decide (a = 4) == !decide (flag f 1 = 0)))
  | _ => false
/-- the next state -/
def okN (s f : Int) : Value → Bool
  | .tuple ⟨[.int .u8 w, .int .u8 y, .int .i64 e]⟩ => (match decide (e = 0) with
    | false => decide (w = 0) && decide (y = 0) && !decide (s = 1)
    | true => (match decide (s = 1) with
      | true => decide (y = 1) && decide (w = 1)
      | false => decide (2 ≤ y) && decide (y ≤ 4) && decide (w ≤ 3) && (match decide (w = 2) with
        | true => !decide (flag f 4 = 0)
        | false => (match decide (w = 3) with
          | true => decide (s = 4) && !decide (flag f 2 = 0) && decide (y = 2) && decide (flag f 1 = 0)
          | false => (decide (y = 4) == (decide (s = 4) || !decide (flag f 1 = 0)))))))
  | _ => false
theorem enumU : ((ints 256).all fun f => runs T 16 okU [.int .u8 17, .int .u8 f]) = true := by kernel_rfl
theorem enumF : ((ints 256).all fun f => runs T 16 (okF f) [.int .u8 6, .int .u8 f]) = true := by kernel_rfl
theorem enumN : (([1, 2, 3, 4] : List Int).all fun s => (ints 256).all fun f => runs T 17 (okN s f) [.int .u8 s, .int .u8 f]) = true := by kernel_rfl
theorem enumM : (([1, 2, 3, 4] : List Int).all fun s => runs T 18 (fun v => match v with | .bool b => b | _ => false) [.int .u8 s]) = true := by kernel_rfl
theorem plain_u {v : Value} (h : okU v = true) : plain v = true := by
  unfold okU at h; split at h <;> first | rfl | cases h
theorem plain_f {f : Int} {v : Value} (h : okF f v = true) : plain v = true := by
  unfold okF at h; split at h <;> first | rfl | cases h
theorem plain_n {s f : Int} {v : Value} (h : okN s f v = true) : plain v = true := by
  unfold okN at h; split at h <;> first | rfl | cases h
theorem first (p f : Int) (h0 : 0 ≤ f) (h1 : f < 256) : ∃ a b, plG T 16 [.int .u8 p, .int .u8 f] = some (.tuple ⟨[.int .u8 a, .bool b]⟩) ∧
    (b = false → a = 0) ∧ (b = true → (p = 17 ∧ a = 1) ∨ (p = 6 ∧ 2 ≤ a ∧ a ≤ 4 ∧ (a = 4 ↔ flag f 1 ≠ 0))) := by
  by_cases hp : p = 17
  · subst hp
    obtain ⟨v, h2, h3⟩ := plG_runs rfl (fun v => plain_u) (List.all_eq_true.1 enumU f (mem_ints 256 f h0 h1))
    unfold okU at h3
    split at h3
    · rename_i a b
      simp only [Bool.and_eq_true, decide_eq_true_eq] at h3
      obtain ⟨rfl, rfl⟩ := h3
      exact ⟨_, _, h2, by simp, by simp⟩
    · cases h3
  by_cases hq : p = 6
  · subst hq
    obtain ⟨v, h2, h3⟩ := plG_runs rfl (fun v => plain_f) (List.all_eq_true.1 enumF f (mem_ints 256 f h0 h1))
    unfold okF at h3
    split at h3
    · rename_i a b
      refine ⟨a, b, h2, ?_, ?_⟩
      · intro hb; subst hb; simpa using h3
      · intro hb
        subst hb
        simp only [Bool.and_eq_true, decide_eq_true_eq, beq_iff_eq] at h3
        obtain ⟨⟨h4, h5⟩, h6⟩ := h3
        refine .inr ⟨rfl, h4, h5, ?_⟩
        by_cases c : flag f 1 = 0
        · rw [decide_eq_true c] at h6; simp at h6; simp [c, h6]
        · rw [decide_eq_false c] at h6; simp at h6; simp [c, h6]
    · cases h3
  · refine ⟨0, false, plG_wp rfl rfl (c16 g16 ?_), fun _ => rfl, fun h => by cases h⟩
    unfold P16
    simp only [P_pick, P_not, P_ext, P_fld, P_fldA, P_nil, P_alloc, P_box, P_build, P_bslice, P_load1, P_loadN, P_cell1, P_cellN, P_store, P_ixA, P_ix, P_ixS, P_lenS, P_lenE, P_lenStr, P_mkif, P_eqB, P_eqC, P_mkslice, P_slc, P_slc0, P_andQ, andQ_tt, andQ_tf, andQ_ff, andQ_ft, andQ_p, orQ_p, ifP_bool, ifB_true, ifB_false, P_eqptr0, P_eqptr1, P_eqptr0N, P_eqptr1N, P_eqsl0, P_eqsl1, P_eqsl0N, P_eqsl1N, P_eqmap0, P_eqmap1, P_eqmap0N, P_eqmap1N, P_eqfn0, P_eqfn1, P_eqfn0N, P_eqfn1N, P_lss, P_leq, P_gtr, P_geq, P_eql, P_neq, P_add64, P_sub64, P_seql, P_sneq, P_sadd, P_call0, P_mkfn0, P_call1, P_mkfn1, P_call2, P_mkfn2, P_call3, P_mkfn3, P_call4, P_mkfn4, P_call5, P_mkfn5, P_call6, P_mkfn6, P_call7, P_mkfn7, P_callF0, P_callY0, P_mkfnR0, P_callF1, P_callY1, P_mkfnR1, P_callF2, P_callY2, P_mkfnR2, P_callF3, P_callY3, P_mkfnR3, P_callF4, P_callY4, P_mkfnR4, blkP_cells, rdP_cells, rdP_ro, cutP_none, cutP_some, cutP_ro, optP_some, condP_true, bnds_l, bnds_h, bnds_lh, bnds_0, put_at, put_off, add_at, add_eq, add_off, Hp.put_next, Hp.add_next, List.getElem?_cons_zero, List.getElem?_cons_succ, List.length_cons, List.length_nil, Nat.zero_add, Nat.add_zero, Nat.reduceAdd, Nat.reduceLeDiff, Nat.reduceSub, Nat.reduceMul, Nat.reduceEqDiff, List.drop_zero, List.drop_succ_cons, List.take_succ_cons, List.take_zero, and_self, and_true, true_and, if_true, if_false, Bool.false_eq_true, Bool.not_true, Bool.not_false, Value.cells, fillA, Atom.ev, setAll, List.set_cons_zero, List.set_cons_succ, List.size_toArray, splice, overlay, List.all_cons, List.all_nil, Value.oneCell', Bool.and_self, Bool.or_self, Bool.true_or, Bool.or_true, Bool.false_or, Bool.or_false, Bool.false_and, Bool.and_false, Bool.and_true, Bool.true_and, beq_self_eq_true, Int.reduceToNat, List.nil_append, List.append_nil, List.cons_append, Int.le_refl, Int.toNat_natCast, decide_eq_false hp, decide_eq_false hq]
    refine jn_intro fun J hJ => ?_
    subst hJ
    simp only [P_pick, P_not, P_ext, P_fld, P_fldA, P_nil, P_alloc, P_box, P_build, P_bslice, P_load1, P_loadN, P_cell1, P_cellN, P_store, P_ixA, P_ix, P_ixS, P_lenS, P_lenE, P_lenStr, P_mkif, P_eqB, P_eqC, P_mkslice, P_slc, P_slc0, P_andQ, andQ_tt, andQ_tf, andQ_ff, andQ_ft, andQ_p, orQ_p, ifP_bool, ifB_true, ifB_false, P_eqptr0, P_eqptr1, P_eqptr0N, P_eqptr1N, P_eqsl0, P_eqsl1, P_eqsl0N, P_eqsl1N, P_eqmap0, P_eqmap1, P_eqmap0N, P_eqmap1N, P_eqfn0, P_eqfn1, P_eqfn0N, P_eqfn1N, P_lss, P_leq, P_gtr, P_geq, P_eql, P_neq, P_add64, P_sub64, P_seql, P_sneq, P_sadd, P_call0, P_mkfn0, P_call1, P_mkfn1, P_call2, P_mkfn2, P_call3, P_mkfn3, P_call4, P_mkfn4, P_call5, P_mkfn5, P_call6, P_mkfn6, P_call7, P_mkfn7, P_callF0, P_callY0, P_mkfnR0, P_callF1, P_callY1, P_mkfnR1, P_callF2, P_callY2, P_mkfnR2, P_callF3, P_callY3, P_mkfnR3, P_callF4, P_callY4, P_mkfnR4, blkP_cells, rdP_cells, rdP_ro, cutP_none, cutP_some, cutP_ro, optP_some, condP_true, bnds_l, bnds_h, bnds_lh, bnds_0, put_at, put_off, add_at, add_eq, add_off, Hp.put_next, Hp.add_next, List.getElem?_cons_zero, List.getElem?_cons_succ, List.length_cons, List.length_nil, Nat.zero_add, Nat.add_zero, Nat.reduceAdd, Nat.reduceLeDiff, Nat.reduceSub, Nat.reduceMul, Nat.reduceEqDiff, List.drop_zero, List.drop_succ_cons, List.take_succ_cons, List.take_zero, and_self, and_true, true_and, if_true, if_false, Bool.false_eq_true, Bool.not_true, Bool.not_false, Value.cells, fillA, Atom.ev, setAll, List.set_cons_zero, List.set_cons_succ, List.size_toArray, splice, overlay, List.all_cons, List.all_nil, Value.oneCell', Bool.and_self, Bool.or_self, Bool.true_or, Bool.or_true, Bool.false_or, Bool.or_false, Bool.false_and, Bool.and_false, Bool.and_true, Bool.true_and, beq_self_eq_true, Int.reduceToNat, List.nil_append, List.append_nil, List.cons_append, Int.le_refl, Int.toNat_natCast]
theorem nxt (s f : Int) (hs : 1 ≤ s ∧ s ≤ 4) (h0 : 0 ≤ f) (h1 : f < 256) : ∃ w y e, plG T 17 [.int .u8 s, .int .u8 f] = some (.tuple ⟨[.int .u8 w, .int .u8 y, .int .i64 e]⟩) ∧ okN s f (.tuple ⟨[.int .u8 w, .int .u8 y, .int .i64 e]⟩) = true := by
  have hm : s ∈ ([1, 2, 3, 4] : List Int) := by
    have : s = 1 ∨ s = 2 ∨ s = 3 ∨ s = 4 := by omega
    simpa using this
  obtain ⟨v, h2, h3⟩ := plG_runs rfl (fun v => plain_n) (List.all_eq_true.1 (List.all_eq_true.1 enumN s hm) f (mem_ints 256 f h0 h1))
  have h4 := h3
  unfold okN at h3
  split at h3
  · exact ⟨_, _, _, h2, h4⟩
  · cases h3
theorem okN_ne {s f w y e : Int} (h : okN s f (.tuple ⟨[.int .u8 w, .int .u8 y, .int .i64 e]⟩) = true) (he : e ≠ 0) : w = 0 ∧ y = 0 ∧ s ≠ 1 := by
  simp only [okN, decide_eq_false he, Bool.and_eq_true, decide_eq_true_eq, Bool.not_eq_true', decide_eq_false_iff_not] at h
  exact ⟨h.1.1, h.1.2, h.2⟩
theorem okN_1 {f w y e : Int} (h : okN 1 f (.tuple ⟨[.int .u8 w, .int .u8 y, .int .i64 e]⟩) = true) (he : e = 0) : y = 1 ∧ w = 1 := by
  simpa [okN, he] using h
theorem okN_2 {s f w y e : Int} (h : okN s f (.tuple ⟨[.int .u8 w, .int .u8 y, .int .i64 e]⟩) = true) (he : e = 0) (hs : s ≠ 1) :
    2 ≤ y ∧ y ≤ 4 ∧ (w = 2 → flag f 4 ≠ 0) ∧ (w = 3 → s = 4 ∧ flag f 2 ≠ 0 ∧ y = 2 ∧ flag f 1 = 0) ∧ (w ≠ 2 → w ≠ 3 → (y = 4 ↔ s = 4 ∨ flag f 1 ≠ 0)) := by
  subst he
  simp only [okN, decide_true, decide_eq_false hs, Bool.and_eq_true, decide_eq_true_eq] at h
  obtain ⟨⟨⟨h1, h2⟩, h3⟩, h4⟩ := h
  refine ⟨h1, h2, fun hw => ?_, fun hw => ?_, fun hw hw' => ?_⟩
  · subst hw; simpa using h4
  · subst hw; simpa [and_assoc] using h4
  · simp only [decide_eq_false hw, decide_eq_false hw', beq_iff_eq] at h4
    have := congrArg (· = true) h4
    simpa using this
theorem may (s : Int) (hs : 1 ≤ s ∧ s ≤ 4) : plG T 18 [.int .u8 s] = some (.bool true) := by
  have hm : s ∈ ([1, 2, 3, 4] : List Int) := by
    have : s = 1 ∨ s = 2 ∨ s = 3 ∨ s = 4 := by omega
    simpa using this
  obtain ⟨v, h2, h3⟩ := plG_runs rfl (fun v h => by split at h <;> first | rfl | cases h) (List.all_eq_true.1 enumM s hm)
  split at h3
  · subst h3; exact h2
  · cases h3
theorem hu5 : Try.prog.underlying 5 = some (.int .u8) := by kernel_rfl
theorem hu22 : Try.prog.underlying 22 = some (.slice 5) := by kernel_rfl
theorem hz5 : Try.prog.cellsOf 5 = 1 := by kernel_rfl
theorem law (bs : List (List Value)) (args : List Value) (h : ShpA Try.prog bs 4 [5, 22] args) : wp (callN F1 100 (.fn 3) args) (fun v _ => v = .bool true) (roHp bs) := by
  obtain ⟨v0, r, rfl, h0, h⟩ := h
  obtain ⟨v1, r, rfl, h1, h⟩ := h
  obtain rfl : r = [] := h
  obtain ⟨p, rfl, hp⟩ := shp_int hu5 (shpV_one (fun fs => by rw [hu5]; simp) h0)
  obtain ⟨vs, hq, hv⟩ := slV_of hu22 hz5 h1
  obtain ⟨xs, rfl, hx⟩ := cells_ints fun x hx => shp_int hu5 (hq x hx)
  have hx' : ∀ x ∈ xs, 0 ≤ x ∧ x < 256 := fun x h => u8_rng (hx x h)
  refine c3 F1_3 ?_
  unfold P3
  have kn : ∀ (Φ : Value → Hp → Prop) (S : Hp), wp (callN F1 99 (.fn 15) []) Φ S = Φ (.bool true) S := fun Φ S => by rw [P_sum F1_15, known]; rfl
  have hlen : ∀ (Φ : Value → Hp → Prop) (S : Hp), wp (X (callN F1 99) (.len .slice (.const v1))) Φ S = Φ (.int .i64 xs.length) S := by
    intro Φ S
    rcases hv with ⟨rfl, hv⟩ | ⟨rfl, hv⟩ | ⟨id, c, zs, rfl, hv⟩
    · have : xs.length = 0 := by simpa using hv
      rw [P_lenS, this]
    · have : xs.length = 0 := by simpa using hv
      rw [P_lenE, this]
    · rw [P_lenS, List.length_map]
  by_cases hl : (xs.length : Int) > 60
  · simp only [P_pick, P_not, P_ext, P_fld, P_fldA, P_nil, P_alloc, P_box, P_build, P_bslice, P_load1, P_loadN, P_cell1, P_cellN, P_store, P_ixA, P_ix, P_ixS, P_lenS, P_lenE, P_lenStr, P_mkif, P_eqB, P_eqC, P_mkslice, P_slc, P_slc0, P_andQ, andQ_tt, andQ_tf, andQ_ff, andQ_ft, andQ_p, orQ_p, ifP_bool, ifB_true, ifB_false, P_eqptr0, P_eqptr1, P_eqptr0N, P_eqptr1N, P_eqsl0, P_eqsl1, P_eqsl0N, P_eqsl1N, P_eqmap0, P_eqmap1, P_eqmap0N, P_eqmap1N, P_eqfn0, P_eqfn1, P_eqfn0N, P_eqfn1N, P_lss, P_leq, P_gtr, P_geq, P_eql, P_neq, P_add64, P_sub64, P_seql, P_sneq, P_sadd, P_call0, P_mkfn0, P_call1, P_mkfn1, P_call2, P_mkfn2, P_call3, P_mkfn3, P_call4, P_mkfn4, P_call5, P_mkfn5, P_call6, P_mkfn6, P_call7, P_mkfn7, P_callF0, P_callY0, P_mkfnR0, P_callF1, P_callY1, P_mkfnR1, P_callF2, P_callY2, P_mkfnR2, P_callF3, P_callY3, P_mkfnR3, P_callF4, P_callY4, P_mkfnR4, blkP_cells, rdP_cells, rdP_ro, cutP_none, cutP_some, cutP_ro, optP_some, condP_true, bnds_l, bnds_h, bnds_lh, bnds_0, put_at, put_off, add_at, add_eq, add_off, Hp.put_next, Hp.add_next, List.getElem?_cons_zero, List.getElem?_cons_succ, List.length_cons, List.length_nil, Nat.zero_add, Nat.add_zero, Nat.reduceAdd, Nat.reduceLeDiff, Nat.reduceSub, Nat.reduceMul, Nat.reduceEqDiff, List.drop_zero, List.drop_succ_cons, List.take_succ_cons, List.take_zero, and_self, and_true, true_and, if_true, if_false, Bool.false_eq_true, Bool.not_true, Bool.not_false, Value.cells, fillA, Atom.ev, setAll, List.set_cons_zero, List.set_cons_succ, List.size_toArray, splice, overlay, List.all_cons, List.all_nil, Value.oneCell', Bool.and_self, Bool.or_self, Bool.true_or, Bool.or_true, Bool.false_or, Bool.or_false, Bool.false_and, Bool.and_false, Bool.and_true, Bool.true_and, beq_self_eq_true, Int.reduceToNat, List.nil_append, List.append_nil, List.cons_append, Int.le_refl, Int.toNat_natCast, hlen, kn, decide_eq_true hl]
  by_cases hz : (xs.length : Int) = 0
  · simp only [P_pick, P_not, P_ext, P_fld, P_fldA, P_nil, P_alloc, P_box, P_build, P_bslice, P_load1, P_loadN, P_cell1, P_cellN, P_store, P_ixA, P_ix, P_ixS, P_lenS, P_lenE, P_lenStr, P_mkif, P_eqB, P_eqC, P_mkslice, P_slc, P_slc0, P_andQ, andQ_tt, andQ_tf, andQ_ff, andQ_ft, andQ_p, orQ_p, ifP_bool, ifB_true, ifB_false, P_eqptr0, P_eqptr1, P_eqptr0N, P_eqptr1N, P_eqsl0, P_eqsl1, P_eqsl0N, P_eqsl1N, P_eqmap0, P_eqmap1, P_eqmap0N, P_eqmap1N, P_eqfn0, P_eqfn1, P_eqfn0N, P_eqfn1N, P_lss, P_leq, P_gtr, P_geq, P_eql, P_neq, P_add64, P_sub64, P_seql, P_sneq, P_sadd, P_call0, P_mkfn0, P_call1, P_mkfn1, P_call2, P_mkfn2, P_call3, P_mkfn3, P_call4, P_mkfn4, P_call5, P_mkfn5, P_call6, P_mkfn6, P_call7, P_mkfn7, P_callF0, P_callY0, P_mkfnR0, P_callF1, P_callY1, P_mkfnR1, P_callF2, P_callY2, P_mkfnR2, P_callF3, P_callY3, P_mkfnR3, P_callF4, P_callY4, P_mkfnR4, blkP_cells, rdP_cells, rdP_ro, cutP_none, cutP_some, cutP_ro, optP_some, condP_true, bnds_l, bnds_h, bnds_lh, bnds_0, put_at, put_off, add_at, add_eq, add_off, Hp.put_next, Hp.add_next, List.getElem?_cons_zero, List.getElem?_cons_succ, List.length_cons, List.length_nil, Nat.zero_add, Nat.add_zero, Nat.reduceAdd, Nat.reduceLeDiff, Nat.reduceSub, Nat.reduceMul, Nat.reduceEqDiff, List.drop_zero, List.drop_succ_cons, List.take_succ_cons, List.take_zero, and_self, and_true, true_and, if_true, if_false, Bool.false_eq_true, Bool.not_true, Bool.not_false, Value.cells, fillA, Atom.ev, setAll, List.set_cons_zero, List.set_cons_succ, List.size_toArray, splice, overlay, List.all_cons, List.all_nil, Value.oneCell', Bool.and_self, Bool.or_self, Bool.true_or, Bool.or_true, Bool.false_or, Bool.or_false, Bool.false_and, Bool.and_false, Bool.and_true, Bool.true_and, beq_self_eq_true, Int.reduceToNat, List.nil_append, List.append_nil, List.cons_append, Int.le_refl, Int.toNat_natCast, hlen, kn, decide_eq_false hl, decide_eq_true hz]
  rcases hv with ⟨rfl, hv⟩ | ⟨rfl, hv⟩ | ⟨id, c, zs, rfl, h2, h3, h4, h5, h6⟩
  · exact absurd (by simpa using hv) hz
  · exact absurd (by simpa using hv) hz
  rw [List.length_map] at h2
  have hget : (roHp bs).heap.get id = some (.ro (List.map (Value.int .u8) xs ++ zs)) := by rw [roHp_get, h5]; rfl
  have hcell : ∀ i : Nat, (h : i < xs.length) → (List.map (Value.int .u8) xs ++ zs)[i]? = some (.int .u8 xs[i]) := fun i h => by
    rw [List.getElem?_append_left (by simpa using h), List.getElem?_map, List.getElem?_eq_getElem h]; rfl
  have hn : 0 < xs.length := by omega
  have hrng : ∀ i : Nat, (h : i < xs.length) → 0 ≤ xs[i] ∧ xs[i] < 256 := fun i h => hx' _ (List.getElem_mem h)
  generalize List.map (Value.int .u8) xs ++ zs = l at hget hcell h5 h6
  rw [List.length_map] at hlen ⊢
  obtain ⟨a, b, hf, hf0, hf1⟩ := first p xs[0] (hrng 0 hn).1 (hrng 0 hn).2
  have c16 : ∀ (Φ : Value → Hp → Prop) (S : Hp), wp (callN F1 99 (.fn 16) [.int .u8 p, .int .u8 xs[0]]) Φ S = Φ (.tuple ⟨[.int .u8 a, .bool b]⟩) S := fun Φ S => by rw [P_sum F1_16, hf]; rfl
  simp only [P_pick, P_not, P_ext, P_fld, P_fldA, P_nil, P_alloc, P_box, P_build, P_bslice, P_load1, P_loadN, P_cell1, P_cellN, P_store, P_ixA, P_ix, P_ixS, P_lenS, P_lenE, P_lenStr, P_mkif, P_eqB, P_eqC, P_mkslice, P_slc, P_slc0, P_andQ, andQ_tt, andQ_tf, andQ_ff, andQ_ft, andQ_p, orQ_p, ifP_bool, ifB_true, ifB_false, P_eqptr0, P_eqptr1, P_eqptr0N, P_eqptr1N, P_eqsl0, P_eqsl1, P_eqsl0N, P_eqsl1N, P_eqmap0, P_eqmap1, P_eqmap0N, P_eqmap1N, P_eqfn0, P_eqfn1, P_eqfn0N, P_eqfn1N, P_lss, P_leq, P_gtr, P_geq, P_eql, P_neq, P_add64, P_sub64, P_seql, P_sneq, P_sadd, P_call0, P_mkfn0, P_call1, P_mkfn1, P_call2, P_mkfn2, P_call3, P_mkfn3, P_call4, P_mkfn4, P_call5, P_mkfn5, P_call6, P_mkfn6, P_call7, P_mkfn7, P_callF0, P_callY0, P_mkfnR0, P_callF1, P_callY1, P_mkfnR1, P_callF2, P_callY2, P_mkfnR2, P_callF3, P_callY3, P_mkfnR3, P_callF4, P_callY4, P_mkfnR4, blkP_cells, rdP_cells, rdP_ro, cutP_none, cutP_some, cutP_ro, optP_some, condP_true, bnds_l, bnds_h, bnds_lh, bnds_0, put_at, put_off, add_at, add_eq, add_off, Hp.put_next, Hp.add_next, List.getElem?_cons_zero, List.getElem?_cons_succ, List.length_cons, List.length_nil, Nat.zero_add, Nat.add_zero, Nat.reduceAdd, Nat.reduceLeDiff, Nat.reduceSub, Nat.reduceMul, Nat.reduceEqDiff, List.drop_zero, List.drop_succ_cons, List.take_succ_cons, List.take_zero, and_self, and_true, true_and, if_true, if_false, Bool.false_eq_true, Bool.not_true, Bool.not_false, Value.cells, fillA, Atom.ev, setAll, List.set_cons_zero, List.set_cons_succ, List.size_toArray, splice, overlay, List.all_cons, List.all_nil, Value.oneCell', Bool.and_self, Bool.or_self, Bool.true_or, Bool.or_true, Bool.false_or, Bool.or_false, Bool.false_and, Bool.and_false, Bool.and_true, Bool.true_and, beq_self_eq_true, Int.reduceToNat, List.nil_append, List.append_nil, List.cons_append, Int.le_refl, Int.toNat_natCast, hlen, kn, decide_eq_false hl, decide_eq_false hz, hget, hcell 0 hn, c16, Int.natCast_pos.2 hn]
  cases b with
  | false =>
    simp only [P_pick, P_not, P_ext, P_fld, P_fldA, P_nil, P_alloc, P_box, P_build, P_bslice, P_load1, P_loadN, P_cell1, P_cellN, P_store, P_ixA, P_ix, P_ixS, P_lenS, P_lenE, P_lenStr, P_mkif, P_eqB, P_eqC, P_mkslice, P_slc, P_slc0, P_andQ, andQ_tt, andQ_tf, andQ_ff, andQ_ft, andQ_p, orQ_p, ifP_bool, ifB_true, ifB_false, P_eqptr0, P_eqptr1, P_eqptr0N, P_eqptr1N, P_eqsl0, P_eqsl1, P_eqsl0N, P_eqsl1N, P_eqmap0, P_eqmap1, P_eqmap0N, P_eqmap1N, P_eqfn0, P_eqfn1, P_eqfn0N, P_eqfn1N, P_lss, P_leq, P_gtr, P_geq, P_eql, P_neq, P_add64, P_sub64, P_seql, P_sneq, P_sadd, P_call0, P_mkfn0, P_call1, P_mkfn1, P_call2, P_mkfn2, P_call3, P_mkfn3, P_call4, P_mkfn4, P_call5, P_mkfn5, P_call6, P_mkfn6, P_call7, P_mkfn7, P_callF0, P_callY0, P_mkfnR0, P_callF1, P_callY1, P_mkfnR1, P_callF2, P_callY2, P_mkfnR2, P_callF3, P_callY3, P_mkfnR3, P_callF4, P_callY4, P_mkfnR4, blkP_cells, rdP_cells, rdP_ro, cutP_none, cutP_some, cutP_ro, optP_some, condP_true, bnds_l, bnds_h, bnds_lh, bnds_0, put_at, put_off, add_at, add_eq, add_off, Hp.put_next, Hp.add_next, List.getElem?_cons_zero, List.getElem?_cons_succ, List.length_cons, List.length_nil, Nat.zero_add, Nat.add_zero, Nat.reduceAdd, Nat.reduceLeDiff, Nat.reduceSub, Nat.reduceMul, Nat.reduceEqDiff, List.drop_zero, List.drop_succ_cons, List.take_succ_cons, List.take_zero, and_self, and_true, true_and, if_true, if_false, Bool.false_eq_true, Bool.not_true, Bool.not_false, Value.cells, fillA, Atom.ev, setAll, List.set_cons_zero, List.set_cons_succ, List.size_toArray, splice, overlay, List.all_cons, List.all_nil, Value.oneCell', Bool.and_self, Bool.or_self, Bool.true_or, Bool.or_true, Bool.false_or, Bool.or_false, Bool.false_and, Bool.and_false, Bool.and_true, Bool.true_and, beq_self_eq_true, Int.reduceToNat, List.nil_append, List.append_nil, List.cons_append, Int.le_refl, Int.toNat_natCast, kn, hf0 rfl, decide_true]
  | true =>
    have hf1 := hf1 rfl
    have fl : ∀ (f k : Int) (Φ : Value → Hp → Prop) (S : Hp), wp (X (callN F1 99) (.bin .and (.const (.int .u8 f)) (.const (.int .u8 k)))) Φ S = Φ (.int .u8 (flag f k)) S := fun f k Φ S => by rw [P_bin]; rfl
    have h1n : (1 : Int) ≤ xs.length := by omega
    have hsl : slcR 1 id 0 0 1 xs.length c = .slice (some ⟨id, if c = 1 then 0 else 1, none⟩) (xs.length - 1) (c - 1) := by
      unfold slcR; split <;> rfl
    simp only [P_pick, P_not, P_ext, P_fld, P_fldA, P_nil, P_alloc, P_box, P_build, P_bslice, P_load1, P_loadN, P_cell1, P_cellN, P_store, P_ixA, P_ix, P_ixS, P_lenS, P_lenE, P_lenStr, P_mkif, P_eqB, P_eqC, P_mkslice, P_slc, P_slc0, P_andQ, andQ_tt, andQ_tf, andQ_ff, andQ_ft, andQ_p, orQ_p, ifP_bool, ifB_true, ifB_false, P_eqptr0, P_eqptr1, P_eqptr0N, P_eqptr1N, P_eqsl0, P_eqsl1, P_eqsl0N, P_eqsl1N, P_eqmap0, P_eqmap1, P_eqmap0N, P_eqmap1N, P_eqfn0, P_eqfn1, P_eqfn0N, P_eqfn1N, P_lss, P_leq, P_gtr, P_geq, P_eql, P_neq, P_add64, P_sub64, P_seql, P_sneq, P_sadd, P_call0, P_mkfn0, P_call1, P_mkfn1, P_call2, P_mkfn2, P_call3, P_mkfn3, P_call4, P_mkfn4, P_call5, P_mkfn5, P_call6, P_mkfn6, P_call7, P_mkfn7, P_callF0, P_callY0, P_mkfnR0, P_callF1, P_callY1, P_mkfnR1, P_callF2, P_callY2, P_mkfnR2, P_callF3, P_callY3, P_mkfnR3, P_callF4, P_callY4, P_mkfnR4, blkP_cells, rdP_cells, rdP_ro, cutP_none, cutP_some, cutP_ro, optP_some, condP_true, bnds_l, bnds_h, bnds_lh, bnds_0, put_at, put_off, add_at, add_eq, add_off, Hp.put_next, Hp.add_next, List.getElem?_cons_zero, List.getElem?_cons_succ, List.length_cons, List.length_nil, Nat.zero_add, Nat.add_zero, Nat.reduceAdd, Nat.reduceLeDiff, Nat.reduceSub, Nat.reduceMul, Nat.reduceEqDiff, List.drop_zero, List.drop_succ_cons, List.take_succ_cons, List.take_zero, and_self, and_true, true_and, if_true, if_false, Bool.false_eq_true, Bool.not_true, Bool.not_false, Value.cells, fillA, Atom.ev, setAll, List.set_cons_zero, List.set_cons_succ, List.size_toArray, splice, overlay, List.all_cons, List.all_nil, Value.oneCell', Bool.and_self, Bool.or_self, Bool.true_or, Bool.or_true, Bool.false_or, Bool.or_false, Bool.false_and, Bool.and_false, Bool.and_true, Bool.true_and, beq_self_eq_true, Int.reduceToNat, List.nil_append, List.append_nil, List.cons_append, Int.le_refl, Int.toNat_natCast, fl, hget, hcell 0 hn, h1n, h2, hsl, Int.reduceLE]
    refine ⟨fun m t0 t4 t5 t7 t47 t48 t49 S => ∃ (i : Nat) (st : Int) (cl : Bool), t0 = .int .u8 p ∧ t5 = .int .u8 st ∧ t7 = .bool cl ∧ t47 = .slice (some ⟨id, if c = 1 then 0 else 1, none⟩) (xs.length - 1) (c - 1) ∧
      t48 = .int .i64 ((xs.length - 1 : Nat) : Int) ∧ t49 = .int .i64 i ∧ S = roHp bs ∧ i ≤ xs.length - 1 ∧ m = xs.length - 1 - i ∧ ((p = 17 ∧ st = 1 ∧ cl = false) ∨ (p = 6 ∧ 2 ≤ st ∧ st ≤ 4 ∧ (st = 4 ↔ cl = true))),
      ⟨xs.length - 1, by omega, 0, a, _, rfl, rfl, rfl, rfl, rfl, rfl, rfl, Nat.zero_le _, by omega, ?_⟩, ?_⟩
    · rcases hf1 with ⟨rfl, rfl⟩ | ⟨rfl, h7, h8, h9⟩
      · exact .inl ⟨rfl, rfl, by simp⟩
      · exact .inr ⟨rfl, h7, h8, by simp [h9]⟩
    rintro m S t0 t4 t5 t7 t47 t48 t49 ⟨i, st, cl, rfl, rfl, rfl, rfl, rfl, rfl, rfl, hi, rfl, hst⟩
    simp only [P_pick, P_not, P_ext, P_fld, P_fldA, P_nil, P_alloc, P_box, P_build, P_bslice, P_load1, P_loadN, P_cell1, P_cellN, P_store, P_ixA, P_ix, P_ixS, P_lenS, P_lenE, P_lenStr, P_mkif, P_eqB, P_eqC, P_mkslice, P_slc, P_slc0, P_andQ, andQ_tt, andQ_tf, andQ_ff, andQ_ft, andQ_p, orQ_p, ifP_bool, ifB_true, ifB_false, P_eqptr0, P_eqptr1, P_eqptr0N, P_eqptr1N, P_eqsl0, P_eqsl1, P_eqsl0N, P_eqsl1N, P_eqmap0, P_eqmap1, P_eqmap0N, P_eqmap1N, P_eqfn0, P_eqfn1, P_eqfn0N, P_eqfn1N, P_lss, P_leq, P_gtr, P_geq, P_eql, P_neq, P_add64, P_sub64, P_seql, P_sneq, P_sadd, P_call0, P_mkfn0, P_call1, P_mkfn1, P_call2, P_mkfn2, P_call3, P_mkfn3, P_call4, P_mkfn4, P_call5, P_mkfn5, P_call6, P_mkfn6, P_call7, P_mkfn7, P_callF0, P_callY0, P_mkfnR0, P_callF1, P_callY1, P_mkfnR1, P_callF2, P_callY2, P_mkfnR2, P_callF3, P_callY3, P_mkfnR3, P_callF4, P_callY4, P_mkfnR4, blkP_cells, rdP_cells, rdP_ro, cutP_none, cutP_some, cutP_ro, optP_some, condP_true, bnds_l, bnds_h, bnds_lh, bnds_0, put_at, put_off, add_at, add_eq, add_off, Hp.put_next, Hp.add_next, List.getElem?_cons_zero, List.getElem?_cons_succ, List.length_cons, List.length_nil, Nat.zero_add, Nat.add_zero, Nat.reduceAdd, Nat.reduceLeDiff, Nat.reduceSub, Nat.reduceMul, Nat.reduceEqDiff, List.drop_zero, List.drop_succ_cons, List.take_succ_cons, List.take_zero, and_self, and_true, true_and, if_true, if_false, Bool.false_eq_true, Bool.not_true, Bool.not_false, Value.cells, fillA, Atom.ev, setAll, List.set_cons_zero, List.set_cons_succ, List.size_toArray, splice, overlay, List.all_cons, List.all_nil, Value.oneCell', Bool.and_self, Bool.or_self, Bool.true_or, Bool.or_true, Bool.false_or, Bool.or_false, Bool.false_and, Bool.and_false, Bool.and_true, Bool.true_and, beq_self_eq_true, Int.reduceToNat, List.nil_append, List.append_nil, List.cons_append, Int.le_refl, Int.toNat_natCast, kn]
    refine ifD_in (fun hlt => ?_) (fun hge => ?_)
    rotate_left
    · simp only [P_pick, P_not, P_ext, P_fld, P_fldA, P_nil, P_alloc, P_box, P_build, P_bslice, P_load1, P_loadN, P_cell1, P_cellN, P_store, P_ixA, P_ix, P_ixS, P_lenS, P_lenE, P_lenStr, P_mkif, P_eqB, P_eqC, P_mkslice, P_slc, P_slc0, P_andQ, andQ_tt, andQ_tf, andQ_ff, andQ_ft, andQ_p, orQ_p, ifP_bool, ifB_true, ifB_false, P_eqptr0, P_eqptr1, P_eqptr0N, P_eqptr1N, P_eqsl0, P_eqsl1, P_eqsl0N, P_eqsl1N, P_eqmap0, P_eqmap1, P_eqmap0N, P_eqmap1N, P_eqfn0, P_eqfn1, P_eqfn0N, P_eqfn1N, P_lss, P_leq, P_gtr, P_geq, P_eql, P_neq, P_add64, P_sub64, P_seql, P_sneq, P_sadd, P_call0, P_mkfn0, P_call1, P_mkfn1, P_call2, P_mkfn2, P_call3, P_mkfn3, P_call4, P_mkfn4, P_call5, P_mkfn5, P_call6, P_mkfn6, P_call7, P_mkfn7, P_callF0, P_callY0, P_mkfnR0, P_callF1, P_callY1, P_mkfnR1, P_callF2, P_callY2, P_mkfnR2, P_callF3, P_callY3, P_mkfnR3, P_callF4, P_callY4, P_mkfnR4, blkP_cells, rdP_cells, rdP_ro, cutP_none, cutP_some, cutP_ro, optP_some, condP_true, bnds_l, bnds_h, bnds_lh, bnds_0, put_at, put_off, add_at, add_eq, add_off, Hp.put_next, Hp.add_next, List.getElem?_cons_zero, List.getElem?_cons_succ, List.length_cons, List.length_nil, Nat.zero_add, Nat.add_zero, Nat.reduceAdd, Nat.reduceLeDiff, Nat.reduceSub, Nat.reduceMul, Nat.reduceEqDiff, List.drop_zero, List.drop_succ_cons, List.take_succ_cons, List.take_zero, and_self, and_true, true_and, if_true, if_false, Bool.false_eq_true, Bool.not_true, Bool.not_false, Value.cells, fillA, Atom.ev, setAll, List.set_cons_zero, List.set_cons_succ, List.size_toArray, splice, overlay, List.all_cons, List.all_nil, Value.oneCell', Bool.and_self, Bool.or_self, Bool.true_or, Bool.or_true, Bool.false_or, Bool.or_false, Bool.false_and, Bool.and_false, Bool.and_true, Bool.true_and, beq_self_eq_true, Int.reduceToNat, List.nil_append, List.append_nil, List.cons_append, Int.le_refl, Int.toNat_natCast, kn]
    have hi1 : i + 1 < xs.length := by omega
    have hc1 : ¬ c = 1 := by omega
    have hst4 : 1 ≤ st ∧ st ≤ 4 := by rcases hst with ⟨_, h, _⟩ | ⟨_, h1, h2, _⟩ <;> omega
    obtain ⟨w, y, e, hN, hok⟩ := nxt st xs[i + 1] hst4 (hrng _ hi1).1 (hrng _ hi1).2
    have c17 : ∀ (Φ : Value → Hp → Prop) (S : Hp), wp (callN F1 99 (.fn 17) [.int .u8 st, .int .u8 xs[i + 1]]) Φ S = Φ (.tuple ⟨[.int .u8 w, .int .u8 y, .int .i64 e]⟩) S := fun Φ S => by rw [P_sum F1_17, hN]; rfl
    have hoff : 1 + ((i : Int)).toNat * 1 = i + 1 := by omega
    have hlt' : (i : Int) < ((xs.length - 1 : Nat) : Int) := hlt
    simp only [P_pick, P_not, P_ext, P_fld, P_fldA, P_nil, P_alloc, P_box, P_build, P_bslice, P_load1, P_loadN, P_cell1, P_cellN, P_store, P_ixA, P_ix, P_ixS, P_lenS, P_lenE, P_lenStr, P_mkif, P_eqB, P_eqC, P_mkslice, P_slc, P_slc0, P_andQ, andQ_tt, andQ_tf, andQ_ff, andQ_ft, andQ_p, orQ_p, ifP_bool, ifB_true, ifB_false, P_eqptr0, P_eqptr1, P_eqptr0N, P_eqptr1N, P_eqsl0, P_eqsl1, P_eqsl0N, P_eqsl1N, P_eqmap0, P_eqmap1, P_eqmap0N, P_eqmap1N, P_eqfn0, P_eqfn1, P_eqfn0N, P_eqfn1N, P_lss, P_leq, P_gtr, P_geq, P_eql, P_neq, P_add64, P_sub64, P_seql, P_sneq, P_sadd, P_call0, P_mkfn0, P_call1, P_mkfn1, P_call2, P_mkfn2, P_call3, P_mkfn3, P_call4, P_mkfn4, P_call5, P_mkfn5, P_call6, P_mkfn6, P_call7, P_mkfn7, P_callF0, P_callY0, P_mkfnR0, P_callF1, P_callY1, P_mkfnR1, P_callF2, P_callY2, P_mkfnR2, P_callF3, P_callY3, P_mkfnR3, P_callF4, P_callY4, P_mkfnR4, blkP_cells, rdP_cells, rdP_ro, cutP_none, cutP_some, cutP_ro, optP_some, condP_true, bnds_l, bnds_h, bnds_lh, bnds_0, put_at, put_off, add_at, add_eq, add_off, Hp.put_next, Hp.add_next, List.getElem?_cons_zero, List.getElem?_cons_succ, List.length_cons, List.length_nil, Nat.zero_add, Nat.add_zero, Nat.reduceAdd, Nat.reduceLeDiff, Nat.reduceSub, Nat.reduceMul, Nat.reduceEqDiff, List.drop_zero, List.drop_succ_cons, List.take_succ_cons, List.take_zero, and_self, and_true, true_and, if_true, if_false, Bool.false_eq_true, Bool.not_true, Bool.not_false, Value.cells, fillA, Atom.ev, setAll, List.set_cons_zero, List.set_cons_succ, List.size_toArray, splice, overlay, List.all_cons, List.all_nil, Value.oneCell', Bool.and_self, Bool.or_self, Bool.true_or, Bool.or_true, Bool.false_or, Bool.or_false, Bool.false_and, Bool.and_false, Bool.and_true, Bool.true_and, beq_self_eq_true, Int.reduceToNat, List.nil_append, List.append_nil, List.cons_append, Int.le_refl, Int.toNat_natCast, kn, if_neg hc1, hget, Int.natCast_nonneg, hlt', hoff, Nat.mul_one, Nat.add_comm 1 i, hcell _ hi1, c17]
    refine ifN_in (fun he => ?_) (fun he => ?_)
    · obtain ⟨k1, k2, k3⟩ := okN_ne hok he
      have hp6 : p = 6 := by rcases hst with ⟨_, h, _⟩ | ⟨h, _⟩ <;> omega
      simp [k1, k2, hp6]
    have hy : 1 ≤ y ∧ y ≤ 4 := by
      by_cases hs1 : st = 1
      · subst hs1; have := okN_1 hok he; omega
      · have := okN_2 hok he hs1; omega
    have c18 : ∀ (Φ : Value → Hp → Prop) (S : Hp), wp (callN F1 99 (.fn 18) [.int .u8 y]) Φ S = Φ (.bool true) S := fun Φ S => by rw [P_sum F1_18, may y hy]; rfl
    simp only [P_pick, P_not, P_ext, P_fld, P_fldA, P_nil, P_alloc, P_box, P_build, P_bslice, P_load1, P_loadN, P_cell1, P_cellN, P_store, P_ixA, P_ix, P_ixS, P_lenS, P_lenE, P_lenStr, P_mkif, P_eqB, P_eqC, P_mkslice, P_slc, P_slc0, P_andQ, andQ_tt, andQ_tf, andQ_ff, andQ_ft, andQ_p, orQ_p, ifP_bool, ifB_true, ifB_false, P_eqptr0, P_eqptr1, P_eqptr0N, P_eqptr1N, P_eqsl0, P_eqsl1, P_eqsl0N, P_eqsl1N, P_eqmap0, P_eqmap1, P_eqmap0N, P_eqmap1N, P_eqfn0, P_eqfn1, P_eqfn0N, P_eqfn1N, P_lss, P_leq, P_gtr, P_geq, P_eql, P_neq, P_add64, P_sub64, P_seql, P_sneq, P_sadd, P_call0, P_mkfn0, P_call1, P_mkfn1, P_call2, P_mkfn2, P_call3, P_mkfn3, P_call4, P_mkfn4, P_call5, P_mkfn5, P_call6, P_mkfn6, P_call7, P_mkfn7, P_callF0, P_callY0, P_mkfnR0, P_callF1, P_callY1, P_mkfnR1, P_callF2, P_callY2, P_mkfnR2, P_callF3, P_callY3, P_mkfnR3, P_callF4, P_callY4, P_mkfnR4, blkP_cells, rdP_cells, rdP_ro, cutP_none, cutP_some, cutP_ro, optP_some, condP_true, bnds_l, bnds_h, bnds_lh, bnds_0, put_at, put_off, add_at, add_eq, add_off, Hp.put_next, Hp.add_next, List.getElem?_cons_zero, List.getElem?_cons_succ, List.length_cons, List.length_nil, Nat.zero_add, Nat.add_zero, Nat.reduceAdd, Nat.reduceLeDiff, Nat.reduceSub, Nat.reduceMul, Nat.reduceEqDiff, List.drop_zero, List.drop_succ_cons, List.take_succ_cons, List.take_zero, and_self, and_true, true_and, if_true, if_false, Bool.false_eq_true, Bool.not_true, Bool.not_false, Value.cells, fillA, Atom.ev, setAll, List.set_cons_zero, List.set_cons_succ, List.size_toArray, splice, overlay, List.all_cons, List.all_nil, Value.oneCell', Bool.and_self, Bool.or_self, Bool.true_or, Bool.or_true, Bool.false_or, Bool.or_false, Bool.false_and, Bool.and_false, Bool.and_true, Bool.true_and, beq_self_eq_true, Int.reduceToNat, List.nil_append, List.append_nil, List.cons_append, Int.le_refl, Int.toNat_natCast, c18, fl]
    rcases hst with ⟨rfl, rfl, rfl⟩ | ⟨rfl, hs2, hs4, hcl⟩
    · obtain ⟨rfl, rfl⟩ := okN_1 hok he
      simp only [P_pick, P_not, P_ext, P_fld, P_fldA, P_nil, P_alloc, P_box, P_build, P_bslice, P_load1, P_loadN, P_cell1, P_cellN, P_store, P_ixA, P_ix, P_ixS, P_lenS, P_lenE, P_lenStr, P_mkif, P_eqB, P_eqC, P_mkslice, P_slc, P_slc0, P_andQ, andQ_tt, andQ_tf, andQ_ff, andQ_ft, andQ_p, orQ_p, ifP_bool, ifB_true, ifB_false, P_eqptr0, P_eqptr1, P_eqptr0N, P_eqptr1N, P_eqsl0, P_eqsl1, P_eqsl0N, P_eqsl1N, P_eqmap0, P_eqmap1, P_eqmap0N, P_eqmap1N, P_eqfn0, P_eqfn1, P_eqfn0N, P_eqfn1N, P_lss, P_leq, P_gtr, P_geq, P_eql, P_neq, P_add64, P_sub64, P_seql, P_sneq, P_sadd, P_call0, P_mkfn0, P_call1, P_mkfn1, P_call2, P_mkfn2, P_call3, P_mkfn3, P_call4, P_mkfn4, P_call5, P_mkfn5, P_call6, P_mkfn6, P_call7, P_mkfn7, P_callF0, P_callY0, P_mkfnR0, P_callF1, P_callY1, P_mkfnR1, P_callF2, P_callY2, P_mkfnR2, P_callF3, P_callY3, P_mkfnR3, P_callF4, P_callY4, P_mkfnR4, blkP_cells, rdP_cells, rdP_ro, cutP_none, cutP_some, cutP_ro, optP_some, condP_true, bnds_l, bnds_h, bnds_lh, bnds_0, put_at, put_off, add_at, add_eq, add_off, Hp.put_next, Hp.add_next, List.getElem?_cons_zero, List.getElem?_cons_succ, List.length_cons, List.length_nil, Nat.zero_add, Nat.add_zero, Nat.reduceAdd, Nat.reduceLeDiff, Nat.reduceSub, Nat.reduceMul, Nat.reduceEqDiff, List.drop_zero, List.drop_succ_cons, List.take_succ_cons, List.take_zero, and_self, and_true, true_and, if_true, if_false, Bool.false_eq_true, Bool.not_true, Bool.not_false, Value.cells, fillA, Atom.ev, setAll, List.set_cons_zero, List.set_cons_succ, List.size_toArray, splice, overlay, List.all_cons, List.all_nil, Value.oneCell', Bool.and_self, Bool.or_self, Bool.true_or, Bool.or_true, Bool.false_or, Bool.or_false, Bool.false_and, Bool.and_false, Bool.and_true, Bool.true_and, beq_self_eq_true, Int.reduceToNat, List.nil_append, List.append_nil, List.cons_append, Int.le_refl, Int.toNat_natCast, decide_true, show decide ((17 : Int) = 6) = false from rfl, show decide ((1 : Int) = 2) = false from rfl, show decide ((1 : Int) = 3) = false from rfl]
      refine jn_intro fun J hJ => ?_
      subst hJ
      simp only [P_pick, P_not, P_ext, P_fld, P_fldA, P_nil, P_alloc, P_box, P_build, P_bslice, P_load1, P_loadN, P_cell1, P_cellN, P_store, P_ixA, P_ix, P_ixS, P_lenS, P_lenE, P_lenStr, P_mkif, P_eqB, P_eqC, P_mkslice, P_slc, P_slc0, P_andQ, andQ_tt, andQ_tf, andQ_ff, andQ_ft, andQ_p, orQ_p, ifP_bool, ifB_true, ifB_false, P_eqptr0, P_eqptr1, P_eqptr0N, P_eqptr1N, P_eqsl0, P_eqsl1, P_eqsl0N, P_eqsl1N, P_eqmap0, P_eqmap1, P_eqmap0N, P_eqmap1N, P_eqfn0, P_eqfn1, P_eqfn0N, P_eqfn1N, P_lss, P_leq, P_gtr, P_geq, P_eql, P_neq, P_add64, P_sub64, P_seql, P_sneq, P_sadd, P_call0, P_mkfn0, P_call1, P_mkfn1, P_call2, P_mkfn2, P_call3, P_mkfn3, P_call4, P_mkfn4, P_call5, P_mkfn5, P_call6, P_mkfn6, P_call7, P_mkfn7, P_callF0, P_callY0, P_mkfnR0, P_callF1, P_callY1, P_mkfnR1, P_callF2, P_callY2, P_mkfnR2, P_callF3, P_callY3, P_mkfnR3, P_callF4, P_callY4, P_mkfnR4, blkP_cells, rdP_cells, rdP_ro, cutP_none, cutP_some, cutP_ro, optP_some, condP_true, bnds_l, bnds_h, bnds_lh, bnds_0, put_at, put_off, add_at, add_eq, add_off, Hp.put_next, Hp.add_next, List.getElem?_cons_zero, List.getElem?_cons_succ, List.length_cons, List.length_nil, Nat.zero_add, Nat.add_zero, Nat.reduceAdd, Nat.reduceLeDiff, Nat.reduceSub, Nat.reduceMul, Nat.reduceEqDiff, List.drop_zero, List.drop_succ_cons, List.take_succ_cons, List.take_zero, and_self, and_true, true_and, if_true, if_false, Bool.false_eq_true, Bool.not_true, Bool.not_false, Value.cells, fillA, Atom.ev, setAll, List.set_cons_zero, List.set_cons_succ, List.size_toArray, splice, overlay, List.all_cons, List.all_nil, Value.oneCell', Bool.and_self, Bool.or_self, Bool.true_or, Bool.or_true, Bool.false_or, Bool.or_false, Bool.false_and, Bool.and_false, Bool.and_true, Bool.true_and, beq_self_eq_true, Int.reduceToNat, List.nil_append, List.append_nil, List.cons_append, Int.le_refl, Int.toNat_natCast, show decide ((1 : Int) = 4) = false from rfl]
      rw [P_add64 (by omega) (by omega)]
      exact ⟨xs.length - 1 - (i + 1), by omega, i + 1, 1, false, rfl, rfl, by simp, rfl, by omega, rfl, by simp⟩
    obtain ⟨k1, k2, k3, k4, k5⟩ := okN_2 hok he (by omega)
    have e17 : decide ((6 : Int) = 17) = false := rfl
    have e1 : decide (y = 1) = false := decide_eq_false (by omega)
    simp only [P_pick, P_not, P_ext, P_fld, P_fldA, P_nil, P_alloc, P_box, P_build, P_bslice, P_load1, P_loadN, P_cell1, P_cellN, P_store, P_ixA, P_ix, P_ixS, P_lenS, P_lenE, P_lenStr, P_mkif, P_eqB, P_eqC, P_mkslice, P_slc, P_slc0, P_andQ, andQ_tt, andQ_tf, andQ_ff, andQ_ft, andQ_p, orQ_p, ifP_bool, ifB_true, ifB_false, P_eqptr0, P_eqptr1, P_eqptr0N, P_eqptr1N, P_eqsl0, P_eqsl1, P_eqsl0N, P_eqsl1N, P_eqmap0, P_eqmap1, P_eqmap0N, P_eqmap1N, P_eqfn0, P_eqfn1, P_eqfn0N, P_eqfn1N, P_lss, P_leq, P_gtr, P_geq, P_eql, P_neq, P_add64, P_sub64, P_seql, P_sneq, P_sadd, P_call0, P_mkfn0, P_call1, P_mkfn1, P_call2, P_mkfn2, P_call3, P_mkfn3, P_call4, P_mkfn4, P_call5, P_mkfn5, P_call6, P_mkfn6, P_call7, P_mkfn7, P_callF0, P_callY0, P_mkfnR0, P_callF1, P_callY1, P_mkfnR1, P_callF2, P_callY2, P_mkfnR2, P_callF3, P_callY3, P_mkfnR3, P_callF4, P_callY4, P_mkfnR4, blkP_cells, rdP_cells, rdP_ro, cutP_none, cutP_some, cutP_ro, optP_some, condP_true, bnds_l, bnds_h, bnds_lh, bnds_0, put_at, put_off, add_at, add_eq, add_off, Hp.put_next, Hp.add_next, List.getElem?_cons_zero, List.getElem?_cons_succ, List.length_cons, List.length_nil, Nat.zero_add, Nat.add_zero, Nat.reduceAdd, Nat.reduceLeDiff, Nat.reduceSub, Nat.reduceMul, Nat.reduceEqDiff, List.drop_zero, List.drop_succ_cons, List.take_succ_cons, List.take_zero, and_self, and_true, true_and, if_true, if_false, Bool.false_eq_true, Bool.not_true, Bool.not_false, Value.cells, fillA, Atom.ev, setAll, List.set_cons_zero, List.set_cons_succ, List.size_toArray, splice, overlay, List.all_cons, List.all_nil, Value.oneCell', Bool.and_self, Bool.or_self, Bool.true_or, Bool.or_true, Bool.false_or, Bool.or_false, Bool.false_and, Bool.and_false, Bool.and_true, Bool.true_and, beq_self_eq_true, Int.reduceToNat, List.nil_append, List.append_nil, List.cons_append, Int.le_refl, Int.toNat_natCast, e17, e1, decide_true, Bool.not_false]
    refine ifD_in (fun hw => ?_) (fun hw => ?_)
    · simp only [P_pick, P_not, P_ext, P_fld, P_fldA, P_nil, P_alloc, P_box, P_build, P_bslice, P_load1, P_loadN, P_cell1, P_cellN, P_store, P_ixA, P_ix, P_ixS, P_lenS, P_lenE, P_lenStr, P_mkif, P_eqB, P_eqC, P_mkslice, P_slc, P_slc0, P_andQ, andQ_tt, andQ_tf, andQ_ff, andQ_ft, andQ_p, orQ_p, ifP_bool, ifB_true, ifB_false, P_eqptr0, P_eqptr1, P_eqptr0N, P_eqptr1N, P_eqsl0, P_eqsl1, P_eqsl0N, P_eqsl1N, P_eqmap0, P_eqmap1, P_eqmap0N, P_eqmap1N, P_eqfn0, P_eqfn1, P_eqfn0N, P_eqfn1N, P_lss, P_leq, P_gtr, P_geq, P_eql, P_neq, P_add64, P_sub64, P_seql, P_sneq, P_sadd, P_call0, P_mkfn0, P_call1, P_mkfn1, P_call2, P_mkfn2, P_call3, P_mkfn3, P_call4, P_mkfn4, P_call5, P_mkfn5, P_call6, P_mkfn6, P_call7, P_mkfn7, P_callF0, P_callY0, P_mkfnR0, P_callF1, P_callY1, P_mkfnR1, P_callF2, P_callY2, P_mkfnR2, P_callF3, P_callY3, P_mkfnR3, P_callF4, P_callY4, P_mkfnR4, blkP_cells, rdP_cells, rdP_ro, cutP_none, cutP_some, cutP_ro, optP_some, condP_true, bnds_l, bnds_h, bnds_lh, bnds_0, put_at, put_off, add_at, add_eq, add_off, Hp.put_next, Hp.add_next, List.getElem?_cons_zero, List.getElem?_cons_succ, List.length_cons, List.length_nil, Nat.zero_add, Nat.add_zero, Nat.reduceAdd, Nat.reduceLeDiff, Nat.reduceSub, Nat.reduceMul, Nat.reduceEqDiff, List.drop_zero, List.drop_succ_cons, List.take_succ_cons, List.take_zero, and_self, and_true, true_and, if_true, if_false, Bool.false_eq_true, Bool.not_true, Bool.not_false, Value.cells, fillA, Atom.ev, setAll, List.set_cons_zero, List.set_cons_succ, List.size_toArray, splice, overlay, List.all_cons, List.all_nil, Value.oneCell', Bool.and_self, Bool.or_self, Bool.true_or, Bool.or_true, Bool.false_or, Bool.or_false, Bool.false_and, Bool.and_false, Bool.and_true, Bool.true_and, beq_self_eq_true, Int.reduceToNat, List.nil_append, List.append_nil, List.cons_append, Int.le_refl, Int.toNat_natCast, decide_eq_false (k3 hw)]
    refine jn_intro fun J hJ => ?_
    have fin : ∀ cl' t4, (y = 4 ↔ (cl' = true ∨ flag xs[i + 1] 1 ≠ 0)) → J t4 (.bool cl') (roHp bs) := by
      intro cl' t4 hcl'
      subst hJ
      simp only [P_pick, P_not, P_ext, P_fld, P_fldA, P_nil, P_alloc, P_box, P_build, P_bslice, P_load1, P_loadN, P_cell1, P_cellN, P_store, P_ixA, P_ix, P_ixS, P_lenS, P_lenE, P_lenStr, P_mkif, P_eqB, P_eqC, P_mkslice, P_slc, P_slc0, P_andQ, andQ_tt, andQ_tf, andQ_ff, andQ_ft, andQ_p, orQ_p, ifP_bool, ifB_true, ifB_false, P_eqptr0, P_eqptr1, P_eqptr0N, P_eqptr1N, P_eqsl0, P_eqsl1, P_eqsl0N, P_eqsl1N, P_eqmap0, P_eqmap1, P_eqmap0N, P_eqmap1N, P_eqfn0, P_eqfn1, P_eqfn0N, P_eqfn1N, P_lss, P_leq, P_gtr, P_geq, P_eql, P_neq, P_add64, P_sub64, P_seql, P_sneq, P_sadd, P_call0, P_mkfn0, P_call1, P_mkfn1, P_call2, P_mkfn2, P_call3, P_mkfn3, P_call4, P_mkfn4, P_call5, P_mkfn5, P_call6, P_mkfn6, P_call7, P_mkfn7, P_callF0, P_callY0, P_mkfnR0, P_callF1, P_callY1, P_mkfnR1, P_callF2, P_callY2, P_mkfnR2, P_callF3, P_callY3, P_mkfnR3, P_callF4, P_callY4, P_mkfnR4, blkP_cells, rdP_cells, rdP_ro, cutP_none, cutP_some, cutP_ro, optP_some, condP_true, bnds_l, bnds_h, bnds_lh, bnds_0, put_at, put_off, add_at, add_eq, add_off, Hp.put_next, Hp.add_next, List.getElem?_cons_zero, List.getElem?_cons_succ, List.length_cons, List.length_nil, Nat.zero_add, Nat.add_zero, Nat.reduceAdd, Nat.reduceLeDiff, Nat.reduceSub, Nat.reduceMul, Nat.reduceEqDiff, List.drop_zero, List.drop_succ_cons, List.take_succ_cons, List.take_zero, and_self, and_true, true_and, if_true, if_false, Bool.false_eq_true, Bool.not_true, Bool.not_false, Value.cells, fillA, Atom.ev, setAll, List.set_cons_zero, List.set_cons_succ, List.size_toArray, splice, overlay, List.all_cons, List.all_nil, Value.oneCell', Bool.and_self, Bool.or_self, Bool.true_or, Bool.or_true, Bool.false_or, Bool.or_false, Bool.false_and, Bool.and_false, Bool.and_true, Bool.true_and, beq_self_eq_true, Int.reduceToNat, List.nil_append, List.append_nil, List.cons_append, Int.le_refl, Int.toNat_natCast, fl]
      have : (cl' || !decide (flag xs[i + 1] 1 = 0)) = decide (y = 4) := by
        rw [Bool.eq_iff_iff]; simp [hcl']
      rw [this]
      simp only [P_pick, P_not, P_ext, P_fld, P_fldA, P_nil, P_alloc, P_box, P_build, P_bslice, P_load1, P_loadN, P_cell1, P_cellN, P_store, P_ixA, P_ix, P_ixS, P_lenS, P_lenE, P_lenStr, P_mkif, P_eqB, P_eqC, P_mkslice, P_slc, P_slc0, P_andQ, andQ_tt, andQ_tf, andQ_ff, andQ_ft, andQ_p, orQ_p, ifP_bool, ifB_true, ifB_false, P_eqptr0, P_eqptr1, P_eqptr0N, P_eqptr1N, P_eqsl0, P_eqsl1, P_eqsl0N, P_eqsl1N, P_eqmap0, P_eqmap1, P_eqmap0N, P_eqmap1N, P_eqfn0, P_eqfn1, P_eqfn0N, P_eqfn1N, P_lss, P_leq, P_gtr, P_geq, P_eql, P_neq, P_add64, P_sub64, P_seql, P_sneq, P_sadd, P_call0, P_mkfn0, P_call1, P_mkfn1, P_call2, P_mkfn2, P_call3, P_mkfn3, P_call4, P_mkfn4, P_call5, P_mkfn5, P_call6, P_mkfn6, P_call7, P_mkfn7, P_callF0, P_callY0, P_mkfnR0, P_callF1, P_callY1, P_mkfnR1, P_callF2, P_callY2, P_mkfnR2, P_callF3, P_callY3, P_mkfnR3, P_callF4, P_callY4, P_mkfnR4, blkP_cells, rdP_cells, rdP_ro, cutP_none, cutP_some, cutP_ro, optP_some, condP_true, bnds_l, bnds_h, bnds_lh, bnds_0, put_at, put_off, add_at, add_eq, add_off, Hp.put_next, Hp.add_next, List.getElem?_cons_zero, List.getElem?_cons_succ, List.length_cons, List.length_nil, Nat.zero_add, Nat.add_zero, Nat.reduceAdd, Nat.reduceLeDiff, Nat.reduceSub, Nat.reduceMul, Nat.reduceEqDiff, List.drop_zero, List.drop_succ_cons, List.take_succ_cons, List.take_zero, and_self, and_true, true_and, if_true, if_false, Bool.false_eq_true, Bool.not_true, Bool.not_false, Value.cells, fillA, Atom.ev, setAll, List.set_cons_zero, List.set_cons_succ, List.size_toArray, splice, overlay, List.all_cons, List.all_nil, Value.oneCell', Bool.and_self, Bool.or_self, Bool.true_or, Bool.or_true, Bool.false_or, Bool.or_false, Bool.false_and, Bool.and_false, Bool.and_true, Bool.true_and, beq_self_eq_true, Int.reduceToNat, List.nil_append, List.append_nil, List.cons_append, Int.le_refl, Int.toNat_natCast]
      rw [P_add64 (by omega) (by omega)]
      exact ⟨xs.length - 1 - (i + 1), by omega, i + 1, y, decide (y = 4), rfl, rfl, by simp, rfl, by omega, rfl, by simp; exact ⟨k1, k2⟩⟩
    refine ifD_in (fun hw3 => ?_) (fun hw3 => ?_)
    · obtain ⟨q1, q2, q3, q4⟩ := k4 hw3
      have : cl = true := hcl.1 q1
      subst this
      simp only [P_pick, P_not, P_ext, P_fld, P_fldA, P_nil, P_alloc, P_box, P_build, P_bslice, P_load1, P_loadN, P_cell1, P_cellN, P_store, P_ixA, P_ix, P_ixS, P_lenS, P_lenE, P_lenStr, P_mkif, P_eqB, P_eqC, P_mkslice, P_slc, P_slc0, P_andQ, andQ_tt, andQ_tf, andQ_ff, andQ_ft, andQ_p, orQ_p, ifP_bool, ifB_true, ifB_false, P_eqptr0, P_eqptr1, P_eqptr0N, P_eqptr1N, P_eqsl0, P_eqsl1, P_eqsl0N, P_eqsl1N, P_eqmap0, P_eqmap1, P_eqmap0N, P_eqmap1N, P_eqfn0, P_eqfn1, P_eqfn0N, P_eqfn1N, P_lss, P_leq, P_gtr, P_geq, P_eql, P_neq, P_add64, P_sub64, P_seql, P_sneq, P_sadd, P_call0, P_mkfn0, P_call1, P_mkfn1, P_call2, P_mkfn2, P_call3, P_mkfn3, P_call4, P_mkfn4, P_call5, P_mkfn5, P_call6, P_mkfn6, P_call7, P_mkfn7, P_callF0, P_callY0, P_mkfnR0, P_callF1, P_callY1, P_mkfnR1, P_callF2, P_callY2, P_mkfnR2, P_callF3, P_callY3, P_mkfnR3, P_callF4, P_callY4, P_mkfnR4, blkP_cells, rdP_cells, rdP_ro, cutP_none, cutP_some, cutP_ro, optP_some, condP_true, bnds_l, bnds_h, bnds_lh, bnds_0, put_at, put_off, add_at, add_eq, add_off, Hp.put_next, Hp.add_next, List.getElem?_cons_zero, List.getElem?_cons_succ, List.length_cons, List.length_nil, Nat.zero_add, Nat.add_zero, Nat.reduceAdd, Nat.reduceLeDiff, Nat.reduceSub, Nat.reduceMul, Nat.reduceEqDiff, List.drop_zero, List.drop_succ_cons, List.take_succ_cons, List.take_zero, and_self, and_true, true_and, if_true, if_false, Bool.false_eq_true, Bool.not_true, Bool.not_false, Value.cells, fillA, Atom.ev, setAll, List.set_cons_zero, List.set_cons_succ, List.size_toArray, splice, overlay, List.all_cons, List.all_nil, Value.oneCell', Bool.and_self, Bool.or_self, Bool.true_or, Bool.or_true, Bool.false_or, Bool.or_false, Bool.false_and, Bool.and_false, Bool.and_true, Bool.true_and, beq_self_eq_true, Int.reduceToNat, List.nil_append, List.append_nil, List.cons_append, Int.le_refl, Int.toNat_natCast, decide_eq_false q2, q3, decide_true]
      exact fin false _ (by simp [q3, q4])
    · exact fin cl _ (by rw [k5 hw hw3, hcl])
theorem own : ownKnob Try.prog.godebug = none := by kernel_rfl
theorem laid : laidOutB Try.prog = true := by kernel_rfl
theorem par : Try.f3.params.toList = [5, 22] := by kernel_rfl
theorem contract (H : Type) (enc : TypeId × Value → H) (W : World) (base : Nat) (args : Array Value) (ds gs : List (DataW H)) (before : List MemPlace)
    (hval : ∀ (j : Nat) t v, Try.f3.params[j]? = some t → args[j]? = some v → Value.okWide Try.prog W .any base t v)
    (hW : DataW.Whole enc Try.prog Try.f3.params.toList Rows.flowstateClosesSpec.vars false W args.toList ds gs before) :
    Calls Try.prog 3 args W fun e W' => ∃ v, e = .returned v ∧ Rows.flowstateClosesSpec.post enc Try.prog Try.f3 false true false false W args v W' := by
  obtain ⟨p, q, hA, hV, _⟩ := id hW
  obtain ⟨rfl, _⟩ := trodVars_none hV
  refine (law_ro Try.checked.mixed F1_ok (n := 100) (g := 4) (by rw [F1_3]; rfl) (by kernel_rfl) hval hA (by rw [par]; exact law)).mono fun e W' ⟨he, hb⟩ => ?_
  subst he
  obtain ⟨d0, d1, rfl⟩ := len2 (trod_len hA)
  exact ⟨_, rfl, law_post laid rfl rfl (t := 4) (by rfl) Try.underlying4 (by kernel_rfl) hW hb⟩
theorem lifted (os : Os) (started : os.Started) (H : Type) (enc : TypeId × Value → H) :
    ReturnsInHanded {} Try.checked os 3 .any (Rows.flowstateClosesSpec.pre6 enc Try.prog Try.f3 Rows.flowstateClosesRow.domain false) (Rows.flowstateClosesSpec.post enc Try.prog Try.f3 false true false false) := by
  refine returnsInHanded_of_change (C := Try.checked) own started (by kernel_rfl) Try.func3
    (ChangeSpec.witness6 (enc := enc) (C := Try.checked) false ⟨#[], #[.int .u8 0, .slice none 0 0], []⟩ 8 (by kernel_rfl) (by kernel_rfl) (by kernel_rfl) (by kernel_rfl)) ?_
  intro W base args ds gs before hval hW _ _
  exact contract H enc W base args ds gs before hval hW
theorem proved : Rows.FlowstateClosesSaid :=
  OpenClaim.holds_of_wide 3 Try.f3 rfl rfl rfl rfl rfl rfl rfl ⟨rfl, rfl, rfl, rfl, rfl⟩ rfl rfl rfl rfl rfl (by kernel_rfl) Try.func3 (by kernel_rfl)
    (of_decide_eq_true (by kernel_rfl)) (by unfold Func.isWrapper; first | (rw [if_pos (by decide +kernel)]; kernel_rfl) | (rw [if_neg (by decide +kernel)]; exact ⟨rfl, rfl⟩))
    (fun os started H enc _ => lifted os started H enc)
end Go.Proofs.Ytmepokefmpcnnaa.FlowstateCloses
