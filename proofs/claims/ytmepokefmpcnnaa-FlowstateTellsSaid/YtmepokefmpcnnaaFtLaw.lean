/- What layer 15's functions answer. -/
import Derived.Test.YtmepokefmpcnnaaFtText
set_option maxRecDepth 100000
set_option linter.unusedVariables false
set_option linter.unusedSimpArgs false
namespace Go.Proofs.Ytmepokefmpcnnaa.FtText
open Go.Wb
def mt (a : Int) : Bool := !(decide (a < 1) || decide (a > 1048576))
theorem w18' (n : Nat) (a : Int) (S : St) : callN T (n + 1) (.fn 18) [.int .u8 a] S = some (.bool (decide (a ≥ 1) && decide (a ≤ 4)), S) := by
  rw [w18, v18]
  simp only [X_bin, bv_geq, k_lift, wanted_bool]
  by_cases h : a ≥ 1
  · simp [h, G_true, X_mov, X_bin, bv_leq, k_lift, k_pure, X_pick]
  · simp [h, G_false, k_pure, X_pick]
theorem loop21 (C : Tgt → List Value → M Value) (n : Nat) (a b c d : Int) (S : St) : ∀ (k j : Nat), j + k = 4 → ∀ (m : Nat) (e : Env),
    Le (((.leaf : Env).set 13 (some (.agg ⟨[.int .u32 a, .int .u32 b, .int .u32 c, .int .u32 d]⟩))).set 14 (some (.int .i64 j))) e →
    ∃ x e', iter (run C n (lB (bB (sR (sL (sR b21)))))) (m + k + 1) e S = some ((x, e'), S) ∧
      (if ([a, b, c, d].drop j).all mt then x = .exit 0 else x = .ret ∧ e'.get 2 = some (.bool false)) := by
  intro k
  induction k with
  | zero =>
    intro j hj m e he
    obtain rfl : j = 4 := by omega
    have h := (run_codeV (C := C) (n := n) (S := S)).trans (l21 C n (.agg ⟨[.int .u32 a, .int .u32 b, .int .u32 c, .int .u32 d]⟩) (.int .i64 (4 : Nat)) _ S)
    simp only [X_bin, bv_lss, k_lift, asBool_bool, show decide (((4 : Nat) : Int) < 4) = false by decide, ifK_false] at h
    obtain ⟨e2, h1, h2⟩ := run_mono n _ (by kernel_rfl) he h
    exact ⟨_, e2, iter_succ h1, by simp⟩
  | succ k ih =>
    intro j hj m e he
    obtain ⟨x, r, hx⟩ : ∃ x r, [a, b, c, d].drop j = x :: r := by
      have : j < [a, b, c, d].length := by simp; omega
      exact ⟨_, _, List.drop_eq_getElem_cons this⟩
    have hr : [a, b, c, d].drop (j + 1) = r := by
      have := congrArg List.tail hx
      simpa using this
    have hcs : ([Value.int .u32 a, .int .u32 b, .int .u32 c, .int .u32 d])[j]? = some (.int .u32 x) := by
      have h1 : [a, b, c, d][j]? = some x := by
        have := congrArg List.head? hx
        simpa using this
      have h2 : ([a, b, c, d].map (Value.int .u32))[j]? = some (.int .u32 x) := by rw [List.getElem?_map, h1]; rfl
      exact h2
    have h := (run_codeV (C := C) (n := n) (S := S)).trans (l21 C n (.agg ⟨[.int .u32 a, .int .u32 b, .int .u32 c, .int .u32 d]⟩) (.int .i64 (j : Nat)) _ S)
    have hj4 : (j : Int) < 4 := by omega
    simp only [X_bin, bv_lss, k_lift, asBool_bool, decide_eq_true hj4, ifK_true, X_ix 4 1 .one _ .i64 (j : Int) ⟨by omega, by omega⟩, partOf, Int.toNat_natCast, Nat.mul_one, hcs, wanted_bool] at h
    by_cases hlt : x < 1
    · simp only [decide_eq_true hlt, show (true == false) = false from rfl, G_false, k_pure, X_pick, if_true, ifK_true, asBool_bool] at h
      obtain ⟨e2, h1, h2⟩ := run_mono n _ (by kernel_rfl) he h
      refine ⟨_, e2, iter_succ h1, ?_⟩
      have : mt x = false := by simp [mt, hlt]
      simp only [hx, List.all_cons, this, Bool.false_and, Bool.false_eq_true, if_false]
      exact ⟨trivial, h2 2 _ (by kernel_rfl)⟩
    · simp only [decide_eq_false hlt, show (false == false) = true from rfl, G_true, X_mov, k_pure, X_bin, bv_gtr, k_lift, X_pick, Bool.false_eq_true, if_false] at h
      by_cases hgt : x > 1048576
      · simp only [decide_eq_true hgt, ifK_true, asBool_bool] at h
        obtain ⟨e2, h1, h2⟩ := run_mono n _ (by kernel_rfl) he h
        refine ⟨_, e2, iter_succ h1, ?_⟩
        have : mt x = false := by simp [mt, hgt]
        simp only [hx, List.all_cons, this, Bool.false_and, Bool.false_eq_true, if_false]
        exact ⟨trivial, h2 2 _ (by kernel_rfl)⟩
      · simp only [decide_eq_false hgt, ifK_false, asBool_bool, bv_add, k_lift, wrap64 (n := (j : Int) + 1) (by omega) (by omega)] at h
        obtain ⟨e2, h1, h2⟩ := run_mono n _ (by kernel_rfl) he h
        obtain ⟨x2, e3, h3, h4⟩ := ih (j + 1) (by omega) m e2 (((Le.leaf _).of_set (h2 13 _ (by kernel_rfl))).of_set (h2 14 _ (by kernel_rfl)))
        refine ⟨x2, e3, (iter_succ h1).trans h3, ?_⟩
        have : mt x = true := by simp [mt, hlt, hgt]
        rw [hr] at h4
        simp only [hx, List.all_cons, this, Bool.true_and]
        exact h4
theorem w21' (m : Nat) (a b c d : Int) (S : St) : ∃ S', callN T (m + 5 + 1) (.fn 21) [.agg ⟨[.int .u32 a, .int .u32 b, .int .u32 c, .int .u32 d]⟩] S = some (.bool ([a, b, c, d].all mt), S') := by
  rw [w21, v21]
  simp only [X_box, M.k_bind, k_nw, k_pure, X_fldA, X_load1, Nat.zero_add, Value.cells, k_ld, St.add_heap, St.saw_heap, if_true, ldK_cells, List.getElem?_cons_zero, List.getElem?_cons_succ, vK_some, X_build, fillA, Atom.ev, setAll, List.set_cons_zero, List.set_cons_succ,
    List.length_cons, List.length_nil, List.size_toArray, Nat.reduceAdd, Nat.reduceLeDiff, and_self, Option.map_some, k_lift]
  generalize hS : (((((S.add _).saw _).saw _).saw _).saw _) = S1
  obtain ⟨x, e', h, hx⟩ := loop21 (callN T (m + 5)) (m + 5) a b c d S1 4 0 rfl m _ (((Le.leaf _).of_set (by kernel_rfl)).of_set (by kernel_rfl))
  rw [k_some h]
  by_cases hall : [a, b, c, d].all mt = true
  · rw [if_pos (by exact hall)] at hx
    subst hx
    obtain ⟨e2, h1, h2⟩ := codeV_at (c := sR (sR b21)) (by kernel_rfl) (Le.leaf e') ((run_codeV (C := callN T (m + 5)) (n := m + 5) (S := S1)).trans (e21 _ _ _ S1)) (endV [ARes.tmp 2] fun v S => some (v, S))
    exact ⟨S1, by rw [hall]; exact h1.trans (endV_one (h2 2 _ (by kernel_rfl)) (.inr rfl) S1)⟩
  · rw [if_neg (by exact hall)] at hx
    obtain ⟨rfl, hg⟩ := hx
    exact ⟨S1, by rw [Bool.eq_false_iff.2 hall]; exact endV_one hg (.inr rfl) S1⟩
theorem loop22 (C : Tgt → List Value → M Value) (n : Nat) (a b c d : Int) (hp : ∀ y ∈ [a, b, c, d], 0 ≤ y) (bb : Nat) : ∀ (k j : Nat), j + k = 4 → ∀ (m : Nat) (e : Env) (S : St), S.heap.get bb = some (.cells none false [.int .u32 a, .int .u32 b, .int .u32 c, .int .u32 d]) →
    Le (((.leaf : Env).set 3 (some (.slice (some ⟨bb, 0, none⟩) 4 4))).set 4 (some (.int .i64 j))) e →
    ∃ x e' S', iter (run C n (lB (bB (sR (sL (sR (sR b22))))))) (m + k + 1) e S = some ((x, e'), S') ∧
      (if ([a, b, c, d].drop j).all mt then x = .exit 0 else x = .ret ∧ e'.get 2 = some (.bool false)) := by
  intro k
  induction k with
  | zero =>
    intro j hj m e S hS he
    obtain rfl : j = 4 := by omega
    have h := (run_codeV (C := C) (n := n) (S := S)).trans (l22 C n (.slice (some ⟨bb, 0, none⟩) 4 4) (.int .i64 (4 : Nat)) _ S)
    simp only [X_len .slice (.slice (some ⟨bb, 0, none⟩) 4 4) 4 (by simp) rfl, k_pure, X_bin, bv_lss, k_lift, asBool_bool, show decide (((4 : Nat) : Int) < ((4 : Nat) : Int)) = false by decide, ifK_false] at h
    obtain ⟨e2, h1, h2⟩ := run_mono n _ (by kernel_rfl) he h
    exact ⟨_, e2, _, iter_succ h1, by simp⟩
  | succ k ih =>
    intro j hj m e S hS he
    obtain ⟨x, r, hx⟩ : ∃ x r, [a, b, c, d].drop j = x :: r := by
      have : j < [a, b, c, d].length := by simp; omega
      exact ⟨_, _, List.drop_eq_getElem_cons this⟩
    have hr : [a, b, c, d].drop (j + 1) = r := by
      have := congrArg List.tail hx
      simpa using this
    have hcs : ([Value.int .u32 a, .int .u32 b, .int .u32 c, .int .u32 d])[j]? = some (.int .u32 x) := by
      have h1 : [a, b, c, d][j]? = some x := by
        have := congrArg List.head? hx
        simpa using this
      have h2 : ([a, b, c, d].map (Value.int .u32))[j]? = some (.int .u32 x) := by rw [List.getElem?_map, h1]; rfl
      exact h2
    have h := (run_codeV (C := C) (n := n) (S := S)).trans (l22 C n (.slice (some ⟨bb, 0, none⟩) 4 4) (.int .i64 (j : Nat)) _ S)
    have hj4 : (j : Int) < (4 : Nat) := by omega
    simp only [X_len .slice (.slice (some ⟨bb, 0, none⟩) 4 4) 4 (by simp) rfl, k_pure, X_bin, bv_lss, k_lift, asBool_bool, decide_eq_true hj4, ifK_true, X_ixA 1 ⟨bb, 0, none⟩ 4 4 .i64 (j : Int) ⟨by omega, by omega⟩, X_load1, k_ld, hS, ldK_cells, Int.toNat_natCast, Nat.mul_one, Nat.zero_add, hcs, vK_some, bv_eql, wanted_bool] at h
    by_cases hz : x = 0
    · simp only [decide_eq_true hz, show (true == false) = false from rfl, G_false, k_pure, X_pick, if_true, ifK_true, asBool_bool] at h
      obtain ⟨e2, h1, h2⟩ := run_mono n _ (by kernel_rfl) he h
      refine ⟨_, e2, _, iter_succ h1, ?_⟩
      have : mt x = false := by simp [mt, hz]
      simp only [hx, List.all_cons, this, Bool.false_and, Bool.false_eq_true, if_false]
      exact ⟨trivial, h2 2 _ (by kernel_rfl)⟩
    · simp only [decide_eq_false hz, show (false == false) = true from rfl, G_true, X_mov, k_pure, bv_gtr, k_lift, X_pick, Bool.false_eq_true, if_false, X_ixA 1 ⟨bb, 0, none⟩ 4 4 .i64 (j : Int) ⟨by omega, by omega⟩, X_load1, k_ld, St.saw_heap, hS, ldK_cells, Int.toNat_natCast, Nat.mul_one, Nat.zero_add, hcs, vK_some, X_bin] at h
      by_cases hgt : x > 1048576
      · simp only [decide_eq_true hgt, ifK_true, asBool_bool] at h
        obtain ⟨e2, h1, h2⟩ := run_mono n _ (by kernel_rfl) he h
        refine ⟨_, e2, _, iter_succ h1, ?_⟩
        have : mt x = false := by simp [mt, hgt]
        simp only [hx, List.all_cons, this, Bool.false_and, Bool.false_eq_true, if_false]
        exact ⟨trivial, h2 2 _ (by kernel_rfl)⟩
      · simp only [decide_eq_false hgt, ifK_false, asBool_bool, bv_add, k_lift, wrap64 (n := (j : Int) + 1) (by omega) (by omega)] at h
        obtain ⟨e2, h1, h2⟩ := run_mono n _ (by kernel_rfl) he h
        obtain ⟨x2, e3, S3, h3, h4⟩ := ih (j + 1) (by omega) m e2 ((S.saw bb).saw bb) hS (((Le.leaf _).of_set (h2 3 _ (by kernel_rfl))).of_set (h2 4 _ (by kernel_rfl)))
        refine ⟨x2, e3, S3, (iter_succ h1).trans h3, ?_⟩
        have hx0 : 0 ≤ x := hp x (List.mem_of_mem_drop (hx ▸ List.mem_cons_self ..))
        have : mt x = true := by simp [mt, hgt]; omega
        rw [hr] at h4
        simp only [hx, List.all_cons, this, Bool.true_and]
        exact h4
theorem w22' (m : Nat) (a b c d : Int) (hp : ∀ y ∈ [a, b, c, d], 0 ≤ y) (S : St) : ∃ S', callN T (m + 5 + 1) (.fn 22) [.agg ⟨[.int .u32 a, .int .u32 b, .int .u32 c, .int .u32 d]⟩] S = some (.bool ([a, b, c, d].all mt), S') := by
  rw [w22, v22]
  simp only [X_box, M.k_bind, k_nw, k_pure, X_fldA, X_load1, Nat.zero_add, Value.cells, k_ld, St.add_heap, St.saw_heap, if_true, ldK_cells, List.getElem?_cons_zero, List.getElem?_cons_succ, vK_some, X_bslice, k_lift_bind, fillA, Atom.ev, setAll, List.set_cons_zero, List.set_cons_succ,
    List.length_cons, List.length_nil, List.size_toArray, Nat.reduceAdd, Nat.reduceLeDiff, and_self, Option.map_some, k_lift, St.add_next, St.saw_next]
  generalize hS : ((((((S.add _).saw _).saw _).saw _).saw _).add _) = S1
  have hg : S1.heap.get (S.next + 1) = some (.cells none false [.int .u32 a, .int .u32 b, .int .u32 c, .int .u32 d]) := by rw [← hS]; simp
  obtain ⟨x, e', S2, h, hx⟩ := loop22 (callN T (m + 5)) (m + 5) a b c d hp (S.next + 1) 4 0 rfl m _ S1 hg (((Le.leaf _).of_set (by kernel_rfl)).of_set (by kernel_rfl))
  rw [k_some h]
  by_cases hall : [a, b, c, d].all mt = true
  · rw [if_pos (by exact hall)] at hx
    subst hx
    obtain ⟨e2, h1, h2⟩ := codeV_at (c := sR (sR (sR b22))) (by kernel_rfl) (Le.leaf e') ((run_codeV (C := callN T (m + 5)) (n := m + 5) (S := S2)).trans (e22 _ _ _ S2)) (endV [ARes.tmp 2] fun v S => some (v, S))
    exact ⟨S2, by rw [hall]; exact h1.trans (endV_one (h2 2 _ (by kernel_rfl)) (.inr rfl) S2)⟩
  · rw [if_neg (by exact hall)] at hx
    obtain ⟨rfl, hg⟩ := hx
    exact ⟨S2, by rw [Bool.eq_false_iff.2 hall]; exact endV_one hg (.inr rfl) S2⟩
def tk (a b c d s : Int) : Int := if s = 1 then a else if s = 2 then b else if s = 3 then c else if s = 4 then d else 0
theorem w24' (m : Nat) (a b c d s : Int) (S : St) : ∃ S', callN T (m + 1) (.fn 24) [.agg ⟨[.int .u32 a, .int .u32 b, .int .u32 c, .int .u32 d]⟩, .int .u8 s] S = some (.int .u32 (tk a b c d s), S') := by
  rw [w24, v24]
  simp only [X_box, M.k_bind, k_nw, k_pure, X_bin, bv_eql, k_lift, asBool_bool]
  by_cases h1 : s = 1
  · simp only [decide_eq_true h1, ifK_true, X_fldA, k_pure, X_load1, k_ld, St.add_heap, if_true, Value.cells, ldK_cells, Nat.zero_add, List.getElem?_cons_zero, List.getElem?_cons_succ, vK_some, tk, if_pos h1]; exact ⟨_, rfl⟩
  simp only [decide_eq_false h1, ifK_false]
  by_cases h2 : s = 2
  · simp only [decide_eq_true h2, ifK_true, X_fldA, k_pure, X_load1, k_ld, St.add_heap, if_true, Value.cells, ldK_cells, Nat.zero_add, List.getElem?_cons_zero, List.getElem?_cons_succ, vK_some, tk, if_neg h1, if_pos h2]; exact ⟨_, rfl⟩
  simp only [decide_eq_false h2, ifK_false]
  by_cases h3 : s = 3
  · simp only [decide_eq_true h3, ifK_true, X_fldA, k_pure, X_load1, k_ld, St.add_heap, if_true, Value.cells, ldK_cells, Nat.zero_add, List.getElem?_cons_zero, List.getElem?_cons_succ, vK_some, tk, if_neg h1, if_neg h2, if_pos h3]; exact ⟨_, rfl⟩
  simp only [decide_eq_false h3, ifK_false]
  by_cases h4 : s = 4
  · simp only [decide_eq_true h4, ifK_true, X_fldA, k_pure, X_load1, k_ld, St.add_heap, if_true, Value.cells, ldK_cells, Nat.zero_add, List.getElem?_cons_zero, List.getElem?_cons_succ, vK_some, tk, if_neg h1, if_neg h2, if_neg h3, if_pos h4]; exact ⟨_, rfl⟩
  simp only [decide_eq_false h4, ifK_false, tk, if_neg h1, if_neg h2, if_neg h3, if_neg h4]; exact ⟨_, rfl⟩
theorem w23' (m : Nat) (a b c d s : Int) (S : St) : ∃ S', callN T (m + 1 + 1) (.fn 23) [.agg ⟨[.int .u32 a, .int .u32 b, .int .u32 c, .int .u32 d]⟩, .int .u8 s] S = some (.int .u32 (tk a b c d s), S') := by
  rw [w23, v23]
  simp only [X_box, M.k_bind, k_nw, k_pure, X_call 18 [.const (.int .u8 s)] [.int .u8 s] rfl, k_some (w18' m s _), X_un, uv_not, k_lift, asBool_bool]
  by_cases h : (decide (s ≥ 1) && decide (s ≤ 4)) = true
  · have hs : 1 ≤ s ∧ s ≤ 4 := by simpa using h
    simp only [h, Bool.not_true, ifK_false, X_fldA, k_pure, X_load1, k_ld, St.add_heap, St.saw_heap, if_true, Value.cells, ldK_cells, Nat.zero_add, List.getElem?_cons_zero, List.getElem?_cons_succ, vK_some, X_build, fillA, Atom.ev, setAll, List.set_cons_zero, List.set_cons_succ,
      List.length_cons, List.length_nil, List.size_toArray, Nat.reduceAdd, Nat.reduceLeDiff, and_self, Option.map_some, k_lift, X_ix 5 1 .one _ .u8 s ⟨by omega, by omega⟩, partOf, Nat.mul_one]
    obtain rfl | rfl | rfl | rfl : s = 1 ∨ s = 2 ∨ s = 3 ∨ s = 4 := by omega
    · exact ⟨_, rfl⟩
    · exact ⟨_, rfl⟩
    · exact ⟨_, rfl⟩
    · exact ⟨_, rfl⟩
  · have hs : ¬ (1 ≤ s ∧ s ≤ 4) := by simpa using h
    simp only [Bool.eq_false_iff.2 h, Bool.not_false, ifK_true]
    have : tk a b c d s = 0 := by
      unfold tk
      rw [if_neg (by omega), if_neg (by omega), if_neg (by omega), if_neg (by omega)]
    rw [this]
    exact ⟨_, rfl⟩

def ints : Nat → List Int
  | 0 => []
  | n + 1 => (n : Int) :: ints n
theorem mem_ints : ∀ (n : Nat) (a : Int), 0 ≤ a → a < n → a ∈ ints n
  | 0, a, h0, h1 => by omega
  | n + 1, a, h0, h1 => by
    by_cases h : a = n
    · subst h; exact List.mem_cons_self ..
    · exact List.mem_cons_of_mem _ (mem_ints n a h0 (by omega))
def alike2 (v w : Value) : Bool := match v, w with
  | .tuple ⟨[.int .u8 a, .bool b]⟩, .tuple ⟨[.int .u8 c, .bool d]⟩ => decide (a = c) && (b == d)
  | _, _ => false
def alike3 (v w : Value) : Bool := match v, w with
  | .tuple ⟨[.int .u8 a, .int .u8 b, .int .i64 x]⟩, .tuple ⟨[.int .u8 c, .int .u8 d, .int .i64 y]⟩ => decide (a = c) && decide (b = d) && decide (x = y)
  | _, _ => false
noncomputable def both (f g : Nat) (ok : Value → Value → Bool) (args : List Value) : Bool := Q.callQ T 60 (.fn f) args (Q.startQ 0) fun v _ => Q.callQ T 60 (.fn g) args (Q.startQ 0) fun w _ => ok v w
theorem both_ok {f g : Nat} {ok : Value → Value → Bool} {args : List Value} (h : both f g ok args = true) : ∃ v w S S', callN T 60 (.fn f) args (names 0) = some (v, S) ∧ callN T 60 (.fn g) args (names 0) = some (w, S') ∧ ok v w = true := by
  have hr : Q.SRel (Q.startQ 0) (names 0) := ⟨fun b o h => by simp [Q.startQ, Tr.get_leaf] at h, rfl, rfl⟩
  obtain ⟨v, S', q', h1, h2, h3⟩ := Q.callQ_ok T 60 (.fn f) args _ _ hr _ h
  obtain ⟨w, S2, q2, k1, k2, k3⟩ := Q.callQ_ok T 60 (.fn g) args _ _ hr _ h3
  exact ⟨v, w, S', S2, h1, k1, k3⟩
theorem enumF : ((ints 256).all fun f => both 16 19 alike2 [.int .u8 6, .int .u8 f]) = true := by kernel_rfl
theorem enumN : (([2, 3, 4] : List Int).all fun s => (ints 256).all fun f => both 17 20 alike3 [.int .u8 s, .int .u8 f]) = true := by kernel_rfl

end Go.Proofs.Ytmepokefmpcnnaa.FtText
