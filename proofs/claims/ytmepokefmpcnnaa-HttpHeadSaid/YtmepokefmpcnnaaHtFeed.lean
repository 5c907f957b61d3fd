/- What layer 41's reader does at many bytes. -/
import Derived.Test.YtmepokefmpcnnaaHtSpec
set_option maxRecDepth 100000
set_option linter.unusedVariables false
set_option linter.unusedSimpArgs false
namespace Go.Proofs.Ytmepokefmpcnnaa.Ht
open Go.Wb
theorem s94 {n : Nat} {S : Hp} {p : Nat} {x : Option Nat} {s : Bool} {r : R} {Φ : Value → Hp → Prop} (h : S.heap.get p = some (.cells x s (rv r))) (ks : Φ (.bool false) S) : wp (callN T (n + 1) (.fn 94) [ptr p]) Φ S := by
  refine c94 g94 ?_
  unfold P94
  unfold rv at h
  simp (disch := first | omega | (simp only [Hp.add_next, Hp.put_next]; done) | (simp only [Hp.add_next, Hp.put_next]; omega) | fail) only [↓P_fldA, ↓P_nil, ↓P_load1, ↓P_andQ, orQ_p, ↓P_eqptr1, ↓P_eqfn1, rdP_cells, optP_some, List.getElem?_cons_zero, Nat.add_zero, Bool.or_self, h]
  exact ks
def feed : R → List Int → Option (R × Nat)
  | r, [] => some (r, 0)
  | r, c :: cs => if r.o = true then some (r, 0) else if 2048 ≤ r.u ∨ 5000 < r.l ∨ 100000 < r.s ∨ 5000 < r.a then none else match stR { r with u := r.u + 1 } c with
    | none => none
    | some r' => match feed r' cs with
      | none => none
      | some x => some (x.1, x.2 + 1)
/-- bytes that may be read one by one -/
structure El (p : Nat) (S : Hp) (v : Value) (cs : List Int) : Prop where
  len : ∀ (C : Tgt → List Value → M Value) (Φ : Value → Hp → Prop) (S' : Hp), wp (X C (.len .slice (.const v))) Φ S' = Φ (.int .i64 cs.length) S'
  el : ∀ (C : Tgt → List Value → M Value) (i : Nat) (c : Int) (S' : Hp), cs[i]? = some c → (∀ b, b < S.next → b ≠ p → S'.heap.get b = S.heap.get b) → ∀ Φ : Value → Hp → Prop, wp (X C (.ixA 1 (.const v) (.const (.int .i64 i)))) (fun t S => wp (X C (.load .one (.const t))) Φ S) S' = Φ (.int .u8 c) S'
/-- Feed -/
theorem s45 {n : Nat} {S : Hp} {p : Nat} {x : Option Nat} {s : Bool} {r r' : R} {k : Nat} {v : Value} {cs : List Int} {Φ : Value → Hp → Prop} (hn : cs.length < n) (h : S.heap.get p = some (.cells x s (rv r))) (hE : El p S v cs) (hf : feed r cs = some (r', k)) (hlen : cs.length ≤ 100000)
    (ks : ∀ S', Fra [p] S S' → S'.heap.get p = some (.cells x s (rv r')) → Φ (.tuple ⟨[.int .i64 k, .bool r'.o]⟩) S') : wp (callN T (n + 1 + 1 + 1 + 1 + 1) (.fn 45) [ptr p, v]) Φ S := by
  refine c45 g45 ?_
  unfold P45
  have hl := hE.len
  simp (disch := first | omega | (simp only [Hp.add_next, Hp.put_next]; done) | (simp only [Hp.add_next, Hp.put_next]; omega) | fail) only [↓P_callF1, List.nil_append, List.append_nil]
  refine s94 h ?_
  simp (disch := first | omega | (simp only [Hp.add_next, Hp.put_next]; done) | (simp only [Hp.add_next, Hp.put_next]; omega) | fail) only [ifP_bool, ifB_false, hl]
  refine jn_intro fun J hJ => ?_
  have fin : ∀ S', Fra [p] S S' → S'.heap.get p = some (.cells x s (rv r')) → J (ptr p) (.int .i64 k) S' := by
    intro S' hF h'
    subst hJ
    have h2 := h'
    unfold rv at h2
    simp (disch := first | omega | (simp only [Hp.add_next, Hp.put_next]; done) | (simp only [Hp.add_next, Hp.put_next]; omega) | fail) only [↓P_fldA, ↓P_nil, ↓P_load1, rdP_cells, optP_some, List.getElem?_cons_zero, List.getElem?_cons_succ, Nat.zero_add, h2]
    exact ks S' hF h'
  clear hJ
  refine ⟨fun m t0 t4 t5 t10 t11 t12 S' => ∃ (i k2 : Nat) (r1 : R), t0 = ptr p ∧ t4 = .int .i64 i ∧ t10 = v ∧ t11 = .int .i64 cs.length ∧ t12 = .int .i64 i ∧ i ≤ cs.length ∧ m = cs.length - i ∧ feed r1 (cs.drop i) = some (r', k2) ∧ k = i + k2 ∧ Fra [p] S S' ∧ S'.heap.get p = some (.cells x s (rv r1)), ⟨cs.length, by omega, 0, k, r, rfl, rfl, rfl, rfl, rfl, Nat.zero_le _, rfl, hf, by omega, Fra.refl _ _, h⟩, ?_⟩
  rintro m S1 t0 t4 t5 t10 t11 t12 ⟨i, k2, r1, rfl, rfl, rfl, rfl, rfl, hi, rfl, hf1, hk, hF, h1⟩
  rw [P_lss, ifP_bool]
  refine ifD_in (fun hlt => ?_) (fun hge => ?_)
  rotate_left
  · have : cs.drop i = [] := List.drop_eq_nil_of_le (by omega)
    rw [this] at hf1
    cases hf1
    rw [show i = k by omega]
    exact fin S1 hF h1
  obtain ⟨c, hc⟩ : ∃ c, cs[i]? = some c := ⟨_, List.getElem?_eq_getElem (by omega)⟩
  rw [hE.el _ i c S1 hc fun b hb hbp => hF.heap b hb (by simpa using hbp)]
  have hd : cs.drop i = c :: cs.drop (i + 1) := by
    rw [List.drop_eq_getElem_cons (by omega)]
    congr 1
    have := List.getElem?_eq_some_iff.1 hc
    exact this.2
  rw [hd] at hf1
  unfold feed at hf1
  have h2 := h1
  unfold rv at h2
  by_cases ho : r1.o = true
  · rw [if_pos ho] at hf1
    cases hf1
    simp (disch := first | omega | (simp only [Hp.add_next, Hp.put_next]; done) | (simp only [Hp.add_next, Hp.put_next]; omega) | fail) only [↓P_fldA, ↓P_nil, ↓P_load1, ↓P_store, ifP_bool, ifB_true, ↓P_add64, blkP_cells, rdP_cells, optP_some, condP_of, put_at, List.getElem?_cons_zero, List.getElem?_cons_succ, List.length_cons, List.length_nil, Nat.zero_add, Nat.add_zero, Nat.reduceAdd, and_true, true_and, List.size_toArray, List.all_cons, List.all_nil, one_int, one_bool, cells_int, cells_bool, Bool.and_self, h2, ho]
    rw [show i = k by omega]
    exact fin S1 hF h1
  · rw [if_neg ho] at hf1
    have ho : r1.o = false := by simpa using ho
    split at hf1
    · cases hf1
    · rename_i hb
      split at hf1
      · cases hf1
      · rename_i r2 hr2
        have e1 : decide ((r1.u : Int) + 1 > 2048) = false := decide_eq_false (by omega)
        simp (disch := first | omega | (simp only [Hp.add_next, Hp.put_next]; done) | (simp only [Hp.add_next, Hp.put_next]; omega) | fail) only [↓P_fldA, ↓P_nil, ↓P_load1, ↓P_store, ifP_bool, ifB_false, ↓P_gtr, ↓P_add64, ↓P_callF1, blkP_cells, rdP_cells, optP_some, condP_of, put_at, List.getElem?_cons_zero, List.getElem?_cons_succ, List.length_cons, List.length_nil, Nat.zero_add, Nat.add_zero, Nat.reduceAdd, Nat.reduceLeDiff, and_self, and_true, true_and, List.size_toArray, splice_z, splice_2, overlay_n, overlay_c, List.all_cons, List.all_nil, one_int, one_bool, cells_int, cells_bool, Bool.and_self, List.nil_append, List.append_nil, h2, ho, e1]
        refine step (n := n) (r := { r1 with u := r1.u + 1 }) (x := x) (s := s) (by rw [put_at]; simp [rv, ho]) (by show r1.l ≤ 5000; omega) (by show r1.s ≤ 100000; omega) (by show r1.a ≤ 5000; omega) hr2 fun S3 hF3 h3 => ?_
        simp (disch := first | omega | (simp only [Hp.add_next, Hp.put_next]; done) | (simp only [Hp.add_next, Hp.put_next]; omega) | fail) only [↓P_not, ifP_bool, ifB_false, Bool.not_true]
        have hF3 : Fra [p] S S3 := (hF.put (.inr (by simp)) _).trans' hF3
        cases hx : feed r2 (cs.drop (i + 1)) with
        | none => rw [hx] at hf1; cases hf1
        | some y =>
          rw [hx] at hf1
          obtain ⟨y1, y2⟩ := y
          cases hf1
          exact ⟨cs.length - (i + 1), by omega, i + 1, y2, r2, by simp, by simp, by omega, rfl, hx, by omega, hF3, h3⟩
/-- New -/
def r0 : R := ⟨93, 0, 0, 0, 0, false, 0⟩
theorem s44 {n : Nat} {S : Hp} {Φ : Value → Hp → Prop} (ks : ∀ S', Fra [] S S' → S'.next = S.next + 1 → S'.heap.get S.next = some (.cells none false (rv r0)) → Φ (ptr S.next) S') : wp (callN T (n + 1) (.fn 44) []) Φ S := by
  refine c44 g44 ?_
  unfold P44
  simp (disch := first | omega | (simp only [Hp.add_next, Hp.put_next]; done) | (simp only [Hp.add_next, Hp.put_next]; omega) | fail) only [↓P_box, ↓P_build, optP_some, List.length_cons, List.length_nil, Nat.zero_add, Nat.reduceAdd, Nat.reduceLeDiff, and_self, if_true, fillA, Atom.ev, setAll, List.set_cons_zero, List.size_toArray, cells_agg, cells_fn]
  exact ks _ (by repeat' (first | exact Fra.refl _ _ | assumption | apply Fra.add | (refine Fra.put ?_ ?_ _) | exact Or.inl (by (first | omega | (simp only [Hp.add_next, Hp.put_next]; done) | (simp only [Hp.add_next, Hp.put_next]; omega))) | exact Or.inr (by simp))) rfl (add_at _ _)
/-- Status -/
theorem s46 {n : Nat} {S : Hp} {p : Nat} {x : Option Nat} {s : Bool} {r : R} {Φ : Value → Hp → Prop} (h : S.heap.get p = some (.cells x s (rv r))) (he : r.e = 0)
    (ks : Φ (.tuple ⟨[.int .i64 (if r.o then r.s else 0), .int .i64 (if r.o then 0 else 13)]⟩) S) : wp (callN T (n + 1 + 1) (.fn 46) [ptr p]) Φ S := by
  refine c46 g46 ?_
  unfold P46
  simp (disch := first | omega | (simp only [Hp.add_next, Hp.put_next]; done) | (simp only [Hp.add_next, Hp.put_next]; omega) | fail) only [↓P_fldA, ↓P_nil, ↓P_load1, ↓P_callF1, Nat.zero_add, List.nil_append, List.append_nil]
  refine s94 h ?_
  unfold rv at h
  have e0 : decide (r.e = 0) = true := decide_eq_true he
  cases ho : r.o with
  | true =>
    rw [ho] at h ks
    simp (disch := first | omega | (simp only [Hp.add_next, Hp.put_next]; done) | (simp only [Hp.add_next, Hp.put_next]; omega) | fail) only [↓P_not, ifP_bool, ifB_false, ↓P_neq, rdP_cells, optP_some, List.getElem?_cons_zero, List.getElem?_cons_succ, Bool.not_true, h, e0]
    exact ks
  | false =>
    rw [ho] at h ks
    simp (disch := first | omega | (simp only [Hp.add_next, Hp.put_next]; done) | (simp only [Hp.add_next, Hp.put_next]; omega) | fail) only [↓P_not, ifP_bool, ifB_true, ifB_false, rdP_cells, optP_some, List.getElem?_cons_zero, List.getElem?_cons_succ, Bool.not_false, h]
    exact ks
/-- Lines -/
theorem s47 {n : Nat} {S : Hp} {p : Nat} {x : Option Nat} {s : Bool} {r : R} {Φ : Value → Hp → Prop} (h : S.heap.get p = some (.cells x s (rv r)))
    (ks : Φ (.int .i64 r.l) S) : wp (callN T (n + 1 + 1) (.fn 47) [ptr p]) Φ S := by
  refine c47 g47 ?_
  unfold P47
  simp (disch := first | omega | (simp only [Hp.add_next, Hp.put_next]; done) | (simp only [Hp.add_next, Hp.put_next]; omega) | fail) only [↓P_fldA, ↓P_nil, ↓P_load1, ↓P_callF1, Nat.zero_add, List.nil_append, List.append_nil]
  refine s94 h ?_
  unfold rv at h
  simp (disch := first | omega | (simp only [Hp.add_next, Hp.put_next]; done) | (simp only [Hp.add_next, Hp.put_next]; omega) | fail) only [ifP_bool, ifB_false, rdP_cells, optP_some, List.getElem?_cons_zero, List.getElem?_cons_succ, h]
  exact ks
end Go.Proofs.Ytmepokefmpcnnaa.Ht
