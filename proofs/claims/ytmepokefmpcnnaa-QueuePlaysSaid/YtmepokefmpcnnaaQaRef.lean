/- What the document's queue of layer 27 brings. -/
import Derived.Test.YtmepokefmpcnnaaQaSpec2
import Derived.Test.YtmepokefmpcnnaaEngX
set_option maxRecDepth 100000
set_option linter.unusedVariables false
set_option linter.unusedSimpArgs false
namespace Go.Proofs.Ytmepokefmpcnnaa.Qu
open Go.Wb
variable {A : Nat}
/-- a slice of items, in block lb -/
def ItL (A : Nat) (S : Hp) (w lb : Nat) (Lv : Value) (its : List It) : Prop := (Lv = .slice none 0 0 ∧ its = []) ∨
  ∃ o c x s cells, Lv = .slice (some ⟨lb, o, none⟩) its.length c ∧ lb ≠ w ∧ its.length ≤ c ∧ (x = none ∨ x = some 3) ∧ S.heap.get lb = some (.cells x s cells) ∧ o + 3 * its.length ≤ cells.length ∧ (cells.all (·.oneCell') = true) ∧
    ∀ (j : Nat) (i : It), its[j]? = some i → ∃ v, (cells.drop (o + 3 * j)).take 3 = [v, .int .u64 i.a, .int .u64 i.w] ∧ Bs A S v i.l
/-- the document's queue -/
structure RR (A : Nat) (S : Hp) (w lb : Nat) (d : Int) (its : List It) : Prop where
  wb : ∃ Lv, S.heap.get w = some (.cells none false [Lv, .int .i64 d]) ∧ ItL A S w lb Lv its
  w1 : w < S.next
  l1 : lb < S.next
  a1 : A < S.next
theorem ItL.len {S : Hp} {w lb : Nat} {Lv : Value} {its : List It} (h : ItL A S w lb Lv its) (C : Tgt → List Value → M Value) (Φ : Value → Hp → Prop) (S' : Hp) : wp (X C (.len .slice (.const Lv))) Φ S' = Φ (.int .i64 its.length) S' := by
  rcases h with ⟨rfl, h⟩ | ⟨o, c, x, s, cells, rfl, h⟩
  · rw [P_lenS, h]; rfl
  · rw [P_lenS]
theorem ItL.one {S : Hp} {w lb : Nat} {Lv : Value} {its : List It} (h : ItL A S w lb Lv its) : Lv.oneCell' = true := by
  rcases h with ⟨rfl, h⟩ | ⟨o, c, x, s, cells, rfl, h⟩ <;> rfl
theorem ItL.cells {S : Hp} {w lb : Nat} {Lv : Value} {its : List It} (h : ItL A S w lb Lv its) : Lv.cells = ⟨[Lv]⟩ := by
  rcases h with ⟨rfl, h⟩ | ⟨o, c, x, s, cells, rfl, h⟩ <;> rfl
theorem ItL.keep {S S' : Hp} {w lb : Nat} {Lv : Value} {its : List It} (h : ItL A S w lb Lv its) (hn : S.next ≤ S'.next) (kl : S'.heap.get lb = S.heap.get lb) (kb : ∀ b x s l, Byt l → b < S.next → S.heap.get b = some (.cells x s l) → S'.heap.get b = S.heap.get b) : ItL A S' w lb Lv its := by
  rcases h with h | ⟨o, c, x, s, cells, h1, h0, h2, h3, h4, h5, h6, h7⟩
  · exact .inl h
  · refine .inr ⟨o, c, x, s, cells, h1, h0, h2, h3, by rw [kl]; exact h4, h5, h6, fun j i hj => ?_⟩
    obtain ⟨v, k1, k2⟩ := h7 j i hj
    exact ⟨v, k1, k2.keep hn fun b x s hb hs => kb b x s i.l k2.1 hb hs⟩
theorem RR.keep {S S' : Hp} {w lb : Nat} {d : Int} {its : List It} (h : RR A S w lb d its) (hn : S.next ≤ S'.next) (kw : S'.heap.get w = S.heap.get w) (kl : S'.heap.get lb = S.heap.get lb) (kb : ∀ b x s l, Byt l → b < S.next → S.heap.get b = some (.cells x s l) → S'.heap.get b = S.heap.get b) : RR A S' w lb d its := by
  obtain ⟨⟨Lv, h1, h2⟩, h3, h4, h5⟩ := h
  exact ⟨⟨Lv, by rw [kw]; exact h1, h2.keep hn kl kb⟩, by omega, by omega, by omega⟩
theorem RR.fra {S S' : Hp} {w lb : Nat} {d : Int} {its : List It} (h : RR A S w lb d its) (k : Fra [] S S') : RR A S' w lb d its :=
  h.keep k.next (k.heap w h.w1 (by simp)) (k.heap lb h.l1 (by simp)) fun b x s l _ hb _ => k.heap b hb (by simp)
theorem Byt.not_w {S : Hp} {w b : Nat} {d : Int} {Lv : Value} {lb : Nat} {its : List It} (hw : S.heap.get w = some (.cells none false [Lv, .int .i64 d])) (hL : ItL A S w lb Lv its) {x : Option Nat} {s : Bool} {l : List Value} (hb : S.heap.get b = some (.cells x s l)) (hl : Byt l) : b ≠ w := by
  intro e
  subst e
  rw [hw] at hb
  cases hb
  obtain ⟨n, h⟩ := hl _ (List.mem_cons_self ..)
  rcases hL with ⟨rfl, _⟩ | ⟨o, c, x, s, cells, rfl, _⟩ <;> cases h
theorem Byt.not_sl {S : Hp} {b c : Nat} {po : Option Addr} {n k : Nat} {rest l : List Value} {x x' : Option Nat} {s s' : Bool} (h1 : S.heap.get c = some (.cells x s (.slice po n k :: rest))) (h2 : S.heap.get b = some (.cells x' s' l)) (hl : Byt l) : b ≠ c := by
  intro e
  subst e
  rw [h1] at h2
  cases h2
  obtain ⟨n, h⟩ := hl _ (List.mem_cons_self ..)
  cases h
theorem Byt.not_w2 {S S0 : Hp} {w b : Nat} {d : Int} {Lv : Value} {lb w0 : Nat} {its : List It} (hw : S.heap.get w = some (.cells none false [Lv, .int .i64 d])) (hL : ItL A S0 w0 lb Lv its) {x : Option Nat} {s : Bool} {l : List Value} (hb : S.heap.get b = some (.cells x s l)) (hl : Byt l) : b ≠ w := by
  intro e
  subst e
  rw [hw] at hb
  cases hb
  obtain ⟨n, h⟩ := hl _ (List.mem_cons_self ..)
  rcases hL with ⟨rfl, _⟩ | ⟨o, c, x, s, cells, rfl, _⟩ <;> cases h
theorem Byt.not_l {S : Hp} {v : Value} {l0 l cells : List Value} {a b : Int} {o : Nat} (h : (cells.drop o).take 3 = [v, .int .u64 a, .int .u64 b]) (hv : Bs A S v l0) (hl : Byt l) : l ≠ cells := by
  intro e
  subst e
  have hm : v ∈ l := List.mem_of_mem_drop (List.mem_of_mem_take (h ▸ List.mem_cons_self ..))
  obtain ⟨n, hn⟩ := hl v hm
  rcases hv.2 with ⟨rfl, _⟩ | ⟨b, x, s, rfl, _⟩ <;> cases hn
/-- may a depth be? -/
theorem s30 {n : Nat} {S : Hp} (i : Int) : wp (callN T (n + 1) (.fn 30) [.int .i64 i]) (fun v S' => S' = S ∧ v = .bool (decide (i > 0) && decide (i < 257))) S := by
  refine c30 g30 ?_
  unfold P30
  simp (disch := first | omega | (simp only [Hp.add_next, Hp.put_next]; done) | (simp only [Hp.add_next, Hp.put_next]; omega) | fail) only [↓P_andQ, andQ_p, ↓P_lss, ↓P_gtr, and_self]
/-- Copy -/
theorem s37 {n : Nat} {S : Hp} {w lb : Nat} {d : Int} {its : List It} {Φ : Value → Hp → Prop} (h : RR A S w lb d its)
    (ks : ∀ S', Fra [] S S' → S'.next = S.next + 1 → RR A S' S.next lb d its → Φ (ptr S.next) S') : wp (callN T (n + 1) (.fn 37) [ptr w]) Φ S := by
  refine c37 g37 ?_
  unfold P37
  obtain ⟨⟨Lv, hw, hL⟩, hw1, hl1⟩ := id h
  simp (disch := first | omega | (simp only [Hp.add_next, Hp.put_next]; done) | (simp only [Hp.add_next, Hp.put_next]; omega) | fail) only [↓P_fldA, ↓P_nil, ↓P_box, ↓P_build, ↓P_load1, rdP_cells, optP_some, List.getElem?_cons_zero, List.getElem?_cons_succ, List.length_cons, List.length_nil, Nat.zero_add, Nat.add_zero, Nat.reduceAdd, Nat.reduceLeDiff, and_true, true_and, if_true, fillA, Atom.ev, setAll, List.set_cons_zero, List.set_cons_succ, List.size_toArray, cells_agg, cells_int, hw, hL.cells]
  refine okP_in apart_nil ?_
  have hF : Fra [] S (S.add (.cells none false [Lv, .int .i64 d])) := by repeat' (first | exact Fra.refl _ _ | assumption | apply Fra.add | (refine Fra.put ?_ ?_ _) | exact Or.inl (by (first | omega | (simp only [Hp.add_next, Hp.put_next]; done) | (simp only [Hp.add_next, Hp.put_next]; omega))) | exact Or.inr (by simp))
  have hR := h.fra hF
  refine ks _ hF rfl ⟨⟨Lv, add_at _ _, ?_⟩, by (first | omega | (simp only [Hp.add_next, Hp.put_next]; done) | (simp only [Hp.add_next, Hp.put_next]; omega)), by (first | omega | (simp only [Hp.add_next, Hp.put_next]; done) | (simp only [Hp.add_next, Hp.put_next]; omega)), by have := h.a1; (first | omega | (simp only [Hp.add_next, Hp.put_next]; done) | (simp only [Hp.add_next, Hp.put_next]; omega))⟩
  have hK := hL.keep hF.next (hF.heap _ hl1 (by simp)) fun b x s l _ hb _ => hF.heap b hb (by simp)
  rcases hK with hK | ⟨o, c, x, s, cells, h1, h0, h2⟩
  · exact .inl hK
  · exact .inr ⟨o, c, x, s, cells, h1, by omega, h2⟩
/-- Head -/
theorem s90 {n : Nat} {S : Hp} {w lb : Nat} {d : Int} {its : List It} {Φ : Value → Hp → Prop} (h : RR A S w lb d its)
    (kn : its = [] → ∀ S', Fra [] S S' → Φ (.tuple ⟨[.agg ⟨[.slice none 0 0, .int .u64 0, .int .u64 0]⟩, .bool false]⟩) S')
    (ks : ∀ i r u S', its = i :: r → Fra [] S S' → Bs A S' u i.l → Φ (.tuple ⟨[itv u i, .bool true]⟩) S') : wp (callN T (n + 1) (.fn 90) [ptr w]) Φ S := by
  refine c90 g90 ?_
  unfold P90
  obtain ⟨⟨Lv, hw, hL⟩, hw1, hl1⟩ := id h
  simp (disch := first | omega | (simp only [Hp.add_next, Hp.put_next]; done) | (simp only [Hp.add_next, Hp.put_next]; omega) | fail) only [↓P_fldA, ↓P_nil, ↓P_alloc, ↓P_build, ↓P_load1, ↓P_cellN, ↓P_store, ifP_bool, ↓P_eql, rdP_cells, optP_some, condP_of, put_at, add_off, List.getElem?_cons_zero, List.length_cons, List.length_nil, Nat.zero_add, Nat.add_zero, Nat.reduceAdd, List.drop_zero, and_true, fillA, List.size_toArray, splice_z, List.all_cons, List.all_nil, one_int, one_sl, cells_agg, Bool.and_self, hw, hL.len]
  refine ifD_in (fun he => ?_) (fun he => ?_)
  · simp (disch := first | omega | (simp only [Hp.add_next, Hp.put_next]; done) | (simp only [Hp.add_next, Hp.put_next]; omega) | fail) only [blkP_cells, condP_of, add_eq, List.length_cons, List.length_nil, Nat.zero_add, Nat.reduceAdd, Nat.reduceLeDiff, List.take_succ_cons, List.take_zero, overlay_n, overlay_c]
    exact kn (List.length_eq_zero_iff.1 (by omega)) _ (by repeat' (first | exact Fra.refl _ _ | assumption | apply Fra.add | (refine Fra.put ?_ ?_ _) | exact Or.inl (by (first | omega | (simp only [Hp.add_next, Hp.put_next]; done) | (simp only [Hp.add_next, Hp.put_next]; omega))) | exact Or.inr (by simp)))
  · rcases hL with ⟨_, hnil⟩ | ⟨o, c, x, s, cells, rfl, hlw', h2, h3, h4, h5, h6, h7⟩
    · rw [hnil] at he; simp at he
    · obtain ⟨i, r, rfl⟩ : ∃ i r, its = i :: r := by
        cases its with
        | nil => simp at he
        | cons i r => exact ⟨i, r, rfl⟩
      obtain ⟨v, k1, k2⟩ := h7 0 i rfl
      rw [Nat.mul_zero, Nat.add_zero] at k1
      have hlen : o + 3 ≤ cells.length := by simp at h5; omega
      have hpos : (0 : Int) ≤ 0 ∧ (0 : Int) < ((i :: r).length : Nat) := by simp
      have hv1 := k2.one
      simp (disch := first | omega | (simp only [Hp.add_next, Hp.put_next]; done) | (simp only [Hp.add_next, Hp.put_next]; omega) | fail) only [↓P_loadN, ↓P_ixA, blkP_cells, rdP_cells, optP_some, condP_of, add_eq, add_off, List.getElem?_cons_zero, List.length_cons, List.length_nil, Nat.zero_add, Nat.add_zero, Nat.reduceAdd, Nat.reduceLeDiff, Nat.reduceMul, List.take_succ_cons, List.take_zero, and_self, true_and, List.size_toArray, overlay_n, overlay_c, List.all_cons, List.all_nil, one_int, cells_agg, Bool.and_self, Int.reduceToNat, hw, h4, k1, hpos, hv1]
      refine ks i r v _ rfl (by repeat' (first | exact Fra.refl _ _ | assumption | apply Fra.add | (refine Fra.put ?_ ?_ _) | exact Or.inl (by (first | omega | (simp only [Hp.add_next, Hp.put_next]; done) | (simp only [Hp.add_next, Hp.put_next]; omega))) | exact Or.inr (by simp))) (k2.keep (by (first | omega | (simp only [Hp.add_next, Hp.put_next]; done) | (simp only [Hp.add_next, Hp.put_next]; omega))) fun b x s hb hs => ?_)
      have : b ≠ S.next := by omega
      simp (disch := first | omega | (simp only [Hp.add_next, Hp.put_next]; done) | (simp only [Hp.add_next, Hp.put_next]; omega) | fail) only [put_off, add_off]
/-- Pop -/
theorem s32 {n : Nat} {S : Hp} {w lb : Nat} {d : Int} {its : List It} {Φ : Value → Hp → Prop} (h : RR A S w lb d its)
    (kn : its = [] → ∀ S', Fra [] S S' → Φ (.tuple ⟨[.agg ⟨[.slice none 0 0, .int .u64 0, .int .u64 0]⟩, .bool false]⟩) S')
    (ks : ∀ i r u S', its = i :: r → Fra [w] S S' → Bs A S' u i.l → RR A S' w lb d r → Φ (.tuple ⟨[itv u i, .bool true]⟩) S') : wp (callN T (n + 1 + 1) (.fn 32) [ptr w]) Φ S := by
  refine c32 g32 ?_
  unfold P32
  have hF0 : Fra [] S (S.add (.cells none false [.slice none 0 0, .int .u64 0, .int .u64 0])) := by repeat' (first | exact Fra.refl _ _ | assumption | apply Fra.add | (refine Fra.put ?_ ?_ _) | exact Or.inl (by (first | omega | (simp only [Hp.add_next, Hp.put_next]; done) | (simp only [Hp.add_next, Hp.put_next]; omega))) | exact Or.inr (by simp))
  have hR0 := h.fra hF0
  have g0 : (S.add (.cells none false [.slice none 0 0, .int .u64 0, .int .u64 0])).heap.get S.next = some (.cells none false [.slice none 0 0, .int .u64 0, .int .u64 0]) := add_at _ _
  have hnx : (S.add (.cells none false [.slice none 0 0, .int .u64 0, .int .u64 0])).next = S.next + 1 := rfl
  have hw1 := h.w1
  have hl1 := h.l1
  simp (disch := first | omega | (simp only [Hp.add_next, Hp.put_next]; done) | (simp only [Hp.add_next, Hp.put_next]; omega) | fail) only [↓P_fldA, ↓P_nil, ↓P_alloc, ↓P_load1, ↓P_loadN, ↓P_cellN, ↓P_store, ↓P_callF1, blkP_cells, rdP_cells, put_at, put_off, add_eq, List.length_cons, List.length_nil, Nat.zero_add, Nat.add_zero, Nat.reduceAdd, List.drop_zero, List.size_toArray, splice_z, cells_agg, List.nil_append, List.append_nil]
  generalize S.add (.cells none false [.slice none 0 0, .int .u64 0, .int .u64 0]) = S0 at hF0 hR0 g0 hnx ⊢
  refine s90 hR0 (fun hnil S1 hF1 => ?_) (fun i r u S1 hi hF1 hu => ?_)
  · have g1 := hF1.at_ (by omega) (by simp) g0
    have hn1 := hF1.next
    simp (disch := first | omega | (simp only [Hp.add_next, Hp.put_next]; done) | (simp only [Hp.add_next, Hp.put_next]; omega) | fail) only [↓P_ext, ifP_bool, ifB_false, blkP_cells, rdP_cells, optP_some, condP_of, put_at, put_off, add_off, List.getElem?_cons_zero, List.getElem?_cons_succ, List.length_cons, List.length_nil, Nat.zero_add, Nat.reduceAdd, Nat.reduceLeDiff, List.take_succ_cons, List.take_zero, and_self, List.size_toArray, overlay_n, overlay_c, List.all_cons, List.all_nil, one_int, one_sl, cells_agg, Bool.and_self, g1]
    exact kn hnil _ ((((hF0.trans hF1 (W := []) (by simp) (by simp)).add _).put (.inl (by omega)) _).put (.inl (by omega)) _)
  · have g1 := hF1.at_ (by omega) (by simp) g0
    have hn1 := hF1.next
    have hR1 := hR0.fra hF1
    have hu1 := hu.one
    obtain ⟨⟨Lv, hw, hL⟩, _, _⟩ := id hR1
    have hlen : its.length = r.length + 1 := by rw [hi]; rfl
    rcases hL with ⟨_, hnil⟩ | ⟨o, c, x, s, cells, rfl, hlw', h2, h3, h4, h5, h6, h7⟩
    · rw [hnil] at hi; cases hi
    · have hbn : (0 : Int) ≤ 1 ∧ (1 : Int) ≤ (its.length : Nat) := ⟨by omega, by omega⟩
      have hcut : ∀ f : Prop, cutP 3 (some (.cells x s cells)) f = f := by
        intro f; rcases h3 with rfl | rfl
        · exact cutP_none 3 s cells f
        · exact cutP_some 3 s cells f
      have hsl : slcR 3 lb o 0 1 its.length c = .slice (some ⟨lb, if c = 1 then o else o + 3, none⟩) r.length (c - 1) := by
        unfold slcR
        rw [hlen]
        split <;> rfl
      unfold itv
      simp (disch := first | omega | (simp only [Hp.add_next, Hp.put_next]; done) | (simp only [Hp.add_next, Hp.put_next]; omega) | fail) only [↓P_ext, ↓P_slc, ifP_bool, ifB_true, blkP_cells, rdP_cells, optP_some, condP_of, bnds_l, put_at, put_off, add_off, List.getElem?_cons_zero, List.getElem?_cons_succ, List.length_cons, List.length_nil, Nat.zero_add, Nat.reduceAdd, Nat.reduceLeDiff, List.take_succ_cons, List.take_zero, and_self, if_true, List.size_toArray, overlay_n, overlay_c, List.all_cons, List.all_nil, one_int, one_sl, cells_agg, cells_sl, Bool.and_self, Int.reduceToNat, g1, hw, hu1, hbn, h4, hcut, hsl, h2]
      refine ks i r u _ hi ?_ ?_ ⟨⟨_, by simp (disch := first | omega | (simp only [Hp.add_next, Hp.put_next]; done) | (simp only [Hp.add_next, Hp.put_next]; omega) | fail) only [put_at, put_off], .inr ⟨if c = 1 then o else o + 3, c - 1, x, s, cells, rfl, hlw', by omega, h3, ?_, ?_, h6, fun j it hj => ?_⟩⟩, by (first | omega | (simp only [Hp.add_next, Hp.put_next]; done) | (simp only [Hp.add_next, Hp.put_next]; omega)), by (first | omega | (simp only [Hp.add_next, Hp.put_next]; done) | (simp only [Hp.add_next, Hp.put_next]; omega)), by have := h.a1; (first | omega | (simp only [Hp.add_next, Hp.put_next]; done) | (simp only [Hp.add_next, Hp.put_next]; omega))⟩
      · exact ((((hF0.trans hF1 (W := [w]) (by simp) (by simp)).add _).put (.inl (by omega)) _).put (.inr (by simp)) _).put (.inl (by omega)) _
      · refine hu.keep (by (first | omega | (simp only [Hp.add_next, Hp.put_next]; done) | (simp only [Hp.add_next, Hp.put_next]; omega))) fun b x' s' hb hs => ?_
        have e1 : b ≠ w := Byt.not_w hw (.inr ⟨o, c, x, s, cells, rfl, hlw', h2, h3, h4, h5, h6, h7⟩) hs hu.1
        have e2 : b ≠ S1.next := by omega
        have e3 : b ≠ S.next := Byt.not_sl g1 hs hu.1
        simp (disch := first | omega | (simp only [Hp.add_next, Hp.put_next]; done) | (simp only [Hp.add_next, Hp.put_next]; omega) | fail) only [put_off, add_off]
      · have e2 : lb ≠ S1.next := by omega
        have e3 : lb ≠ S.next := by omega
        simp (disch := first | omega | (simp only [Hp.add_next, Hp.put_next]; done) | (simp only [Hp.add_next, Hp.put_next]; omega) | fail) only [put_off, add_off]
        exact h4
      · rw [hi] at h5
        simp only [List.length_cons] at h5
        split
        · have : r.length = 0 := by omega
          omega
        · omega
      · have hjl := (List.getElem?_eq_some_iff.1 hj).1
        obtain ⟨v, k1, k2⟩ := h7 (j + 1) it (by rw [hi, List.getElem?_cons_succ]; exact hj)
        rw [if_neg (by omega)]
        refine ⟨v, by rw [show o + 3 + 3 * j = o + 3 * (j + 1) by omega]; exact k1, k2.keep (by (first | omega | (simp only [Hp.add_next, Hp.put_next]; done) | (simp only [Hp.add_next, Hp.put_next]; omega))) fun b x' s' hb hs => ?_⟩
        have e1 : b ≠ w := Byt.not_w hw (.inr ⟨o, c, x, s, cells, rfl, hlw', h2, h3, h4, h5, h6, h7⟩) hs k2.1
        have e2 : b ≠ S1.next := by omega
        have e3 : b ≠ S.next := Byt.not_sl g1 hs k2.1
        simp (disch := first | omega | (simp only [Hp.add_next, Hp.put_next]; done) | (simp only [Hp.add_next, Hp.put_next]; omega) | fail) only [put_off, add_off]
/-- Deepen -/
theorem s35 {n : Nat} {S : Hp} {w lb : Nat} {d t : Int} {its : List It} {Φ : Value → Hp → Prop} (h : RR A S w lb d its) (hlen : its.length ≤ 1000)
    (kn : ¬ (1 ≤ t ∧ t ≤ 256) → ∀ S', Fra [] S S' → Φ (.tuple ⟨[.int .i64 0, .int .i64 2]⟩) S')
    (ks : ∀ (d' : Nat) S', (d' : Int) = t → 1 ≤ d' → d' ≤ 256 → Fra [w] S S' → RR A S' w lb t (its.take d') → Φ (.tuple ⟨[.int .i64 ((its.length : Nat) - ((its.take d').length : Nat)), .int .i64 0]⟩) S') : wp (callN T (n + 1 + 1) (.fn 35) [ptr w, .int .i64 t]) Φ S := by
  refine c35 g35 ?_
  unfold P35
  obtain ⟨⟨Lv, hw, hL⟩, hw1, hl1⟩ := id h
  have hone := hL.one
  have hcl := hL.cells
  simp (disch := first | omega | (simp only [Hp.add_next, Hp.put_next]; done) | (simp only [Hp.add_next, Hp.put_next]; omega) | fail) only [↓P_fldA, ↓P_nil, ↓P_load1, ↓P_store, ↓P_callF1, rdP_cells, condP_of, put_at, List.length_cons, List.length_nil, Nat.zero_add, Nat.add_zero, Nat.reduceAdd, and_true, List.size_toArray, splice_z, List.all_cons, List.all_nil, one_int, cells_int, Bool.and_self, List.nil_append, List.append_nil]
  refine Wb.wp_mono (s30 t) fun v S' k => ?_
  obtain ⟨rfl, rfl⟩ := k
  simp (disch := first | omega | (simp only [Hp.add_next, Hp.put_next]; done) | (simp only [Hp.add_next, Hp.put_next]; omega) | fail) only [↓P_not, ifP_bool]
  refine ifB_in (fun hb => ?_) (fun hb => ?_)
  · refine kn (fun hc => ?_) _ (by repeat' (first | exact Fra.refl _ _ | assumption | apply Fra.add | (refine Fra.put ?_ ?_ _) | exact Or.inl (by (first | omega | (simp only [Hp.add_next, Hp.put_next]; done) | (simp only [Hp.add_next, Hp.put_next]; omega))) | exact Or.inr (by simp)))
    rw [decide_eq_true (by omega : t > 0), decide_eq_true (by omega : t < 257)] at hb; cases hb
  simp only [Bool.not_eq_false', Bool.and_eq_true, decide_eq_true_eq] at hb
  obtain ⟨d', rfl⟩ : ∃ d' : Nat, (d' : Int) = t := ⟨t.toNat, by omega⟩
  have hlt : (its.take d').length = min d' its.length := List.length_take
  simp (disch := first | omega | (simp only [Hp.add_next, Hp.put_next]; done) | (simp only [Hp.add_next, Hp.put_next]; omega) | fail) only [ifP_bool, ↓P_leq, ↓P_sub64, blkP_cells, optP_some, condP_of, List.getElem?_cons_zero, List.length_cons, List.length_nil, Nat.zero_add, Nat.reduceAdd, Nat.reduceLeDiff, splice_z, splice_1, overlay_n, overlay_c, hw, hL.len]
  refine ifD_in (fun hle => ?_) (fun hle => ?_)
  · have ht : its.take d' = its := List.take_of_length_le (by omega)
    have := ks d' (S'.put w (some (.cells none false [Lv, .int .i64 d']))) rfl (by omega) (by omega) (by repeat' (first | exact Fra.refl _ _ | assumption | apply Fra.add | (refine Fra.put ?_ ?_ _) | exact Or.inl (by (first | omega | (simp only [Hp.add_next, Hp.put_next]; done) | (simp only [Hp.add_next, Hp.put_next]; omega))) | exact Or.inr (by simp))) ⟨⟨Lv, by rw [put_at], ?_⟩, by (first | omega | (simp only [Hp.add_next, Hp.put_next]; done) | (simp only [Hp.add_next, Hp.put_next]; omega)), by (first | omega | (simp only [Hp.add_next, Hp.put_next]; done) | (simp only [Hp.add_next, Hp.put_next]; omega)), by have := h.a1; (first | omega | (simp only [Hp.add_next, Hp.put_next]; done) | (simp only [Hp.add_next, Hp.put_next]; omega))⟩
    · rw [ht, Int.sub_self] at this
      exact this
    · rw [ht]
      rcases hL with hL | ⟨o, c, x, s, cells, rfl, hlw', h2, h3, h4, h5, h6, h7⟩
      · exact .inl hL
      · exact ItL.keep (.inr ⟨o, c, x, s, cells, rfl, hlw', h2, h3, h4, h5, h6, h7⟩) (by (first | omega | (simp only [Hp.add_next, Hp.put_next]; done) | (simp only [Hp.add_next, Hp.put_next]; omega))) (by rw [put_off hlw']) fun b x' s' l hl hb hs => by rw [put_off (Byt.not_w hw (.inr ⟨o, c, x, s, cells, rfl, hlw', h2, h3, h4, h5, h6, h7⟩) hs hl)]
  · rcases hL with ⟨_, hnil⟩ | ⟨o, c, x, s, cells, rfl, hlw', h2, h3, h4, h5, h6, h7⟩
    · rw [hnil] at hle; simp at hle
    · have hcut : ∀ f : Prop, cutP 3 (some (.cells x s cells)) f = f := by
        intro f; rcases h3 with rfl | rfl
        · exact cutP_none 3 s cells f
        · exact cutP_some 3 s cells f
      have hsl : slcR 3 lb o 0 0 d' c = .slice (some ⟨lb, o, none⟩) d' c := by
        unfold slcR
        simp
      have hbn : (0 : Int) ≤ (d' : Nat) ∧ ((d' : Nat) : Int) ≤ (c : Nat) := ⟨by omega, by omega⟩
      have hdc : d' ≤ c := by omega
      have hlt2 : (its.take d').length = d' := by omega
      simp (disch := first | omega | (simp only [Hp.add_next, Hp.put_next]; done) | (simp only [Hp.add_next, Hp.put_next]; omega) | fail) only [↓P_slc, blkP_cells, rdP_cells, optP_some, condP_of, bnds_h, put_at, put_off, List.getElem?_cons_zero, List.length_cons, List.length_nil, Nat.zero_add, Nat.reduceAdd, Nat.reduceLeDiff, and_self, if_true, List.size_toArray, overlay_n, overlay_c, List.all_cons, List.all_nil, one_sl, cells_sl, Bool.and_self, Int.toNat_natCast, hbn, h4, hcut, hsl, hdc]
      have := ks d' ((S'.put w (some (.cells none false [.slice (some ⟨lb, o, none⟩) its.length c, .int .i64 d']))).put w (some (.cells none false [.slice (some ⟨lb, o, none⟩) d' c, .int .i64 d']))) rfl (by omega) (by omega) (by repeat' (first | exact Fra.refl _ _ | assumption | apply Fra.add | (refine Fra.put ?_ ?_ _) | exact Or.inl (by (first | omega | (simp only [Hp.add_next, Hp.put_next]; done) | (simp only [Hp.add_next, Hp.put_next]; omega))) | exact Or.inr (by simp))) ⟨⟨_, by rw [put_at], .inr ⟨o, c, x, s, cells, by rw [hlt2], hlw', by omega, h3, by rw [put_off hlw', put_off hlw']; exact h4, by omega, h6, fun j it hj => ?_⟩⟩, by (first | omega | (simp only [Hp.add_next, Hp.put_next]; done) | (simp only [Hp.add_next, Hp.put_next]; omega)), by (first | omega | (simp only [Hp.add_next, Hp.put_next]; done) | (simp only [Hp.add_next, Hp.put_next]; omega)), by have := h.a1; (first | omega | (simp only [Hp.add_next, Hp.put_next]; done) | (simp only [Hp.add_next, Hp.put_next]; omega))⟩
      · rw [hlt2] at this
        exact this
      · have hj2 : its[j]? = some it := by
          rw [List.getElem?_take] at hj
          split at hj
          · exact hj
          · cases hj
        obtain ⟨v, k1, k2⟩ := h7 j it hj2
        refine ⟨v, k1, k2.keep (by (first | omega | (simp only [Hp.add_next, Hp.put_next]; done) | (simp only [Hp.add_next, Hp.put_next]; omega))) fun b x' s' hb hs => ?_⟩
        have e1 : b ≠ w := Byt.not_w hw (.inr ⟨o, c, x, s, cells, rfl, hlw', h2, h3, h4, h5, h6, h7⟩) hs k2.1
        rw [put_off e1, put_off e1]
section
variable {C : Tgt → List Value → M Value} {S : Hp} {Φ : Value → Hp → Prop}
/-- appending to an empty slice of its own -/
theorem app_copy (size bytes : Nat) (t : TypeId) (b : Nat) {x : Value} {l : List Value} {n : Nat} (hW : WF S) (hx : lenOf x = some n) (hln : l.length = n * size) (hb : S.heap.get b = some (.cells none false [])) (hf : ∀ Ψ : List Value → Hp → Prop, wp (firstN size n x) Ψ S = Ψ l S) (hone : l.all (·.oneCell') = true)
    (hok : 2 * (n * bytes) ≤ 281474976710656 ∧ bytes ≠ 0 ∧ size ≠ 0)
    (k : ∀ S' b' y, Fra [b] S S' → S'.heap.get b = S.heap.get b → WF S' → b ≤ b' → b' < S'.next → (y = none ∨ y = some size) → S'.heap.get b' = some (.cells y false l) → Φ (.slice (some ⟨b', 0, none⟩) n n) S') :
    wp (X C (.app size bytes t (.const (.slice (some ⟨b, 0, none⟩) 0 0)) (.const x))) Φ S := by
  have hbn := hW _ _ hb
  by_cases hn : n = 0
  · subst hn
    rw [P_app_fit size bytes t b 0 0 0 hx (by omega), hf]
    have : l = [] := List.length_eq_zero_iff.1 (by omega)
    subst this
    rw [wp_stCells, hb, blkP_cells]
    have := k (S.put b (some (.cells none false []))) b none ((Fra.refl _ _).put (.inr (by simp)) _) (by rw [put_at, hb]) (hW.put hbn _) (Nat.le_refl _) hbn (.inl rfl) (put_at _ _ _)
    exact ⟨⟨by simp, rfl⟩, by simpa [splice_z, overlay_n] using this⟩
  · rw [P_app_own size bytes t b 0 0 0 hx (by omega) (by rw [Nat.zero_add]; exact hok) hb (by simp) hf hone]
    have := k (S.add (.cells (some size) false l)) S.next (some size) ((Fra.refl _ _).add _) (add_off (by omega) _) (hW.add _) (by omega) (by rw [Hp.add_next]; omega) (.inr rfl) (add_at _ _)
    simpa using this
theorem copyL {w lb b : Nat} {Lv : Value} {its : List It} (hW : WF S) (h : ItL A S w lb Lv its) (hlen : its.length ≤ 1000) (hw : w < b) (hb : S.heap.get b = some (.cells none false [])) :
    wp (X C (.app 3 40 44 (.const (.slice (some ⟨b, 0, none⟩) 0 0)) (.const Lv))) (fun v S' => Fra [b] S S' ∧ ∃ b', v = .slice (some ⟨b', 0, none⟩) its.length its.length ∧ b ≤ b' ∧ b' < S'.next ∧ ItL A S' w b' v its) S := by
  have hbn := hW _ _ hb
  rcases h with ⟨rfl, rfl⟩ | ⟨o, c, x, s, cells, rfl, h1, h2, h3, h4, h5, h6, h7⟩
  · refine app_copy 3 40 44 b (n := 0) (l := []) hW rfl rfl hb (fun Ψ => by rw [W_firstN0]) rfl (by omega) fun S' b' y hF hk hW' h1 h2 h3 h4 => ?_
    exact ⟨hF, b', rfl, h1, h2, .inr ⟨0, 0, y, false, [], rfl, by omega, Nat.le_refl _, h3, h4, by simp, rfl, fun j i hj => by simp at hj⟩⟩
  · refine app_copy 3 40 44 b (n := its.length) (l := (cells.drop o).take (its.length * 3)) hW rfl (by simp; omega) hb (fun Ψ => ?_) ?_ (by omega) fun S' b' y hF hk hW' k1 k2 k3 k4 => ?_
    · rw [W_firstN, h4, rdP_cells]
      exact condP_of (by omega) _
    · rw [List.all_eq_true] at h6 ⊢
      exact fun x hx => h6 x (List.mem_of_mem_drop (List.mem_of_mem_take hx))
    · refine ⟨hF, b', rfl, k1, k2, .inr ⟨0, its.length, y, false, _, rfl, by omega, Nat.le_refl _, k3, k4, by simp; omega, ?_, fun j i hj => ?_⟩⟩
      · rw [List.all_eq_true] at h6 ⊢
        exact fun x hx => h6 x (List.mem_of_mem_drop (List.mem_of_mem_take hx))
      · have hjl := (List.getElem?_eq_some_iff.1 hj).1
        obtain ⟨v, m1, m2⟩ := h7 j i hj
        refine ⟨v, ?_, m2.keep hF.next fun c x s hc hs => ?_⟩
        · rw [Nat.zero_add, List.drop_take, List.take_take, Nat.min_eq_left (by omega), List.drop_drop]; exact m1
        · by_cases e : c = b
          · rw [e, hk]
          · exact hF.heap c hc (by simpa using e)
/-- appending to what has no room -/
theorem app_grow (size bytes : Nat) (t : TypeId) (b o sl sc : Nat) {x : Value} {n : Nat} {y : Option Nat} (hW : WF S) (hx : lenOf x = some n) (hn : sc < sl + n) (hok : 2 * ((sl + n) * bytes) ≤ 281474976710656 ∧ bytes ≠ 0 ∧ size ≠ 0) {s : Bool} {c : List Value} (hy : y = none ∨ y = some size) (hb : S.heap.get b = some (.cells y s c)) (hc : o + sl * size ≤ c.length)
    {new : List Value} (hf : ∀ Ψ : List Value → Hp → Prop, wp (firstN size n x) Ψ S = Ψ new S) (hnew : new.all (·.oneCell') = true)
    (k : ∀ S' s', Fra [b] S S' → WF S' → S'.next = S.next + 1 → S'.heap.get S.next = some (.cells (some size) s' ((c.drop o).take (sl * size) ++ new)) → Φ (.slice (some ⟨S.next, 0, none⟩) (sl + n) (sl + n)) S') : wp (X C (.app size bytes t (.const (.slice (some ⟨b, o, none⟩) sl sc)) (.const x))) Φ S := by
  have hbn := hW _ _ hb
  rcases hy with rfl | rfl
  · rw [P_app_own size bytes t b o sl sc hx hn hok hb hc hf hnew]
    exact k _ false ((Fra.refl _ _).add _) (hW.add _) rfl (add_at _ _)
  · rw [P_app_ext size bytes t b o sl sc hx hn hok hb hc hf hnew]
    exact k _ s (((Fra.refl _ _).put (.inr (by simp)) _).add _) ((hW.put hbn _).add _) rfl (add_at _ _)
theorem D_bslice (j : Nat) (ts : List (Nat × Wb.Touch)) (t : TypeId) (n : Nat) (z : List Value) (p : List (Nat × Nat × Atom)) (Ψ : Value → List (Nat × Wb.Touch) → Hp → Prop) : optP (fillA .leaf p z) (fun c => Ψ (.slice (some ⟨S.next, 0, none⟩) n n) ((j, ⟨[], S.next, S.next + 1⟩) :: ts) (S.add (.cells none false c))) → dstepP j ts (X C (.bslice t n z p)) Ψ S := by
  intro h
  cases hc : fillA .leaf p z with
  | none => rw [hc] at h; exact h.elim
  | some c =>
    rw [hc] at h
    have hk : keepT j { log := [], lo := S.next, hi := S.next + 1 } ts = (j, ⟨[], S.next, S.next + 1⟩) :: ts := by
      unfold keepT
      have : Nat.beq S.next (S.next + 1) = false := by rw [Bool.eq_false_iff]; intro e; have := Nat.eq_of_beq_eq_true e; omega
      simp only [this]
    refine ⟨.slice (some ⟨S.next, 0, none⟩) n n, { heap := S.heap.set S.next (some (.cells none false c)), next := S.next + 1, log := [] }, ?_, ?_⟩
    · simp only [X, exec, M.bind, M.lift, hc, nw, M.pure, Hp.st]
    · show Ψ _ (keepT j { log := [], lo := S.next, hi := S.next + 1 } ts) _
      rw [hk]; exact h
end
theorem apt_ra {b n m k : Nat} (h : b < n) : apt ⟨[(b, false)], m, m⟩ ⟨[], n, k⟩ := (apt_new (t := ⟨[(b, false)], m, m⟩) (n := n) (m := k) fun x hx => by
  have : x = (b, false) := by simpa using hx
  subst this; exact h).symm
theorem apt_aa {a b c d : Nat} : apt ⟨[], a, b⟩ ⟨[], c, d⟩ := ⟨rfl, rfl⟩
/-- Push -/
theorem s31 {n : Nat} {S : Hp} {w lb : Nat} {d : Nat} {its : List It} {v : Value} {i : It} {Φ : Value → Hp → Prop} (hW : WF S) (h : RR A S w lb d its) (hlen : its.length ≤ 1000) (hv : Rd S v i.l) (hl : i.l.length ≤ 100000)
    (kl : 1600 < i.l.length → ∀ S', Fra [] S S' → Φ (.int .i64 3) S')
    (kf : i.l.length ≤ 1600 → d ≤ its.length → ∀ S', Fra [] S S' → Φ (.int .i64 9) S')
    (ks : i.l.length ≤ 1600 → its.length < d → ∀ lb' S', Fra [w] S S' → S.next ≤ lb' → RR A S' w lb' d (its ++ [i]) → Φ (.int .i64 0) S') : wp (callN T (n + 1) (.fn 31) [ptr w, itv v i]) Φ S := by
  refine c31 g31 ?_
  unfold P31
  have hvlen : ∀ (Φ : Value → Hp → Prop) (S : Hp), wp (X (callN T n) (.len .slice (.const v))) Φ S = Φ (.int .i64 i.l.length) S := fun Φ S => hv.len _ Φ S
  have hvlo : lenOf v = some i.l.length := hv.lo
  have hread : ∀ (S' : Hp) (Ψ : List Value → Hp → Prop), (∀ b, b < S.next → S'.heap.get b = S.heap.get b) → wp (firstN 1 i.l.length v) Ψ S' = Ψ i.l S' := hv.rd
  obtain ⟨⟨Lv, hw, hL⟩, hw1, hl1⟩ := id h
  have hone := hL.one
  have hv1 := hv.one
  unfold itv
  simp (disch := first | omega | (simp only [Hp.add_next, Hp.put_next]; done) | (simp only [Hp.add_next, Hp.put_next]; omega) | fail) only [↓P_fldA, ↓P_nil, ↓P_box, ↓P_bslice, ↓P_load1, ↓D_load1, ↓D_loadN, ↓P_store, ifP_bool, ↓P_gtr, rdP_cells, optP_some, add_eq, List.getElem?_cons_zero, Nat.zero_add, Nat.add_zero, List.drop_zero, fillA, splice_z, cells_agg, hvlen]
  refine ifD_in (fun hlong => ?_) (fun hlong => ?_)
  · exact kl (by omega) _ (by repeat' (first | exact Fra.refl _ _ | assumption | apply Fra.add | (refine Fra.put ?_ ?_ _) | exact Or.inl (by (first | omega | (simp only [Hp.add_next, Hp.put_next]; done) | (simp only [Hp.add_next, Hp.put_next]; omega))) | exact Or.inr (by simp)))
  simp (disch := first | omega | (simp only [Hp.add_next, Hp.put_next]; done) | (simp only [Hp.add_next, Hp.put_next]; omega) | fail) only [ifP_bool, ↓P_geq, rdP_cells, optP_some, add_off, List.getElem?_cons_zero, List.getElem?_cons_succ, hw, hL.len]
  refine ifD_in (fun hfull => ?_) (fun hfull => ?_)
  · exact kf (by omega) (by omega) _ (by repeat' (first | exact Fra.refl _ _ | assumption | apply Fra.add | (refine Fra.put ?_ ?_ _) | exact Or.inl (by (first | omega | (simp only [Hp.add_next, Hp.put_next]; done) | (simp only [Hp.add_next, Hp.put_next]; omega))) | exact Or.inr (by simp)))
  simp (disch := first | omega | (simp only [Hp.add_next, Hp.put_next]; done) | (simp only [Hp.add_next, Hp.put_next]; omega) | fail) only [rdP_cells, optP_some, add_eq, add_off, Hp.add_next, List.getElem?_cons_zero]
  have hW1 : WF ((S.add (.cells none false [v, .int .u64 i.a, .int .u64 i.w])).add (.cells none false [])) := (hW.add _).add _
  refine app_copy 1 1 5 _ (l := i.l) hW1 hvlo (by omega) ?_ (fun Ψ => hread _ _ fun b hb => ?_) hv.byt.one (by omega) fun S1 b1 y hF1 hk1 hW1 hb1 hb1n hy hg1 => ?_
  · simp (disch := first | omega | (simp only [Hp.add_next, Hp.put_next]; done) | (simp only [Hp.add_next, Hp.put_next]; omega) | fail) only [add_eq]
  · simp (disch := first | omega | (simp only [Hp.add_next, Hp.put_next]; done) | (simp only [Hp.add_next, Hp.put_next]; omega) | fail) only [add_off]
  have hb1' : S.next + 1 ≤ b1 := by (first | omega | (simp only [Hp.add_next, Hp.put_next]; done) | (simp only [Hp.add_next, Hp.put_next]; omega))
  have hF1' : Fra [] S S1 := by
    refine Fra.trans (W1 := []) (W2 := [S.next + 1]) (by repeat' (first | exact Fra.refl _ _ | assumption | apply Fra.add | (refine Fra.put ?_ ?_ _) | exact Or.inl (by (first | omega | (simp only [Hp.add_next, Hp.put_next]; done) | (simp only [Hp.add_next, Hp.put_next]; omega))) | exact Or.inr (by simp))) hF1 (by simp) (fun b hb => .inl ?_)
    have : b = S.next + 1 := by simpa using hb
    omega
  have n1 : S.next + 2 ≤ S1.next := hF1.next
  have g0 : S1.heap.get S.next = some (.cells none false [v, .int .u64 i.a, .int .u64 i.w]) := by
    rw [hF1.heap S.next (by (first | omega | (simp only [Hp.add_next, Hp.put_next]; done) | (simp only [Hp.add_next, Hp.put_next]; omega))) (by simp)]; simp (disch := first | omega | (simp only [Hp.add_next, Hp.put_next]; done) | (simp only [Hp.add_next, Hp.put_next]; omega) | fail) only [add_eq, add_off]
  simp (disch := first | omega | (simp only [Hp.add_next, Hp.put_next]; done) | (simp only [Hp.add_next, Hp.put_next]; omega) | fail) only [blkP_cells, condP_of, List.length_cons, List.length_nil, Nat.zero_add, Nat.reduceAdd, Nat.reduceLeDiff, and_self, List.size_toArray, overlay_n, overlay_c, List.all_cons, List.all_nil, one_sl, cells_sl, Bool.and_self, g0]
  have hF2 : Fra [] S (S1.put S.next (some (.cells none false [.slice (some ⟨b1, 0, none⟩) i.l.length i.l.length, .int .u64 i.a, .int .u64 i.w]))) := hF1'.put (.inl (Nat.le_refl _)) _
  have n2 : (S1.put S.next (some (.cells none false [.slice (some ⟨b1, 0, none⟩) i.l.length i.l.length, .int .u64 i.a, .int .u64 i.w]))).next = S1.next := rfl
  have hW2 : WF (S1.put S.next (some (.cells none false [.slice (some ⟨b1, 0, none⟩) i.l.length i.l.length, .int .u64 i.a, .int .u64 i.w]))) := hW1.put (by omega) _
  have g2 : (S1.put S.next (some (.cells none false [.slice (some ⟨b1, 0, none⟩) i.l.length i.l.length, .int .u64 i.a, .int .u64 i.w]))).heap.get S.next = some (.cells none false [.slice (some ⟨b1, 0, none⟩) i.l.length i.l.length, .int .u64 i.a, .int .u64 i.w]) := put_at _ _ _
  have gb2 : (S1.put S.next (some (.cells none false [.slice (some ⟨b1, 0, none⟩) i.l.length i.l.length, .int .u64 i.a, .int .u64 i.w]))).heap.get b1 = some (.cells y false i.l) := by rw [put_off (by omega)]; exact hg1
  generalize S1.put S.next _ = S2 at hF2 n2 hW2 g2 gb2 ⊢
  refine D_bslice 1 [] 44 0 [] [] _ ?_
  have hF3 : Fra [] S (S2.add (.cells none false [])) := hF2.add _
  have hW3 := hW2.add (.cells none false [])
  have hI3 := (h.fra hF3)
  have hw2 : S2.heap.get w = some (.cells none false [Lv, .int .i64 d]) := (hF2.heap w hw1 (by simp)).trans hw
  have hL3 : ItL A (S2.add (.cells none false [])) w lb Lv its := hL.keep hF3.next (hF3.heap lb hl1 (by simp)) fun b x s l _ hb _ => hF3.heap b hb (by simp)
  simp (disch := first | omega | (simp only [Hp.add_next, Hp.put_next]; done) | (simp only [Hp.add_next, Hp.put_next]; omega) | fail) only [rdP_cells, optP_some, add_off, Hp.add_next, List.getElem?_cons_zero, fillA, hw2]
  refine D_specW (BdX.exec (BdX.callN _ _) .leaf _) hW3 (copyL hW3 hL3 hlen (by omega) (add_at _ _)) ?_
  rintro v S4 t hF4 ⟨b4, rfl, k1, k2, hL4⟩ hW4 t1 t2 t3 t4
  have n4 := hF4.next
  rw [Hp.add_next] at n4 t1
  have g4 : S4.heap.get S.next = some (.cells none false [.slice (some ⟨b1, 0, none⟩) i.l.length i.l.length, .int .u64 i.a, .int .u64 i.w]) := by
    rw [hF4.heap S.next (by (first | omega | (simp only [Hp.add_next, Hp.put_next]; done) | (simp only [Hp.add_next, Hp.put_next]; omega))) (by simp; omega), add_off (by omega)]; exact g2
  have gb4 : S4.heap.get b1 = some (.cells y false i.l) := by
    rw [hF4.heap b1 (by (first | omega | (simp only [Hp.add_next, Hp.put_next]; done) | (simp only [Hp.add_next, Hp.put_next]; omega))) (by simp; omega), add_off (by omega)]; exact gb2
  simp (disch := first | omega | (simp only [Hp.add_next, Hp.put_next]; done) | (simp only [Hp.add_next, Hp.put_next]; omega) | fail) only [rdP_cells, condP_of, List.length_cons, List.length_nil, Nat.zero_add, Nat.reduceAdd, Nat.reduceLeDiff, List.take_succ_cons, List.take_zero, g4]
  rcases hL4 with ⟨h, _⟩ | ⟨o, c, x, s, cells, hv4, h1, h2, h3, h4, h5, h6, h7⟩
  · cases h
  injection hv4 with e1 _ e2
  injection e1 with e1
  injection e1 with _ e3 _
  subst e2; subst e3
  refine D_bslice 8 _ 44 1 _ _ _ ?_
  simp (disch := first | omega | (simp only [Hp.add_next, Hp.put_next]; done) | (simp only [Hp.add_next, Hp.put_next]; omega) | fail) only [optP_some, List.length_cons, List.length_nil, Nat.zero_add, Nat.reduceAdd, Nat.reduceLeDiff, and_self, if_true, fillA, Atom.ev, setAll, List.set_cons_zero, List.set_cons_succ, List.size_toArray, cells_agg]
  refine app_grow 3 40 44 b4 0 its.length its.length (n := 1) (y := x) (new := [.slice (some ⟨b1, 0, none⟩) i.l.length i.l.length, .int .u64 i.a, .int .u64 i.w]) (hW4.add _) rfl (by omega) (by omega) h3 (by rw [add_off (by omega)]; exact h4) (by omega) (fun Ψ => ?_) rfl fun S6 s6 hF6 hW6 n6 g6 => ?_
  · rw [W_firstN, add_at, rdP_cells]
    simp [condP]
  have hF4' : Fra [] S S4 := by
    refine hF3.trans hF4 (by simp) (fun b hb => .inl ?_)
    have : b = S2.next := by simpa using hb
    omega
  have hF5 : Fra [] S (S4.add (.cells none false [.slice (some ⟨b1, 0, none⟩) i.l.length i.l.length, .int .u64 i.a, .int .u64 i.w])) := hF4'.add _
  have hF6' : Fra [] S S6 := by
    refine hF5.trans hF6 (by simp) (fun b hb => .inl ?_)
    have : b = b4 := by simpa using hb
    omega
  have hw6 : S6.heap.get w = some (.cells none false [Lv, .int .i64 d]) := (hF6'.heap w hw1 (by simp)).trans hw
  rw [Hp.add_next] at n6
  simp (disch := first | omega | (simp only [Hp.add_next, Hp.put_next]; done) | (simp only [Hp.add_next, Hp.put_next]; omega) | fail) only [blkP_cells, condP_of, Hp.add_next, List.length_cons, List.length_nil, Nat.zero_add, Nat.reduceAdd, Nat.reduceLeDiff, and_self, List.size_toArray, overlay_n, overlay_c, List.all_cons, List.all_nil, one_sl, cells_sl, Bool.and_self, hw6]
  refine okP_in ?_ ?_
  · refine apart_cons (one_cons (.inl (by decide)) (one_keep (.inr (apt_new (by rw [← t2]; exact t4))) (one_cons (.inr (apt_ra (by omega)).symm) (one_cons (.inr apt_aa) one_nil)))) ?_
    refine apart_cons (one_keep (.inr (apt_read (by rw [t1]; omega) (fun hb => ?_))) (one_cons (.inr apt_reads) (one_cons (.inr (apt_ra (by omega))) one_nil))) ?_
    · rcases t3 _ hb with hb | hb
      · rw [Hp.add_next] at hb; omega
      · simp at hb; omega
    refine apart_keep (one_cons (.inl (by decide)) (one_cons (.inl (by decide)) one_nil)) ?_
    refine apart_cons (one_cons (.inr (apt_ra (by omega))) one_nil) ?_
    exact apart_cons one_nil apart_nil
  · have hF7 : Fra [w] S (S6.put w (some (.cells none false [.slice (some ⟨S4.next + 1, 0, none⟩) (its.length + 1) (its.length + 1), .int .i64 d]))) := (hF6'.mono (by simp)).put (.inr (by simp)) _
    have hl3 : (List.drop 0 cells).take (its.length * 3) = cells.take (its.length * 3) := by rw [List.drop_zero]
    rw [hl3] at g6
    have hll : (cells.take (its.length * 3)).length = its.length * 3 := by rw [List.length_take]; omega
    refine ks (by omega) (by omega) (S4.next + 1) _ hF7 (by omega) ⟨⟨_, by rw [put_at], .inr ⟨0, its.length + 1, some 3, s6, _, by rw [List.length_append]; rfl, by omega, by simp, .inr rfl, by rw [put_off (by omega)]; exact g6, ?_, ?_, fun j it hj => ?_⟩⟩, by (first | omega | (simp only [Hp.add_next, Hp.put_next]; done) | (simp only [Hp.add_next, Hp.put_next]; omega)), by (first | omega | (simp only [Hp.add_next, Hp.put_next]; done) | (simp only [Hp.add_next, Hp.put_next]; omega)), by have := h.a1; (first | omega | (simp only [Hp.add_next, Hp.put_next]; done) | (simp only [Hp.add_next, Hp.put_next]; omega))⟩
    · rw [List.length_append, List.length_append, hll]
      simp only [List.length_cons, List.length_nil]; omega
    · rw [List.all_append, Bool.and_eq_true]
      refine ⟨?_, rfl⟩
      rw [List.all_eq_true] at h6 ⊢
      exact fun x hx => h6 x (List.mem_of_mem_take hx)
    · have hjl := (List.getElem?_eq_some_iff.1 hj).1
      rw [List.length_append] at hjl
      simp only [List.length_cons, List.length_nil] at hjl
      rw [Nat.zero_add]
      by_cases hje : j < its.length
      · rw [List.getElem?_append_left hje] at hj
        obtain ⟨v, m1, m2⟩ := h7 j it hj
        rw [Nat.zero_add] at m1
        refine ⟨v, ?_, (m2.keep (S' := S6) (by omega) fun b x' s' hb hs => ?_).keep (Nat.le_refl _) fun b x' s' hb hs => ?_⟩
        · rw [List.drop_append_of_le_length (by omega), List.take_append_of_le_length (by rw [List.length_drop]; omega), List.drop_take, List.take_take, Nat.min_eq_left (by omega)]
          exact m1
        · have e1 : b ≠ b4 := by
            intro e
            subst e
            rw [h4] at hs
            injection hs with hs
            injection hs with _ _ hs
            exact Byt.not_l m1 m2 m2.1 hs.symm
          rw [hF6.heap b (by (first | omega | (simp only [Hp.add_next, Hp.put_next]; done) | (simp only [Hp.add_next, Hp.put_next]; omega))) (by simpa using e1), add_off (by omega)]
        · rw [put_off (Byt.not_w2 hw6 hL hs m2.1)]
      · have hje : j = its.length := by omega
        subst hje
        rw [List.getElem?_append_right (Nat.le_refl _), Nat.sub_self] at hj
        injection hj with hj
        subst hj
        refine ⟨.slice (some ⟨b1, 0, none⟩) i.l.length i.l.length, ?_, hv.byt, .inr ⟨b1, y, false, rfl, by have := h.a1; omega, by (first | omega | (simp only [Hp.add_next, Hp.put_next]; done) | (simp only [Hp.add_next, Hp.put_next]; omega)), ?_⟩⟩
        · rw [List.drop_append, hll, show 3 * its.length - its.length * 3 = 0 by omega, List.drop_of_length_le (by omega), List.nil_append, List.drop_zero]
          rfl
        · have e1 : b1 ≠ b4 := by omega
          have e2 : b1 ≠ w := by omega
          rw [put_off e2, hF6.heap b1 (by (first | omega | (simp only [Hp.add_next, Hp.put_next]; done) | (simp only [Hp.add_next, Hp.put_next]; omega))) (by simpa using e1), add_off (by omega)]; exact gb4
end Go.Proofs.Ytmepokefmpcnnaa.Qu
