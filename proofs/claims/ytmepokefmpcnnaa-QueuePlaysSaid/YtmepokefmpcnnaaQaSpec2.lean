/- What layer 27's queue brings: copies, and a depth anew. -/
import Derived.Test.YtmepokefmpcnnaaQaSpec
set_option maxRecDepth 100000
set_option linter.unusedVariables false
set_option linter.unusedSimpArgs false
namespace Go.Proofs.Ytmepokefmpcnnaa.Qu
open Go.Wb
variable {A : Nat}
theorem Bs.sl {S : Hp} {v : Value} {l : List Value} (h : Bs A S v l) : ∃ po n c, v = .slice po n c := by
  rcases h.2 with ⟨rfl, _⟩ | ⟨b, x, s, rfl, _⟩ <;> exact ⟨_, _, _, rfl⟩
theorem Bs.one {S : Hp} {v : Value} {l : List Value} (h : Bs A S v l) : v.oneCell' = true := by
  obtain ⟨po, n, c, rfl⟩ := h.sl; rfl
/-- one more behind the others -/
theorem QR.push {S S' : Hp} {q rb d f : Nat} {its : List It} (h : QR A S q rb d f its) (hm : its.length < d) {v : Value} {i : It} (hv : Bs A S v i.l) (hl : i.l.length ≤ 1600) {ring : List Value} (hr : S.heap.get rb = some (.cells none false ring)) (hn : S.next ≤ S'.next)
    (hq' : S'.heap.get q = some (.cells none false [.slice (some ⟨rb, 0, none⟩) d d, .int .i64 f, .int .i64 ((its.length : Nat) + 1)])) (hr' : S'.heap.get rb = some (.cells none false (splice ring (3 * ((f + its.length) % d)) [v, .int .u64 i.a, .int .u64 i.w])))
    (kb : ∀ b x s l, Byt l → b < S.next → b ≠ q → b ≠ rb → S.heap.get b = some (.cells x s l) → S'.heap.get b = S.heap.get b) : QR A S' q rb d f (its ++ [i]) := by
  obtain ⟨h1, ⟨ring', h2, h3, h4, h5⟩, h6, h7, h8, h9, h10, h11, h12, h13⟩ := h
  rw [hr] at h2
  cases h2
  have hp : (f + its.length) % d < d := Nat.mod_lt _ h7
  obtain ⟨r1, r2⟩ := get3_splice h3 hp v (.int .u64 i.a) (.int .u64 i.w)
  have keep : ∀ (u : Value) (l : List Value), Bs A S u l → Bs A S' u l := fun u l hu => hu.keep hn fun c x s hc hs => kb c x s l hu.1 hc (Byt.not_q h1 hs hu.1) (Byt.not_r hr h3 h7 h4 hs hu.1) hs
  refine ⟨by rw [hq', List.length_append]; rfl, ⟨_, hr', r1, fun p hpd => ?_, fun j it hj => ?_⟩, by rw [List.length_append]; simp; omega, h7, h8, h9, by omega, by omega, h12, by omega⟩
  · rw [r2]
    split
    · obtain ⟨po, n, c, rfl⟩ := hv.sl; exact ⟨_, _, _, _, _, rfl⟩
    · exact h4 p hpd
  · by_cases hjl : j < its.length
    · rw [List.getElem?_append_left hjl] at hj
      obtain ⟨u, m1, m2, m3⟩ := h5 j it hj
      exact ⟨u, by rw [r2, if_neg (mod_ne h9 (by omega) hm (by omega))]; exact m1, keep _ _ m2, m3⟩
    · have hje : j = its.length := by
        have := (List.getElem?_eq_some_iff.1 hj).1
        simp at this; omega
      subst hje
      rw [List.getElem?_append_right (Nat.le_refl _), Nat.sub_self] at hj
      obtain rfl : i = it := by simpa using hj
      exact ⟨v, by rw [r2, if_pos rfl], keep _ _ hv, hl⟩
theorem take_snoc {its : List It} {i : Nat} {it : It} (h : its[i]? = some it) : its.take i ++ [it] = its.take (i + 1) := by
  rw [List.take_add_one, h]; rfl
theorem QR.lens {S : Hp} {q rb d f : Nat} {its : List It} (h : QR A S q rb d f its) : ∀ i ∈ its, i.l.length ≤ 1600 ∧ Byt i.l := by
  obtain ⟨ring, _, _, _, hri⟩ := h.rng
  intro i hi
  obtain ⟨j, hj, rfl⟩ := List.mem_iff_getElem.1 hi
  obtain ⟨v, _, k2, k3⟩ := hri j _ (List.getElem?_eq_getElem hj)
  exact ⟨k3, k2.1⟩
/-- a state in which a copy is under way -/
structure CInv (A : Nat) (S : Hp) (q c crb d2 tb nb l : Nat) (its : List It) (tv : Value) (lo : Blk) (i : Nat) (S' : Hp) : Prop where
  i1 : i ≤ its.length
  i2 : i ≤ d2
  fr : Fra [] S S'
  cq : QR A S' c crb d2 0 (its.take i)
  t1 : S'.heap.get tb = some (.cells none false [tv])
  n1 : S'.heap.get nb = some (.cells none false [ptr q])
  l1 : S'.heap.get l = some lo
  tn : tb < S'.next
  nn : nb < S'.next
  ln : l < S'.next
/-- Copy -/
theorem s36 {n : Nat} {S : Hp} {q rb d f : Nat} {its : List It} {Φ : Value → Hp → Prop} (hn : 300 ≤ n) (h : QR A S q rb d f its)
    (ks : ∀ c crb S', Fra [] S S' → S.next ≤ c → S.next ≤ crb → QR A S' c crb d 0 its → Φ (ptr c) S') : wp (callN T (n + 1) (.fn 36) [ptr q]) Φ S := by
  refine c36 g36 ?_
  unfold P36
  obtain ⟨n, rfl⟩ : ∃ m, n = m + 1 + 1 := ⟨n - 2, by omega⟩
  have hqb := h.qb
  have hd0 := h.d0
  have hd1 := h.d1
  have hf1 := h.f1
  have hmany := h.many
  have hq1 := h.q1
  have hr1 := h.r1
  simp (disch := first | omega | (simp only [Hp.add_next, Hp.put_next]; done) | (simp only [Hp.add_next, Hp.put_next]; omega) | fail) only [↓P_fldA, ↓P_nil, ↓P_alloc, ↓P_box, ↓P_build, ↓P_load1, ↓P_store, ↓P_callF1, blkP_cells, condP_of, add_eq, Hp.add_next, List.length_cons, List.length_nil, Nat.zero_add, Nat.add_zero, Nat.reduceAdd, Nat.reduceLeDiff, and_self, and_true, fillA, Atom.ev, List.size_toArray, splice_z, overlay_n, overlay_c, List.all_cons, List.all_nil, one_ptr, cells_agg, cells_ptr, Bool.and_self, List.nil_append, List.append_nil]
  refine Wb.wp_mono (s40 hqb) fun u S1 k => ?_
  obtain ⟨_, rfl, rfl⟩ := k
  have e0 : decide ((d : Int) = 0) = false := decide_eq_false (by omega)
  simp (disch := first | omega | (simp only [Hp.add_next, Hp.put_next]; done) | (simp only [Hp.add_next, Hp.put_next]; omega) | fail) only [↓P_lenS, ↓P_mkslice, ifP_bool, ifB_false, ↓P_eql, rdP_cells, optP_some, condP_of, Hp.add_next, List.getElem?_cons_zero, List.length_cons, List.length_nil, Nat.zero_add, Nat.reduceAdd, and_true, true_and, if_true, setAll, List.set_cons_zero, List.size_toArray, cells_sl, Int.le_refl, Int.toNat_natCast, e0, hqb]
  refine Wb.wp_mono s41 fun v S2 h1 => ?_
  obtain ⟨rfl, rfl⟩ := h1
  rw [R_range]
  intro e' he'
  have hle : Le ((.leaf : Env).set 3 (some (ptr (S1.next + 1 + 1)))) e' := (Le.leaf _).of_set (he' 3 _ (by kernel_rfl))
  obtain ⟨r1, r2⟩ := rep3 (.slice none 0 0) (.int .u64 0) (.int .u64 0) d
  simp (disch := first | omega | (simp only [Hp.add_next, Hp.put_next]; done) | (simp only [Hp.add_next, Hp.put_next]; omega) | fail) only [put_off, Hp.put_next, Hp.add_next, List.nil_append, List.cons_append]
  generalize hlo : Blk.loop [18] _ _ e' none = lo
  generalize hS0 : (((((S1.add _).add _).add _).put _ _).add _).add lo = S0
  have hF0 : Fra [] S1 S0 := by subst hS0; repeat' (first | exact Fra.refl _ _ | assumption | apply Fra.add | (refine Fra.put ?_ ?_ _) | exact Or.inl (by (first | omega | (simp only [Hp.add_next, Hp.put_next]; done) | (simp only [Hp.add_next, Hp.put_next]; omega))) | exact Or.inr (by simp))
  have hn0 : S0.next = S1.next + 1 + 1 + 1 + 1 + 1 := by subst hS0; rfl
  have g0 : S0.heap.get S1.next = some (.cells none false (rep d [.slice none 0 0, .int .u64 0, .int .u64 0])) := by subst hS0; simp (disch := first | omega | (simp only [Hp.add_next, Hp.put_next]; done) | (simp only [Hp.add_next, Hp.put_next]; omega) | fail) only [put_off, add_eq, add_off]
  have g1 : S0.heap.get (S1.next + 1) = some (.cells none false [.slice (some ⟨S1.next, 0, none⟩) d d, .int .i64 0, .int .i64 0]) := by subst hS0; simp (disch := first | omega | (simp only [Hp.add_next, Hp.put_next]; done) | (simp only [Hp.add_next, Hp.put_next]; omega) | fail) only [put_off, add_eq, add_off]
  have g2 : S0.heap.get (S1.next + 1 + 1) = some (.cells none false [ptr (S1.next + 1)]) := by subst hS0; simp (disch := first | omega | (simp only [Hp.add_next, Hp.put_next]; done) | (simp only [Hp.add_next, Hp.put_next]; omega) | fail) only [put_at, add_off]
  have g3 : S0.heap.get (S1.next + 1 + 1 + 1) = some (.cells none false [ptr q]) := by subst hS0; simp (disch := first | omega | (simp only [Hp.add_next, Hp.put_next]; done) | (simp only [Hp.add_next, Hp.put_next]; omega) | fail) only [add_eq, add_off]
  have g4 : S0.heap.get (S1.next + 1 + 1 + 1 + 1) = some lo := by subst hS0; simp (disch := first | omega | (simp only [Hp.add_next, Hp.put_next]; done) | (simp only [Hp.add_next, Hp.put_next]; omega) | fail) only [add_eq]
  clear hS0
  have hC0 : QR A S0 (S1.next + 1) S1.next d 0 [] := ⟨by rw [g1]; rfl, ⟨_, g0, r1, fun p hp => ⟨none, 0, 0, 0, 0, r2 p hp⟩, fun j i hj => by simp at hj⟩, by simp, hd0, hd1, hd0, by omega, by omega, by omega, by have := h.a1; omega⟩
  refine Wb.wp_mono (s92 (A := A) (q := q) (rb := rb) (d := d) (f := f) (its := its) (nb := S1.next + 1 + 1 + 1) (l := S1.next + 1 + 1 + 1 + 1) (by omega)
    (CInv A S1 q (S1.next + 1) S1.next d (S1.next + 1 + 1) (S1.next + 1 + 1 + 1) (S1.next + 1 + 1 + 1 + 1) its (ptr (S1.next + 1)) lo) (fun _ => False) ?_ ?_ ⟨Nat.zero_le _, Nat.zero_le _, hF0, hC0, g2, g3, g4, by omega, by omega, by omega⟩) ?_
  · intro i S' hI
    exact ⟨h.fra hI.fr, hI.n1, hI.nn⟩
  · intro i it S' b S2 Ψ hit hI hF1 hb1 hb2 hb3 fin _
    have hil : i < its.length := (List.getElem?_eq_some_iff.1 hit).1
    have hn1 := hF1.next
    have k3 := hF1.at_ hI.ln (by simp) hI.l1
    have kt := hF1.at_ hI.tn (by simp) hI.t1
    have hnext := hI.fr.next
    have hnn := hI.nn
    have htn := hI.tn
    have hln := hI.ln
    have hF2 := hI.fr.trans' hF1
    have hC := hI.cq.fra hF1
    have hcb := hC.qb
    obtain ⟨cr, c1, c2, c3, c4⟩ := hC.rng
    have hlt : (its.take i).length = i := by rw [List.length_take]; omega
    rw [hlt] at hcb
    subst hlo
    refine yieldP (args := [itv (.slice (some ⟨b, 0, none⟩) it.l.length it.l.length) it]) (A := B36_0) (B := B36_0) k3 rfl (zipSet_mono hle) ?_
    rw [q36_0]
    unfold Q36_0 itv
    have hm3 : i * 3 = 3 * i := Nat.mul_comm _ _
    simp (disch := first | omega | (simp only [Hp.add_next, Hp.put_next]; done) | (simp only [Hp.add_next, Hp.put_next]; omega) | fail) only [↓P_fldA, ↓P_nil, ↓P_alloc, ↓P_load1, ↓P_loadN, ↓P_store, ↓P_ixA, blkP_cells, rdP_cells, optP_some, condP_of, put_at, put_off, add_eq, add_off, Hp.put_next, List.getElem?_cons_zero, List.getElem?_cons_succ, List.length_cons, List.length_nil, Nat.zero_add, Nat.add_zero, Nat.reduceAdd, Nat.reduceLeDiff, List.drop_zero, List.take_succ_cons, List.take_zero, and_self, and_true, List.size_toArray, splice_z, overlay_n, overlay_c, List.all_cons, List.all_nil, one_int, one_sl, cells_agg, Bool.and_self, Int.toNat_natCast, kt, hcb, c1, hm3]
    refine okP_in apart_nil ?_
    simp (disch := first | omega | (simp only [Hp.add_next, Hp.put_next]; done) | (simp only [Hp.add_next, Hp.put_next]; omega) | fail) only [↓P_fldA, ↓P_nil, ↓P_load1, ↓P_store, ↓P_add64, blkP_cells, rdP_cells, optP_some, condP_of, put_off, add_off, List.getElem?_cons_zero, List.getElem?_cons_succ, List.length_cons, List.length_nil, Nat.zero_add, Nat.reduceAdd, Nat.reduceLeDiff, and_self, List.size_toArray, splice_z, splice_2, overlay_n, overlay_c, List.all_cons, List.all_nil, one_int, cells_int, Bool.and_self, kt, hcb]
    have hb4 := h.lens it (List.mem_of_getElem? hit)
    have hbs : Bs A S2 (.slice (some ⟨b, 0, none⟩) it.l.length it.l.length) it.l := ⟨hb4.2, .inr ⟨b, none, false, rfl, by have := h.a1; omega, hb2, hb3⟩⟩
    refine fin _ ⟨hil, by omega, ?_, ?_, by simp (disch := first | omega | (simp only [Hp.add_next, Hp.put_next]; done) | (simp only [Hp.add_next, Hp.put_next]; omega) | fail) only [put_off, add_off]; exact kt, ?_, by simp (disch := first | omega | (simp only [Hp.add_next, Hp.put_next]; done) | (simp only [Hp.add_next, Hp.put_next]; omega) | fail) only [put_at], by (first | omega | (simp only [Hp.add_next, Hp.put_next]; done) | (simp only [Hp.add_next, Hp.put_next]; omega)), by (first | omega | (simp only [Hp.add_next, Hp.put_next]; done) | (simp only [Hp.add_next, Hp.put_next]; omega)), by (first | omega | (simp only [Hp.add_next, Hp.put_next]; done) | (simp only [Hp.add_next, Hp.put_next]; omega))⟩
    · refine ((((((hF2.put (.inl (by omega)) _).add _).put (.inl (by omega)) _).put (.inl (by omega)) _).put (.inl (by omega)) _).put (.inl (by omega)) _)
    · rw [← take_snoc hit]
      refine hC.push (by omega) hbs hb4.1 c1 (by (first | omega | (simp only [Hp.add_next, Hp.put_next]; done) | (simp only [Hp.add_next, Hp.put_next]; omega))) (by simp (disch := first | omega | (simp only [Hp.add_next, Hp.put_next]; done) | (simp only [Hp.add_next, Hp.put_next]; omega) | fail) only [put_at, put_off]; rw [hlt]) (by simp (disch := first | omega | (simp only [Hp.add_next, Hp.put_next]; done) | (simp only [Hp.add_next, Hp.put_next]; omega) | fail) only [put_at, put_off]; rw [hlt, Nat.zero_add, Nat.mod_eq_of_lt (by omega)]) fun c x s l hl hc e1 e2 hs => ?_
      have e3 : c ≠ S1.next + 1 + 1 + 1 + 1 := by
        intro e; subst e; rw [k3] at hs; cases hs
      have e4 : c ≠ S2.next := by omega
      simp (disch := first | omega | (simp only [Hp.add_next, Hp.put_next]; done) | (simp only [Hp.add_next, Hp.put_next]; omega) | fail) only [put_off, add_off]
    · have := hF1.at_ hI.nn (by simp) hI.n1
      simp (disch := first | omega | (simp only [Hp.add_next, Hp.put_next]; done) | (simp only [Hp.add_next, Hp.put_next]; omega) | fail) only [put_off, add_off]; exact this
  · rintro v S2 (hI | hI)
    · refine ⟨_, _, _, _, _, by rw [hI.l1, ← hlo], ?_⟩
      have := hI.ln
      have := hI.tn
      simp (disch := first | omega | (simp only [Hp.add_next, Hp.put_next]; done) | (simp only [Hp.add_next, Hp.put_next]; omega) | fail) only [rdP_cells, optP_some, List.getElem?_cons_zero, hI.t1]
      refine ks _ _ _ (by have := hI.fr; have := this.next; refine Fra.put hI.fr (.inl (by omega)) _) (by omega) (Nat.le_refl _) ?_
      have hQ := hI.cq
      rw [List.take_length] at hQ
      refine hQ.keep (by (first | omega | (simp only [Hp.add_next, Hp.put_next]; done) | (simp only [Hp.add_next, Hp.put_next]; omega))) (by rw [put_off (by omega)]) (by rw [put_off (by omega)]) fun b x s l hl hb hs => ?_
      rw [put_off]
      intro e
      subst e
      rw [hI.l1, ← hlo] at hs
      cases hs
    · exact hI.elim
/-- a state in which a queue is laid anew -/
structure DInv (A : Nat) (S : Hp) (q c crb d2 t3 nb l : Nat) (its : List It) (lo : Blk) (i : Nat) (S' : Hp) : Prop where
  i1 : i ≤ its.length
  i2 : i ≤ d2
  fr : Fra [] S S'
  cq : QR A S' c crb d2 0 (its.take i)
  t1 : S'.heap.get t3 = some (.cells none false [.int .i64 d2])
  n1 : S'.heap.get nb = some (.cells none false [ptr q])
  l1 : S'.heap.get l = some lo
  tn : t3 < S'.next
  nn : nb < S'.next
  ln : l < S'.next
/-- Deepen -/
theorem s34 {n : Nat} {S : Hp} {q rb d f : Nat} {its : List It} {t : Int} {Φ : Value → Hp → Prop} (hn : 300 ≤ n) (h : QR A S q rb d f its)
    (kn : ¬ (1 ≤ t ∧ t ≤ 256) → ∀ S', Fra [] S S' → Φ (.tuple ⟨[.int .i64 0, .int .i64 2]⟩) S')
    (ks : ∀ (rb' d' : Nat) S', (d' : Int) = t → 1 ≤ d' → Fra [q] S S' → S.next ≤ rb' → QR A S' q rb' d' 0 (its.take d') → Φ (.tuple ⟨[.int .i64 ((its.length : Nat) - ((its.take d').length : Nat)), .int .i64 0]⟩) S') : wp (callN T (n + 1) (.fn 34) [ptr q, .int .i64 t]) Φ S := by
  refine c34 g34 ?_
  unfold P34
  obtain ⟨n, rfl⟩ : ∃ m, n = m + 1 + 1 := ⟨n - 2, by omega⟩
  have hqb := h.qb
  have hd0 := h.d0
  have hd1 := h.d1
  have hf1 := h.f1
  have hmany := h.many
  have hq1 := h.q1
  have hr1 := h.r1
  simp (disch := first | omega | (simp only [Hp.add_next, Hp.put_next]; done) | (simp only [Hp.add_next, Hp.put_next]; omega) | fail) only [↓P_fldA, ↓P_nil, ↓P_alloc, ↓P_box, ↓P_build, ↓P_load1, ↓P_loadN, ↓P_store, ↓P_callF1, blkP_cells, add_eq, List.length_cons, List.length_nil, Nat.zero_add, Nat.reduceAdd, Nat.reduceLeDiff, List.drop_zero, and_true, fillA, Atom.ev, List.size_toArray, splice_z, cells_agg, cells_int, List.nil_append, List.append_nil]
  have hqb1 := (Fra.add (Fra.refl [] S) (.cells none false [.int .i64 t])).at_ hq1 (by simp) hqb
  refine Wb.wp_mono (s40 hqb1) fun u S1 k => ?_
  obtain ⟨_, rfl, rfl⟩ := k
  have e0 : decide ((d : Int) = 0) = false := decide_eq_false (by omega)
  simp (disch := first | omega | (simp only [Hp.add_next, Hp.put_next]; done) | (simp only [Hp.add_next, Hp.put_next]; omega) | fail) only [ifP_bool, ifB_false, ↓P_eql, rdP_cells, optP_some, add_eq, List.getElem?_cons_zero, e0]
  refine Wb.wp_mono (s87 t) fun v S' k => ?_
  obtain ⟨rfl, rfl⟩ := k
  simp (disch := first | omega | (simp only [Hp.add_next, Hp.put_next]; done) | (simp only [Hp.add_next, Hp.put_next]; omega) | fail) only [↓P_not, ifP_bool]
  refine ifB_in (fun hb => ?_) (fun hb => ?_)
  · refine kn (fun hc => ?_) _ (by repeat' (first | exact Fra.refl _ _ | assumption | apply Fra.add | (refine Fra.put ?_ ?_ _) | exact Or.inl (by (first | omega | (simp only [Hp.add_next, Hp.put_next]; done) | (simp only [Hp.add_next, Hp.put_next]; omega))) | exact Or.inr (by simp)))
    rw [decide_eq_true hc.1, decide_eq_true hc.2] at hb; cases hb
  simp only [Bool.not_eq_false', Bool.and_eq_true, decide_eq_true_eq] at hb
  obtain ⟨d', rfl⟩ : ∃ d' : Nat, (d' : Int) = t := ⟨t.toNat, by omega⟩
  simp (disch := first | omega | (simp only [Hp.add_next, Hp.put_next]; done) | (simp only [Hp.add_next, Hp.put_next]; omega) | fail) only [↓P_mkslice, rdP_cells, optP_some, condP_of, add_eq, Hp.add_next, List.getElem?_cons_zero, List.length_cons, List.length_nil, Nat.zero_add, Nat.reduceAdd, Nat.reduceLeDiff, and_self, and_true, true_and, if_true, setAll, List.set_cons_zero, List.size_toArray, overlay_n, overlay_c, List.all_cons, List.all_nil, one_int, one_sl, cells_sl, Bool.and_self, Int.le_refl, Int.toNat_natCast]
  refine Wb.wp_mono s41 fun v S2 h1 => ?_
  obtain ⟨rfl, rfl⟩ := h1
  rw [R_range]
  intro e' he'
  have hle : Le (((.leaf : Env).set 3 (some (ptr S.next))).set 6 (some (ptr (S.next + 1 + 1)))) e' := ((Le.leaf _).of_set (he' 3 _ (by kernel_rfl))).of_set (he' 6 _ (by kernel_rfl))
  obtain ⟨r1, r2⟩ := rep3 (.slice none 0 0) (.int .u64 0) (.int .u64 0) d'
  simp (disch := first | omega | (simp only [Hp.add_next, Hp.put_next]; done) | (simp only [Hp.add_next, Hp.put_next]; omega) | fail) only [put_off, Hp.put_next, Hp.add_next, List.nil_append, List.cons_append]
  obtain ⟨mkl, hmk⟩ : ∃ mkl : Option Ext → Blk, mkl = fun p => Blk.loop [21] (rA (bB (sR (sL (sR (sR (sR b34))))))) (rB (bB (sR (sL (sR (sR (sR b34))))))) e' p := ⟨_, rfl⟩
  have hlo : Blk.loop [21] (rA (bB (sR (sL (sR (sR (sR b34))))))) (rB (bB (sR (sL (sR (sR (sR b34))))))) e' none = mkl none := by rw [hmk]
  rw [hlo]
  generalize hS0 : (((((S.add _).add _).add _).put _ _).add _).add (mkl none) = S0
  have hF0 : Fra [] S S0 := by subst hS0; repeat' (first | exact Fra.refl _ _ | assumption | apply Fra.add | (refine Fra.put ?_ ?_ _) | exact Or.inl (by (first | omega | (simp only [Hp.add_next, Hp.put_next]; done) | (simp only [Hp.add_next, Hp.put_next]; omega))) | exact Or.inr (by simp))
  have hn0 : S0.next = S.next + 1 + 1 + 1 + 1 + 1 := by subst hS0; rfl
  have g0 : S0.heap.get S.next = some (.cells none false [.int .i64 d']) := by subst hS0; simp (disch := first | omega | (simp only [Hp.add_next, Hp.put_next]; done) | (simp only [Hp.add_next, Hp.put_next]; omega) | fail) only [put_off, add_eq, add_off]
  have g1 : S0.heap.get (S.next + 1) = some (.cells none false (rep d' [.slice none 0 0, .int .u64 0, .int .u64 0])) := by subst hS0; simp (disch := first | omega | (simp only [Hp.add_next, Hp.put_next]; done) | (simp only [Hp.add_next, Hp.put_next]; omega) | fail) only [put_off, add_eq, add_off]
  have g2 : S0.heap.get (S.next + 1 + 1) = some (.cells none false [.slice (some ⟨S.next + 1, 0, none⟩) d' d', .int .i64 0, .int .i64 0]) := by subst hS0; simp (disch := first | omega | (simp only [Hp.add_next, Hp.put_next]; done) | (simp only [Hp.add_next, Hp.put_next]; omega) | fail) only [put_at, add_off]
  have g3 : S0.heap.get (S.next + 1 + 1 + 1) = some (.cells none false [ptr q]) := by subst hS0; simp (disch := first | omega | (simp only [Hp.add_next, Hp.put_next]; done) | (simp only [Hp.add_next, Hp.put_next]; omega) | fail) only [add_eq, add_off]
  have g4 : S0.heap.get (S.next + 1 + 1 + 1 + 1) = some (mkl none) := by subst hS0; simp (disch := first | omega | (simp only [Hp.add_next, Hp.put_next]; done) | (simp only [Hp.add_next, Hp.put_next]; omega) | fail) only [add_eq]
  clear hS0
  have hC0 : QR A S0 (S.next + 1 + 1) (S.next + 1) d' 0 [] := ⟨by rw [g2]; rfl, ⟨_, g1, r1, fun p hp => ⟨none, 0, 0, 0, 0, r2 p hp⟩, fun j i hj => by simp at hj⟩, by simp, by omega, by omega, by omega, by omega, by omega, by omega, by have := h.a1; omega⟩
  have fin : ∀ (i : Nat) (p : Option Ext) (S2 : Hp), DInv A S q (S.next + 1 + 1) (S.next + 1) d' S.next (S.next + 1 + 1 + 1) (S.next + 1 + 1 + 1 + 1) its (mkl p) i S2 → i = its.length ∨ i = d' →
      S2.heap.get q = some (.cells none false [.slice (some ⟨rb, 0, none⟩) d d, .int .i64 f, .int .i64 (its.length : Nat)]) ∧ S2.heap.get (S.next + 1 + 1) = some (.cells none false [.slice (some ⟨S.next + 1, 0, none⟩) d' d', .int .i64 (0 : Nat), .int .i64 (i : Nat)]) ∧
      Φ (.tuple ⟨[.int .i64 ((its.length : Nat) - (i : Nat)), .int .i64 0]⟩) ((S2.put (S.next + 1 + 1 + 1 + 1) none).put q (some (.cells none false [.slice (some ⟨S.next + 1, 0, none⟩) d' d', .int .i64 (0 : Nat), .int .i64 (i : Nat)]))) := by
    intro i p S2 hI hii
    have hln := hI.ln
    have hq2 := (h.fra hI.fr).qb
    have hC := hI.cq
    have hcb := hC.qb
    obtain ⟨cr, c1, c2, c3, c4⟩ := hC.rng
    have hlt : (its.take i).length = i := by rw [List.length_take]; have := hI.i1; omega
    rw [hlt] at hcb
    refine ⟨hq2, hcb, ?_⟩
    have ht : its.take i = its.take d' := by
      rcases hii with rfl | rfl
      · rw [List.take_length, List.take_of_length_le (by have := hI.i2; omega)]
      · rfl
    have hl2 : (its.take d').length = i := by rw [← ht]; exact hlt
    have := ks (S.next + 1) d' ((S2.put (S.next + 1 + 1 + 1 + 1) none).put q (some (.cells none false [.slice (some ⟨S.next + 1, 0, none⟩) d' d', .int .i64 (0 : Nat), .int .i64 (i : Nat)]))) rfl (by omega) ?_ (by omega) ?_
    · rw [hl2] at this
      exact this
    · exact ((hI.fr.mono (by simp)).put (.inl (by omega)) _).put (.inr (by simp)) _
    · rw [← ht]
      refine ⟨by rw [put_at, hlt], ⟨cr, by rw [put_off (by omega), put_off (by omega)]; exact c1, c2, c3, fun j it hj => ?_⟩, hC.many, hC.d0, hC.d1, hC.f1, by (first | omega | (simp only [Hp.add_next, Hp.put_next]; done) | (simp only [Hp.add_next, Hp.put_next]; omega)), by have := hC.r1; (first | omega | (simp only [Hp.add_next, Hp.put_next]; done) | (simp only [Hp.add_next, Hp.put_next]; omega)), by omega, by have := hC.a1; (first | omega | (simp only [Hp.add_next, Hp.put_next]; done) | (simp only [Hp.add_next, Hp.put_next]; omega))⟩
      obtain ⟨v, m1, m2, m3⟩ := c4 j it hj
      refine ⟨v, m1, m2.keep (by (first | omega | (simp only [Hp.add_next, Hp.put_next]; done) | (simp only [Hp.add_next, Hp.put_next]; omega))) fun b x s hb hs => ?_, m3⟩
      have e1 : b ≠ q := Byt.not_q hq2 hs m2.1
      have e2 : b ≠ S.next + 1 + 1 + 1 + 1 := by
        intro e; subst e; rw [hI.l1, hmk] at hs; cases hs
      rw [put_off e1, put_off e2]
  refine Wb.wp_mono (s92 (A := A) (q := q) (rb := rb) (d := d) (f := f) (its := its) (nb := S.next + 1 + 1 + 1) (l := S.next + 1 + 1 + 1 + 1) (by omega)
    (DInv A S q (S.next + 1 + 1) (S.next + 1) d' S.next (S.next + 1 + 1 + 1) (S.next + 1 + 1 + 1 + 1) its (mkl none)) (DInv A S q (S.next + 1 + 1) (S.next + 1) d' S.next (S.next + 1 + 1 + 1) (S.next + 1 + 1 + 1 + 1) its (mkl (some (.exit 1))) d') ?_ ?_ ⟨Nat.zero_le _, Nat.zero_le _, hF0, hC0, g0, g3, g4, by omega, by omega, by omega⟩) ?_
  · intro i S' hI
    exact ⟨h.fra hI.fr, hI.n1, hI.nn⟩
  · intro i it S' b S2 Ψ hit hI hF1 hb1 hb2 hb3 fin stop
    have hil : i < its.length := (List.getElem?_eq_some_iff.1 hit).1
    have hn1 := hF1.next
    have k3 := hF1.at_ hI.ln (by simp) hI.l1
    have kt := hF1.at_ hI.tn (by simp) hI.t1
    have kn1 := hF1.at_ hI.nn (by simp) hI.n1
    have hnext := hI.fr.next
    have hnn := hI.nn
    have htn := hI.tn
    have hln := hI.ln
    have hi2 := hI.i2
    have hF2 := hI.fr.trans' hF1
    have hC := hI.cq.fra hF1
    have hcb := hC.qb
    obtain ⟨cr, c1, c2, c3, c4⟩ := hC.rng
    have hlt : (its.take i).length = i := by rw [List.length_take]; omega
    rw [hlt] at hcb
    rw [hmk] at k3
    refine yieldP (args := [itv (.slice (some ⟨b, 0, none⟩) it.l.length it.l.length) it]) (A := B34_0) (B := B34_0) k3 rfl (zipSet_mono hle) ?_
    rw [q34_0]
    unfold Q34_0 itv
    have hm3 : i * 3 = 3 * i := Nat.mul_comm _ _
    have hb4 := h.lens it (List.mem_of_getElem? hit)
    have hbs : Bs A S2 (.slice (some ⟨b, 0, none⟩) it.l.length it.l.length) it.l := ⟨hb4.2, .inr ⟨b, none, false, rfl, by have := h.a1; omega, hb2, hb3⟩⟩
    simp (disch := first | omega | (simp only [Hp.add_next, Hp.put_next]; done) | (simp only [Hp.add_next, Hp.put_next]; omega) | fail) only [↓P_fldA, ↓P_alloc, ↓P_load1, ↓P_loadN, ↓P_store, ifP_bool, ↓P_eql, blkP_cells, rdP_cells, optP_some, condP_of, put_off, add_eq, add_off, Hp.put_next, List.getElem?_cons_zero, List.getElem?_cons_succ, List.length_cons, List.length_nil, Nat.zero_add, Nat.add_zero, Nat.reduceAdd, Nat.reduceLeDiff, List.drop_zero, and_self, List.size_toArray, splice_z, overlay_n, overlay_c, List.all_cons, List.all_nil, one_int, one_sl, cells_agg, Bool.and_self, kt, hcb]
    refine ifD_in (fun hfull => ?_) (fun hfull => ?_)
    · have hi : i = d' := by omega
      refine stop _ ⟨by omega, Nat.le_refl _, ?_, ?_, by simp (disch := first | omega | (simp only [Hp.add_next, Hp.put_next]; done) | (simp only [Hp.add_next, Hp.put_next]; omega) | fail) only [put_off, add_off]; exact kt, by simp (disch := first | omega | (simp only [Hp.add_next, Hp.put_next]; done) | (simp only [Hp.add_next, Hp.put_next]; omega) | fail) only [put_off, add_off]; exact kn1, by simp (disch := first | omega | (simp only [Hp.add_next, Hp.put_next]; done) | (simp only [Hp.add_next, Hp.put_next]; omega) | fail) only [put_at]; rw [hmk], by (first | omega | (simp only [Hp.add_next, Hp.put_next]; done) | (simp only [Hp.add_next, Hp.put_next]; omega)), by (first | omega | (simp only [Hp.add_next, Hp.put_next]; done) | (simp only [Hp.add_next, Hp.put_next]; omega)), by (first | omega | (simp only [Hp.add_next, Hp.put_next]; done) | (simp only [Hp.add_next, Hp.put_next]; omega))⟩
      · exact ((((hF2.put (.inl (by omega)) _).add _).put (.inl (by omega)) _).put (.inl (by omega)) _)
      · have hC2 : QR A S2 (S.next + 1 + 1) (S.next + 1) d' 0 (its.take d') := by
          have := hC
          rw [hi] at this
          exact this
        refine hC2.keep (by (first | omega | (simp only [Hp.add_next, Hp.put_next]; done) | (simp only [Hp.add_next, Hp.put_next]; omega))) (by simp (disch := first | omega | (simp only [Hp.add_next, Hp.put_next]; done) | (simp only [Hp.add_next, Hp.put_next]; omega) | fail) only [put_off, add_off]) (by simp (disch := first | omega | (simp only [Hp.add_next, Hp.put_next]; done) | (simp only [Hp.add_next, Hp.put_next]; omega) | fail) only [put_off, add_off]) fun c x s l hl hc hs => ?_
        have e3 : c ≠ S.next + 1 + 1 + 1 + 1 := by
          intro e; subst e; rw [k3] at hs; cases hs
        have e4 : c ≠ S2.next := by omega
        simp (disch := first | omega | (simp only [Hp.add_next, Hp.put_next]; done) | (simp only [Hp.add_next, Hp.put_next]; omega) | fail) only [put_off, add_off]
    · simp (disch := first | omega | (simp only [Hp.add_next, Hp.put_next]; done) | (simp only [Hp.add_next, Hp.put_next]; omega) | fail) only [↓P_store, ↓P_ixA, ↓P_add64, blkP_cells, rdP_cells, optP_some, condP_of, put_at, put_off, add_off, List.getElem?_cons_zero, List.getElem?_cons_succ, List.length_cons, List.length_nil, Nat.zero_add, Nat.reduceAdd, Nat.reduceLeDiff, List.take_succ_cons, List.take_zero, and_self, and_true, List.size_toArray, splice_z, splice_2, overlay_n, overlay_c, List.all_cons, List.all_nil, one_int, one_sl, cells_agg, cells_int, Bool.and_self, Int.toNat_natCast, hcb, c1, hm3]
      refine fin _ ⟨hil, by omega, ?_, ?_, by simp (disch := first | omega | (simp only [Hp.add_next, Hp.put_next]; done) | (simp only [Hp.add_next, Hp.put_next]; omega) | fail) only [put_off, add_off]; exact kt, by simp (disch := first | omega | (simp only [Hp.add_next, Hp.put_next]; done) | (simp only [Hp.add_next, Hp.put_next]; omega) | fail) only [put_off, add_off]; exact kn1, by simp (disch := first | omega | (simp only [Hp.add_next, Hp.put_next]; done) | (simp only [Hp.add_next, Hp.put_next]; omega) | fail) only [put_at]; rw [hmk], by (first | omega | (simp only [Hp.add_next, Hp.put_next]; done) | (simp only [Hp.add_next, Hp.put_next]; omega)), by (first | omega | (simp only [Hp.add_next, Hp.put_next]; done) | (simp only [Hp.add_next, Hp.put_next]; omega)), by (first | omega | (simp only [Hp.add_next, Hp.put_next]; done) | (simp only [Hp.add_next, Hp.put_next]; omega))⟩
      · exact ((((((hF2.put (.inl (by omega)) _).add _).put (.inl (by omega)) _).put (.inl (by omega)) _).put (.inl (by omega)) _).put (.inl (by omega)) _)
      · rw [← take_snoc hit]
        refine hC.push (by omega) hbs hb4.1 c1 (by (first | omega | (simp only [Hp.add_next, Hp.put_next]; done) | (simp only [Hp.add_next, Hp.put_next]; omega))) (by simp (disch := first | omega | (simp only [Hp.add_next, Hp.put_next]; done) | (simp only [Hp.add_next, Hp.put_next]; omega) | fail) only [put_at, put_off]; rw [hlt]) (by simp (disch := first | omega | (simp only [Hp.add_next, Hp.put_next]; done) | (simp only [Hp.add_next, Hp.put_next]; omega) | fail) only [put_at, put_off]; rw [hlt, Nat.zero_add, Nat.mod_eq_of_lt (by omega)]) fun c x s l hl hc e1 e2 hs => ?_
        have e3 : c ≠ S.next + 1 + 1 + 1 + 1 := by
          intro e; subst e; rw [k3] at hs; cases hs
        have e4 : c ≠ S2.next := by omega
        simp (disch := first | omega | (simp only [Hp.add_next, Hp.put_next]; done) | (simp only [Hp.add_next, Hp.put_next]; omega) | fail) only [put_off, add_off]
  · rintro v S2 (hI | hI)
    · refine ⟨_, _, _, _, _, by rw [hI.l1, hmk], ?_⟩
      obtain ⟨k1, k2, k3⟩ := fin _ _ _ hI (.inl rfl)
      have hln := hI.ln
      simp (disch := first | omega | (simp only [Hp.add_next, Hp.put_next]; done) | (simp only [Hp.add_next, Hp.put_next]; omega) | fail) only [↓P_sub64, blkP_cells, rdP_cells, optP_some, condP_of, put_off, List.getElem?_cons_zero, List.getElem?_cons_succ, List.length_cons, List.length_nil, Nat.zero_add, Nat.reduceAdd, Nat.reduceLeDiff, List.take_succ_cons, List.take_zero, and_self, overlay_n, overlay_c, List.all_cons, List.all_nil, one_int, one_sl, Bool.and_self, k1, k2]
      exact k3
    · refine ⟨_, _, _, _, _, by rw [hI.l1, hmk], ?_⟩
      obtain ⟨k1, k2, k3⟩ := fin _ _ _ hI (.inr rfl)
      have hln := hI.ln
      dsimp only
      rw [x34_19_0]
      simp (disch := first | omega | (simp only [Hp.add_next, Hp.put_next]; done) | (simp only [Hp.add_next, Hp.put_next]; omega) | fail) only [↓P_fldA, ↓P_nil, ↓P_load1, ↓P_loadN, ↓P_store, ↓P_sub64, blkP_cells, rdP_cells, optP_some, condP_of, put_off, List.getElem?_cons_zero, List.getElem?_cons_succ, List.length_cons, List.length_nil, Nat.zero_add, Nat.reduceAdd, Nat.reduceLeDiff, List.drop_zero, List.take_succ_cons, List.take_zero, and_self, List.size_toArray, splice_z, overlay_n, overlay_c, List.all_cons, List.all_nil, one_int, one_sl, cells_agg, Bool.and_self, k1, k2]
      exact k3
end Go.Proofs.Ytmepokefmpcnnaa.Qu
