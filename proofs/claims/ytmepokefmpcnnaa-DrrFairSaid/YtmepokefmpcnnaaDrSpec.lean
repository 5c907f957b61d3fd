/- What layer 28's functions do. -/
import Derived.Test.YtmepokefmpcnnaaDrText
import Derived.Test.YtmepokefmpcnnaaEngRX
set_option maxRecDepth 100000
set_option linter.unusedVariables false
set_option linter.unusedSimpArgs false
namespace Go.Proofs.Ytmepokefmpcnnaa.Dr
open Go.Wb
abbrev ptr (b : Nat) : Value := .pointer (some ⟨b, 0, none⟩)
abbrev i64 (n : Int) : Value := .int .i64 n
abbrev strs (ks : List ByteArray) : List Value := ks.map .string
abbrev ints (l : List Int) : List Value := l.map (.int .i64)
theorem one_strs (ks : List ByteArray) : (strs ks).all (·.oneCell') = true := by
  rw [List.all_eq_true]; intro v hv; obtain ⟨c, _, rfl⟩ := List.mem_map.1 hv; rfl
theorem one_ints (ks : List Int) : (ints ks).all (·.oneCell') = true := by
  rw [List.all_eq_true]; intro v hv; obtain ⟨c, _, rfl⟩ := List.mem_map.1 hv; rfl
theorem P_shr1 {C : Tgt → List Value → M Value} {S : Hp} {Φ : Value → Hp → Prop} (a : Nat) : wp (X C (.bin .shr (.const (.int .u64 (a : Int))) (.const (.int .u64 1)))) Φ S = Φ (.int .u64 ((a / 2 : Nat) : Int)) S := by
  have e : X C (.bin .shr (.const (.int .u64 (a : Int))) (.const (.int .u64 1))) = M.pure (.int .u64 ((a / 2 : Nat) : Int)) := by
    rw [X_bin]
    have : binV .shr (.int .u64 (a : Int)) (.int .u64 1) = some (.int .u64 ((a / 2 : Nat) : Int)) := by
      simp only [binV]
      have h2 : (Int.fdiv (a : Int) (2 ^ (Min.min (1 : Int).toNat IntKind.u64.bits))) = ((a / 2 : Nat) : Int) := by
        have : (2 : Int) ^ (Min.min (1 : Int).toNat IntKind.u64.bits) = 2 := by decide
        rw [this, Int.fdiv_eq_ediv_of_nonneg _ (by omega)]
        rfl
      rw [h2]
      rfl
    rw [this]
    rfl
  rw [e, wp_pure]
/-- isNaN of a string -/
theorem s150 {n : Nat} {S : Hp} {a : ByteArray} {Φ : Value → Hp → Prop} (k : Φ (.bool false) S) : wp (callN T (n + 1) (.fn 150) [.string a]) Φ S := by
  refine c150 g150 ?_
  unfold P150
  rw [P_sneq, beq_bytes]
  simpa using k
theorem s132 {n : Nat} {S : Hp} {a : ByteArray} {Φ : Value → Hp → Prop} (k : Φ (.bool false) S) : wp (callN T (n + 1) (.fn 132) [.string a]) Φ S := by
  refine c132 g132 ?_
  unfold P132
  rw [P_sneq, beq_bytes]
  simpa using k
/-- cmp.Less -/
theorem s131 {n : Nat} {S : Hp} {a b : ByteArray} {Φ : Value → Hp → Prop} (k : Φ (.bool (slt a b)) S) : wp (callN T (n + 1 + 1) (.fn 131) [.string a, .string b]) Φ S := by
  refine c131 g131 ?_
  unfold P131
  simp (disch := first | omega | (simp only [Hp.add_next, Hp.put_next]; done) | (simp only [Hp.add_next, Hp.put_next]; omega) | fail) only [↓P_callF1, List.nil_append, List.append_nil]
  refine s150 ?_
  simp (disch := first | omega | (simp only [Hp.add_next, Hp.put_next]; done) | (simp only [Hp.add_next, Hp.put_next]; omega) | fail) only [↓P_andQ, andQ_tf, orQ_p, Bool.false_or, ↓P_slss]
  exact k
/-- slices.BinarySearch -/
theorem s96 {n : Nat} {S : Hp} {v : Value} {ks : List ByteArray} {t : ByteArray} {W : List Nat} {Φ : Value → Hp → Prop} (h : Lst S v (strs ks) W) (hr : Rise ks) (hl : ks.length ≤ 1000) (hn : ks.length < n)
    (k : Φ (.tuple ⟨[i64 (lowB ks t), .bool (decide (ks[lowB ks t]? = some t))]⟩) S) : wp (callN T (n + 1 + 1 + 1) (.fn 96) [v, .string t]) Φ S := by
  refine c96 g96 ?_
  unfold P96
  have hlen : (strs ks).length = ks.length := List.length_map ..
  have hL := lowB_le ks t
  have hv := h.len (S' := S)
  rw [hlen] at hv
  rw [hv]
  refine ⟨fun m t0 t1 t4 t5 t6 t7 t8 S' => ∃ i j : Nat, t0 = v ∧ t1 = .string t ∧ t6 = i64 ks.length ∧ t7 = i64 i ∧ t8 = i64 j ∧ i ≤ lowB ks t ∧ lowB ks t ≤ j ∧ j ≤ ks.length ∧ m = j - i ∧ S' = S, ⟨ks.length, by omega, 0, ks.length, rfl, rfl, rfl, rfl, rfl, Nat.zero_le _, hL, Nat.le_refl _, rfl, rfl⟩, ?_⟩
  rintro m S1 t0 t1 t4 t5 t6 t7 t8 ⟨i, j, rfl, rfl, rfl, rfl, rfl, hi, hj, hjl, rfl, rfl⟩
  rw [P_lss, ifP_bool]
  refine ifD_in (fun hlt => ?_) (fun hge => ?_)
  · have hij : i < j := by omega
    obtain ⟨q, hq⟩ : ∃ q, q = (i + j) / 2 := ⟨_, rfl⟩
    have hql : q < ks.length := by omega
    have hk : ks[q]? = some ks[q] := List.getElem?_eq_getElem hql
    have hkv : (strs ks)[q]? = some (.string ks[q]) := by rw [List.getElem?_map, hk]; rfl
    have hadd : ((i : Nat) : Int) + ((j : Nat) : Int) = ((i + j : Nat) : Int) := by omega
    rw [P_add64 (by omega) (by omega), P_convU64 _ (by omega) (by omega), hadd, P_shr1, P_convI64 _ (by omega) (by omega), ← hq, h.get hkv, P_call2]
    refine s131 ?_
    rw [ifP_bool]
    have hiff := lowB_iff hr (t := t) hk
    refine ifB_in (fun hs => ?_) (fun hs => ?_)
    · have hqL := hiff.1 hs
      rw [P_add64 (by omega) (by omega)]
      exact ⟨j - (q + 1), by omega, q + 1, j, rfl, rfl, rfl, by simp, rfl, by omega, hj, hjl, rfl, rfl⟩
    · have hqL : lowB ks t ≤ q := by
        have : ¬ q < lowB ks t := fun c => by rw [hiff.2 c] at hs; cases hs
        omega
      exact ⟨q - i, by omega, i, q, rfl, rfl, rfl, rfl, rfl, hi, hqL, by omega, rfl, rfl⟩
  · obtain rfl : i = lowB ks t := by omega
    rw [P_lss]
    by_cases hin : lowB ks t < ks.length
    · have hk : ks[lowB ks t]? = some ks[lowB ks t] := List.getElem?_eq_getElem hin
      have hkv : (strs ks)[lowB ks t]? = some (.string ks[lowB ks t]) := by rw [List.getElem?_map, hk]; rfl
      have e1 : decide (((lowB ks t : Nat) : Int) < ((ks.length : Nat) : Int)) = true := decide_eq_true (by omega)
      rw [hk] at k
      rw [e1]
      generalize ks[lowB ks t] = y at k hkv
      have hg := @Lst.get (callN T (n + 1 + 1)) S1
      simp (disch := first | omega | (simp only [Hp.add_next, Hp.put_next]; done) | (simp only [Hp.add_next, Hp.put_next]; omega) | fail) only [↓P_andQ, andQ_tt, ↓P_callF1, List.nil_append, List.append_nil]
      rw [h.get hkv, P_seql, beq_bytes]
      simp only [Option.some.injEq] at k
      by_cases hyt : y = t
      · rw [decide_eq_true hyt] at k ⊢
        simp (disch := first | omega | (simp only [Hp.add_next, Hp.put_next]; done) | (simp only [Hp.add_next, Hp.put_next]; omega) | fail) only [↓P_andQ, andQ_ft]
        exact k
      · rw [decide_eq_false hyt] at k ⊢
        simp (disch := first | omega | (simp only [Hp.add_next, Hp.put_next]; done) | (simp only [Hp.add_next, Hp.put_next]; omega) | fail) only [↓P_andQ, andQ_ff]
        rw [h.get hkv]
        refine s132 ?_
        simp (disch := first | omega | (simp only [Hp.add_next, Hp.put_next]; done) | (simp only [Hp.add_next, Hp.put_next]; omega) | fail) only [↓P_andQ, andQ_tf]
        exact k
    · have e1 : decide (((lowB ks t : Nat) : Int) < ((ks.length : Nat) : Int)) = false := decide_eq_false (by omega)
      have hk : ks[lowB ks t]? = none := List.getElem?_eq_none (by omega)
      rw [hk] at k
      have e2 : decide ((none : Option ByteArray) = some t) = false := by simp
      rw [e2] at k
      rw [e1]
      simp (disch := first | omega | (simp only [Hp.add_next, Hp.put_next]; done) | (simp only [Hp.add_next, Hp.put_next]; omega) | fail) only [↓P_andQ, andQ_tf, ↓P_callF1, List.nil_append, List.append_nil]
      exact k
/-- a round: keys, quantums, deficits; which one has the turn; is that begun -/
structure Rd where
  ks : List ByteArray
  qs : List Int
  ds : List Int
  t : Nat
  bg : Bool
structure RdAt (S : Hp) (p : Nat) (r : Rd) (kv qv dv : Value) (bk bq bd : List Nat) : Prop where
  at_ : S.heap.get p = some (.cells none false [kv, qv, dv, i64 r.t, .bool true, .bool r.bg])
  lt : p < S.next
  ks : Lst S kv (strs r.ks) bk
  qs : Lst S qv (ints r.qs) bq
  ds : Lst S dv (ints r.ds) bd
  nod : (p :: (bk ++ bq ++ bd)).Nodup
theorem RdAt.fra {S S' : Hp} {p : Nat} {r : Rd} {kv qv dv : Value} {bk bq bd W : List Nat} (h : RdAt S p r kv qv dv bk bq bd) (hF : Fra W S S') (hd : ∀ b ∈ p :: (bk ++ bq ++ bd), b ∉ W) : RdAt S' p r kv qv dv bk bq bd :=
  ⟨hF.at_ h.lt (hd p (by simp)) h.at_, Nat.lt_of_lt_of_le h.lt hF.next, h.ks.fra hF fun b hb => hd b (by simp [hb]), h.qs.fra hF fun b hb => hd b (by simp [hb]), h.ds.fra hF fun b hb => hd b (by simp [hb]), h.nod⟩
theorem RdAt.lts {S : Hp} {p : Nat} {r : Rd} {kv qv dv : Value} {bk bq bd : List Nat} (h : RdAt S p r kv qv dv bk bq bd) : ∀ b ∈ p :: (bk ++ bq ++ bd), b < S.next := by
  intro b hb
  rcases List.mem_cons.1 hb with rfl | hb
  · exact h.lt
  · rcases List.mem_append.1 hb with hb | hb
    · rcases List.mem_append.1 hb with hb | hb
      · exact h.ks.lt b hb
      · exact h.qs.lt b hb
    · exact h.ds.lt b hb
theorem s95 {n : Nat} {S : Hp} {p : Nat} {kv qv dv : Value} {t : Int} {bg : Bool} {Φ : Value → Hp → Prop} (h : S.heap.get p = some (.cells none false [kv, qv, dv, i64 t, .bool true, .bool bg])) (k : Φ (.bool false) S) : wp (callN T (n + 1) (.fn 95) [ptr p]) Φ S := by
  refine c95 g95 ?_
  unfold P95
  simp (disch := first | omega | (simp only [Hp.add_next, Hp.put_next]; done) | (simp only [Hp.add_next, Hp.put_next]; omega) | fail) only [↓P_not, ↓P_fldA, ↓P_nil, ↓P_load1, ↓P_andQ, orQ_p, ↓P_eqptr1, rdP_cells, optP_some, List.getElem?_cons_zero, List.getElem?_cons_succ, Nat.zero_add, Bool.not_true, Bool.or_self, h]
  exact k
/-- may a quantum be -/
def mayQ (q : Int) : Bool := decide (q ≥ 1600) && decide (q ≤ 65536)
theorem s97 {n : Nat} {S : Hp} {q : Int} {Φ : Value → Hp → Prop} (k : Φ (.bool (mayQ q)) S) : wp (callN T (n + 1) (.fn 97) [i64 q]) Φ S := by
  refine c97 g97 ?_
  unfold P97
  simp (disch := first | omega | (simp only [Hp.add_next, Hp.put_next]; done) | (simp only [Hp.add_next, Hp.put_next]; omega) | fail) only [↓P_andQ, andQ_p, ↓P_leq, ↓P_geq]
  exact k
theorem s51 {n : Nat} {S : Hp} {q : Int} {Φ : Value → Hp → Prop} (k : Φ (.bool (mayQ q)) S) : wp (callN T (n + 1) (.fn 51) [i64 q]) Φ S := by
  refine c51 g51 ?_
  unfold P51
  simp (disch := first | omega | (simp only [Hp.add_next, Hp.put_next]; done) | (simp only [Hp.add_next, Hp.put_next]; omega) | fail) only [↓P_andQ, andQ_p, ↓P_leq, ↓P_geq]
  exact k
/-- the turn goes on -/
theorem s101 {n : Nat} {S : Hp} {p : Nat} {r : Rd} {kv qv dv : Value} {bk bq bd : List Nat} {Φ : Value → Hp → Prop} (h : RdAt S p r kv qv dv bk bq bd) (h0 : 0 < r.ks.length) (hl : r.ks.length ≤ 1000) (ht : r.t < r.ks.length)
    (k : ∀ S', Fra [p] S S' → S'.next = S.next → RdAt S' p { r with t := (r.t + 1) % r.ks.length, bg := false } kv qv dv bk bq bd → Φ (.tuple ⟨[]⟩) S') : wp (callN T (n + 1) (.fn 101) [ptr p]) Φ S := by
  refine c101 g101 ?_
  unfold P101
  have hp := h.at_
  have hlen := h.ks.len (S' := S)
  rw [show (strs r.ks).length = r.ks.length from List.length_map ..] at hlen
  simp (disch := first | omega | (simp only [Hp.add_next, Hp.put_next]; done) | (simp only [Hp.add_next, Hp.put_next]; omega) | fail) only [↓P_fldA, ↓P_nil, ↓P_load1, ↓P_store, ↓P_add64, blkP_cells, rdP_cells, optP_some, condP_of, put_at, List.getElem?_cons_zero, List.getElem?_cons_succ, List.length_cons, List.length_nil, Nat.zero_add, Nat.add_zero, Nat.reduceAdd, and_true, List.size_toArray, List.all_cons, List.all_nil, one_bool, cells_bool, Bool.and_self, hp, hlen]
  have hrem : ∀ Φ : Value → Hp → Prop, wp (X (callN T n) (.bin .rem (.const (i64 ((r.t : Int) + 1))) (.const (i64 r.ks.length)))) Φ S = Φ (i64 (((r.t + 1) % r.ks.length : Nat) : Int)) S := by
    intro Φ
    have : ((r.t : Nat) : Int) + 1 = ((r.t + 1 : Nat) : Int) := by omega
    rw [this, P_remp .i64 (by omega) (by omega)]; rfl
  rw [hrem]
  simp (disch := first | omega | (simp only [Hp.add_next, Hp.put_next]; done) | (simp only [Hp.add_next, Hp.put_next]; omega) | fail) only [blkP_cells, condP_of, List.length_cons, List.length_nil, Nat.zero_add, Nat.reduceAdd, Nat.reduceLeDiff, and_self, List.size_toArray, splice_z, splice_3, overlay_n, overlay_c, List.all_cons, List.all_nil, one_int, cells_int, Bool.and_self, splice_5, hp, apart_nil, okP_true]
  refine k _ (((Fra.refl [p] S).put (.inr (List.mem_singleton.2 rfl)) _).put (.inr (List.mem_singleton.2 rfl)) _) rfl ⟨?_, h.lt, ?_, ?_, ?_, h.nod⟩
  · rw [put_at]
  all_goals (refine Lst.fra (by first | exact h.ks | exact h.qs | exact h.ds) (((Fra.refl [p] S).put (.inr (List.mem_singleton.2 rfl)) _).put (.inr (List.mem_singleton.2 rfl)) _) (fun b hb e => ?_))
  all_goals (have hnd := h.nod; rw [List.nodup_cons] at hnd; obtain rfl := List.mem_singleton.1 e; exact hnd.1 (by simp [hb]))
/-- costs that may be read one by one -/
structure CL (S : Hp) (lv : Value) (l : List (ByteArray × Int)) (W : List Nat) : Prop where
  len : ∀ (C : Tgt → List Value → M Value) (Φ : Value → Hp → Prop) (S' : Hp), wp (X C (.len .slice (.const lv))) Φ S' = Φ (i64 l.length) S'
  el : ∀ (C : Tgt → List Value → M Value) (i : Nat) (k : ByteArray) (n : Int) (S' : Hp), l[i]? = some (k, n) → (∀ b ∈ W, S'.heap.get b = S.heap.get b) → ∀ Φ : Value → Hp → Prop, wp (X C (.ixA 2 (.const lv) (.const (i64 i)))) (fun t S => wp (X C (.load (.agg 2) (.const t))) Φ S) S' = Φ (.agg ⟨[.string k, i64 n]⟩) S'
theorem CL.fra {S S' : Hp} {lv : Value} {l : List (ByteArray × Int)} {W W' : List Nat} (h : CL S lv l W) (hF : Fra W' S S') (hlt : ∀ b ∈ W, b < S.next) (hd : ∀ b ∈ W, b ∉ W') : CL S' lv l W :=
  ⟨h.len, fun C i k n S2 hi hS => h.el C i k n S2 hi fun b hb => (hS b hb).trans (hF.heap b (hlt b hb) (hd b hb))⟩
/-- what a key's first frame costs -/
def headOf (l : List (ByteArray × Int)) (k : ByteArray) : Int × Bool := match l with
  | [] => (0, false)
  | (a, n) :: l => if a = k then (n, decide (n ≠ 0)) else headOf l k
theorem headOf_skip : ∀ {l : List (ByteArray × Int)} {i : Nat} {k : ByteArray}, (∀ j a n, j < i → l[j]? = some (a, n) → a ≠ k) → headOf l k = headOf (l.drop i) k
  | l, 0, k, h => rfl
  | [], i + 1, k, h => rfl
  | (a, n) :: l, i + 1, k, h => by
    have h0 := h 0 a n (by omega) rfl
    rw [headOf, if_neg h0, List.drop_succ_cons]
    exact headOf_skip fun j b m hj hb => h (j + 1) b m (by omega) (by simpa using hb)
theorem s102 {n : Nat} {S : Hp} {hb : Nat} {lv : Value} {l : List (ByteArray × Int)} {W : List Nat} {key : ByteArray} {Φ : Value → Hp → Prop} (hh : S.heap.get hb = some (.cells none false [lv])) (hl : CL S lv l W) (hlt : ∀ b ∈ W, b < S.next) (hlen : l.length ≤ 1000) (hn : l.length < n)
    (k : ∀ S', Fra [] S S' → Φ (.tuple ⟨[i64 (headOf l key).1, .bool (headOf l key).2]⟩) S') : wp (callN T (n + 1) (.fn 102) [.string key, ptr hb]) Φ S := by
  refine c102 g102 ?_
  unfold P102
  have hlv := hl.len
  simp (disch := first | omega | (simp only [Hp.add_next, Hp.put_next]; done) | (simp only [Hp.add_next, Hp.put_next]; omega) | fail) only [↓P_fldA, ↓P_alloc, ↓P_load1, ↓P_store, blkP_cells, rdP_cells, optP_some, put_at, add_eq, List.getElem?_cons_zero, List.length_cons, List.length_nil, Nat.zero_add, Nat.add_zero, Nat.reduceAdd, splice_z, hh, hlv]
  refine ⟨fun m t0 t3 t4 t7 t8 t9 S' => ∃ i : Nat, t0 = .string key ∧ t7 = lv ∧ t8 = i64 l.length ∧ t9 = i64 i ∧ i ≤ l.length ∧ m = l.length - i ∧ (∀ j a n, j < i → l[j]? = some (a, n) → a ≠ key) ∧ Fra [] S S', ⟨l.length, by omega, 0, rfl, rfl, rfl, rfl, Nat.zero_le _, rfl, fun j a n h => by omega, Fra.refl _ _⟩, ?_⟩
  rintro m S1 t0 t3 t4 t7 t8 t9 ⟨i, rfl, rfl, rfl, rfl, hi, rfl, hsk, hF⟩
  have hFn := hF.next
  rw [P_lss, ifP_bool]
  refine ifD_in (fun hlt2 => ?_) (fun hge => ?_)
  · have hil : i < l.length := by omega
    obtain ⟨⟨a, c⟩, hac⟩ : ∃ x, l[i]? = some x := ⟨_, List.getElem?_eq_getElem hil⟩
    rw [hl.el _ i a c S1 hac fun b hb => hF.heap b (hlt b hb) (by simp)]
    have hhead := headOf_skip hsk
    have hdrop : l.drop i = (a, c) :: l.drop (i + 1) := by
      rw [List.drop_eq_getElem_cons hil]
      congr 1
      exact (List.getElem?_eq_some_iff.1 hac).2
    rw [hdrop, headOf] at hhead
    have hq := beq_bytes a key
    simp (disch := first | omega | (simp only [Hp.add_next, Hp.put_next]; done) | (simp only [Hp.add_next, Hp.put_next]; omega) | fail) only [ifP_bool, ↓P_add64, ↓P_seql, optP_some, condP_of, List.getElem?_cons_zero, List.length_cons, List.length_nil, Nat.zero_add, Nat.reduceAdd, Nat.reduceLeDiff, and_self, true_and, List.size_toArray, overlay_n, overlay_c, List.all_cons, List.all_nil, one_int, one_str, cells_agg, Bool.and_self, hq]
    by_cases hak : a = key
    · rw [if_pos hak] at hhead
      rw [hhead] at k
      rw [decide_eq_true hak]
      have hnz : decide (c ≠ 0) = !decide (c = 0) := by simp
      simp (disch := first | omega | (simp only [Hp.add_next, Hp.put_next]; done) | (simp only [Hp.add_next, Hp.put_next]; omega) | fail) only [ifB_true, ↓P_neq, rdP_cells, optP_some, put_at, List.getElem?_cons_zero, List.getElem?_cons_succ]
      rw [← hnz]
      exact k _ (by repeat' (first | exact Fra.refl _ _ | assumption | apply Fra.add | (refine Fra.put ?_ ?_ _) | exact Or.inl (by (first | omega | (simp only [Hp.add_next, Hp.put_next]; done) | (simp only [Hp.add_next, Hp.put_next]; omega))) | exact Or.inr (by simp)))
    · rw [decide_eq_false hak]
      simp (disch := first | omega | (simp only [Hp.add_next, Hp.put_next]; done) | (simp only [Hp.add_next, Hp.put_next]; omega) | fail) only [ifB_false]
      refine ⟨l.length - (i + 1), by omega, i + 1, rfl, by omega, rfl, fun j b m hj hb => ?_, by repeat' (first | exact Fra.refl _ _ | assumption | apply Fra.add | (refine Fra.put ?_ ?_ _) | exact Or.inl (by (first | omega | (simp only [Hp.add_next, Hp.put_next]; done) | (simp only [Hp.add_next, Hp.put_next]; omega))) | exact Or.inr (by simp))⟩
      by_cases hji : j = i
      · subst hji
        rw [hac] at hb
        cases hb
        exact hak
      · exact hsk j b m (by omega) hb
  · have hhead := headOf_skip hsk
    rw [List.drop_eq_nil_of_le (by omega)] at hhead
    rw [hhead] at k
    exact k _ hF
/-- what counts -/
def costOf (l : List (ByteArray × Int)) (k : ByteArray) : Int := if (headOf l k).2 = true ∧ 1 ≤ (headOf l k).1 ∧ (headOf l k).1 ≤ 1600 then (headOf l k).1 else 0
theorem s100 {n : Nat} {S : Hp} {cb hb : Nat} {lv : Value} {l : List (ByteArray × Int)} {W : List Nat} {key : ByteArray} {Φ : Value → Hp → Prop} (hc : S.heap.get cb = some (.cells none false [.func (.func 102) ⟨[]⟩ ⟨[ptr hb]⟩])) (hh : S.heap.get hb = some (.cells none false [lv])) (hl : CL S lv l W) (hlt : ∀ b ∈ W, b < S.next) (hlen : l.length ≤ 1000) (hn : l.length < n)
    (k : ∀ S', Fra [] S S' → Φ (i64 (costOf l key)) S') : wp (callN T (n + 1 + 1) (.fn 100) [.string key, ptr cb]) Φ S := by
  refine c100 g100 ?_
  unfold P100
  simp (disch := first | omega | (simp only [Hp.add_next, Hp.put_next]; done) | (simp only [Hp.add_next, Hp.put_next]; omega) | fail) only [↓P_load1, ↓P_callF1, rdP_cells, optP_some, List.getElem?_cons_zero, List.nil_append, List.cons_append, hc]
  refine s102 hh hl hlt hlen hn fun S' hF => ?_
  have k := k S' hF
  unfold costOf at k
  generalize headOf l key = y at k
  obtain ⟨c, is⟩ := y
  simp (disch := first | omega | (simp only [Hp.add_next, Hp.put_next]; done) | (simp only [Hp.add_next, Hp.put_next]; omega) | fail) only [↓P_not, ↓P_ext, ↓P_andQ, orQ_p, ifP_bool, ↓P_lss, ↓P_gtr, optP_some, List.getElem?_cons_zero, List.getElem?_cons_succ]
  cases is with
  | false =>
    simp (disch := first | omega | (simp only [Hp.add_next, Hp.put_next]; done) | (simp only [Hp.add_next, Hp.put_next]; omega) | fail) only [ifB_true, Bool.not_false, Bool.true_or]
    simpa using k
  | true =>
    by_cases h1 : c < 1
    · have e1 : decide (c < 1) = true := decide_eq_true h1
      simp (disch := first | omega | (simp only [Hp.add_next, Hp.put_next]; done) | (simp only [Hp.add_next, Hp.put_next]; omega) | fail) only [ifB_true, Bool.not_true, Bool.true_or, Bool.or_true, e1]
      rw [if_neg (fun h => by have := h.2.1; simp only at this; omega)] at k
      exact k
    · have e1 : decide (c < 1) = false := decide_eq_false h1
      by_cases h2 : c > 1600
      · have e2 : decide (c > 1600) = true := decide_eq_true h2
        simp (disch := first | omega | (simp only [Hp.add_next, Hp.put_next]; done) | (simp only [Hp.add_next, Hp.put_next]; omega) | fail) only [ifB_true, Bool.not_true, Bool.or_self, Bool.or_true, e1, e2]
        rw [if_neg (fun h => by have := h.2.2; simp only at this; omega)] at k
        exact k
      · have e2 : decide (c > 1600) = false := decide_eq_false h2
        simp (disch := first | omega | (simp only [Hp.add_next, Hp.put_next]; done) | (simp only [Hp.add_next, Hp.put_next]; omega) | fail) only [ifB_false, Bool.not_true, Bool.or_self, e1, e2]
        rw [if_pos ⟨rfl, by simp only; omega, by simp only; omega⟩] at k
        exact k
theorem A_get {C : Tgt → List Value → M Value} {S : Hp} {b n c i : Nat} {e : Option Nat} {s : Bool} {xs : List Value} {x : Value} {Φ : Value → Hp → Prop} (hb : S.heap.get b = some (.cells e s xs)) (hx : xs[i]? = some x) (hi : i < n) : wp (X C (.ixA 1 (.const (.slice (some ⟨b, 0, none⟩) n c)) (.const (i64 i)))) (fun t S => wp (X C (.load .one (.const t))) Φ S) S = Φ x S := by
  simp (disch := first | omega | (simp only [Hp.add_next, Hp.put_next]; done) | (simp only [Hp.add_next, Hp.put_next]; omega) | fail) only [↓P_load1, ↓P_ixA, rdP_cells, optP_some, condP_of, Nat.zero_add, Int.toNat_natCast, hb, hx, Nat.mul_one]
theorem A_set {C : Tgt → List Value → M Value} {S : Hp} {b n c i : Nat} {e : Option Nat} {s : Bool} {xs : List Value} {y : Value} {Φ : Value → Hp → Prop} (hb : S.heap.get b = some (.cells e s xs)) (hi : i < n) (hix : i < xs.length) (hy : y.cells = #[y]) (hy1 : y.oneCell' = true) : wp (X C (.ixA 1 (.const (.slice (some ⟨b, 0, none⟩) n c)) (.const (i64 i)))) (fun t S => wp (X C (.store 1 (.const t) (.const y))) Φ S) S = Φ undef (S.put b (some (.cells e s (xs.set i y)))) := by
  have hii : (0 : Int) ≤ (i : Nat) ∧ ((i : Nat) : Int) < (n : Nat) := ⟨by omega, by omega⟩
  rw [P_ixA, condP_of hii, P_store, hy, condP_of (p := (#[y] : Array Value).size = 1) rfl, hb, blkP_cells, condP_of ⟨by simp; omega, by simp [hy1]⟩]
  have hsp : splice xs (0 + ((i : Nat) : Int).toNat * 1) (#[y] : Array Value).toList = xs.set i y := by
    rw [Nat.zero_add, Nat.mul_one, Int.toNat_natCast, splice_eq _ _ _ (by simp; omega)]
    rfl
  rw [hsp]
theorem Lst_clear {C : Tgt → List Value → M Value} {S : Hp} {v : Value} {xs : List Value} {W : List Nat} {y : Value} {Φ : Value → Hp → Prop} (h : Lst S v xs W) (hy : y.oneCell' = true) (k : ∀ S', Fra W S S' → S'.next = S.next → Lst S' v (xs.map fun _ => y) W → Φ undef S') : wp (X C (.clear [y] (.const v))) Φ S := by
  rcases h with ⟨rfl, rfl, rfl⟩ | ⟨b, e, zs, rfl, rfl, hb, hbl, he⟩
  · rw [P_clear0]; exact k S (Fra.refl _ _) rfl (Lst.nil _)
  · have hr : ∀ n, rep n [y] = List.replicate n y := by
      intro n; induction n with
      | zero => rfl
      | succ n ih => rw [rep, ih]; rfl
    rw [P_clear, hr, wp_stCells, hb, blkP_cells]
    refine ⟨⟨by simp, by rw [List.all_eq_true]; intro x hx; rw [List.eq_of_mem_replicate hx]; exact hy⟩, ?_⟩
    have hsp : splice (xs ++ zs) 0 (List.replicate xs.length y) = xs.map (fun _ => y) ++ zs := by
      have := splice_mid [] xs (List.replicate xs.length y) zs (by simp)
      simp only [List.nil_append, List.length_nil] at this
      rw [this, List.map_const']
    rw [hsp]
    refine k _ ((Fra.refl _ _).put (.inr (by simp)) _) rfl (.inr ⟨b, e, zs, rfl, by rw [List.length_map], put_at _ _ _, hbl, ?_⟩)
    rcases he with h | ⟨h1, rfl, h3⟩
    · exact .inl h
    · exact .inr ⟨h1, rfl, h3⟩
theorem RdAt.setd {C : Tgt → List Value → M Value} {S : Hp} {p : Nat} {r : Rd} {kv qv dv : Value} {bk bq bd : List Nat} {i : Nat} {y : Int} {Φ : Value → Hp → Prop} (h : RdAt S p r kv qv dv bk bq bd) (hi : i < r.ds.length)
    (k : ∀ S', Fra bd S S' → S'.next = S.next → RdAt S' p { r with ds := r.ds.set i y } kv qv dv bk bq bd → Φ undef S') : wp (X C (.ixA 1 (.const dv) (.const (i64 i)))) (fun t S => wp (X C (.store 1 (.const t) (.const (i64 y)))) Φ S) S := by
  refine h.ds.set (by simpa using hi) rfl rfl fun S' hF hn hL => ?_
  have hnd := h.nod
  have hfra : ∀ b ∈ p :: (bk ++ bq), b ∉ bd := by
    intro b hb1 hb2
    have h1 := List.nodup_append.1 (show ((p :: (bk ++ bq)) ++ bd).Nodup by simpa using hnd)
    exact h1.2.2 b hb1 b hb2 rfl
  have hset : (ints r.ds).set i (i64 y) = ints (r.ds.set i y) := by simp [ints, List.map_set]
  rw [hset] at hL
  exact k S' hF hn ⟨hF.at_ h.lt (hfra p (by simp)) h.at_, by have := h.lt; omega, h.ks.fra hF fun b hb => hfra b (by simp [hb]), h.qs.fra hF fun b hb => hfra b (by simp [hb]), hL, hnd⟩
theorem RdAt.setf {S : Hp} {p : Nat} {r : Rd} {kv qv dv : Value} {bk bq bd : List Nat} {t : Nat} {bg : Bool} (h : RdAt S p r kv qv dv bk bq bd) : RdAt (S.put p (some (.cells none false [kv, qv, dv, i64 t, .bool true, .bool bg]))) p { r with t := t, bg := bg } kv qv dv bk bq bd := by
  have hnd := h.nod
  have hF : Fra [p] S (S.put p (some (.cells none false [kv, qv, dv, i64 t, .bool true, .bool bg]))) := (Fra.refl _ _).put (.inr (by simp)) _
  have hfra : ∀ b ∈ bk ++ bq ++ bd, b ∉ [p] := by
    intro b hb1 hb2
    rw [List.mem_singleton] at hb2
    subst hb2
    exact (List.nodup_cons.1 hnd).1 hb1
  exact ⟨put_at _ _ _, h.lt, h.ks.fra hF fun b hb => hfra b (by simp [hb]), h.qs.fra hF fun b hb => hfra b (by simp [hb]), h.ds.fra hF fun b hb => hfra b (by simp [hb]), hnd⟩
/-- the turns, till one is served -/
def serveGo (n : Nat) (cs qs : List Int) : Nat → List Int → Nat → Bool → Option (List Int × Nat)
  | 0, _, _, _ => none
  | f + 1, ds, t, bg => match cs[t]?, qs[t]?, ds[t]? with
    | some c, some q, some d => if 0 ≤ d ∧ d ≤ 1000000 ∧ 0 ≤ q ∧ q ≤ 1000000 then
        if c = 0 then serveGo n cs qs f (ds.set t 0) ((t + 1) % n) false
        else if c ≤ (if bg then d else d + q) then some (ds.set t ((if bg then d else d + q) - c), t)
        else serveGo n cs qs f (ds.set t (if bg then d else d + q)) ((t + 1) % n) false
      else none
    | _, _, _ => none
def serve (F : Nat) (l : List (ByteArray × Int)) (r : Rd) : Option (Rd × Option Nat) :=
  if r.ks.all (fun k => decide (costOf l k = 0)) = true then some ({ r with ds := r.ds.map fun _ => 0 }, none)
  else match serveGo r.ks.length (r.ks.map (costOf l)) r.qs F r.ds r.t r.bg with
    | some (ds, i) => some ({ r with ds := ds, t := i, bg := true }, some i)
    | none => none
def keyOf (ks : List ByteArray) : Option Nat → ByteArray
  | none => ⟨⟨[]⟩⟩
  | some i => ks.getD i ⟨⟨[]⟩⟩
theorem costOf_nn (l : List (ByteArray × Int)) (k : ByteArray) : 0 ≤ costOf l k ∧ costOf l k ≤ 1600 := by
  unfold costOf
  split
  · omega
  · omega
theorem set_cost (f : ByteArray → Int) (ks : List ByteArray) (i : Nat) (k : ByteArray) (hk : ks[i]? = some k) : (ints ((ks.take i).map f) ++ List.replicate (ks.length - i) (i64 0)).set i (i64 (f k)) = ints ((ks.take (i + 1)).map f) ++ List.replicate (ks.length - (i + 1)) (i64 0) := by
  have hi := (List.getElem?_eq_some_iff.1 hk).1
  have hl : (ints ((ks.take i).map f)).length = i := by simp; omega
  have hrep : List.replicate (ks.length - i) (i64 0) = i64 0 :: List.replicate (ks.length - (i + 1)) (i64 0) := by
    rw [show ks.length - i = (ks.length - (i + 1)) + 1 by omega]; rfl
  have htake : ks.take (i + 1) = ks.take i ++ [k] := by
    rw [List.take_add_one, hk]; rfl
  rw [List.set_append_right _ _ (by omega), hl, hrep, Nat.sub_self, List.set_cons_zero, htake]
  simp
/-- Serve -/
theorem s54 {n F : Nat} {S : Hp} {p : Nat} {r r' : Rd} {o : Option Nat} {kv qv dv : Value} {bk bq bd : List Nat} {hb : Nat} {lv : Value} {l : List (ByteArray × Int)} {W : List Nat} {Φ : Value → Hp → Prop} (hR : RdAt S p r kv qv dv bk bq bd)
    (hh : S.heap.get hb = some (.cells none false [lv])) (hhb : hb < S.next) (hl : CL S lv l W) (hlt : ∀ b ∈ W, b < S.next) (hlen : l.length ≤ 1000) (hq : r.qs.length = r.ks.length) (hd : r.ds.length = r.ks.length) (hk : r.ks.length ≤ 1000) (ht : r.ks ≠ [] → r.t < r.ks.length)
    (hn : l.length + r.ks.length + F < n) (hsv : serve F l r = some (r', o))
    (k : ∀ S', Fra (p :: bd) S S' → RdAt S' p r' kv qv dv bk bq bd → Φ (.tuple ⟨[.string (keyOf r.ks o), .bool o.isSome]⟩) S') : wp (callN T (n + 1 + 1 + 1) (.fn 54) [ptr p, .func (.func 102) ⟨[]⟩ ⟨[ptr hb]⟩]) Φ S := by
  refine c54 g54 ?_
  unfold P54
  have hp := hR.at_
  have hpl := hR.lt
  have hklen := hR.ks.len (S' := S.add (.cells none false [.func (.func 102) ⟨[]⟩ ⟨[ptr hb]⟩]))
  rw [show (strs r.ks).length = r.ks.length from List.length_map ..] at hklen
  have hp1 : (S.add (.cells none false [.func (.func 102) ⟨[]⟩ ⟨[ptr hb]⟩])).heap.get p = some (.cells none false [kv, qv, dv, i64 r.t, .bool true, .bool r.bg]) := by rw [add_off (by omega)]; exact hp
  rw [P_box, P_call1]
  refine s95 hp1 ?_
  simp (maxSteps := 100000000) (disch := first | omega | (simp only [Hp.add_next, Hp.put_next]; done) | (simp only [Hp.add_next, Hp.put_next]; omega) | fail) only [↓P_fldA, ↓P_nil, ↓P_load1, ↓P_mkslice, ↓P_andQ, andQ_ff, ifP_bool, ifB_false, ↓P_eqfn1, ↓P_mkfn1, ↓P_callF1, rdP_cells, optP_some, condP_of, add_eq, add_off, Hp.add_next, List.getElem?_cons_zero, List.length_cons, List.length_nil, Nat.zero_add, Nat.add_zero, and_true, true_and, cells_fn, List.nil_append, List.append_nil, Int.le_refl, Int.toNat_natCast, hp1, hklen]
  have hklen2 := hR.ks.len (S' := (S.add (.cells none false [.func (.func 102) ⟨[]⟩ ⟨[ptr hb]⟩])).add (.cells none false (rep r.ks.length [i64 0])))
  rw [show (strs r.ks).length = r.ks.length from List.length_map ..] at hklen2
  have hrp : ∀ m, rep m [i64 0] = List.replicate m (i64 0) := by
    intro m; induction m with
    | zero => rfl
    | succ m ih => rw [rep, ih]; rfl
  try rw [Int.toNat_natCast]
  rw [hklen2]
  obtain ⟨qb, hqb⟩ : ∃ qb, qb = S.next + 1 := ⟨_, rfl⟩
  have hcbl := hhb
  have hlts := hR.lts
  refine ⟨fun m t0 t4 t5 t6 t7 t8 t28 t29 t30 S' => ∃ i : Nat, t0 = ptr p ∧ t6 = .func (.func 100) ⟨[]⟩ ⟨[ptr S.next]⟩ ∧ t7 = .slice (some ⟨qb, 0, none⟩) r.ks.length r.ks.length ∧ t8 = .bool ((r.ks.take i).any fun k => decide (costOf l k > 0)) ∧ kv = t28 ∧ t29 = i64 r.ks.length ∧ t30 = i64 i ∧
    i ≤ r.ks.length ∧ m = r.ks.length - i ∧ Fra [] S S' ∧ qb < S'.next ∧ S'.heap.get S.next = some (.cells none false [.func (.func 102) ⟨[]⟩ ⟨[ptr hb]⟩]) ∧ S'.heap.get qb = some (.cells none false (ints ((r.ks.take i).map (costOf l)) ++ List.replicate (r.ks.length - i) (i64 0))),
    ⟨r.ks.length, by omega, 0, rfl, rfl, by rw [hqb], rfl, rfl, rfl, rfl, Nat.zero_le _, rfl, ((Fra.refl _ _).add _).add _, by (first | omega | (simp only [Hp.add_next, Hp.put_next]; done) | (simp only [Hp.add_next, Hp.put_next]; omega)), by rw [add_off (by (first | omega | (simp only [Hp.add_next, Hp.put_next]; done) | (simp only [Hp.add_next, Hp.put_next]; omega)))]; exact add_at _ _, by rw [hqb]; exact (add_eq (S := S.add (.cells none false [.func (.func 102) ⟨[]⟩ ⟨[ptr hb]⟩])) rfl _).trans (by rw [hrp]; rfl)⟩, ?_⟩
  rintro m S1 t0 t4 t5 t6 t7 t8 t28 t29 t30 ⟨i, rfl, rfl, rfl, rfl, rfl, rfl, rfl, hi, rfl, hF, hqn, hgc, hgq⟩
  have hFn := hF.next
  rw [P_lss, ifP_bool]
  refine ifD_in (fun hlt2 => ?_) (fun hge => ?_)
  · have hil : i < r.ks.length := by omega
    obtain ⟨key, hkey⟩ : ∃ x, r.ks[i]? = some x := ⟨_, List.getElem?_eq_getElem hil⟩
    have hkv : (strs r.ks)[i]? = some (.string key) := by rw [List.getElem?_map, hkey]; rfl
    have hR1 := hR.fra hF (by simp)
    rw [hR1.ks.get hkv, P_callF1]
    have hh1 : S1.heap.get hb = _ := hF.at_ hhb (by simp) hh
    have hl1 := hl.fra hF hlt (by simp)
    refine s100 hgc hh1 hl1 (fun b hb => Nat.lt_of_lt_of_le (hlt b hb) hFn) hlen (by omega) fun S2 hF2 => ?_
    have hF2n := hF2.next
    have hgc2 := hF2.at_ (by omega) (by simp) hgc
    have hgq2 := hF2.at_ hqn (by simp) hgq
    have hxl : (ints ((r.ks.take i).map (costOf l)) ++ List.replicate (r.ks.length - i) (i64 0)).length = r.ks.length := by simp; omega
    rw [A_set hgq2 hil (by rw [hxl]; exact hil) rfl rfl, set_cost _ _ _ _ hkey]
    have hxi : (ints ((r.ks.take (i + 1)).map (costOf l)) ++ List.replicate (r.ks.length - (i + 1)) (i64 0))[i]? = some (i64 (costOf l key)) := by
      rw [List.getElem?_append_left (by simp; omega), List.getElem?_map, List.getElem?_map, List.getElem?_take, if_pos (by omega), hkey]; rfl
    have hgq3 := put_at S2 qb (some (.cells none false (ints ((r.ks.take (i + 1)).map (costOf l)) ++ List.replicate (r.ks.length - (i + 1)) (i64 0))))
    have hany : (r.ks.take (i + 1)).any (fun k => decide (costOf l k > 0)) = ((r.ks.take i).any (fun k => decide (costOf l k > 0)) || decide (costOf l key > 0)) := by
      rw [List.take_add_one, hkey]; simp
    cases hb8 : (r.ks.take i).any (fun k => decide (costOf l k > 0)) with
    | true =>
      simp (disch := first | omega | (simp only [Hp.add_next, Hp.put_next]; done) | (simp only [Hp.add_next, Hp.put_next]; omega) | fail) only [↓P_load1, ↓P_ixA, ↓P_andQ, andQ_ft, ↓P_add64, rdP_cells, condP_of, put_at, put_off, Hp.put_next, Nat.zero_add, true_and, Int.toNat_natCast]
      exact ⟨_, by omega, i + 1, by rw [hany, hb8]; rfl, by simp, by omega, rfl, (hF.trans' hF2).put (.inl (by omega)) _, by (first | omega | (simp only [Hp.add_next, Hp.put_next]; done) | (simp only [Hp.add_next, Hp.put_next]; omega)), hgc2, rfl⟩
    | false =>
      simp (disch := first | omega | (simp only [Hp.add_next, Hp.put_next]; done) | (simp only [Hp.add_next, Hp.put_next]; omega) | fail) only [↓P_load1, ↓P_ixA, ↓P_andQ, orQ_p, ↓P_gtr, ↓P_add64, rdP_cells, optP_some, condP_of, put_at, put_off, Hp.put_next, Nat.zero_add, true_and, Bool.false_or, Int.toNat_natCast, Nat.mul_one, hxi]
      exact ⟨_, by omega, i + 1, by rw [hany, hb8]; rfl, by simp, by omega, rfl, (hF.trans' hF2).put (.inl (by omega)) _, by (first | omega | (simp only [Hp.add_next, Hp.put_next]; done) | (simp only [Hp.add_next, Hp.put_next]; omega)), hgc2, rfl⟩
  · have hil : i = r.ks.length := by omega
    subst hil
    rw [List.take_length, Nat.sub_self] at hgq
    simp only [List.replicate_zero, List.append_nil] at hgq
    rw [List.take_length]
    have hR1 := hR.fra hF (by simp)
    have hall : r.ks.all (fun k => decide (costOf l k = 0)) = !r.ks.any (fun k => decide (costOf l k > 0)) := by
      rw [Bool.eq_iff_iff, List.all_eq_true, Bool.not_eq_true', ← Bool.not_eq_true, List.any_eq_true]
      constructor
      · rintro h ⟨x, hx, hc⟩
        have := h x hx
        simp only [decide_eq_true_eq] at this hc
        omega
      · intro h x hx
        rw [decide_eq_true_eq]
        have h1 := costOf_nn l x
        have : ¬ costOf l x > 0 := fun c => h ⟨x, hx, decide_eq_true c⟩
        omega
    unfold serve at hsv
    rw [hall] at hsv
    have hp2 := hR1.at_
    cases hb8 : r.ks.any (fun k => decide (costOf l k > 0)) with
    | false =>
      rw [hb8, if_pos (by rfl)] at hsv
      cases hsv
      simp (disch := first | omega | (simp only [Hp.add_next, Hp.put_next]; done) | (simp only [Hp.add_next, Hp.put_next]; omega) | fail) only [↓P_not, ↓P_fldA, ↓P_nil, ↓P_load1, ifP_bool, ifB_true, rdP_cells, optP_some, List.getElem?_cons_zero, List.getElem?_cons_succ, Nat.zero_add, Bool.not_false, hp2]
      refine Lst_clear hR1.ds rfl fun S2 hF2 hn2 hL2 => ?_
      have hd2 : (ints r.ds).map (fun _ => i64 0) = ints (r.ds.map fun _ => 0) := by simp
      rw [hd2] at hL2
      have hnd := hR.nod
      have hfra : ∀ b ∈ p :: (bk ++ bq), b ∉ bd := by
        intro b hb1 hb2
        have h1 := List.nodup_append.1 (show ((p :: (bk ++ bq)) ++ bd).Nodup by simpa using hnd)
        exact h1.2.2 b hb1 b hb2 rfl
      refine k S2 ((hF.mono (W' := p :: bd) (by simp)).trans' (hF2.mono fun b hb => .inr (by simp [hb]))) ⟨hF2.at_ hR1.lt (hfra p (by simp)) hp2, by have := hR1.lt; omega, hR1.ks.fra hF2 fun b hb => hfra b (by simp [hb]), hR1.qs.fra hF2 fun b hb => hfra b (by simp [hb]), hL2, hnd⟩
    | true =>
      rw [hb8, if_neg (by simp)] at hsv
      rw [P_not, ifP_bool]
      have hnb : (!true) = false := rfl
      rw [hnb, ifB_false]
      cases hgo : serveGo r.ks.length (r.ks.map (costOf l)) r.qs F r.ds r.t r.bg with
      | none => rw [hgo] at hsv; cases hsv
      | some res =>
      obtain ⟨dsF, iF⟩ := res
      rw [hgo] at hsv
      cases hsv
      have hne : r.ks ≠ [] := by
        intro e; rw [e] at hb8; cases hb8
      have hnd := hR.nod
      refine ⟨fun m t0 t4 t5 t7 S' => ∃ (ds : List Int) (t : Nat) (bg : Bool), t0 = ptr p ∧ t7 = .slice (some ⟨qb, 0, none⟩) r.ks.length r.ks.length ∧ RdAt S' p { r with ds := ds, t := t, bg := bg } kv qv dv bk bq bd ∧ ds.length = r.ks.length ∧ t < r.ks.length ∧
        serveGo r.ks.length (r.ks.map (costOf l)) r.qs m ds t bg = some (dsF, iF) ∧ Fra (p :: bd) S S' ∧ qb < S'.next ∧ S'.heap.get qb = some (.cells none false (ints (r.ks.map (costOf l)))),
        ⟨F, by omega, r.ds, r.t, r.bg, rfl, rfl, hR1, hd, ht hne, hgo, hF.mono (by simp), hqn, hgq⟩, ?_⟩
      clear hp hp1 hp2 hgo
      rintro m S2 t0 t4' t5' t7 ⟨ds, t, bg, rfl, rfl, hR2, hdl, htl, hgo, hF2, hqn2, hgq2⟩
      have hp := hR2.at_
      cases m with
      | zero => cases hgo
      | succ m =>
      unfold serveGo at hgo
      obtain ⟨key, hkey⟩ : ∃ x, r.ks[t]? = some x := ⟨_, List.getElem?_eq_getElem htl⟩
      obtain ⟨q, hqe⟩ : ∃ x, r.qs[t]? = some x := ⟨_, List.getElem?_eq_getElem (by omega)⟩
      obtain ⟨d, hde⟩ : ∃ x, ds[t]? = some x := ⟨_, List.getElem?_eq_getElem (by omega)⟩
      have hce : (r.ks.map (costOf l))[t]? = some (costOf l key) := by rw [List.getElem?_map, hkey]; rfl
      have hcv : (ints (r.ks.map (costOf l)))[t]? = some (i64 (costOf l key)) := by rw [List.getElem?_map, hce]; rfl
      have hqv : (ints r.qs)[t]? = some (i64 q) := by rw [List.getElem?_map, hqe]; rfl
      have hdv : (ints ds)[t]? = some (i64 d) := by rw [List.getElem?_map, hde]; rfl
      have hkv : (strs r.ks)[t]? = some (.string key) := by rw [List.getElem?_map, hkey]; rfl
      rw [hce, hqe, hde] at hgo
      simp only at hgo
      split at hgo
      case isFalse => cases hgo
      rename_i hbnd
      obtain ⟨hd0, hd1, hq0, hq1⟩ := hbnd
      have hcb2 := costOf_nn l key
      have hqlt : ∀ S3, Fra (p :: bd) S2 S3 → qb < S3.next := fun S3 hF3 => Nat.lt_of_lt_of_le hqn2 hF3.next
      have hqd : qb ∉ p :: bd := by
        intro hc
        have := hlts qb (by rcases List.mem_cons.1 hc with h | h; exact List.mem_cons.2 (.inl h); exact List.mem_cons_of_mem _ (by simp [h]))
        omega
      have hbd : ∀ {S3 : Hp}, Fra bd S2 S3 → Fra (p :: bd) S2 S3 := fun h => h.mono fun b hb => .inr (List.mem_cons_of_mem _ hb)
      -- the turn goes on
      have again : ∀ (S3 : Hp) (ds3 : List Int) (bg3 : Bool), RdAt S3 p { r with ds := ds3, t := t, bg := bg3 } kv qv dv bk bq bd → ds3.length = r.ks.length → Fra (p :: bd) S2 S3 → serveGo r.ks.length (r.ks.map (costOf l)) r.qs m ds3 ((t + 1) % r.ks.length) false = some (dsF, iF) →
          ∀ Ψ : Value → Hp → Prop, (∀ S4, (∃ (ds : List Int) (t : Nat) (bg : Bool), RdAt S4 p { r with ds := ds, t := t, bg := bg } kv qv dv bk bq bd ∧ ds.length = r.ks.length ∧ t < r.ks.length ∧
            serveGo r.ks.length (r.ks.map (costOf l)) r.qs m ds t bg = some (dsF, iF) ∧ Fra (p :: bd) S S4 ∧ qb < S4.next ∧ S4.heap.get qb = some (.cells none false (ints (r.ks.map (costOf l))))) → Ψ (.tuple ⟨[]⟩) S4) → wp (callN T (n + 1 + 1) (.fn 101) [ptr p]) Ψ S3 := by
        intro S3 ds3 bg3 hR3 hl3 hF3 hg3 Ψ hΨ
        refine s101 hR3 (by show 0 < r.ks.length; omega) hk htl fun S4 hF4 hn4 hR4 => hΨ S4 ⟨ds3, (t + 1) % r.ks.length, false, hR4, hl3, Nat.mod_lt _ (by omega), hg3, (hF2.trans' hF3).trans' (hF4.mono (by simp)), ?_, ?_⟩
        · have := hqlt S3 hF3; omega
        · exact hF4.at_ (hqlt S3 hF3) (fun hc => hqd (by simp at hc; simp [hc])) (hF3.at_ hqn2 hqd hgq2)
      by_cases hc0 : costOf l key = 0
      · rw [if_pos hc0] at hgo
        have e0 : decide (costOf l key = 0) = true := decide_eq_true hc0
        simp (maxSteps := 100000000) (disch := first | omega | (simp only [Hp.add_next, Hp.put_next]; done) | (simp only [Hp.add_next, Hp.put_next]; omega) | fail) only [↓P_fldA, ↓P_nil, ↓P_load1, ↓P_store, ↓P_ixA, ifP_bool, ifB_true, ↓P_eql, rdP_cells, optP_some, condP_of, List.getElem?_cons_zero, List.getElem?_cons_succ, List.length_cons, List.length_nil, Nat.zero_add, Nat.add_zero, Nat.reduceAdd, and_true, true_and, List.size_toArray, List.all_cons, List.all_nil, one_bool, cells_bool, Bool.and_self, Int.toNat_natCast, hp, Nat.mul_one, hgq2, hcv, e0]
        refine hR2.setd (by show t < ds.length; omega) fun S3 hF3 hn3 hR3 => ?_
        refine again S3 (ds.set t 0) bg hR3 (by rw [List.length_set]; exact hdl) (hbd hF3) hgo _ fun S4 hS4 => ?_
        exact ⟨m, by omega, hS4⟩
      · rw [if_neg hc0] at hgo
        have e0 : decide (costOf l key = 0) = false := decide_eq_false hc0
        simp (maxSteps := 100000000) (disch := first | omega | (simp only [Hp.add_next, Hp.put_next]; done) | (simp only [Hp.add_next, Hp.put_next]; omega) | fail) only [↓P_not, ↓P_fldA, ↓P_nil, ↓P_load1, ↓P_store, ↓P_ixA, ifP_bool, ifB_false, ↓P_eql, rdP_cells, optP_some, condP_of, List.getElem?_cons_zero, List.getElem?_cons_succ, List.length_cons, List.length_nil, Nat.zero_add, Nat.add_zero, Nat.reduceAdd, and_true, true_and, List.size_toArray, List.all_cons, List.all_nil, one_bool, cells_bool, Bool.and_self, Int.toNat_natCast, hp, Nat.mul_one, hgq2, hcv, e0]
        refine jn_intro fun J hJ => ?_
        have main : ∀ (S3 : Hp) (ds3 : List Int) (d3 : Int), RdAt S3 p { r with ds := ds3, t := t, bg := true } kv qv dv bk bq bd → ds3.length = r.ks.length → Fra (p :: bd) S2 S3 → ds3[t]? = some d3 → 0 ≤ d3 ∧ d3 ≤ 2000000 → ds.set t (d3 - costOf l key) = ds3.set t (d3 - costOf l key) → ds.set t d3 = ds3 →
            (if costOf l key ≤ d3 then some (ds.set t (d3 - costOf l key), t) else serveGo r.ks.length (r.ks.map (costOf l)) r.qs m (ds.set t d3) ((t + 1) % r.ks.length) false) = some (dsF, iF) → J S3 := by
          intro S3 ds3 d3 hR3 hl3 hF3 hd3 hdb hse hse2 hg3
          subst hJ
          have hp3 := hR3.at_
          have hgq3 := hF3.at_ hqn2 hqd hgq2
          have hdv3 : (ints ds3)[t]? = some (i64 d3) := by rw [List.getElem?_map, hd3]; rfl
          simp (maxSteps := 100000000) (disch := first | omega | (simp only [Hp.add_next, Hp.put_next]; done) | (simp only [Hp.add_next, Hp.put_next]; omega) | fail) only [rdP_cells, optP_some, List.getElem?_cons_zero, List.getElem?_cons_succ, hp3, hgq3, hcv]
          rw [hR3.ds.get hdv3, P_leq, ifP_bool]
          refine ifD_in (fun hle => ?_) (fun hle => ?_)
          · rw [if_pos hle] at hg3
            injection hg3 with hg3
            injection hg3 with hg3 hg4
            subst hg3
            subst hg4
            simp (disch := first | omega | (simp only [Hp.add_next, Hp.put_next]; done) | (simp only [Hp.add_next, Hp.put_next]; omega) | fail) only [rdP_cells, optP_some, List.getElem?_cons_zero, List.getElem?_cons_succ, hp3]
            rw [hR3.ds.get hdv3]
            simp (disch := first | omega | (simp only [Hp.add_next, Hp.put_next]; done) | (simp only [Hp.add_next, Hp.put_next]; omega) | fail) only [↓P_sub64, rdP_cells, optP_some, hgq3, hcv]
            refine hR3.setd (by show t < ds3.length; omega) fun S4 hF4 hn4 hR4 => ?_
            have hp4 := hR4.at_
            simp (disch := first | omega | (simp only [Hp.add_next, Hp.put_next]; done) | (simp only [Hp.add_next, Hp.put_next]; omega) | fail) only [rdP_cells, optP_some, List.getElem?_cons_zero, hp4, apart_nil, okP_true]
            rw [hR4.ks.get hkv]
            rw [hse] at k
            have hkk : keyOf r.ks (some t) = key := by
              show r.ks.getD t _ = key
              rw [List.getD_eq_getElem?_getD, hkey]; rfl
            rw [hkk] at k
            exact k S4 ((hF2.trans' hF3).trans' (hF4.mono fun b hb => .inr (List.mem_cons_of_mem _ hb))) hR4
          · rw [if_neg hle, hse2] at hg3
            refine again S3 ds3 true hR3 hl3 hF3 hg3 _ fun S4 hS4 => ?_
            exact ⟨m, by omega, hS4⟩
        cases bg with
        | true =>
          simp (disch := first | omega | (simp only [Hp.add_next, Hp.put_next]; done) | (simp only [Hp.add_next, Hp.put_next]; omega) | fail) only [ifB_false, Bool.not_true]
          exact main S2 ds d hR2 hdl (Fra.refl _ _) hde ⟨hd0, by omega⟩ rfl (by rw [← (List.getElem?_eq_some_iff.1 hde).2]; exact List.set_getElem_self _) (by simpa using hgo)
        | false =>
          simp (disch := first | omega | (simp only [Hp.add_next, Hp.put_next]; done) | (simp only [Hp.add_next, Hp.put_next]; omega) | fail) only [ifB_true, rdP_cells, optP_some, List.getElem?_cons_zero, List.getElem?_cons_succ, Bool.not_false, hp]
          rw [hR2.ds.get hdv, hp, rdP_cells]
          simp (disch := first | omega | (simp only [Hp.add_next, Hp.put_next]; done) | (simp only [Hp.add_next, Hp.put_next]; omega) | fail) only [optP_some, List.getElem?_cons_zero, List.getElem?_cons_succ]
          rw [hR2.qs.get hqv]
          simp (disch := first | omega | (simp only [Hp.add_next, Hp.put_next]; done) | (simp only [Hp.add_next, Hp.put_next]; omega) | fail) only [↓P_add64]
          refine hR2.setd (by show t < ds.length; omega) fun S3 hF3 hn3 hR3 => ?_
          have hp3 := hR3.at_
          simp (disch := first | omega | (simp only [Hp.add_next, Hp.put_next]; done) | (simp only [Hp.add_next, Hp.put_next]; omega) | fail) only [blkP_cells, condP_of, List.length_cons, List.length_nil, Nat.zero_add, Nat.reduceAdd, Nat.reduceLeDiff, splice_z, overlay_n, overlay_c, splice_5, hp3, apart_nil, okP_true]
          have hR4 := hR3.setf (t := t) (bg := true)
          refine main _ (ds.set t (d + q)) (d + q) hR4 (by rw [List.length_set]; exact hdl) ((hbd hF3).put (.inr (by simp)) _) (by rw [List.getElem?_set_self (by omega)]) ⟨by omega, by omega⟩ (by rw [List.set_set]) rfl (by simpa using hgo)
end Go.Proofs.Ytmepokefmpcnnaa.Dr
