/- What layer 2's functions do: the document's Write. -/
import Derived.Test.YtmepokefmpcnnaaDoorEtSpec4
set_option maxRecDepth 100000
set_option linter.unusedVariables false
set_option linter.unusedSimpArgs false
namespace Go.Proofs.YtmepokefmpcnnaaDoor.Et
open Go.Wb
theorem rep_repl (n : Nat) (v : Value) : rep n [v] = List.replicate n v := by
  induction n with
  | zero => rfl
  | succ n ih => rw [rep, ih, List.replicate_succ]; rfl
def cB (y : Nat → Int) (i : Nat) : List Value := (List.range 12).map fun j => if j % 6 < i then u8 (y j) else u8 0
theorem cB_len (y : Nat → Int) (i : Nat) (R : List Value) : (cB y i ++ R).length = 12 + R.length := by simp [cB]
theorem splice_set (l : List Value) (i : Nat) (v : Value) (h : i < l.length) : splice l i [v] = l.set i v := by
  rw [splice_eq _ _ _ (by simp; omega)]; rfl
theorem cB_step (y : Nat → Int) (R : List Value) (i : Nat) (hi : i < 6) : splice (splice (cB y i ++ R) i [u8 (y i)]) (6 + i) [u8 (y (6 + i))] = cB y (i + 1) ++ R := by
  have h := cB_len y i R
  rw [splice_set (cB y i ++ R) i _ (by omega), splice_set ((cB y i ++ R).set i _) (6 + i) _ (by rw [List.length_set]; omega)]
  match i, hi with
  | 0, _ => rfl
  | 1, _ => rfl
  | 2, _ => rfl
  | 3, _ => rfl
  | 4, _ => rfl
  | 5, _ => rfl
theorem hd_get (y : Nat → Int) (R : List Value) {i : Nat} (hi : i < 12) : (hd12 y ++ R)[i]? = some (u8 (y i)) := by
  rw [List.getElem?_append_left (by simp [hd12]; omega)]
  simp [hd12, hi]
theorem put12 (y : Nat → Int) (n : Nat) (a : Int) : splice (cB y 6 ++ List.replicate (n + 2) (u8 0)) 12 [u8 a] = hd12 y ++ u8 a :: u8 0 :: List.replicate n (u8 0) := by
  rw [splice_set _ _ _ (by rw [cB_len, List.length_replicate]; omega), List.replicate_succ, List.replicate_succ]; rfl
theorem put13 (y : Nat → Int) (n : Nat) (a b : Int) : splice (hd12 y ++ u8 a :: u8 0 :: List.replicate n (u8 0)) 13 [u8 b] = hd12 y ++ u8 a :: u8 b :: List.replicate n (u8 0) := by
  rw [splice_set _ _ _ (by simp [hd12]; omega)]; rfl
theorem copy_step (X l : List Value) (i : Nat) (x : Value) (hX : X.length = 14) (hx : l[i]? = some x) : splice (X ++ l.take i ++ List.replicate (l.length - i) (u8 0)) (14 + i) [x] = X ++ l.take (i + 1) ++ List.replicate (l.length - (i + 1)) (u8 0) := by
  have hi := (List.getElem?_eq_some_iff.1 hx).1
  have e1 : List.replicate (l.length - i) (u8 0) = u8 0 :: List.replicate (l.length - (i + 1)) (u8 0) := by
    rw [show l.length - i = (l.length - (i + 1)) + 1 by omega, List.replicate_succ]
  have e2 : l.take (i + 1) = l.take i ++ [x] := by rw [List.take_add_one, hx]; rfl
  have hlen : (X ++ l.take i).length = 14 + i := by rw [List.length_append, hX, List.length_take]; omega
  rw [splice_set _ _ _ (by rw [List.length_append, hlen, List.length_replicate]; omega), e1, e2, List.set_append_right _ _ (by omega), hlen, Nat.sub_self, List.set_cons_zero]
  simp
section
variable {C : Tgt → List Value → M Value} {S : Hp} {Φ : Value → Hp → Prop}
theorem s13e {n : Nat} {e v : Value} {l : List Value} {W : List Nat} (hW : WF S) (h : BS S v l W) (hl : 1646 < l.length) (k : ∀ S', Fra [] S S' → WF S' → Φ (.tuple ⟨[.slice none 0 0, i64 3]⟩) S') : wp (callN T (n + 1) (.fn 13) [e, v]) Φ S := by
  refine c13 g13 ?_
  unfold P13
  have hlen := h.len
  have e1 : decide (((l.length : Nat) : Int) > 1646) = true := decide_eq_true (by omega)
  simp (maxSteps := 100000000) (disch := first | omega | (simp only [Hp.add_next, Hp.put_next]; done) | (simp only [Hp.add_next, Hp.put_next]; omega) | fail) only [↓P_fldA, ↓P_box, ↓P_bslice, ↓P_load1, ifP_bool, ifB_true, ↓P_gtr, List.length_cons, List.length_nil, Nat.zero_add, Nat.add_zero, Nat.reduceAdd, Nat.reduceLeDiff, and_true, fillA, Atom.ev, hlen, e1]
  exact k _ ((Fra.refl _ _).add _) (hW.add _)
theorem s14e {n : Nat} {e v : Value} {l : List Value} {W : List Nat} (hW : WF S) (h : BS S v l W) (hl : 1646 < l.length) (hbig : l.length ≤ 100000) (k : ∀ S', Fra [] S S' → WF S' → Φ (.tuple ⟨[.slice none 0 0, i64 3]⟩) S') : wp (callN T (n + 1) (.fn 14) [e, v]) Φ S := by
  refine c14 g14 ?_
  unfold P14
  have hlen := h.len
  have e1 : decide (((l.length : Nat) : Int) + 14 > 1660) = true := decide_eq_true (by omega)
  simp (maxSteps := 100000000) (disch := first | omega | (simp only [Hp.add_next, Hp.put_next]; done) | (simp only [Hp.add_next, Hp.put_next]; omega) | fail) only [↓P_box, ↓P_mkslice, ifP_bool, ifB_true, ↓P_gtr, ↓P_add64, condP_of, List.length_cons, List.length_nil, Nat.zero_add, and_true, true_and, Int.le_refl, hlen, e1]
  exact k _ ((Fra.refl _ _).add _) (hW.add _)
theorem s14 {n : Nat} {y : Nat → Int} {t : Int} {v : Value} {l : List Value} {W : List Nat} (hW : WF S) (h : BS S v l W) (hb : Byt l) (hl : l.length ≤ 1646) (ht : 0 ≤ t ∧ t < 65536) (hn : 3000 < n)
    (k : ∀ S' A z, Fra [] S S' → WF S' → S.next ≤ A → A < S'.next → (z = none ∨ z = some 1) → S'.heap.get A = some (.cells z false (hd12 y ++ [u8 (t / 256), u8 (t % 256)] ++ l)) → Φ (.tuple ⟨[.slice (some ⟨A, 0, none⟩) (14 + l.length) (14 + l.length), i64 0]⟩) S') : wp (callN T (n + 1) (.fn 14) [.agg ⟨hd12 y ++ [.int .u16 t]⟩, v]) Φ S := by
  refine c14 g14 ?_
  unfold P14
  have hlen := h.len
  have e1 : decide (((l.length : Nat) : Int) + 14 > 1660) = false := decide_eq_false (by omega)
  have ht14 : (14 + ((l.length : Nat) : Int)).toNat = 14 + l.length := by omega
  have hrep : rep (14 + l.length) [u8 0] = cB y 0 ++ List.replicate (l.length + 2) (u8 0) := by
    rw [rep_repl, show 14 + l.length = 12 + (l.length + 2) by omega, ← List.replicate_append_replicate]; rfl
  simp (maxSteps := 100000000) (disch := first | omega | (simp only [Hp.add_next, Hp.put_next]; done) | (simp only [Hp.add_next, Hp.put_next]; omega) | fail) only [↓P_box, ↓P_mkslice, ifP_bool, ifB_false, ↓P_gtr, ↓P_add64, condP_of, Hp.add_next, List.length_cons, List.length_nil, Nat.zero_add, and_true, true_and, cells_agg, Int.le_refl, hlen, e1, ht14, hrep]
  have g0 : ((S.add (Blk.cells none false (hd12 y ++ [.int .u16 t]))).add (Blk.cells none false (cB y 0 ++ List.replicate (l.length + 2) (u8 0)))).heap.get S.next = _ := (add_off (by (first | omega | (simp only [Hp.add_next, Hp.put_next]; done) | (simp only [Hp.add_next, Hp.put_next]; omega))) _).trans (add_at S (.cells none false (hd12 y ++ [.int .u16 t])))
  have g1 : ((S.add (Blk.cells none false (hd12 y ++ [.int .u16 t]))).add (Blk.cells none false (cB y 0 ++ List.replicate (l.length + 2) (u8 0)))).heap.get (S.next + 1) = _ := add_at (S.add (Blk.cells none false (hd12 y ++ [.int .u16 t]))) (.cells none false (cB y 0 ++ List.replicate (l.length + 2) (u8 0)))
  have hF0 := ((Fra.refl [] S).add (Blk.cells none false (hd12 y ++ [.int .u16 t]))).add (Blk.cells none false (cB y 0 ++ List.replicate (l.length + 2) (u8 0)))
  have hW0 := (hW.add (Blk.cells none false (hd12 y ++ [.int .u16 t]))).add (Blk.cells none false (cB y 0 ++ List.replicate (l.length + 2) (u8 0)))
  have n0 : ((S.add (Blk.cells none false (hd12 y ++ [.int .u16 t]))).add (Blk.cells none false (cB y 0 ++ List.replicate (l.length + 2) (u8 0)))).next = S.next + 2 := rfl
  generalize (S.add (Blk.cells none false (hd12 y ++ [.int .u16 t]))).add (Blk.cells none false (cB y 0 ++ List.replicate (l.length + 2) (u8 0))) = S0 at g0 g1 hF0 hW0 n0 ⊢
  refine ⟨fun m u1 u2 u4 u5 u6 u7 S' => ∃ i : Nat, u1 = v ∧ u2 = .pointer (some ⟨S.next, 0, none⟩) ∧ u4 = .slice none 0 0 ∧ u5 = i64 0 ∧ u6 = .slice (some ⟨S.next + 1, 0, none⟩) (14 + l.length) (14 + l.length) ∧ u7 = i64 i ∧ i ≤ 6 ∧ m = 6 - i ∧ Fra [] S S' ∧ WF S' ∧ S'.next = S.next + 2 ∧ S'.heap.get S.next = some (.cells none false (hd12 y ++ [.int .u16 t])) ∧ S'.heap.get (S.next + 1) = some (.cells none false (cB y i ++ List.replicate (l.length + 2) (u8 0))),
    ⟨6, by omega, 0, rfl, rfl, rfl, rfl, rfl, rfl, by omega, rfl, hF0, hW0, n0, g0, g1⟩, ?_⟩
  clear g0 g1 hF0 hW0 n0
  rintro m S1 u1 u2 u4 u5 u6 u7 ⟨i, rfl, rfl, rfl, rfl, rfl, rfl, hi, rfl, hF, hW1, n1, g0, g1⟩
  have h1 := h.fra hF (by simp)
  rw [P_lss, ifP_bool]
  refine ifB_in (fun hlt => ?_) (fun hge => ?_)
  · have hlt : i < 6 := by have := of_decide_eq_true hlt; omega
    have c1 := cB_len y i (List.replicate (l.length + 2) (u8 0))
    rw [List.length_replicate] at c1
    have c2 := splice_len (cB y i ++ List.replicate (l.length + 2) (u8 0)) i (u8 (y i)) (by omega)
    have hi6 : (0 : Int) ≤ (i : Nat) ∧ ((i : Nat) : Int) < (6 : Nat) := ⟨by omega, by omega⟩
    have w1 := hd_get y [Value.int .u16 t] (show i < 12 by omega)
    have w2 := hd_get y [Value.int .u16 t] (show 6 + i < 12 by omega)
    have ht6 : ((6 : Int) + (i : Int)).toNat = 6 + i := by omega
    have hst := cB_step y (List.replicate (l.length + 2) (u8 0)) i hlt
    simp (maxSteps := 100000000) (disch := first | omega | (simp only [Hp.add_next, Hp.put_next]; done) | (simp only [Hp.add_next, Hp.put_next]; omega) | fail) only [↓P_fldA, ↓P_load1, ↓P_store, ↓P_ixA, ↓P_add64, blkP_cells, rdP_cells, optP_some, condP_of, put_at, put_off, Hp.put_next, List.length_cons, List.length_nil, Nat.zero_add, Nat.add_zero, and_true, true_and, List.size_toArray, List.all_cons, List.all_nil, one_int, cells_int, Bool.and_self, Int.toNat_natCast, g0, g1, c1, c2, w1, w2, ↓P_ixAA _ _ _ _ _ _ hi6, Nat.mul_one, ht6, hst]
    exact ⟨6 - (i + 1), by omega, i + 1, by simp, by omega, rfl, (hF.put (.inl (by omega)) _).put (.inl (by omega)) _, (hW1.put (by omega) _).put (by rw [Hp.put_next]; omega) _, n1, rfl⟩
  · obtain rfl : i = 6 := by have := of_decide_eq_false hge; omega
    have w3 : (hd12 y ++ [Value.int .u16 t])[12]? = some (.int .u16 t) := rfl
    have hquo : ∀ (Φ : Value → Hp → Prop) (S : Hp), wp (X (callN T n) (.bin .quo (.const (.int .u16 t)) (.const (.int .u16 256)))) Φ S = Φ (.int .u16 (t / 256)) S := fun Φ S => by
      rw [P_quo _ (by omega), Int.tdiv_eq_ediv_of_nonneg ht.1, wrapU16 (by omega) (by omega)]
    have hrem : ∀ (Φ : Value → Hp → Prop) (S : Hp), wp (X (callN T n) (.bin .rem (.const (.int .u16 t)) (.const (.int .u16 256)))) Φ S = Φ (.int .u16 (t % 256)) S := fun Φ S => by
      rw [P_remp _ ht.1 (by omega)]
    have c1 := cB_len y 6 (List.replicate (l.length + 2) (u8 0))
    rw [List.length_replicate] at c1
    have p12 := put12 y l.length (t / 256)
    have p13 := put13 y l.length (t / 256) (t % 256)
    have c2 : (hd12 y ++ u8 (t / 256) :: u8 0 :: List.replicate l.length (u8 0)).length = 14 + l.length := by simp [hd12]; omega
    have a12 : (0 : Int) ≤ 12 ∧ (12 : Int) < ((14 + l.length : Nat) : Int) := ⟨by omega, by omega⟩
    have a13 : (0 : Int) ≤ 13 ∧ (13 : Int) < ((14 + l.length : Nat) : Int) := ⟨by omega, by omega⟩
    simp (maxSteps := 100000000) (disch := first | omega | (simp only [Hp.add_next, Hp.put_next]; done) | (simp only [Hp.add_next, Hp.put_next]; omega) | fail) only [↓P_fldA, ↓P_load1, ↓P_store, ↓P_ixA, ↓P_convU8, blkP_cells, rdP_cells, optP_some, condP_of, put_at, put_off, List.length_cons, List.length_nil, Nat.zero_add, Nat.reduceAdd, and_true, List.size_toArray, List.all_cons, List.all_nil, one_int, cells_int, Bool.and_self, Int.reduceToNat, g0, g1, c1, c2, w3, hquo, hrem, Nat.mul_one, p12, p13]
    have hX : (hd12 y ++ [u8 (t / 256), u8 (t % 256)]).length = 14 := rfl
    have e0 : hd12 y ++ u8 (t / 256) :: u8 (t % 256) :: List.replicate l.length (u8 0) = (hd12 y ++ [u8 (t / 256), u8 (t % 256)]) ++ l.take 0 ++ List.replicate (l.length - 0) (u8 0) := by simp
    rw [e0]
    refine ⟨fun m v1 v4 v5 v6 v8 S' => ∃ i : Nat, v1 = u1 ∧ v4 = .slice none 0 0 ∧ v5 = i64 0 ∧ v6 = .slice (some ⟨S.next + 1, 0, none⟩) (14 + l.length) (14 + l.length) ∧ v8 = i64 i ∧ i ≤ l.length ∧ m = l.length - i ∧ Fra [] S S' ∧ WF S' ∧ S'.next = S.next + 2 ∧ S'.heap.get (S.next + 1) = some (.cells none false ((hd12 y ++ [u8 (t / 256), u8 (t % 256)]) ++ l.take i ++ List.replicate (l.length - i) (u8 0))),
      ⟨l.length, by omega, 0, rfl, rfl, rfl, rfl, rfl, Nat.zero_le _, rfl, (hF.put (.inl (by omega)) _).put (.inl (by omega)) _, (hW1.put (by omega) _).put (by rw [Hp.put_next]; omega) _, n1, put_at _ _ _⟩, ?_⟩
    clear g0 g1 hF hW1 n1 h1
    rintro m S2 v1 v4 v5 v6 v8 ⟨i, rfl, rfl, rfl, rfl, rfl, hi, rfl, hF, hW2, n2, g1⟩
    have h2 := h.fra hF (by simp)
    rw [hlen, P_lss, ifP_bool]
    refine ifB_in (fun hlt => ?_) (fun hge => ?_)
    · have hlt : i < l.length := by have := of_decide_eq_true hlt; omega
      obtain ⟨x, hx⟩ : ∃ x, l[i]? = some x := ⟨_, List.getElem?_eq_getElem hlt⟩
      obtain ⟨xn, rfl⟩ := hb x (List.mem_of_getElem? hx)
      have hst := copy_step (hd12 y ++ [u8 (t / 256), u8 (t % 256)]) l i _ hX hx
      have hcl : ((hd12 y ++ [u8 (t / 256), u8 (t % 256)]) ++ l.take i ++ List.replicate (l.length - i) (u8 0)).length = 14 + l.length := by
        rw [List.length_append, List.length_append, hX, List.length_take, List.length_replicate]; omega
      have ht14 : ((14 : Int) + (i : Int)).toNat = 14 + i := by omega
      rw [P_add64 (by omega) (by omega), h2.get hx]
      generalize hcs : (hd12 y ++ [u8 (t / 256), u8 (t % 256)]) ++ l.take i ++ List.replicate (l.length - i) (u8 0) = cs at g1 hst hcl
      simp (maxSteps := 100000000) (disch := first | omega | (simp only [Hp.add_next, Hp.put_next]; done) | (simp only [Hp.add_next, Hp.put_next]; omega) | fail) only [↓P_store, ↓P_ixA, ↓P_add64, blkP_cells, condP_of, put_at, Hp.put_next, List.length_cons, List.length_nil, Nat.zero_add, and_true, true_and, List.size_toArray, List.all_cons, List.all_nil, one_int, cells_int, Bool.and_self, g1, hcl, ht14, Nat.mul_one, hst]
      exact ⟨l.length - (i + 1), by omega, i + 1, by simp, by omega, rfl, hF.put (.inl (by omega)) _, hW2.put (by omega) _, n2, rfl⟩
    · obtain rfl : i = l.length := by have := of_decide_eq_false hge; omega
      rw [List.take_length, Nat.sub_self, List.replicate_zero, List.append_nil] at g1
      exact k S2 _ none hF hW2 (by omega) (by omega) (.inl rfl) g1
end
end Go.Proofs.YtmepokefmpcnnaaDoor.Et
