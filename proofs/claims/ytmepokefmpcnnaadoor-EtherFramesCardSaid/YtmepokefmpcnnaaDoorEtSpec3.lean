/- What layer 2's functions do: the document's Read. -/
import Derived.Test.YtmepokefmpcnnaaDoorEtSpec2
set_option maxRecDepth 100000
set_option linter.unusedVariables false
set_option linter.unusedSimpArgs false
namespace Go.Proofs.YtmepokefmpcnnaaDoor.Et
open Go.Wb
/-- what is read so far -/
def cA (y : Nat → Int) (i : Nat) : List Value := (List.range 13).map fun j => if j = 12 then .int .u16 0 else if j % 6 < i then u8 (y j) else u8 0
theorem cA_len (y : Nat → Int) (i : Nat) : (cA y i).length = 13 := by simp [cA]
theorem cA_zero (y : Nat → Int) : cA y 0 = zero13 := rfl
theorem cA_step (y : Nat → Int) : ∀ i, i < 6 → splice (splice (cA y i) i [u8 (y i)]) (6 + i) [u8 (y (6 + i))] = cA y (i + 1)
  | 0, _ => rfl
  | 1, _ => rfl
  | 2, _ => rfl
  | 3, _ => rfl
  | 4, _ => rfl
  | 5, _ => rfl
theorem splice_len (l : List Value) (i : Nat) (v : Value) (h : i < l.length) : (splice l i [v]).length = l.length := by
  rw [splice_eq _ _ _ (by simp; omega)]
  simp [setAll]
def hd12 (y : Nat → Int) : List Value := (List.range 12).map fun j => u8 (y j)
def full (y : Nat → Int) (a b : Int) (r : List Value) : List Value := hd12 y ++ u8 a :: u8 b :: r
theorem full_len (y : Nat → Int) (a b : Int) (r : List Value) : (full y a b r).length = r.length + 14 := by simp [full, hd12]; omega
theorem full_get (y : Nat → Int) (a b : Int) (r : List Value) {i : Nat} (hi : i < 12) : (full y a b r)[i]? = some (u8 (y i)) := by
  unfold full
  rw [List.getElem?_append_left (by simp [hd12]; omega)]
  simp [hd12, hi]
section
variable {C : Tgt → List Value → M Value} {S : Hp} {Φ : Value → Hp → Prop}
theorem P_ixAA (n s : Nat) (b o : Nat) (x : Option Nat) (k : IntKind) {i : Int} (h : 0 ≤ i ∧ i < n) : wp (X C (.ixAA n s (.const (.pointer (some ⟨b, o, x⟩))) (.const (.int k i)))) Φ S = Φ (.pointer (some ⟨b, o + i.toNat * s, none⟩)) S := wp_Xp (by
  funext S
  simp only [X, exec, M.bind, M.lift, Atom.ev, Option.bind_some, Wb.asInt, if_pos h])
theorem D_slcP {j b o n c K : Nat} {ts : List (Nat × Wb.Touch)} {Ψ : Value → List (Nat × Wb.Touch) → Hp → Prop} {cs : List Value} (hg : S.heap.get b = some (.ro cs) ∨ ∃ x s, (x = none ∨ x = some 1) ∧ S.heap.get b = some (.cells x s cs)) (hK : K ≤ n) (hc : n ≤ c)
    (k : Ψ (slcR 1 b o 0 K n c) ((j, ⟨[(b, false)], S.next, S.next⟩) :: ts) S) : dstepP j ts (X C (.slc 1 (.const (.slice (some ⟨b, o, none⟩) n c)) (some (.const (i64 K))) none none)) Ψ S := by
  have hb : (0 : Int) ≤ (K : Nat) ∧ ((K : Nat) : Int) ≤ (n : Nat) := ⟨by omega, by omega⟩
  have hbn : bnds .leaf n c (some (.const (i64 K))) none none = some (K, n, c) := by rw [bnds_l, if_pos hb]; rfl
  refine ⟨slcR 1 b o 0 K n c, { heap := S.heap, next := S.next, log := [(b, false)] }, ?_, k⟩
  rcases hg with h | ⟨x, s, hx, h⟩
  · simp only [X, exec, M.bind, M.lift, Atom.ev, hbn, rd, Hp.st, h, hc, if_true, M.pure]
    unfold slcR
    split <;> simp_all
  · have hx' : (x = none ∨ x = some 1) ∧ n ≤ c := ⟨hx, hc⟩
    simp only [X, exec, M.bind, M.lift, Atom.ev, hbn, rd, Hp.st, h, hx', and_self, if_true, M.pure]
    unfold slcR
    split <;> simp_all
theorem s12 {n : Nat} {v : Value} {y : Nat → Int} {a b : Int} {r : List Value} {W : List Nat} (hW : WF S) (h : BS S v (full y a b r) W) (hb : Byt r)
    (ha : 0 ≤ a ∧ a < 256) (hbb : 0 ≤ b ∧ b < 256) (hl : r.length + 14 ≤ 1600) (hn : 10 < n)
    (k : ∀ S' A z, Fra [] S S' → WF S' → S.next ≤ A → A < S'.next → (z = none ∨ z = some 1) → S'.heap.get A = some (.cells z false r) → Φ (.tuple ⟨[.agg ⟨hd12 y ++ [.int .u16 (a * 256 + b)]⟩, .slice (some ⟨A, 0, none⟩) r.length r.length, i64 0]⟩) S') : wp (callN T (n + 1) (.fn 12) [v]) Φ S := by
  refine c12 g12 ?_
  unfold P12
  have hlen := h.len
  have hL := full_len y a b r
  have e1 : decide ((((full y a b r).length : Nat) : Int) > 1600) = false := by
    rw [decide_eq_false_iff_not]; omega
  have e2 : decide ((((full y a b r).length : Nat) : Int) < 14) = false := by
    rw [decide_eq_false_iff_not]; omega
  have hall : zero13.all (·.oneCell') = true := rfl
  simp (maxSteps := 100000000) (disch := first | omega | (simp only [Hp.add_next, Hp.put_next]; done) | (simp only [Hp.add_next, Hp.put_next]; omega) | fail) only [↓P_alloc, ↓P_build, ↓P_loadN, ↓P_cellN, ↓P_store, ifP_bool, ifB_false, ↓P_lss, ↓P_gtr, blkP_cells, rdP_cells, optP_some, condP_of, put_at, add_eq, Hp.add_next, List.length_cons, List.length_nil, Nat.zero_add, Nat.reduceAdd, Nat.reduceLeDiff, List.drop_zero, and_self, fillA, List.size_toArray, splice_z, overlay_n, overlay_c, List.all_cons, List.all_nil, one_int, cells_agg, Bool.and_self, hlen, e1, e2]
  have hS0 : ∃ S0, S0 = (((S.add (.cells none false zero13)).add (.cells none false zero13)).put (S.next + 1) (some (.cells none false zero13))) := ⟨_, rfl⟩
  obtain ⟨S0, hS0⟩ := hS0
  have hF0 : Fra [] S S0 := by rw [hS0]; exact (((Fra.refl [] S).add _).add _).put (.inl (by (first | omega | (simp only [Hp.add_next, Hp.put_next]; done) | (simp only [Hp.add_next, Hp.put_next]; omega)))) _
  have hW0 : WF S0 := by rw [hS0]; exact ((hW.add _).add _).put (by (first | omega | (simp only [Hp.add_next, Hp.put_next]; done) | (simp only [Hp.add_next, Hp.put_next]; omega))) _
  have n0 : S0.next = S.next + 2 := by rw [hS0]; rfl
  have g0 : S0.heap.get S.next = some (.cells none false zero13) := by rw [hS0, put_off (by omega), add_off (by (first | omega | (simp only [Hp.add_next, Hp.put_next]; done) | (simp only [Hp.add_next, Hp.put_next]; omega))), add_at]
  have g1 : S0.heap.get (S.next + 1) = some (.cells none false zero13) := by rw [hS0, put_at]
  change ∃ I11 : Nat → Value → Value → Value → Value → Value → Value → Hp → Prop, (∃ m, m < n ∧ I11 m v (.pointer (some ⟨S.next, 0, none⟩)) (.slice none 0 0) (i64 0) (.pointer (some ⟨S.next + 1, 0, none⟩)) (i64 0) (((S.add (.cells none false zero13)).add (.cells none false zero13)).put (S.next + 1) (some (.cells none false zero13)))) ∧ _
  rw [← hS0]
  refine ⟨fun m u0 u2 u3 u4 u5 u6 S' => ∃ i : Nat, u0 = v ∧ u2 = .pointer (some ⟨S.next, 0, none⟩) ∧ u3 = .slice none 0 0 ∧ u4 = i64 0 ∧ u5 = .pointer (some ⟨S.next + 1, 0, none⟩) ∧ u6 = i64 i ∧ i ≤ 6 ∧ m = 6 - i ∧ Fra [] S S' ∧ WF S' ∧ S'.next = S.next + 2 ∧ S'.heap.get S.next = some (.cells none false zero13) ∧ S'.heap.get (S.next + 1) = some (.cells none false (cA y i)),
    ⟨6, by omega, 0, rfl, rfl, rfl, rfl, rfl, rfl, by omega, rfl, hF0, hW0, n0, g0, g1⟩, ?_⟩
  clear hF0 hW0 n0 g0 g1 hS0
  rintro m S1 u0 u2 u3 u4 u5 u6 ⟨i, rfl, rfl, rfl, rfl, rfl, rfl, hi, rfl, hF, hW1, n1, g0, g1⟩
  have h1 := h.fra hF (by simp)
  rw [P_lss, ifP_bool]
  refine ifB_in (fun hlt => ?_) (fun hge => ?_)
  · have hlt : i < 6 := by have := of_decide_eq_true hlt; omega
    have c1 := cA_len y i
    have c2 := splice_len (cA y i) i (u8 (y i)) (by omega)
    rw [h1.get (full_get y a b r (show i < 12 by omega))]
    have hi6 : (0 : Int) ≤ (i : Nat) ∧ ((i : Nat) : Int) < (6 : Nat) := ⟨by omega, by omega⟩
    have hput : ∀ (S2 : Hp) (p : Prop), S2 = S1.put (S.next + 1) (some (.cells none false (splice (cA y i) i [u8 (y i)]))) → True := fun _ _ _ => trivial
    simp (maxSteps := 100000000) (disch := first | omega | (simp only [Hp.add_next, Hp.put_next]; done) | (simp only [Hp.add_next, Hp.put_next]; omega) | fail) only [↓P_fldA, ↓P_store, ↓P_add64, blkP_cells, condP_of, put_at, put_off, Hp.put_next, List.length_cons, List.length_nil, Nat.zero_add, Nat.add_zero, Nat.reduceLeDiff, and_true, true_and, List.size_toArray, List.all_cons, List.all_nil, one_int, cells_int, Bool.and_self, Int.toNat_natCast, g1, c1, ↓P_ixAA _ _ _ _ _ _ hi6, Nat.mul_one]
    have hF2 := hF.put (b := S.next + 1) (.inl (by omega)) (some (.cells none false (splice (cA y i) i [u8 (y i)])))
    have h2 := h.fra hF2 (by simp)
    have hadd : (6 : Int) + (i : Int) = ((6 + i : Nat) : Int) := by omega
    rw [hadd, h2.get (full_get y a b r (show 6 + i < 12 by omega))]
    simp (maxSteps := 100000000) (disch := first | omega | (simp only [Hp.add_next, Hp.put_next]; done) | (simp only [Hp.add_next, Hp.put_next]; omega) | fail) only [blkP_cells, condP_of, put_at, put_off, Hp.put_next, List.length_cons, List.length_nil, Nat.zero_add, Nat.reduceLeDiff, and_true, List.size_toArray, List.all_cons, List.all_nil, one_int, cells_int, Bool.and_self, c1, c2, cA_step y i hlt]
    refine ⟨6 - (i + 1), by omega, i + 1, by simp, by omega, rfl, hF2.put (.inl (by omega)) _, (hW1.put (by omega) _).put (by rw [Hp.put_next]; omega) _, n1, g0, rfl⟩
  · obtain rfl : i = 6 := by have := of_decide_eq_false hge; omega
    have h1' := h1
    rcases h1 with ⟨hn', _⟩ | ⟨B, o, c, cs, rfl, rfl, hc, hB, hg, ht, hle⟩
    · rw [hn'] at hL; simp at hL
    have hrd := rd_of hg
    have hd : cs.drop o = full y a b r ++ (cs.drop o).drop (full y a b r).length := by
      conv => lhs; rw [← List.take_append_drop (full y a b r).length (cs.drop o), ht]
    have t12 : cs[o + 12]? = some (u8 a) := by rw [← List.getElem?_drop, hd]; rfl
    have t13 : cs[o + 13]? = some (u8 b) := by rw [← List.getElem?_drop, hd]; rfl
    have hmul : ∀ Φ : Value → Hp → Prop, wp (X (callN T n) (.bin .mul (.const (.int .u16 a)) (.const (.int .u16 256)))) Φ S1 = Φ (.int .u16 (a * 256)) S1 := fun Φ => by rw [P_mul, wrapU16 (by omega) (by omega)]
    have c6 := cA_len y 6
    have hlast : splice (cA y 6) 12 [.int .u16 (a * 256 + b)] = hd12 y ++ [.int .u16 (a * 256 + b)] := rfl
    simp (maxSteps := 100000000) (disch := first | omega | (simp only [Hp.add_next, Hp.put_next]; done) | (simp only [Hp.add_next, Hp.put_next]; omega) | fail) only [↓P_fldA, ↓P_load1, ↓P_cellN, ↓D_loadN, ↓P_store, ↓P_ixA, ↓P_addU16, ↓P_convU16, blkP_cells, optP_some, condP_of, List.length_cons, List.length_nil, Nat.zero_add, Nat.reduceAdd, Nat.reduceLeDiff, List.drop_zero, and_self, List.size_toArray, splice_z, List.all_cons, List.all_nil, one_int, cells_agg, cells_int, Bool.and_self, Int.reduceToNat, t12, t13, hrd, Nat.mul_one, hmul, g1, c6, hlast, apart_nil]
    rw [okP_true]
    have hF3 := hF.put (b := S.next + 1) (.inl (by omega)) (some (Blk.cells none false (hd12 y ++ [.int .u16 (a * 256 + b)])))
    have hW3 := hW1.put (b := S.next + 1) (by omega) (some (Blk.cells none false (hd12 y ++ [.int .u16 (a * 256 + b)])))
    have hg3 := put_at S1 (S.next + 1) (some (Blk.cells none false (hd12 y ++ [.int .u16 (a * 256 + b)])))
    have g03 : (S1.put (S.next + 1) (some (Blk.cells none false (hd12 y ++ [.int .u16 (a * 256 + b)])))).heap.get S.next = _ := (put_off (by omega) _ _).trans g0
    have h3 := h.fra hF3 (by simp)
    have n3 : (S1.put (S.next + 1) (some (Blk.cells none false (hd12 y ++ [.int .u16 (a * 256 + b)])))).next = S.next + 2 := n1
    generalize S1.put (S.next + 1) (some (Blk.cells none false (hd12 y ++ [.int .u16 (a * 256 + b)]))) = S3 at hF3 hW3 hg3 g03 h3 n3 ⊢
    clear g0 g1 hF hW1 n1 h1' hg hrd ht hle hd t12 t13 hB
    have hhl : (hd12 y ++ [Value.int .u16 (a * 256 + b)]).length = 13 := by simp [hd12]
    have hht : (hd12 y ++ [Value.int .u16 (a * 256 + b)]).take 13 = hd12 y ++ [.int .u16 (a * 256 + b)] := List.take_of_length_le (by omega)
    have hho : (hd12 y ++ [Value.int .u16 (a * 256 + b)]).all (·.oneCell') = true := rfl
    simp (maxSteps := 100000000) (disch := first | omega | (simp only [Hp.add_next, Hp.put_next]; done) | (simp only [Hp.add_next, Hp.put_next]; omega) | fail) only [rdP_cells, condP_of, Nat.reduceLeDiff, hg3, hhl, hht]
    refine D_bslice 1 _ 5 0 _ _ _ ?_
    have hF4 := hF3.add (.cells none false [])
    have hW4 := hW3.add (.cells none false [])
    have g04 : (S3.add (.cells none false [])).heap.get S.next = _ := (add_off (by omega) _).trans g03
    have h4 := h3.fra ((Fra.refl [] S3).add (.cells none false [])) (by simp)
    have hE := add_at S3 (.cells none false [])
    have n4 : (S3.add (.cells none false [])).next = S3.next + 1 := rfl
    simp (maxSteps := 100000000) (disch := first | omega | (simp only [Hp.add_next, Hp.put_next]; done) | (simp only [Hp.add_next, Hp.put_next]; omega) | fail) only [optP_some, fillA]
    generalize S3.add (.cells none false []) = S4 at hF4 hW4 g04 h4 hE n4 ⊢
    rcases h4 with ⟨hn', _⟩ | ⟨B', o', c', cs', hWe, hv', hc', hB', hg', ht', hle'⟩
    · rw [hn'] at hL; simp at hL
    cases hWe
    cases hv'
    have hB3 : B < S3.next := h3.lt B (by simp)
    refine D_slcP (K := 14) hg' (by omega) hc' ?_
    obtain ⟨hbs, hsl⟩ := BS_slcR (S := S4) (by omega) hc' hB' hg' ht' hle'
    have hdr : (full y a b r).drop 14 = r := rfl
    rw [hdr] at hbs
    refine D_specW (bdX _ _) hW4 (W := [S3.next]) (Post := fun v S' => ∃ A z, v = .slice (some ⟨A, 0, none⟩) r.length r.length ∧ S3.next ≤ A ∧ A < S'.next ∧ (z = none ∨ z = some 1) ∧ S'.heap.get A = some (.cells z false r))
      (app_copy 1 1 5 _ (l := r) (n := r.length) hW4 hbs.lenOf (by omega) hE hbs.first hb.one (by omega) fun S' b' z hF hk hW' k2 k3 k4 k5 => ⟨hF, b', z, rfl, k2, k3, k4, k5⟩) ?_
    rintro v S5 tt hF5 ⟨A, z, rfl, k1, k2, k3, k4⟩ hW5 u1 u2 u3 u4
    have g05 := hF5.at_ (by omega) (by simp; omega) g04
    have hzl : zero13.length = 13 := rfl
    have hov : overlay zero13 (hd12 y ++ [Value.int .u16 (a * 256 + b)]) = hd12 y ++ [.int .u16 (a * 256 + b)] := rfl
    simp (maxSteps := 100000000) (disch := first | omega | (simp only [Hp.add_next, Hp.put_next]; done) | (simp only [Hp.add_next, Hp.put_next]; omega) | fail) only [blkP_cells, condP_of, Nat.reduceLeDiff, and_self, g05, hzl, hho, hov]
    refine okP_in ?_ ?_
    · refine apart_keep (one_cons (.inl (by decide)) (one_cons (.inl (by decide)) (one_cons (.inr (apt_read (by omega) fun hb => ?_).symm) one_nil))) ?_
      · rcases u3 _ hb with hb | hb
        · omega
        · simp at hb; omega
      · exact apart_cons (one_cons (.inr (apt_ra (by omega))) (one_cons (.inr apt_reads) one_nil)) (apart_cons (one_cons (.inr (apt_ra (by omega)).symm) one_nil) (apart_cons one_nil apart_nil))
    simp (maxSteps := 100000000) (disch := first | omega | (simp only [Hp.add_next, Hp.put_next]; done) | (simp only [Hp.add_next, Hp.put_next]; omega) | fail) only [rdP_cells, condP_of, put_at, Nat.reduceLeDiff, hhl, hht]
    refine k _ A z ((hF4.trans hF5 (by simp) (fun b hb => .inl ?_)).put (.inl (Nat.le_refl _)) _) (hW5.put (by have := hF5.next; omega) _) (by omega) k2 k3 ?_
    · have : b = S3.next := by simpa using hb
      omega
    · rw [put_off (by omega)]
      exact k4
end
end Go.Proofs.YtmepokefmpcnnaaDoor.Et
