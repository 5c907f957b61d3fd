/- Layer 2: the law on frames, part by part. -/
import Derived.Test.YtmepokefmpcnnaaDoorEtCut
set_option maxRecDepth 100000
set_option linter.unusedVariables false
set_option linter.unusedSimpArgs false
namespace Go.Proofs.YtmepokefmpcnnaaDoor.Et
open Go.Wb
/-- a slice of bytes of one's own -/
def Own (S : Hp) (v : Value) (l : List Value) (W : List Nat) : Prop :=
  (v = .slice none 0 0 ∧ l = [] ∧ W = []) ∨ ∃ b z, W = [b] ∧ v = .slice (some ⟨b, 0, none⟩) l.length l.length ∧ b < S.next ∧ (z = none ∨ z = some 1) ∧ S.heap.get b = some (.cells z false l)
theorem Own.bs {S : Hp} {v : Value} {l : List Value} {W : List Nat} (h : Own S v l W) : BS S v l W := by
  rcases h with ⟨rfl, rfl, rfl⟩ | ⟨b, z, rfl, rfl, h1, h2, h3⟩
  · exact .inl ⟨rfl, rfl, .inl rfl⟩
  · exact .inr ⟨b, 0, l.length, l, rfl, rfl, Nat.le_refl _, h1, .inr ⟨z, false, h2, h3⟩, by simp, by simp⟩
theorem Own.fra {S S' : Hp} {v : Value} {l : List Value} {W W' : List Nat} (h : Own S v l W) (hF : Fra W' S S') (hd : ∀ b ∈ W, b ∉ W') : Own S' v l W := by
  rcases h with h | ⟨b, z, rfl, h1, h2, h3, h4⟩
  · exact .inl h
  · exact .inr ⟨b, z, rfl, h1, Nat.lt_of_lt_of_le h2 hF.next, h3, hF.at_ h2 (hd b (by simp)) h4⟩
section
variable {C : Tgt → List Value → M Value} {S : Hp} {Φ : Value → Hp → Prop}
theorem inc_step {v : Value} {l : List Value} {W : List Nat} {i : Nat} (hW : WF S) (h : Own S v l W) (hb : Byt l) (hi : i < l.length) (k : ∀ S' l', Fra W S S' → WF S' → Own S' v l' W → Byt l' → l'.length = l.length → Φ undef S') :
    wp (X C (.ixA 1 (.const v) (.const (i64 i)))) (fun t S => wp (X C (.load .one (.const t))) (fun x S => wp (X C (.bin .add (.const x) (.const (.int .u8 1)))) (fun y S => wp (X C (.ixA 1 (.const v) (.const (i64 i)))) (fun t S => wp (X C (.store 1 (.const t) (.const y))) Φ S) S) S) S) S := by
  obtain ⟨x, hx⟩ : ∃ x, l[i]? = some x := ⟨_, List.getElem?_eq_getElem hi⟩
  obtain ⟨xn, rfl⟩ := hb x (List.mem_of_getElem? hx)
  rw [h.bs.get hx, P_add]
  rcases h with ⟨rfl, rfl, rfl⟩ | ⟨b, z, rfl, rfl, h1, h2, h3⟩
  · simp at hi
  · have hii : (0 : Int) ≤ (i : Nat) ∧ ((i : Nat) : Int) < (l.length : Nat) := ⟨by omega, by omega⟩
    rw [P_ixA, condP_of hii, P_store]
    refine ⟨rfl, ?_⟩
    rw [h3, blkP_cells]
    have hsp : splice l (0 + ((i : Nat) : Int).toNat * 1) ((u8 (IntKind.u8.wrap (xn + 1))).cells.toList) = l.set i (u8 (IntKind.u8.wrap (xn + 1))) := by
      rw [Nat.zero_add, Nat.mul_one, Int.toNat_natCast]
      exact splice_set _ _ _ hi
    refine ⟨⟨by show 0 + ((i : Nat) : Int).toNat * 1 + 1 ≤ l.length; omega, rfl⟩, ?_⟩
    rw [hsp]
    refine k _ (l.set i (u8 (IntKind.u8.wrap (xn + 1)))) ((Fra.refl _ _).put (.inr (by simp)) _) (hW.put h1 _) (.inr ⟨b, z, rfl, by rw [List.length_set], h1, h2, put_at _ _ _⟩) (fun w hw => ?_) (List.length_set ..)
    rcases List.mem_or_eq_of_mem_set hw with hw | rfl
    · exact hb w hw
    · exact ⟨_, rfl⟩
theorem l43 {n : Nat} {pv uv iv v : Value} {lp lu l : List Value} {Wp Wu Wi W : List Nat} (hW : WF S) (hv : BS S v l W) (hi : BS S iv l Wi) (hb : Byt l) (hp : Own S pv lp Wp) (hpb : Byt lp) (hu : Own S uv lu Wu) (hub : Byt lu)
    (d1 : ∀ b ∈ Wp, b ∉ Wu ∧ b ∉ Wi ∧ b ∉ W) (d2 : ∀ b ∈ Wu, b ∉ Wi ∧ b ∉ W) (hlp : lp.length < n) (hlu : lu.length < n) (hn : n ≤ 100000) (k : ∀ S, Φ (.bool true) S) :
    H4_3 (callN T (n + 1)) (n + 1) Φ pv v iv uv S := by
  unfold H4_3
  rw [hp.bs.len]
  obtain ⟨np, hnp⟩ : ∃ np, np = lp.length := ⟨_, rfl⟩
  rw [← hnp]
  refine ⟨fun m u1 u4 u5 u7 u12 u84 u85 S' => ∃ (i : Nat) (lp' : List Value), u1 = v ∧ u4 = .bool false ∧ u5 = iv ∧ u7 = pv ∧ u12 = uv ∧ u84 = i64 np ∧ u85 = i64 i ∧ i ≤ np ∧ m = np - i ∧ lp'.length = np ∧ Byt lp' ∧ Own S' pv lp' Wp ∧ Fra Wp S S' ∧ WF S',
    ⟨np, by omega, 0, lp, rfl, rfl, rfl, rfl, rfl, rfl, rfl, Nat.zero_le _, rfl, hnp.symm, hpb, hp, Fra.refl _ _, hW⟩, ?_⟩
  clear hp hpb hW
  rintro m S1 u1 u4 u5 u7 u12 u84 u85 ⟨i, lp', rfl, rfl, rfl, rfl, rfl, rfl, rfl, hin, rfl, hl', hb', hO, hF, hW1⟩
  rw [P_lss, ifP_bool]
  refine ifB_in (fun hlt => ?_) (fun hge => ?_)
  · have hlt : i < np := by have := of_decide_eq_true hlt; omega
    refine inc_step hW1 hO hb' (by omega) fun S2 l2 hF2 hW2 hO2 hb2 hl2 => ?_
    rw [P_add64 (by omega) (by omega)]
    exact ⟨np - (i + 1), by omega, i + 1, l2, rfl, rfl, rfl, rfl, rfl, rfl, by simp, by omega, rfl, by omega, hb2, hO2, hF.trans' hF2, hW2⟩
  clear hge hin hb' hl'
  have hu1 := hu.fra hF fun b hb hc => (d1 b hc).1 hb
  have hv1 := hv.fra hF fun b hb hc => (d1 b hc).2.2 hb
  have hi1 := hi.fra hF fun b hb hc => (d1 b hc).2.1 hb
  rw [hu1.bs.len]
  obtain ⟨nu, hnu⟩ : ∃ nu, nu = lu.length := ⟨_, rfl⟩
  rw [← hnu]
  refine ⟨fun m u1' u4 u5' u12' u96 u97 S' => ∃ (i : Nat) (lu' : List Value), u1' = u1 ∧ u4 = .bool false ∧ u5' = u5 ∧ u12' = u12 ∧ u96 = i64 nu ∧ u97 = i64 i ∧ i ≤ nu ∧ m = nu - i ∧ lu'.length = nu ∧ Byt lu' ∧ Own S' u12 lu' Wu ∧ Fra Wu S1 S' ∧ WF S',
    ⟨nu, by omega, 0, lu, rfl, rfl, rfl, rfl, rfl, rfl, Nat.zero_le _, rfl, hnu.symm, hub, hu1, Fra.refl _ _, hW1⟩, ?_⟩
  clear hu1 hub hW1
  rintro m S2 w1 w4 w5 w12 w96 w97 ⟨j, lu', rfl, rfl, rfl, rfl, rfl, rfl, hjn, rfl, hl', hb', hO, hF2, hW2⟩
  rw [P_lss, ifP_bool]
  refine ifB_in (fun hlt => ?_) (fun hge => ?_)
  · have hlt : j < nu := by have := of_decide_eq_true hlt; omega
    refine inc_step hW2 hO hb' (by omega) fun S3 l2 hF3 hW3 hO2 hb2 hl2 => ?_
    rw [P_add64 (by omega) (by omega)]
    exact ⟨nu - (j + 1), by omega, j + 1, l2, rfl, rfl, rfl, rfl, rfl, by simp, by omega, rfl, by omega, hb2, hO2, hF2.trans' hF3, hW3⟩
  have hv2 := hv1.fra hF2 fun b hb hc => (d2 b hc).2 hb
  have hi2 := hi1.fra hF2 fun b hb hc => (d2 b hc).1 hb
  rw [hi2.str hb, hv2.str hb, P_seql]
  simp (maxSteps := 100000000) (disch := first | omega | (simp only [Hp.add_next, Hp.put_next]; done) | (simp only [Hp.add_next, Hp.put_next]; omega) | fail) only [↓P_andQ, andQ_p, ↓P_callF0, Bool.and_self, beq_self_eq_true, List.append_nil, kn]
  exact k _
theorem D_qw {j : Nat} {ts : List (Nat × Wb.Touch)} {m : M Value} (hm : Bd m) {S : Hp} (hW : WF S) {v : Value} {Ψ : Value → List (Nat × Wb.Touch) → Hp → Prop} (h : wp m (fun v' S' => v' = v ∧ S' = S) S) (k : ∀ t, Quiet t S.next → Ψ v (keepT j t ts) S) : dstepP j ts m Ψ S := by
  obtain ⟨a, s', h1, rfl, h2⟩ := h
  obtain ⟨w1, D, w2, w3, w4⟩ := hm (fun _ => False) S.st a s' (fun _ h => h.elim) hW.st h1
  have hD : s'.log = D := by rw [w2]; exact List.append_nil D
  have hn : s'.next = S.next := congrArg Hp.next h2
  have hw : wrs s'.log = [] := by
    have : wrs s'.log ++ S.wl = [] ++ S.wl := congrArg Hp.wl h2
    exact List.append_cancel_right this
  refine ⟨a, s', h1, ?_⟩
  rw [h2]
  exact k _ ⟨rfl, hn, fun x hx => ⟨wrs_nil hw x hx, by
    have := (w4 x (hD ▸ hx)).1
    omega⟩⟩
theorem l42 {n : Nat} {uv u' iv v pv : Value} {lu : List Value} {Wu Wu' : List Nat} {E : Nat} {y : Nat → Int} {t c : Int} {K : Value → Value → Value → Value → Hp → Prop} (hW : WF S) (hu : BS S uv lu Wu) (hu' : BS S u' lu Wu') (hub : Byt lu) (hE : S.heap.get E = some (.cells none false (hd12 y ++ [.int .u16 t]))) (hn : 10 < n)
    (k : K pv v iv uv S) : H4_2 (callN T (n + 1)) (n + 1) Φ K uv u' (i64 c) (i64 c) (.pointer (some ⟨E, 0, none⟩)) pv v iv S := by
  unfold H4_2
  have w3 : (hd12 y ++ [Value.int .u16 t])[12]? = some (.int .u16 t) := rfl
  rw [hu.str hub, hu'.str hub]
  simp (maxSteps := 100000000) (disch := first | omega | (simp only [Hp.add_next, Hp.put_next]; done) | (simp only [Hp.add_next, Hp.put_next]; omega) | fail) only [↓P_pick, ↓P_fldA, ↓P_load1, ↓D_load1, ↓P_neq, ↓P_sneq, ↓P_callF1, rdP_cells, optP_some, ↓P_mov, ↓P_Gff, ↓D_Gff, Nat.zero_add, if_false, Bool.false_eq_true, Bool.not_true, decide_true, beq_self_eq_true, List.nil_append, List.append_nil, hE, w3]
  have hEn : E < S.next := hW E _ hE
  rw [D_call 13 _ 15 (vs := [.int .u16 t]) rfl]
  refine D_qw (BdX.callN _ _ _ _) hW (v := .bool (oursB t)) (s15 (by omega) ⟨rfl, rfl⟩) fun q hq => ?_
  simp (maxSteps := 100000000) (disch := first | omega | (simp only [Hp.add_next, Hp.put_next]; done) | (simp only [Hp.add_next, Hp.put_next]; omega) | fail) only [rdP_cells, optP_some, hE, w3]
  refine s16 ?_
  simp (maxSteps := 100000000) (disch := first | omega | (simp only [Hp.add_next, Hp.put_next]; done) | (simp only [Hp.add_next, Hp.put_next]; omega) | fail) only [↓P_eqB, ifP_bool, ifB_false, if_true, Bool.not_true, beq_self_eq_true]
  refine okP_in (apart_q (AllQ.cons (quiet_rd hEn) (AllQ.keep hq AllQ.nil))) ?_
  exact k
theorem eq13 (y : Nat → Int) (t : Int) : eqCells [(0, 1), (1, 1), (2, 1), (3, 1), (4, 1), (5, 1), (6, 1), (7, 1), (8, 1), (9, 1), (10, 1), (11, 1), (12, 1)] (hd12 y ++ [.int .u16 t]) (hd12 y ++ [.int .u16 t]) = some true := by
  have h : hd12 y ++ [Value.int .u16 t] = [u8 (y 0), u8 (y 1), u8 (y 2), u8 (y 3), u8 (y 4), u8 (y 5), u8 (y 6), u8 (y 7), u8 (y 8), u8 (y 9), u8 (y 10), u8 (y 11), .int .u16 t] := rfl
  rw [h]
  simp [eqCells, eqCell]
theorem hd13_len (y : Nat → Int) (t : Int) : (hd12 y ++ [Value.int .u16 t]).length = 13 := rfl
theorem hd13_take (y : Nat → Int) (t : Int) : (hd12 y ++ [Value.int .u16 t]).take 13 = hd12 y ++ [.int .u16 t] := rfl
theorem l41 {n : Nat} {iv v pv qv : Value} {l lp : List Value} {Wi W Wp Wq : List Nat} {E P6 P9 : Nat} {y y' : Nat → Int} {t t' c : Int} {K : Value → Value → Value → Value → Value → Value → Value → Value → Hp → Prop} (hW : WF S)
    (hp : BS S pv lp Wp) (hq : BS S qv lp Wq) (hpb : Byt lp) (hi : BS S iv l Wi) (hv : BS S v l W) (hb : Byt l) (hl : l.length ≤ 4000) (ht : 0 ≤ t ∧ t < 65536) (hE : S.heap.get E = some (.cells none false (hd12 y ++ [.int .u16 t]))) (h6 : S.heap.get P6 = some (.cells none false (hd12 y' ++ [.int .u16 t']))) (h9 : S.heap.get P9 = some (.cells none false (hd12 y' ++ [.int .u16 t']))) (hn : 5000 < n)
    (k : ∀ S' uv u' lu Wu Wu' (d : Int), Fra [] S S' → WF S' → Own S' uv lu Wu → BS S' u' lu Wu' → Byt lu → (∀ b ∈ Wu, S.next ≤ b) → lu.length ≤ 1660 → K uv u' (i64 d) (i64 d) (.pointer (some ⟨E, 0, none⟩)) pv v iv S') :
    H4_1 (callN T (n + 1)) (n + 1) Φ K (.pointer (some ⟨P6, 0, none⟩)) (.pointer (some ⟨P9, 0, none⟩)) (i64 c) (i64 c) pv qv (.pointer (some ⟨E, 0, none⟩)) iv v S := by
  unfold H4_1
  have l13 := hd13_len y' t'
  have k13 := hd13_take y' t'
  have l13e := hd13_len y t
  have k13e := hd13_take y t
  have heq := eq13 y' t'
  have f1 : ∀ Φ : Value → Hp → Prop, wp (X (callN T (n + 1)) (.conv .b2str (.const pv))) Φ S = Φ (.string (strOf lp)) S := fun Φ => hp.str hpb
  have f2 : ∀ Φ : Value → Hp → Prop, wp (X (callN T (n + 1)) (.conv .b2str (.const qv))) Φ S = Φ (.string (strOf lp)) S := fun Φ => hq.str hpb
  simp (maxSteps := 100000000) (disch := first | omega | (simp only [Hp.add_next, Hp.put_next]; done) | (simp only [Hp.add_next, Hp.put_next]; omega) | fail) only [↓P_loadN, ↓P_eqC, ↓P_andQ, orQ_p, ifP_bool, ifB_false, ↓P_neq, ↓P_sneq, ↓P_callF2, rdP_cells, optP_some, condP_of, Nat.zero_add, Nat.reduceLeDiff, List.drop_zero, and_self, if_true, Bool.not_true, decide_true, Bool.or_self, beq_self_eq_true, List.nil_append, List.append_nil, h6, h9, hE, l13, k13, l13e, k13e, heq, f1, f2]
  by_cases hbig : 1646 < l.length
  · refine call_wf hW ?_
    refine s13e hW hi hbig fun S1 hF1 hW1 hW1' => ?_
    have hE1 := hF1.at_ (hW E _ hE) (by simp) hE
    simp (maxSteps := 100000000) (disch := first | omega | (simp only [Hp.add_next, Hp.put_next]; done) | (simp only [Hp.add_next, Hp.put_next]; omega) | fail) only [↓P_ext, rdP_cells, optP_some, condP_of, List.getElem?_cons_zero, List.getElem?_cons_succ, Nat.reduceLeDiff, hE1, l13e, k13e]
    refine call_wf hW1 ?_
    refine s14e hW1 (hv.fra hF1 (by simp)) hbig (by omega) fun S2 hF2 hW2 hW2' => ?_
    simp (maxSteps := 100000000) (disch := first | omega | (simp only [Hp.add_next, Hp.put_next]; done) | (simp only [Hp.add_next, Hp.put_next]; omega) | fail) only [↓P_ext, optP_some, List.getElem?_cons_zero, List.getElem?_cons_succ]
    exact k S2 _ _ [] [] [] 3 (hF1.trans' hF2) hW2 (.inl ⟨rfl, rfl, rfl⟩) (.inl ⟨rfl, rfl, .inl rfl⟩) (fun v hv => by cases hv) (by simp) (by simp)
  · have hEn := hW E _ hE
    refine s13 hW hi hb (by omega) ht fun S1 A z hF1 hW1 a1 a2 a3 a4 => ?_
    have hE1 := hF1.at_ hEn (by simp) hE
    simp (maxSteps := 100000000) (disch := first | omega | (simp only [Hp.add_next, Hp.put_next]; done) | (simp only [Hp.add_next, Hp.put_next]; omega) | fail) only [↓P_ext, rdP_cells, optP_some, condP_of, List.getElem?_cons_zero, List.getElem?_cons_succ, Nat.reduceLeDiff, hE1, l13e, k13e]
    refine s14 (n := n) hW1 (hv.fra hF1 (by simp)) hb (by omega) ht (by omega) fun S2 A' z' hF2 hW2 b1 b2 b3 b4 => ?_
    simp (maxSteps := 100000000) (disch := first | omega | (simp only [Hp.add_next, Hp.put_next]; done) | (simp only [Hp.add_next, Hp.put_next]; omega) | fail) only [↓P_ext, optP_some, List.getElem?_cons_zero, List.getElem?_cons_succ]
    have hX : (hd12 y ++ [u8 (t / 256), u8 (t % 256)] ++ l).length = 14 + l.length := by simp [hd12]; omega
    have hXb : Byt (hd12 y ++ [u8 (t / 256), u8 (t % 256)] ++ l) := by
      intro v hv
      rcases List.mem_append.1 hv with hv | hv
      · rcases List.mem_append.1 hv with hv | hv
        · obtain ⟨j, _, rfl⟩ := List.mem_map.1 hv; exact ⟨_, rfl⟩
        · simp only [List.mem_cons, List.not_mem_nil, or_false] at hv
          rcases hv with rfl | rfl <;> exact ⟨_, rfl⟩
      · exact hb v hv
    have a4' := hF2.at_ a2 (by simp) a4
    exact k S2 _ _ (hd12 y ++ [u8 (t / 256), u8 (t % 256)] ++ l) [A] [A'] 0 (hF1.trans' hF2) hW2 (.inr ⟨A, z, rfl, by rw [hX], Nat.lt_of_lt_of_le a2 hF2.next, a3, a4'⟩)
      (.inr ⟨A', 0, 14 + l.length, _, rfl, by rw [hX], by rw [hX]; exact Nat.le_refl _, b2, .inr ⟨z', false, b3, b4⟩, by rw [List.drop_zero, List.take_length], by rw [hX]; omega⟩) hXb (by simpa using a1) (by rw [hX]; omega)
theorem fourteen : ∀ (ns : List Int), 14 ≤ ns.length → ∃ (y : Nat → Int) (a b : Int) (r : List Int), ns.map u8 = full y a b (r.map u8) ∧ a ∈ ns ∧ b ∈ ns ∧ r.length + 14 = ns.length
  | n0 :: n1 :: n2 :: n3 :: n4 :: n5 :: n6 :: n7 :: n8 :: n9 :: n10 :: n11 :: a :: b :: r, _ => ⟨fun j => [n0, n1, n2, n3, n4, n5, n6, n7, n8, n9, n10, n11].getD j 0, a, b, r, rfl, by simp, by simp, rfl⟩
  | [], h => by simp at h
  | [_], h => by simp at h
  | [_, _], h => by simp at h
  | [_, _, _], h => by simp at h
  | [_, _, _, _], h => by simp at h
  | [_, _, _, _, _], h => by simp at h
  | [_, _, _, _, _, _], h => by simp at h
  | [_, _, _, _, _, _, _], h => by simp at h
  | [_, _, _, _, _, _, _, _], h => by simp at h
  | [_, _, _, _, _, _, _, _, _], h => by simp at h
  | [_, _, _, _, _, _, _, _, _, _], h => by simp at h
  | [_, _, _, _, _, _, _, _, _, _, _], h => by simp at h
  | [_, _, _, _, _, _, _, _, _, _, _, _], h => by simp at h
  | [_, _, _, _, _, _, _, _, _, _, _, _, _], h => by simp at h
set_option maxHeartbeats 2000000 in
theorem l40 {n : Nat} {v : Value} {l : List Value} {W : List Nat} {y : Nat → Int} {t : Int} {K : Value → Value → Value → Value → Value → Value → Value → Value → Value → Hp → Prop} (hW : WF S) (hv : BS S v l W) (hb : Byt l) {ns : List Int} (hns : l = ns.map u8) (hr : ∀ m ∈ ns, 0 ≤ m ∧ m < 256) (hn : 100 < n) (hkn : ∀ S, Φ (.bool true) S)
    (k : ∀ S' P6 P9 A (y' : Nat → Int) (t' c : Int) pv qv lp Wp Wq, l.length ≤ 4000 → Fra [] S S' → WF S' → Own S' pv lp Wp → BS S' qv lp Wq → Byt lp → BS S' (.slice (some ⟨A, 0, none⟩) l.length l.length) l [A] → (∀ b ∈ Wp, S.next ≤ b ∧ b ≠ A) → lp.length ≤ 4000 → S.next ≤ A →
      S'.heap.get S.next = some (.cells none false (hd12 y ++ [.int .u16 t])) → S'.heap.get P6 = some (.cells none false (hd12 y' ++ [.int .u16 t'])) → S'.heap.get P9 = some (.cells none false (hd12 y' ++ [.int .u16 t'])) →
      K (.pointer (some ⟨P6, 0, none⟩)) (.pointer (some ⟨P9, 0, none⟩)) (i64 c) (i64 c) pv qv (.pointer (some ⟨S.next, 0, none⟩)) (.slice (some ⟨A, 0, none⟩) l.length l.length) v S') :
    H4_0 (callN T (n + 1)) (n + 1) Φ K (.agg ⟨hd12 y ++ [.int .u16 t]⟩) v S := by
  obtain ⟨n, rfl⟩ : ∃ n', n = n' + 1 := ⟨n - 1, by omega⟩
  unfold H4_0
  have hlen := hv.len
  by_cases h4 : 4000 < l.length
  · have e1 : decide (((l.length : Nat) : Int) > 4000) = true := decide_eq_true (by omega)
    simp (maxSteps := 100000000) (disch := first | omega | (simp only [Hp.add_next, Hp.put_next]; done) | (simp only [Hp.add_next, Hp.put_next]; omega) | fail) only [↓P_alloc, ↓P_box, ↓P_bslice, ↓P_store, ifP_bool, ifB_true, ↓P_gtr, ↓P_callF0, ↓P_callF1, blkP_cells, optP_some, add_eq, List.length_cons, List.length_nil, Nat.zero_add, Nat.reduceAdd, fillA, splice_z, cells_agg, List.nil_append, List.append_nil, hlen, e1, kn]
    exact hkn _
  have e1 : decide (((l.length : Nat) : Int) > 4000) = false := decide_eq_false (by omega)
  have hW1 := (hW.add (.cells none false (hd12 y ++ [.int .u16 t]))).add (.cells none false [])
  have hF1 := ((Fra.refl [] S).add (.cells none false (hd12 y ++ [.int .u16 t]))).add (.cells none false [])
  have g1 : ((S.add (.cells none false (hd12 y ++ [.int .u16 t]))).add (.cells none false [])).heap.get S.next = _ := (add_off (by (first | omega | (simp only [Hp.add_next, Hp.put_next]; done) | (simp only [Hp.add_next, Hp.put_next]; omega))) _).trans (add_at S (.cells none false (hd12 y ++ [.int .u16 t])))
  have gE : ((S.add (.cells none false (hd12 y ++ [.int .u16 t]))).add (.cells none false [])).heap.get (S.next + 1) = _ := add_at (S.add (.cells none false (hd12 y ++ [.int .u16 t]))) (.cells none false [])
  have n1 : ((S.add (.cells none false (hd12 y ++ [.int .u16 t]))).add (.cells none false [])).next = S.next + 2 := rfl
  simp (maxSteps := 100000000) (disch := first | omega | (simp only [Hp.add_next, Hp.put_next]; done) | (simp only [Hp.add_next, Hp.put_next]; omega) | fail) only [↓P_alloc, ↓P_box, ↓P_bslice, ↓P_store, ifP_bool, ifB_false, ↓P_gtr, ↓P_callF0, ↓P_callF1, blkP_cells, optP_some, add_eq, Hp.add_next, List.length_cons, List.length_nil, Nat.zero_add, Nat.reduceAdd, fillA, splice_z, cells_agg, List.nil_append, List.append_nil, hlen, e1]
  generalize (S.add (.cells none false (hd12 y ++ [.int .u16 t]))).add (.cells none false []) = S1 at hW1 hF1 g1 gE n1 ⊢
  have h1 := hv.fra hF1 (by simp)
  refine app_copy 1 1 5 _ (l := l) (n := l.length) hW1 h1.lenOf (by omega) gE h1.first hb.one (by omega) fun S2 A z hF2 hk2 hW2 a1 a2 a3 a4 => ?_
  have g2 := hF2.at_ (by omega) (by simp) g1
  have hF02 : Fra [] S S2 := hF1.trans (W := []) hF2 (by simp) (fun b hb => .inl (by have : b = S.next + 1 := (by simpa using hb); omega))
  have hA : BS S2 (.slice (some ⟨A, 0, none⟩) l.length l.length) l [A] := .inr ⟨A, 0, l.length, l, rfl, rfl, Nat.le_refl _, a2, .inr ⟨z, false, a3, a4⟩, by rw [List.drop_zero, List.take_length], by omega⟩
  have h2 := hv.fra hF02 (by simp)
  have n2 := hF2.next
  have hov : ∀ (y' : Nat → Int) (t' : Int), overlay [u8 0, u8 0, u8 0, u8 0, u8 0, u8 0, u8 0, u8 0, u8 0, u8 0, u8 0, u8 0, .int .u16 0] (hd12 y' ++ [Value.int .u16 t']) = hd12 y' ++ [.int .u16 t'] := fun _ _ => rfl
  have hall : ∀ (y' : Nat → Int) (t' : Int), ((hd12 y' ++ [Value.int .u16 t']).all fun x => x.oneCell') = true := fun _ _ => rfl
  have l13 := hd13_len
  by_cases hsmall : l.length < 14 ∨ 1600 < l.length
  · refine s11e hW2 hA hsmall fun S3 hF3 hW3 => ?_
    rw [show zero13 = hd12 (fun _ => 0) ++ [.int .u16 0] from rfl]
    simp (maxSteps := 100000000) (disch := first | omega | (simp only [Hp.add_next, Hp.put_next]; done) | (simp only [Hp.add_next, Hp.put_next]; omega) | fail) only [↓P_ext, optP_some, condP_of, List.getElem?_cons_zero, List.getElem?_cons_succ, Nat.reduceLeDiff, and_self, List.size_toArray, cells_agg, l13, hall, hov]
    have hF4 := (hF3.add (.cells none false [u8 0, u8 0, u8 0, u8 0, u8 0, u8 0, u8 0, u8 0, u8 0, u8 0, u8 0, u8 0, .int .u16 0])).put (b := S3.next) (.inl hF3.next) (some (.cells none false (hd12 (fun _ => 0) ++ [.int .u16 0])))
    have hW4 := (hW3.add (.cells none false [u8 0, u8 0, u8 0, u8 0, u8 0, u8 0, u8 0, u8 0, u8 0, u8 0, u8 0, u8 0, .int .u16 0])).put (b := S3.next) (by (first | omega | (simp only [Hp.add_next, Hp.put_next]; done) | (simp only [Hp.add_next, Hp.put_next]; omega))) (some (.cells none false (hd12 (fun _ => 0) ++ [.int .u16 0])))
    have g6 := put_at (S3.add (.cells none false [u8 0, u8 0, u8 0, u8 0, u8 0, u8 0, u8 0, u8 0, u8 0, u8 0, u8 0, u8 0, .int .u16 0])) S3.next (some (.cells none false (hd12 (fun _ => 0) ++ [.int .u16 0])))
    have n4 : ((S3.add (.cells none false [u8 0, u8 0, u8 0, u8 0, u8 0, u8 0, u8 0, u8 0, u8 0, u8 0, u8 0, u8 0, .int .u16 0])).put S3.next (some (.cells none false (hd12 (fun _ => 0) ++ [.int .u16 0])))).next = S3.next + 1 := rfl
    generalize (S3.add (.cells none false [u8 0, u8 0, u8 0, u8 0, u8 0, u8 0, u8 0, u8 0, u8 0, u8 0, u8 0, u8 0, .int .u16 0])).put S3.next (some (.cells none false (hd12 (fun _ => 0) ++ [.int .u16 0]))) = S4 at hF4 hW4 g6 n4 ⊢
    refine s12e hW4 (h2.fra hF4 (by simp)) hsmall fun S5 hF5 hW5 => ?_
    rw [show zero13 = hd12 (fun _ => 0) ++ [.int .u16 0] from rfl]
    simp (maxSteps := 100000000) (disch := first | omega | (simp only [Hp.add_next, Hp.put_next]; done) | (simp only [Hp.add_next, Hp.put_next]; omega) | fail) only [↓P_ext, optP_some, condP_of, List.getElem?_cons_zero, List.getElem?_cons_succ, Nat.reduceLeDiff, and_self, List.size_toArray, cells_agg, l13, hall, hov]
    have hF6 := (hF5.add (.cells none false [u8 0, u8 0, u8 0, u8 0, u8 0, u8 0, u8 0, u8 0, u8 0, u8 0, u8 0, u8 0, .int .u16 0])).put (b := S5.next) (.inl hF5.next) (some (.cells none false (hd12 (fun _ => 0) ++ [.int .u16 0])))
    have hW6 := (hW5.add (.cells none false [u8 0, u8 0, u8 0, u8 0, u8 0, u8 0, u8 0, u8 0, u8 0, u8 0, u8 0, u8 0, .int .u16 0])).put (b := S5.next) (by (first | omega | (simp only [Hp.add_next, Hp.put_next]; done) | (simp only [Hp.add_next, Hp.put_next]; omega))) (some (.cells none false (hd12 (fun _ => 0) ++ [.int .u16 0])))
    have n3 := hF3.next
    have hF46 := hF4.trans' hF6
    exact k _ S3.next S5.next A (fun _ => 0) 0 _ _ _ [] [] [] (by omega) (hF02.trans' hF46) hW6 (.inl ⟨rfl, rfl, rfl⟩) (.inl ⟨rfl, rfl, .inl rfl⟩) (fun v hv => by cases hv) (hA.fra hF46 (by simp)) (by simp) (by simp) (by omega)
      (hF46.at_ (by omega) (by simp) g2) (hF6.at_ (by omega) (by simp) g6) (put_at _ _ _)
  · have hln : l.length = ns.length := by rw [hns, List.length_map]
    obtain ⟨y', a, b, r, e, ha, hbb, hlr⟩ := fourteen ns (by omega)
    rw [← hns] at e
    have hrb : Byt (r.map u8) := fun v hv => by obtain ⟨m, _, rfl⟩ := List.mem_map.1 hv; exact ⟨m, rfl⟩
    have hrl : (r.map u8).length = r.length := List.length_map ..
    generalize r.map u8 = rl at e hrb hrl
    have hA' : BS S2 (.slice (some ⟨A, 0, none⟩) l.length l.length) (u8 (y' 0) :: u8 (y' 1) :: u8 (y' 2) :: u8 (y' 3) :: u8 (y' 4) :: u8 (y' 5) :: u8 (y' 6) :: u8 (y' 7) :: u8 (y' 8) :: u8 (y' 9) :: u8 (y' 10) :: u8 (y' 11) :: u8 a :: u8 b :: rl) [A] := by
      have := hA
      conv at this => arg 3; rw [e]
      exact this
    have hb' : Byt (u8 (y' 0) :: u8 (y' 1) :: u8 (y' 2) :: u8 (y' 3) :: u8 (y' 4) :: u8 (y' 5) :: u8 (y' 6) :: u8 (y' 7) :: u8 (y' 8) :: u8 (y' 9) :: u8 (y' 10) :: u8 (y' 11) :: u8 a :: u8 b :: rl) := by
      have := hb
      rw [e] at this
      exact this
    refine s11 (n := n) hW2 hA' hb' (hr a ha) (hr b hbb) (by omega) fun S3 A1 z1 hF3 hW3 b1 b2 b3 b4 => ?_
    rw [show ([u8 (y' 0), u8 (y' 1), u8 (y' 2), u8 (y' 3), u8 (y' 4), u8 (y' 5), u8 (y' 6), u8 (y' 7), u8 (y' 8), u8 (y' 9), u8 (y' 10), u8 (y' 11), .int .u16 (a * 256 + b)] : List Value) = hd12 y' ++ [.int .u16 (a * 256 + b)] from rfl]
    simp (maxSteps := 100000000) (disch := first | omega | (simp only [Hp.add_next, Hp.put_next]; done) | (simp only [Hp.add_next, Hp.put_next]; omega) | fail) only [↓P_ext, optP_some, condP_of, List.getElem?_cons_zero, List.getElem?_cons_succ, Nat.reduceLeDiff, and_self, List.size_toArray, cells_agg, l13, hall, hov]
    have hF4 := (hF3.add (.cells none false [u8 0, u8 0, u8 0, u8 0, u8 0, u8 0, u8 0, u8 0, u8 0, u8 0, u8 0, u8 0, .int .u16 0])).put (b := S3.next) (.inl hF3.next) (some (.cells none false (hd12 y' ++ [.int .u16 (a * 256 + b)])))
    have hF34 : Fra [] S3 ((S3.add (.cells none false [u8 0, u8 0, u8 0, u8 0, u8 0, u8 0, u8 0, u8 0, u8 0, u8 0, u8 0, u8 0, .int .u16 0])).put S3.next (some (.cells none false (hd12 y' ++ [.int .u16 (a * 256 + b)])))) := ((Fra.refl [] S3).add _).put (.inl (Nat.le_refl _)) _
    have hW4 := (hW3.add (.cells none false [u8 0, u8 0, u8 0, u8 0, u8 0, u8 0, u8 0, u8 0, u8 0, u8 0, u8 0, u8 0, .int .u16 0])).put (b := S3.next) (by (first | omega | (simp only [Hp.add_next, Hp.put_next]; done) | (simp only [Hp.add_next, Hp.put_next]; omega))) (some (.cells none false (hd12 y' ++ [.int .u16 (a * 256 + b)])))
    have g6 := put_at (S3.add (.cells none false [u8 0, u8 0, u8 0, u8 0, u8 0, u8 0, u8 0, u8 0, u8 0, u8 0, u8 0, u8 0, .int .u16 0])) S3.next (some (.cells none false (hd12 y' ++ [.int .u16 (a * 256 + b)])))
    have n4 : ((S3.add (.cells none false [u8 0, u8 0, u8 0, u8 0, u8 0, u8 0, u8 0, u8 0, u8 0, u8 0, u8 0, u8 0, .int .u16 0])).put S3.next (some (.cells none false (hd12 y' ++ [.int .u16 (a * 256 + b)])))).next = S3.next + 1 := rfl
    generalize (S3.add (.cells none false [u8 0, u8 0, u8 0, u8 0, u8 0, u8 0, u8 0, u8 0, u8 0, u8 0, u8 0, u8 0, .int .u16 0])).put S3.next (some (.cells none false (hd12 y' ++ [.int .u16 (a * 256 + b)]))) = S4 at hF4 hF34 hW4 g6 n4 ⊢
    have hv4 := h2.fra hF4 (by simp)
    rw [e] at hv4
    have b4' := hF34.at_ b2 (by simp) b4
    refine s12 (n := n + 1) hW4 hv4 hrb (hr a ha) (hr b hbb) (by omega) (by omega) fun S5 A2 z2 hF5 hW5 c1 c2 c3 c4 => ?_
    simp (maxSteps := 100000000) (disch := first | omega | (simp only [Hp.add_next, Hp.put_next]; done) | (simp only [Hp.add_next, Hp.put_next]; omega) | fail) only [↓P_ext, optP_some, condP_of, List.getElem?_cons_zero, List.getElem?_cons_succ, Nat.reduceLeDiff, and_self, List.size_toArray, cells_agg, l13, hall, hov]
    have hF6 := (hF5.add (.cells none false [u8 0, u8 0, u8 0, u8 0, u8 0, u8 0, u8 0, u8 0, u8 0, u8 0, u8 0, u8 0, .int .u16 0])).put (b := S5.next) (.inl hF5.next) (some (.cells none false (hd12 y' ++ [.int .u16 (a * 256 + b)])))
    have hF56 : Fra [] S5 ((S5.add (.cells none false [u8 0, u8 0, u8 0, u8 0, u8 0, u8 0, u8 0, u8 0, u8 0, u8 0, u8 0, u8 0, .int .u16 0])).put S5.next (some (.cells none false (hd12 y' ++ [.int .u16 (a * 256 + b)])))) := ((Fra.refl [] S5).add _).put (.inl (Nat.le_refl _)) _
    have hW6 := (hW5.add (.cells none false [u8 0, u8 0, u8 0, u8 0, u8 0, u8 0, u8 0, u8 0, u8 0, u8 0, u8 0, u8 0, .int .u16 0])).put (b := S5.next) (by (first | omega | (simp only [Hp.add_next, Hp.put_next]; done) | (simp only [Hp.add_next, Hp.put_next]; omega))) (some (.cells none false (hd12 y' ++ [.int .u16 (a * 256 + b)])))
    have n3 := hF3.next
    have n5 := hF5.next
    have hF46 := hF4.trans' hF6
    have b4'' := hF6.at_ (by omega) (by simp) b4'
    have c4' := hF56.at_ c2 (by simp) c4
    exact k _ S3.next S5.next A y' (a * 256 + b) 0 _ _ rl [A1] [A2] (by omega) (hF02.trans' hF46) hW6 (.inr ⟨A1, z1, rfl, rfl, by (first | omega | (simp only [Hp.add_next, Hp.put_next]; done) | (simp only [Hp.add_next, Hp.put_next]; omega)), b3, b4''⟩) (.inr ⟨A2, 0, rl.length, rl, rfl, rfl, Nat.le_refl _, by (first | omega | (simp only [Hp.add_next, Hp.put_next]; done) | (simp only [Hp.add_next, Hp.put_next]; omega)), .inr ⟨z2, false, c3, c4'⟩, by rw [List.drop_zero, List.take_length], by omega⟩) hrb (hA.fra hF46 (by simp)) (by intro w hw; have : w = A1 := (by simpa using hw); omega) (by omega) (by omega)
      (hF46.at_ (by omega) (by simp) g2) (hF6.at_ (by omega) (by simp) g6) (put_at _ _ _)
end
end Go.Proofs.YtmepokefmpcnnaaDoor.Et
