/- A call of Serve, in layer 28's first law. -/
import Derived.Test.YtmepokefmpcnnaaDrFC
set_option maxRecDepth 100000
set_option linter.unusedVariables false
set_option linter.unusedSimpArgs false
namespace Go.Proofs.Ytmepokefmpcnnaa.Dr
open Go.Wb
open Go.Proofs.Ytmepokefmpcnnaa.DrrFair
theorem at'_take {qs : List Int} {n i : Nat} (h : i < n) : at' (qs.take n) i = at' qs i := by
  unfold at'
  rw [List.getD_eq_getElem?_getD, List.getD_eq_getElem?_getD, List.getElem?_take, if_pos h]
theorem cst_le (f : Nat → List Int) (ms : List Nat) (i : Nat) : 64 ≤ cst f ms i ∧ cst f ms i ≤ 1600 := frameC_le _
/-- what holds ahead of a call and behind it -/
structure Ok53 (bs : List (List Value)) (p x y N : Nat) (qs : List Int) (j : Nat) (ms : List Nat) (ds ws : List Int) (t : Nat) (bg : Bool) (S : Hp) : Prop where
  st : Stt bs p x y ⟨keysN N, qs.take N, ds, t, bg⟩ (nats ms) ws S
  lm : ms.length = N
  lw : ws.length = N
  ld : ds.length = N
  inv : ∃ e s m, Inv N (at' (qs.take N)) (at' ds) (at' ws) t bg e s m
  ws : ∀ i, i < N → 0 ≤ at' ws i ∧ at' ws i ≤ 1600 * j
  ms : ∀ i, i < N → ms.getD i 0 ≤ j
theorem Stt.putx {bs : List (List Value)} {p x y : Nat} {r : Rd} {xs xs' ys : List Int} {S : Hp} (h : Stt bs p x y r xs ys S) : Stt bs p x y r xs' ys (S.put x (some (.cells none false (ints xs')))) := by
  obtain ⟨kv, qv, dv, bk, bq, bd, h1, h2⟩ := h.rd
  refine ⟨h.fr.put (.inl h.lx.1) _, h.wf.put h.lx.2 _, put_at _ _ _, by rw [put_off h.ne.symm]; exact h.hy, h.lx, h.ly, h.ne, kv, qv, dv, bk, bq, bd, h1.fra ((Fra.refl [x] _).put (.inr (by simp)) _) fun b hb hc => ?_, h2⟩
  exact (h2 b hb).2.1 (by simpa using hc)
theorem Stt.puty {bs : List (List Value)} {p x y : Nat} {r : Rd} {xs ys ys' : List Int} {S : Hp} (h : Stt bs p x y r xs ys S) : Stt bs p x y r xs ys' (S.put y (some (.cells none false (ints ys')))) := by
  obtain ⟨kv, qv, dv, bk, bq, bd, h1, h2⟩ := h.rd
  refine ⟨h.fr.put (.inl h.ly.1) _, h.wf.put h.ly.2 _, by rw [put_off h.ne]; exact h.hx, put_at _ _ _, h.lx, h.ly, h.ne, kv, qv, dv, bk, bq, bd, h1.fra ((Fra.refl [y] _).put (.inr (by simp)) _) fun b hb hc => ?_, h2⟩
  exact (h2 b hb).2.2 (by simpa using hc)
theorem r68 {bs : List (List Value)} {v0 v1 : Value} {qs : List Int} {xs : List Value} {f : Nat → List Int} {ms : List Nat} {Φ : Value → Hp → Prop} {S0 S : Hp} {p x y N L j t : Nat} {bg : Bool} {t3 t85 : Value} {ds ws : List Int} {K : Value → Value → Value → Value → Value → Value → Value → Value → Value → Hp → Prop}
    (hq : Arg bs v0 (ints qs)) (hx : Arg bs v1 xs) (hf : COk bs xs f N) (h0 : 2 ≤ N) (hN : N ≤ 6) (hNx : N = xs.length) (hNq : N ≤ qs.length) (hqs : ∀ i, i < N → mayQ (at' qs i) = true) (hj : j ≤ 300)
    (h : Ok53 bs p x y N qs j ms ds ws t bg S0) (hF : Fra [] S0 S) (hW : WF S) (hL : S.heap.get L = some (.cells (some 2) false (flat (cst f ms) N))) (hL1 : S0.next ≤ L) (hL2 : L < S.next)
    (k : ∀ S' ms' ds' ws' t', Ok53 bs p x y N qs (j + 1) ms' ds' ws' t' true S' → K v0 v1 t3 (.bool false) (ptr p) (.slice (some ⟨x, 0, none⟩) N N) (.slice (some ⟨y, 0, none⟩) N N) t85 (i64 ((j : Int) + 1)) S') :
    R68 (callN T 4000) 4000 Φ K (.slice (some ⟨L, 0, none⟩) N N) (ptr p) v1 (.slice (some ⟨y, 0, none⟩) N N) (.slice (some ⟨x, 0, none⟩) N N) v0 t3 (.bool false) t85 (i64 j) S := by
  unfold R68
  rw [P_call1]
  refine s55 rfl ?_
  have hS1 := h.st.fra (hF.add (.cells none false [.slice (some ⟨L, 0, none⟩) N N])) (hW.add _)
  have hF1 := hF.add (.cells none false [.slice (some ⟨L, 0, none⟩) N N])
  have hW1 := hW.add (.cells none false [.slice (some ⟨L, 0, none⟩) N N])
  have hb1 := add_at S (.cells none false [.slice (some ⟨L, 0, none⟩) N N])
  have hL3 : (S.add (.cells none false [.slice (some ⟨L, 0, none⟩) N N])).heap.get L = _ := (add_off (by omega) _).trans hL
  have n1 : (S.add (.cells none false [.slice (some ⟨L, 0, none⟩) N N])).next = S.next + 1 := rfl
  have n0 := hF.next
  generalize S.add (.cells none false [.slice (some ⟨L, 0, none⟩) N N]) = S1 at hS1 hF1 hW1 hb1 hL3 n1 ⊢
  obtain ⟨kv, qv, dv, bk, bq, bd, hR0, hdis⟩ := h.st.rd
  have hR1 := hR0.fra hF1 (by simp)
  have hlt0 := hR0.lts
  obtain ⟨e, s, m, hI⟩ := h.inv
  have hqs' : ∀ i, i < N → 1600 ≤ at' (qs.take N) i ∧ at' (qs.take N) i ≤ 65536 := by
    intro i hi
    rw [at'_take hi]
    have := hqs i hi
    unfold mayQ at this
    rw [Bool.and_eq_true, decide_eq_true_iff, decide_eq_true_iff] at this
    exact this
  have hql : (qs.take N).length = N := by rw [List.length_take]; omega
  obtain ⟨ds', i, m', hsv, hi, hds', hI'⟩ := call (c := cst f ms) (by omega) hN (fun i _ => cst_le f ms i) hql h.ld hqs' hI
  have hCL := CL.of (cap := N) hL3
  simp (maxSteps := 100000000) (disch := first | omega | (simp only [Hp.add_next, Hp.put_next]; done) | (simp only [Hp.add_next, Hp.put_next]; omega) | fail) only [↓P_lenS, ↓P_callF2, List.nil_append, List.append_nil]
  refine call_wf hW1 ?_
  have hkl := keysN_len N
  have hcl : (costsN (cst f ms) N).length = N := by simp [costsN]
  refine s54 (F := 2) hR1 hb1 (by omega) hCL (by simp; omega) (by rw [hcl]; omega) (by rw [hql, hkl]) (by rw [h.ld, hkl]) (by rw [hkl]; omega) (fun _ => by rw [hkl]; exact hI.t_lt) (by rw [hcl, hkl]; omega) hsv fun S2 hF2 hR2 hW2 => ?_
  have hkey : keyOf (keysN N) (some i) = keyN i := by
    show (keysN N).getD i _ = _
    rw [List.getD_eq_getElem?_getD, keysN_get hi]; rfl
  rw [hkey]
  have hS2 := hS1.step hR1 hdis (hF2.mono fun b hb => .inr (by rcases List.mem_cons.1 hb with rfl | hb; exact List.mem_cons_self ..; exact List.mem_cons_of_mem _ (by simp [hb]))) hW2 hR2 fun b hb => .inl hb
  clear hR2 hF2 hR1 hR0
  clear hCL hL3 hb1 hF1 hsv hI hdis
  have hs1 : (!(some i).isSome || !decide ((((keyN i).size : Nat) : Int) = 1)) = false := rfl
  have hs2 : (keyN i).data.toList[0]? = some (UInt8.ofNat (97 + i)) := rfl
  have hs3 : (((UInt8.ofNat (97 + i)).toNat : Nat) : Int) = 97 + (i : Int) := by
    rw [UInt8.toNat_ofNat', Nat.mod_eq_of_lt (by omega)]; omega
  have hs4 : (97 : Int) + (i : Int) - 97 = (i : Int) := by omega
  have hs5 : decide ((i : Int) ≥ ((xs.length : Nat) : Int)) = false := decide_eq_false (by omega)
  have hgx := hS2.hx
  have hgy := hS2.hy
  have hcx := nats_get (ms := ms) (i := i) (by have := h.lm; omega)
  have hcy := at'_get_ints (qs := ws) (i := i) (by have := h.lw; omega)
  obtain ⟨xk, hxk, hak, hlk, hrk⟩ := hf i hi
  have hlen := hx.len
  obtain ⟨iv, cv, zv, rfl, hiv, hgv⟩ := hx.pos (by omega)
  have hg := hgv S2 hS2.fr
  have hcell : (xs ++ zv)[i]? = some xk := by rw [List.getElem?_append_left (by omega)]; exact hxk
  simp (maxSteps := 100000000) (disch := first | omega | (simp only [Hp.add_next, Hp.put_next]; done) | (simp only [Hp.add_next, Hp.put_next]; omega) | fail) only [↓P_not, ↓P_ext, ↓P_load1, ↓D_load1, ↓P_store, ↓P_ixA, ↓P_ixS, ↓P_lenS, ↓P_lenStr, ↓P_andQ, orQ_p, ifP_bool, ifB_false, ↓P_geq, ↓P_neq, ↓P_subU8, ↓P_convI64, rdP_cells, rdP_ro, optP_some, condP_of, List.getElem?_cons_zero, List.getElem?_cons_succ, Nat.zero_add, Bool.or_self, Int.reduceToNat, Int.le_refl, Int.toNat_natCast, hs1, hs2, hs3, hs4, hs5, hgy, hcy, hg, hcell, hgx, hcx, Nat.mul_one]
  rw [D_call 12 _ 53 (vs := [xk, i64 ((ms.getD i 0 : Nat) : Int)]) rfl]
  refine D_specW (BdX.callN _ _ _ _) hS2.wf (W := []) (Post := fun v S' => v = i64 (cst f ms i)) (s53' hak hlk.1 hrk (fun b c hb => ro_get hS2.fr hb) ⟨Fra.refl _ _, rfl⟩) ?_
  rintro v S3 tt hF3 rfl hW3 t1 t2 t3' t4
  have hS3 := hS2.fra hF3 hW3
  have hgx3 := hS3.hx
  have hgy3 := hS3.hy
  have hne := hS3.ne
  have hcl2 := cst_le f ms i
  have hwi := h.ws i hi
  have hmi := h.ms i hi
  have hly : (ints ws).length = N := by rw [List.length_map]; exact h.lw
  have hlx : (ints (nats ms)).length = N := by rw [List.length_map, nats, List.length_map]; exact h.lm
  have hsy : splice (ints ws) i [i64 (at' ws i + cst f ms i)] = ints (ws.set i (at' ws i + cst f ms i)) := by
    rw [splice_eq _ _ _ (by first | (rw [hly]; exact hi) | (rw [hlx]; exact hi))]
    simp only [setAll]
    exact List.map_set.symm
  have hsx : splice (ints (nats ms)) i [i64 (((ms.getD i 0 : Nat) : Int) + 1)] = ints (nats (ms.set i (ms.getD i 0 + 1))) := by
    rw [splice_eq _ _ _ (by first | (rw [hly]; exact hi) | (rw [hlx]; exact hi))]
    simp only [setAll]
    unfold nats ints
    rw [List.map_set, List.map_set]
    simp
  have hgx4 : (S3.put y (some (Blk.cells none false (ints (ws.set i (at' ws i + cst f ms i)))))).heap.get x = some (.cells none false (ints (nats ms))) := by rw [put_off hne]; exact hgx3
  have hi1 : i + 1 ≤ N := hi
  have hP1 : ∀ q : Prop, condP (i + 1 ≤ N) q = q := fun q => condP_of hi1 q
  simp (maxSteps := 100000000) (disch := first | omega | (simp only [Hp.add_next, Hp.put_next]; done) | (simp only [Hp.add_next, Hp.put_next]; omega) | fail) only [↓P_add64, blkP_cells, condP_of, List.length_cons, List.length_nil, Nat.zero_add, and_true, List.size_toArray, List.all_cons, List.all_nil, one_int, cells_int, Bool.and_self, hgy3, hly, hsy]
  refine okP_in ?_ ?_
  · refine apart_keep (one_cons (.inr (apt_read (by have := hS2.ly.2; omega) fun hb => ?_).symm) one_nil) (apart_cons one_nil apart_nil)
    rcases t3' _ hb with hb | hb
    · have := hS2.ly.2; omega
    · simp at hb
  simp (maxSteps := 100000000) (disch := first | omega | (simp only [Hp.add_next, Hp.put_next]; done) | (simp only [Hp.add_next, Hp.put_next]; omega) | fail) only [↓P_add64, blkP_cells, rdP_cells, optP_some, condP_of, List.length_cons, List.length_nil, Nat.zero_add, and_true, List.size_toArray, List.all_cons, List.all_nil, one_int, cells_int, Bool.and_self, hlx, hgx4, hcx, hsx]
  have hS5 := (hS3.puty (ys' := ws.set i (at' ws i + cst f ms i))).putx (xs' := nats (ms.set i (ms.getD i 0 + 1)))
  generalize (S3.put y (some (Blk.cells none false (ints (ws.set i (at' ws i + cst f ms i)))))).put x (some (Blk.cells none false (ints (nats (ms.set i (ms.getD i 0 + 1)))))) = S5 at hS5 ⊢
  have hlw := h.lw
  have hws : at' (ws.set i (at' ws i + cst f ms i)) = fun j => if j = i then at' ws j + cst f ms i else at' ws j := by
    rw [at'_set (by omega)]
    funext j
    split
    · next e => rw [e]
    · rfl
  have hOk : Ok53 bs p x y N qs (j + 1) (ms.set i (ms.getD i 0 + 1)) ds' (ws.set i (at' ws i + cst f ms i)) i true S5 := by
    refine ⟨hS5, by rw [List.length_set]; exact h.lm, by rw [List.length_set]; exact h.lw, hds', ⟨e, s, m', by rw [hws]; exact hI'⟩, fun k hk => ?_, fun k hk => ?_⟩
    · rw [hws]
      have := h.ws k hk
      dsimp only
      split
      · omega
      · omega
    · have := h.ms k hk
      rw [List.getD_eq_getElem?_getD, List.getElem?_set]
      split
      · next e =>
        rw [if_pos (by have := h.lm; omega)]
        simp only [Option.getD_some]
        omega
      · rw [← List.getD_eq_getElem?_getD]; omega
  refine l126 (qs := qs.take N) (bs := ws.set i (at' ws i + cst f ms i)) (by omega) hN (fun a ha Φ => ?_) (fun a ha Φ => ?_) (fun Φ => by rw [P_lenS]) hqs' (fun a ha => ?_) (fun a b ha hb => ?_) ?_
  · rw [hq.get (at'_get_ints (by omega)) hS5.fr, at'_take ha]
  · exact A_get hS5.hy (at'_get_ints (by rw [List.length_set]; omega)) ha
  · have := hOk.ws a ha
    omega
  · have := hOk.inv
    obtain ⟨e', s', m'', hI2⟩ := this
    exact hI2.fair (fun i hi => by have := hqs' i hi; omega) ha hb
  · unfold R126
    rw [P_add64 (by omega) (by omega)]
    exact k S5 _ _ _ _ hOk
end Go.Proofs.Ytmepokefmpcnnaa.Dr
