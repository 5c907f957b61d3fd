/- The keys of layer 28's first law are added one by one. -/
import Derived.Test.YtmepokefmpcnnaaDrFA
set_option maxRecDepth 100000
set_option linter.unusedVariables false
set_option linter.unusedSimpArgs false
namespace Go.Proofs.Ytmepokefmpcnnaa.Dr
open Go.Wb
open Go.Proofs.Ytmepokefmpcnnaa.DrrFair
theorem _root_.Go.Proofs.Ytmepokefmpcnnaa.DrrFair.Arg.get {bs : List (List Value)} {v : Value} {xs : List Value} {i : Nat} {x : Value} (h : Arg bs v xs) (hx : xs[i]? = some x) {S : Hp} (hF : Fra [] (roHp bs) S) (C : Tgt → List Value → M Value) (Φ : Value → Hp → Prop) : wp (X C (.ixA 1 (.const v) (.const (i64 i)))) (fun t S => wp (X C (.load .one (.const t))) Φ S) S = Φ x S := by
  have hi := (List.getElem?_eq_some_iff.1 hx).1
  obtain ⟨id, c, zs, rfl, _, hg⟩ := h.pos (by omega)
  have hb := hg S hF
  have hcell : (xs ++ zs)[i]? = some x := by rw [List.getElem?_append_left hi]; exact hx
  simp (disch := first | omega | (simp only [Hp.add_next, Hp.put_next]; done) | (simp only [Hp.add_next, Hp.put_next]; omega) | fail) only [↓P_load1, ↓P_ixA, rdP_ro, optP_some, condP_of, Nat.zero_add, Int.toNat_natCast, hb, hcell, Nat.mul_one]
/-- what there is -/
structure Stt (bs : List (List Value)) (p x y : Nat) (r : Rd) (xs ys : List Int) (S : Hp) : Prop where
  fr : Fra [] (roHp bs) S
  wf : WF S
  hx : S.heap.get x = some (.cells none false (ints xs))
  hy : S.heap.get y = some (.cells none false (ints ys))
  lx : bs.length ≤ x ∧ x < S.next
  ly : bs.length ≤ y ∧ y < S.next
  ne : x ≠ y
  rd : ∃ kv qv dv bk bq bd, RdAt S p r kv qv dv bk bq bd ∧ ∀ b ∈ p :: (bk ++ bq ++ bd), bs.length ≤ b ∧ b ≠ x ∧ b ≠ y
theorem Stt.fra {bs : List (List Value)} {p x y : Nat} {r : Rd} {xs ys : List Int} {S S' : Hp} (h : Stt bs p x y r xs ys S) (hF : Fra [] S S') (hW : WF S') : Stt bs p x y r xs ys S' := by
  obtain ⟨kv, qv, dv, bk, bq, bd, h1, h2⟩ := h.rd
  have hn := hF.next
  exact ⟨h.fr.trans' hF, hW, hF.at_ h.lx.2 (by simp) h.hx, hF.at_ h.ly.2 (by simp) h.hy, ⟨h.lx.1, by have := h.lx.2; omega⟩, ⟨h.ly.1, by have := h.ly.2; omega⟩, h.ne, kv, qv, dv, bk, bq, bd, h1.fra hF (by simp), h2⟩
/-- what a call of the round's does -/
theorem Stt.step {bs : List (List Value)} {p x y : Nat} {r r' : Rd} {xs ys : List Int} {S S' : Hp} {kv qv dv kv' qv' dv' : Value} {bk bq bd bk' bq' bd' : List Nat} (h : Stt bs p x y r xs ys S) (h1 : RdAt S p r kv qv dv bk bq bd) (h2 : ∀ b ∈ p :: (bk ++ bq ++ bd), bs.length ≤ b ∧ b ≠ x ∧ b ≠ y)
    (hF : Fra (p :: (bk ++ bq ++ bd)) S S') (hW : WF S') (h3 : RdAt S' p r' kv' qv' dv' bk' bq' bd') (h4 : ∀ b ∈ bk' ++ bq' ++ bd', b ∈ bk ++ bq ++ bd ∨ S.next ≤ b) : Stt bs p x y r' xs ys S' := by
  have hn := hF.next
  have hr := h.fr.next
  rw [show (roHp bs).next = bs.length from rfl] at hr
  have n1 : x ∉ p :: (bk ++ bq ++ bd) := fun hc => (h2 x hc).2.1 rfl
  have n2 : y ∉ p :: (bk ++ bq ++ bd) := fun hc => (h2 y hc).2.2 rfl
  refine ⟨h.fr.trans hF (by simp) (fun b hb => .inl (h2 b hb).1), hW, hF.at_ h.lx.2 n1 h.hx, hF.at_ h.ly.2 n2 h.hy, ⟨h.lx.1, by have := h.lx.2; omega⟩, ⟨h.ly.1, by have := h.ly.2; omega⟩, h.ne, kv', qv', dv', bk', bq', bd', h3, fun b hb => ?_⟩
  rcases List.mem_cons.1 hb with rfl | hb
  · exact h2 b (List.mem_cons_self ..)
  · rcases h4 b hb with h5 | h5
    · exact h2 b (List.mem_cons_of_mem _ h5)
    · have := h.lx.2
      have := h.ly.2
      exact ⟨by omega, by omega, by omega⟩
theorem bytes_key {k : Nat} (hk : k < 6) : bytesOf [.int .u8 (97 + (k : Int))] = some [UInt8.ofNat (97 + k)] := by
  have : (97 : Int) + (k : Int) = ((97 + k : Nat) : Int) := by omega
  rw [this]
  simp only [bytesOf]
  rfl
theorem b2str_key {C : Tgt → List Value → M Value} {S : Hp} {b k : Nat} {e : Option Nat} {s : Bool} {Φ : Value → Hp → Prop} (hk : k < 6) (hb : S.heap.get b = some (.cells e s [.int .u8 (97 + (k : Int))])) : wp (X C (.conv .b2str (.const (.slice (some ⟨b, 0, none⟩) 1 1)))) Φ S = Φ (.string (keyN k)) S := by
  have h := bytes_key hk
  simp (disch := first | omega | (simp only [Hp.add_next, Hp.put_next]; done) | (simp only [Hp.add_next, Hp.put_next]; omega) | fail) only [rdP_cells, optP_some, condP_of, ↓P_b2str, List.length_cons, List.length_nil, Nat.zero_add, Nat.reduceLeDiff, List.drop_zero, List.take_succ_cons, List.take_zero, hb, h]
  rfl
theorem at'_get_ints {qs : List Int} {i : Nat} (h : i < qs.length) : (ints qs)[i]? = some (i64 (at' qs i)) := by
  rw [List.getElem?_map, at'_get h]; rfl
/-- the costs that are handed in -/
def CostsOk (bs : List (List Value)) (xs : List Value) (N : Nat) : Prop := ∀ i, i < N → ∃ (x : Value) (ns : List Int), xs[i]? = some x ∧ Arg bs x (ns.map (.int .u16)) ∧ (1 ≤ ns.length ∧ ns.length ≤ 20) ∧ ∀ n ∈ ns, 0 ≤ n ∧ n < 65536
theorem l17 {bs : List (List Value)} {v0 v1 : Value} {qs : List Int} {xs : List Value} {Φ : Value → Hp → Prop} {S : Hp} {p x y : Nat} {t2 t3 t10 t11 : Value} {us ws : List Int} {K : Value → Value → Value → Value → Value → Value → Value → Value → Hp → Prop}
    (hq : Arg bs v0 (ints qs)) (hx : Arg bs v1 xs) (hxs : ∀ x ∈ xs, ∃ ns : List Int, Arg bs x (ns.map (.int .u16)) ∧ ∀ n ∈ ns, 0 ≤ n ∧ n < 65536) (h0 : 0 < xs.length) (hN : xs.length ≤ 6) (hNq : xs.length ≤ qs.length) (ht : ∀ S, Φ (.bool true) S)
    (h : Stt bs p x y ⟨[], [], [], 0, false⟩ us ws S)
    (k : ∀ S', Stt bs p x y ⟨keysN xs.length, qs.take xs.length, List.replicate xs.length 0, 0, false⟩ us ws S' → (∀ i, i < xs.length → mayQ (at' qs i) = true) → CostsOk bs xs xs.length → K t2 v0 v1 t3 (.bool false) (ptr p) t10 t11 S') :
    L17 (callN T 4000) 4000 Φ K v0 v1 t2 t3 (ptr p) t10 t11 (i64 xs.length) S := by
  refine ⟨fun m u0 u1 u2 u3 u8 u9 u10 u11 u47 u48 u49 S' => ∃ k : Nat, u0 = v0 ∧ u1 = v1 ∧ u2 = t2 ∧ u3 = t3 ∧ u8 = .bool false ∧ u9 = ptr p ∧ u10 = t10 ∧ u11 = t11 ∧ u47 = v1 ∧ u48 = i64 xs.length ∧ u49 = i64 k ∧ k ≤ xs.length ∧ m = xs.length - k ∧ Stt bs p x y ⟨keysN k, qs.take k, List.replicate k 0, 0, false⟩ us ws S' ∧ (∀ i, i < k → mayQ (at' qs i) = true) ∧ CostsOk bs xs k,
    ⟨xs.length, by omega, 0, rfl, rfl, rfl, rfl, rfl, rfl, rfl, rfl, rfl, rfl, rfl, Nat.zero_le _, rfl, h, fun i hi => by omega, fun i hi => by omega⟩, ?_⟩
  rintro m S1 u0 u1 u2 u3 u8 u9 u10 u11 u47 u48 u49 ⟨i, rfl, rfl, rfl, rfl, rfl, rfl, rfl, rfl, rfl, rfl, rfl, hi, rfl, hS, hm, hc⟩
  rw [P_lss, ifP_bool]
  refine ifD_in (fun hlt => ?_) (fun hge => ?_)
  rotate_left
  · obtain rfl : i = xs.length := by omega
    exact k S1 hS hm hc
  have hlt : i < xs.length := by omega
  obtain ⟨xk, hxk⟩ : ∃ x, xs[i]? = some x := ⟨_, List.getElem?_eq_getElem hlt⟩
  obtain ⟨ns, hns, hnr⟩ := hxs xk (List.mem_of_getElem? hxk)
  rw [hx.get hxk hS.fr]
  have hl := hns.len
  rw [List.length_map] at hl
  have hqk := at'_get_ints (show i < qs.length by omega)
  have hqget := hq.get hqk hS.fr (callN T 4000)
  by_cases hb : 1 ≤ ns.length ∧ ns.length ≤ 20
  rotate_left
  · have e : (decide ((ns.length : Int) < 1) || decide ((ns.length : Int) > 20)) = true := by
      rw [Bool.or_eq_true, decide_eq_true_iff, decide_eq_true_iff]; omega
    simp (maxSteps := 100000000) (disch := first | omega | (simp only [Hp.add_next, Hp.put_next]; done) | (simp only [Hp.add_next, Hp.put_next]; omega) | fail) only [↓P_andQ, andQ_ft, orQ_p, ifP_bool, ifB_true, ↓P_lss, ↓P_gtr, ↓P_add64, ↓P_convU8, ↓P_callF0, ↓P_callF1, ↓P_callF3, true_and, List.nil_append, List.append_nil, hl, e, kn]
    exact ht _
  have e : (decide ((ns.length : Int) < 1) || decide ((ns.length : Int) > 20)) = false := by
    rw [Bool.or_eq_false_iff, decide_eq_false_iff_not, decide_eq_false_iff_not]; omega
  simp (maxSteps := 100000000) (disch := first | omega | (simp only [Hp.add_next, Hp.put_next]; done) | (simp only [Hp.add_next, Hp.put_next]; omega) | fail) only [↓P_andQ, andQ_ff, orQ_p, ↓P_lss, ↓P_gtr, ↓P_add64, ↓P_convU8, ↓P_callF0, ↓P_callF1, ↓P_callF3, true_and, List.nil_append, List.append_nil, hl, e, hqget]
  refine s51 ?_
  cases hmq : mayQ (at' qs i) with
  | false =>
    simp (maxSteps := 100000000) (disch := first | omega | (simp only [Hp.add_next, Hp.put_next]; done) | (simp only [Hp.add_next, Hp.put_next]; omega) | fail) only [↓P_not, ifP_bool, ifB_true, Bool.not_false, kn]
    exact ht _
  | true =>
  simp (maxSteps := 100000000) (disch := first | omega | (simp only [Hp.add_next, Hp.put_next]; done) | (simp only [Hp.add_next, Hp.put_next]; omega) | fail) only [↓P_not, ifP_bool, ifB_false, Bool.not_true]
  refine D_bslice 4 _ 5 1 _ _ _ ?_
  simp (maxSteps := 100000000) (disch := first | omega | (simp only [Hp.add_next, Hp.put_next]; done) | (simp only [Hp.add_next, Hp.put_next]; omega) | fail) only [rdP_cells, optP_some, condP_of, add_eq, ↓P_b2str, List.length_cons, List.length_nil, Nat.zero_add, Nat.reduceLeDiff, List.drop_zero, List.take_succ_cons, List.take_zero, and_self, if_true, fillA, Atom.ev, setAll, List.set_cons_zero, List.size_toArray, cells_int]
  rw [bytes_key (by omega), optP_some]
  have hlen : (ints qs).length = qs.length := List.length_map ..
  obtain ⟨iq, cq, zq, rfl, hiq, hgq⟩ := hq.pos (by omega)
  have hg := hgq _ (hS.fr.add (.cells none false [.int .u8 (97 + (i : Int))]))
  have hcell : (ints qs ++ zq)[i]? = some (i64 (at' qs i)) := by rw [List.getElem?_append_left (by omega)]; exact hqk
  simp (maxSteps := 100000000) (disch := first | omega | (simp only [Hp.add_next, Hp.put_next]; done) | (simp only [Hp.add_next, Hp.put_next]; omega) | fail) only [↓D_load1, ↓P_ixA, rdP_ro, optP_some, condP_of, Hp.add_next, Nat.zero_add, Int.toNat_natCast, hg, hcell, Nat.mul_one]
  have hW1 : WF (S1.add (.cells none false [.int .u8 (97 + (i : Int))])) := hS.wf.add _
  have hS2 : Stt bs p x y ⟨keysN i, qs.take i, List.replicate i 0, 0, false⟩ us ws (S1.add (.cells none false [.int .u8 (97 + (i : Int))])) := hS.fra ((Fra.refl _ _).add _) hW1
  have hn1 : (roHp bs).next ≤ S1.next := hS.fr.next
  generalize S1.add (.cells none false [.int .u8 (97 + (i : Int))]) = S2 at hW1 hS2 hg ⊢
  obtain ⟨kv, qv, dv, bk, bq, bd, hR, hdis⟩ := hS2.rd
  refine call_wf hW1 ?_
  have hA := addR_next (k := i) (qs := qs.take i) (ds := List.replicate i 0) (q := at' qs i) (by omega) hmq (by rw [List.length_take]; omega) (List.length_replicate ..)
  refine s52 (key := keyN i) hW1 hR (keysN_rise (by omega)) (by rw [List.length_take, keysN_len]; omega) (by rw [List.length_replicate, keysN_len]) (by rw [keysN_len]; omega) (Nat.zero_le _) (by rw [keysN_len]; omega) fun S3 kv' qv' dv' bk' bq' bd' hF hR3 hbl hW3 => ?_
  rw [hA] at hR3 ⊢
  have hS3 := hS2.step hR hdis hF hW3 hR3 hbl
  simp (maxSteps := 100000000) (disch := first | omega | (simp only [Hp.add_next, Hp.put_next]; done) | (simp only [Hp.add_next, Hp.put_next]; omega) | fail) only [ifP_bool, ifB_false, ↓P_neq, Bool.not_true, decide_true]
  refine okP_in ?_ ?_
  · exact apart_cons (one_cons (.inr (apt_ra (by have : (roHp bs).next = bs.length := rfl; omega))) one_nil) (apart_cons one_nil apart_nil)
  refine ⟨xs.length - (i + 1), by omega, i + 1, by simp, by omega, rfl, ?_, ?_, ?_⟩
  · have e1 : qs.take (i + 1) = qs.take i ++ [at' qs i] := by rw [List.take_add_one, at'_get (by omega)]; rfl
    have e2 : List.replicate (i + 1) (0 : Int) = List.replicate i 0 ++ [0] := List.replicate_succ' ..
    rw [e1, e2]
    exact hS3
  · intro j hj
    by_cases hji : j = i
    · subst hji; exact hmq
    · exact hm j (by omega)
  · intro j hj
    by_cases hji : j = i
    · subst hji; exact ⟨xk, ns, hxk, hns, hb, hnr⟩
    · exact hc j (by omega)
end Go.Proofs.Ytmepokefmpcnnaa.Dr
