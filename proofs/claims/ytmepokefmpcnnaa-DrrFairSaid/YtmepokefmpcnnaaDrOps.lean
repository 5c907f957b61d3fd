/- What layer 28's functions do: keys come and go. -/
import Derived.Test.YtmepokefmpcnnaaDrSpec
set_option maxRecDepth 100000
set_option linter.unusedVariables false
set_option linter.unusedSimpArgs false
namespace Go.Proofs.Ytmepokefmpcnnaa.Dr
open Go.Wb
def insAt {α : Type} (l : List α) (i : Nat) (x : α) : List α := l.take i ++ x :: l.drop i
/-- Add -/
def addR (r : Rd) (key : ByteArray) (q : Int) : Rd × Int :=
  if mayQ q = false then (r, 2) else if r.ks[lowB r.ks key]? = some key then (r, 8) else if r.ks.length = 64 then (r, 9)
  else ({ ks := insAt r.ks (lowB r.ks key) key, qs := insAt r.qs (lowB r.ks key) q, ds := insAt r.ds (lowB r.ks key) 0, t := if lowB r.ks key ≤ r.t ∧ 0 < r.ks.length then r.t + 1 else r.t, bg := r.bg }, 0)
theorem strs_ins (ks : List ByteArray) (i : Nat) (k : ByteArray) : (strs ks).take i ++ .string k :: (strs ks).drop i = strs (insAt ks i k) := by simp [insAt, strs, List.map_take, List.map_drop]
theorem ints_ins (ks : List Int) (i : Nat) (k : Int) : (ints ks).take i ++ i64 k :: (ints ks).drop i = ints (insAt ks i k) := by simp [insAt, ints, List.map_take, List.map_drop]
theorem Lst.one {S : Hp} {v : Value} {xs : List Value} {W : List Nat} (h : Lst S v xs W) : W.Nodup := by
  rcases h with ⟨_, _, rfl⟩ | ⟨b, e, zs, rfl, _⟩ <;> simp
theorem s52 {n : Nat} {S : Hp} {p : Nat} {r : Rd} {kv qv dv : Value} {bk bq bd : List Nat} {key : ByteArray} {q : Int} {Φ : Value → Hp → Prop} (hW : WF S) (hR : RdAt S p r kv qv dv bk bq bd) (hr : Rise r.ks) (hq : r.qs.length = r.ks.length) (hd : r.ds.length = r.ks.length) (hlen : r.ks.length ≤ 64) (ht : r.t ≤ 64) (hn : r.ks.length < n)
    (k : ∀ S' kv' qv' dv' bk' bq' bd', Fra (p :: (bk ++ bq ++ bd)) S S' → RdAt S' p (addR r key q).1 kv' qv' dv' bk' bq' bd' → (∀ b ∈ bk' ++ bq' ++ bd', b ∈ bk ++ bq ++ bd ∨ S.next ≤ b) → Φ (i64 (addR r key q).2) S') :
    wp (callN T (n + 1 + 1 + 1 + 1) (.fn 52) [ptr p, .string key, i64 q]) Φ S := by
  refine c52 g52 ?_
  unfold P52
  have hp := hR.at_
  rw [P_call1]
  refine s95 hp ?_
  simp (maxSteps := 100000000) (disch := first | omega | (simp only [Hp.add_next, Hp.put_next]; done) | (simp only [Hp.add_next, Hp.put_next]; omega) | fail) only [↓P_fldA, ↓P_nil, ↓P_bslice, ↓P_load1, ↓D_load1, ↓P_store, ifP_bool, ifB_false, ↓P_callF1, ↓P_callF2, ↓P_callF3, blkP_cells, rdP_cells, optP_some, put_at, Hp.put_next, List.getElem?_cons_zero, List.length_cons, List.length_nil, Nat.zero_add, Nat.add_zero, Nat.reduceLeDiff, and_self, if_true, fillA, Atom.ev, setAll, List.set_cons_zero, List.size_toArray, splice_z, cells_str, List.nil_append, List.append_nil, hp]
  refine s96 hR.ks hr (by omega) (by omega) ?_
  simp (maxSteps := 100000000) (disch := first | omega | (simp only [Hp.add_next, Hp.put_next]; done) | (simp only [Hp.add_next, Hp.put_next]; omega) | fail) only [↓P_ext, ifP_bool, optP_some, List.getElem?_cons_zero, List.getElem?_cons_succ]
  refine s97 ?_
  unfold addR at k
  have same : ∀ e : Int, addR r key q = (r, e) → Φ (i64 e) S := by
    intro e he
    have := k S kv qv dv bk bq bd (Fra.refl _ _)
    unfold addR at he
    rw [he] at this
    exact this hR fun b hb => .inl hb
  cases hm : mayQ q with
  | false =>
    simp (disch := first | omega | (simp only [Hp.add_next, Hp.put_next]; done) | (simp only [Hp.add_next, Hp.put_next]; omega) | fail) only [↓P_not, ifP_bool, ifB_true, Bool.not_false]
    exact same 2 (by unfold addR; rw [if_pos hm])
  | true =>
  by_cases hin : r.ks[lowB r.ks key]? = some key
  · have e1 : decide (r.ks[lowB r.ks key]? = some key) = true := decide_eq_true hin
    simp (disch := first | omega | (simp only [Hp.add_next, Hp.put_next]; done) | (simp only [Hp.add_next, Hp.put_next]; omega) | fail) only [↓P_not, ifP_bool, ifB_true, ifB_false, Bool.not_true, e1]
    exact same 8 (by unfold addR; rw [if_neg (by rw [hm]; simp), if_pos hin])
  have e1 : decide (r.ks[lowB r.ks key]? = some key) = false := decide_eq_false hin
  have hklen := hR.ks.len (S' := S)
  rw [show (strs r.ks).length = r.ks.length from List.length_map ..] at hklen
  simp (maxSteps := 100000000) (disch := first | omega | (simp only [Hp.add_next, Hp.put_next]; done) | (simp only [Hp.add_next, Hp.put_next]; omega) | fail) only [↓P_not, ifP_bool, ifB_false, ↓P_eql, rdP_cells, optP_some, List.getElem?_cons_zero, Bool.not_true, e1, hp, hklen]
  refine ifB_in (fun h64 => ?_) (fun h64 => ?_)
  · have h64 : r.ks.length = 64 := by have := of_decide_eq_true h64; omega
    exact same 9 (by unfold addR; rw [if_neg (by rw [hm]; simp), if_neg hin, if_pos h64])
  have h64 : r.ks.length ≠ 64 := by have := of_decide_eq_false h64; omega
  rw [if_neg (by rw [hm]; simp), if_neg hin, if_neg h64] at k
  obtain ⟨at_, hat⟩ : ∃ a, a = lowB r.ks key := ⟨_, rfl⟩
  have hatl : at_ ≤ r.ks.length := by rw [hat]; exact lowB_le _ _
  rw [← hat] at k ⊢
  have hnd := hR.nod
  have hlts := hR.lts
  simp (maxSteps := 100000000) (disch := first | omega | (simp only [Hp.add_next, Hp.put_next]; done) | (simp only [Hp.add_next, Hp.put_next]; omega) | fail) only [↓P_andQ, andQ_p, ifP_bool, ↓P_leq, ↓P_gtr, rdP_cells, optP_some, List.getElem?_cons_zero, List.getElem?_cons_succ, hp, hklen]
  refine jn_intro fun J hJ => ?_
  obtain ⟨t2, ht2⟩ : ∃ t2, t2 = if at_ ≤ r.t ∧ 0 < r.ks.length then r.t + 1 else r.t := ⟨_, rfl⟩
  rw [← ht2] at k
  have main : ∀ S1, RdAt S1 p { r with t := t2 } kv qv dv bk bq bd → WF S1 → Fra [p] S S1 → J S1 := by
    intro S1 hR1 hW1 hF1
    subst hJ
    have hp1 := hR1.at_
    have hF1n := hF1.next
    have hlt1 := hR1.lts
    simp (maxSteps := 100000000) (disch := first | omega | (simp only [Hp.add_next, Hp.put_next]; done) | (simp only [Hp.add_next, Hp.put_next]; omega) | fail) only [rdP_cells, optP_some, List.getElem?_cons_zero, hp1]
    refine call_wf (hW1.add _) ?_
    have hnk : S1.next ∉ bk := fun hc => by have := hR1.ks.lt _ hc; omega
    refine Lst.ins g98 (hR1.ks.fra ((Fra.refl [] S1).add _) (by simp)) (by simp; omega) (add_at _ _) hnk (by (first | omega | (simp only [Hp.add_next, Hp.put_next]; done) | (simp only [Hp.add_next, Hp.put_next]; omega))) (by omega) (by simp; omega) (one_strs _) rfl fun kv' S2 bk' hF2 hL2 hb2 hW2 => ?_
    rw [strs_ins] at hL2
    have hF2' : Fra bk S1 S2 := ((Fra.refl _ _).add _).trans' hF2
    have hpk : p ∉ bk := fun hc => (List.nodup_cons.1 hnd).1 (by simp [hc])
    have hp2 := hF2'.at_ hR1.lt hpk hp1
    have hkv1 : kv'.cells = #[kv'] ∧ kv'.oneCell' = true := by
      rcases hL2 with ⟨rfl, _⟩ | ⟨b, e, zs, _, rfl, _⟩ <;> exact ⟨rfl, rfl⟩
    simp (disch := first | omega | (simp only [Hp.add_next, Hp.put_next]; done) | (simp only [Hp.add_next, Hp.put_next]; omega) | fail) only [blkP_cells, optP_some, condP_of, List.getElem?_cons_zero, List.getElem?_cons_succ, List.length_cons, List.length_nil, Nat.zero_add, Nat.reduceAdd, Nat.reduceLeDiff, and_self, List.size_toArray, overlay_n, overlay_c, List.all_cons, List.all_nil, Bool.and_self, hkv1.1, hkv1.2, hp2]
    have hF3 : Fra (p :: bk) S1 (S2.put p (some (.cells none false [kv', qv, dv, i64 t2, .bool true, .bool r.bg]))) := (hF2'.mono fun b hb => .inr (List.mem_cons_of_mem _ hb)).put (.inr (List.mem_cons_self ..)) _
    have hp3 := put_at S2 p (some (.cells none false [kv', qv, dv, i64 t2, .bool true, .bool r.bg]))
    have hF2n := hF2'.next
    have hW3 : WF (S2.put p (some (.cells none false [kv', qv, dv, i64 t2, .bool true, .bool r.bg]))) := hW2.put (by have := hR1.lt; omega) _
    have hb2' : ∀ b ∈ bk', b ∈ bk ∨ S1.next ≤ b := fun b hb => (hb2 b hb).imp id fun h => by rw [Hp.add_next] at h; omega
    have hpk' : p ∉ bk' := fun hc => by rcases hb2' p hc with h | h; exact hpk h; have := hR1.lt; omega
    have hL3 : Lst (S2.put p (some (.cells none false [kv', qv, dv, i64 t2, .bool true, .bool r.bg]))) kv' (strs (insAt r.ks at_ key)) bk' := hL2.fra ((Fra.refl [p] _).put (.inr (by simp)) _) (fun b hb e => by rw [List.mem_singleton] at e; subst e; exact hpk' hb)
    have n3 : (S2.put p (some (.cells none false [kv', qv, dv, i64 t2, .bool true, .bool r.bg]))).next = S2.next := rfl
    generalize S2.put p (some (.cells none false [kv', qv, dv, i64 t2, .bool true, .bool r.bg])) = S3 at hF3 hp3 hW3 hL3 n3 ⊢
    have hdis : (∀ b ∈ bq, b ∉ p :: bk) ∧ (∀ b ∈ bd, b ∉ p :: bk) ∧ (∀ b ∈ bd, b ∉ bq) ∧ p ∉ bq ∧ p ∉ bd ∧ (∀ b ∈ bk, b ∉ bq) ∧ (∀ b ∈ bk, b ∉ bd) := by
      have h1 := List.nodup_cons.1 hnd
      have h2 := List.nodup_append.1 h1.2
      have h3 := List.nodup_append.1 h2.1
      refine ⟨fun b hb hc => ?_, fun b hb hc => ?_, fun b hb hc => h2.2.2 b (by simp [hc]) b hb rfl, fun hc => h1.1 (by simp [hc]), fun hc => h1.1 (by simp [hc]), fun b hb hc => h3.2.2 b hb b hc rfl, fun b hb hc => h2.2.2 b (by simp [hb]) b hc rfl⟩
      · rcases List.mem_cons.1 hc with rfl | hc
        · exact h1.1 (by simp [hb])
        · exact h3.2.2 b hc b hb rfl
      · rcases List.mem_cons.1 hc with rfl | hc
        · exact h1.1 (by simp [hb])
        · exact h2.2.2 b (by simp [hc]) b hb rfl
    obtain ⟨dqk, ddk, ddq, hpq, hpd, dkq, dkd⟩ := hdis
    have hLq3 := hR1.qs.fra hF3 dqk
    have hLd3 := hR1.ds.fra hF3 ddk
    refine D_bslice 8 _ 3 1 _ _ _ ?_
    simp (disch := first | omega | (simp only [Hp.add_next, Hp.put_next]; done) | (simp only [Hp.add_next, Hp.put_next]; omega) | fail) only [optP_some, List.length_cons, List.length_nil, Nat.zero_add, Nat.reduceLeDiff, and_self, if_true, fillA, Atom.ev, setAll, List.set_cons_zero, List.size_toArray, cells_int]
    have hW4 : WF (S3.add (.cells none false [i64 q])) := hW3.add _
    have hp4 : (S3.add (.cells none false [i64 q])).heap.get p = some (.cells none false [kv', qv, dv, i64 t2, .bool true, .bool r.bg]) := by rw [add_off (by have := hR1.lt; omega)]; exact hp3
    have hnq : S3.next ∉ bq := fun hc => by have := hLq3.lt _ hc; omega
    rw [D_call 9 _ 99 (vs := [qv, i64 at_, .slice (some ⟨S3.next, 0, none⟩) 1 1]) rfl]
    refine D_specW (BdX.callN _ _ _ _) hW4 (W := bq) (Post := fun v S' => ∃ bq', Lst S' v (ints (insAt r.qs at_ q)) bq' ∧ ∀ b ∈ bq', b ∈ bq ∨ (S3.add (.cells none false [i64 q])).next ≤ b)
      (Lst.ins g99 (hLq3.fra ((Fra.refl [] S3).add _) (by simp)) (by simp; omega) (add_at _ _) hnq (by (first | omega | (simp only [Hp.add_next, Hp.put_next]; done) | (simp only [Hp.add_next, Hp.put_next]; omega))) (by omega) (by simp; omega) (one_ints _) rfl fun qv' S' bq' hF hL hb => ⟨hF, bq', by rw [ints_ins] at hL; exact hL, hb⟩) ?_
    rintro qv' S5 t hF5 ⟨bq', hLq5, hbq5⟩ hW5 t1 t2' t3 t4
    have hF5' : Fra bq S3 S5 := ((Fra.refl _ _).add _).trans' hF5
    have hF5n := hF5'.next
    have hp5 := hF5'.at_ (by have := hR1.lt; omega) hpq hp3
    simp (disch := first | omega | (simp only [Hp.add_next, Hp.put_next]; done) | (simp only [Hp.add_next, Hp.put_next]; omega) | fail) only [rdP_cells, optP_some, List.getElem?_cons_zero, List.getElem?_cons_succ, hp5]
    have hplt := hR1.lt
    refine D_bslice 15 _ 3 1 _ _ _ ?_
    simp (disch := first | omega | (simp only [Hp.add_next, Hp.put_next]; done) | (simp only [Hp.add_next, Hp.put_next]; omega) | fail) only [optP_some, List.length_cons, List.length_nil, Nat.zero_add, Nat.reduceLeDiff, and_self, if_true, fillA, Atom.ev, setAll, List.set_cons_zero, List.size_toArray, cells_int]
    have hLd5 := hLd3.fra hF5' ddq
    have hLk5 := hL3.fra hF5' fun b hb hc => by
      rcases hb2' b hb with h | h
      · exact dkq b h hc
      · have := hR1.lts b (by simp [hc]); omega
    have hnd5 : S5.next ∉ bd := fun hc => by have := hLd5.lt _ hc; omega
    refine Lst.ins g99 (hLd5.fra ((Fra.refl [] S5).add _) (by simp)) (by simp; omega) (add_at _ _) hnd5 (by (first | omega | (simp only [Hp.add_next, Hp.put_next]; done) | (simp only [Hp.add_next, Hp.put_next]; omega))) (by omega) (by simp; omega) (one_ints _) rfl fun dv' S6 bd' hF6 hLd6 hbd6 => ?_
    rw [ints_ins] at hLd6
    have hF6' : Fra bd S5 S6 := ((Fra.refl _ _).add _).trans' hF6
    have hF6n := hF6'.next
    have hp6 := hF6'.at_ (by omega) hpd hp5
    have hcell : ∀ {S : Hp} {v : Value} {xs : List Value} {W : List Nat}, Lst S v xs W → v.cells = #[v] ∧ v.oneCell' = true := by
      intro S v xs W h
      rcases h with ⟨rfl, _⟩ | ⟨b, e, zs, _, rfl, _⟩ <;> exact ⟨rfl, rfl⟩
    have hq1 := hcell hLq5
    have hd1 := hcell hLd6
    simp (disch := first | omega | (simp only [Hp.add_next, Hp.put_next]; done) | (simp only [Hp.add_next, Hp.put_next]; omega) | fail) only [blkP_cells, condP_of, List.length_cons, List.length_nil, Nat.zero_add, Nat.reduceAdd, Nat.reduceLeDiff, and_self, List.size_toArray, splice_z, splice_1, splice_2, overlay_n, overlay_c, List.all_cons, List.all_nil, Bool.and_self, hq1.1, hq1.2, hd1.1, hd1.2, hp6]
    refine okP_in ?_ ?_
    · refine apart_cons (one_cons (.inr (apt_ra (by omega)).symm) (one_keep (.inr (apt_new (by rw [← t2']; exact t4))) (one_cons (.inr apt_aa) (one_cons (.inr (apt_ra (by omega)).symm) one_nil)))) ?_
      refine apart_cons (one_keep (.inr (apt_read (by rw [t1]; (first | omega | (simp only [Hp.add_next, Hp.put_next]; done) | (simp only [Hp.add_next, Hp.put_next]; omega))) (fun hb => ?_))) (one_cons (.inr (apt_ra (by omega))) (one_cons (.inr apt_reads) one_nil))) ?_
      · rcases t3 _ hb with hb | hb
        · rw [Hp.add_next] at hb; omega
        · exact hpq hb
      refine apart_keep (one_cons (.inl (by decide)) (one_cons (.inl (by decide)) one_nil)) ?_
      refine apart_cons (one_cons (.inr (apt_ra (by omega)).symm) one_nil) ?_
      exact apart_cons one_nil apart_nil
    · have hFa : Fra (p :: (bk ++ bq ++ bd)) S S6 := by
        have a1 : Fra (p :: (bk ++ bq ++ bd)) S S1 := hF1.mono (by simp)
        have a2 : Fra (p :: (bk ++ bq ++ bd)) S S3 := a1.trans' (hF3.mono fun b hb => .inr (by rcases List.mem_cons.1 hb with rfl | hb; exact List.mem_cons_self ..; exact List.mem_cons_of_mem _ (by simp [hb])))
        have a3 : Fra (p :: (bk ++ bq ++ bd)) S S5 := a2.trans' (hF5'.mono fun b hb => .inr (List.mem_cons_of_mem _ (by simp [hb])))
        exact a3.trans' (hF6'.mono fun b hb => .inr (List.mem_cons_of_mem _ (by simp [hb])))
      have hLk6 := hLk5.fra hF6' fun b hb hc => by
        rcases hb2' b hb with h | h
        · exact dkd b h hc
        · have := hR1.lts b (by simp [hc]); omega
      have hLq6 := hLq5.fra hF6' fun b hb hc => by
        rcases hbq5 b hb with h | h
        · exact ddq b hc h
        · rw [Hp.add_next] at h; have := hR1.lts b (by simp [hc]); omega
      have hq' : ∀ b ∈ bq', b ∈ bq ∨ S3.next < b := fun b hb => (hbq5 b hb).imp id fun h => by rw [Hp.add_next] at h; omega
      have hd' : ∀ b ∈ bd', b ∈ bd ∨ S5.next < b := fun b hb => (hbd6 b hb).imp id fun h => by rw [Hp.add_next] at h; omega
      have lk : ∀ b ∈ bk', b < S3.next := hL3.lt
      have lq : ∀ b ∈ bq', b < S5.next := hLq5.lt
      have l1 : ∀ b ∈ bk, b < S1.next := fun b hb => hR1.lts b (by simp [hb])
      have l2 : ∀ b ∈ bq, b < S1.next := fun b hb => hR1.lts b (by simp [hb])
      have l3 : ∀ b ∈ bd, b < S1.next := fun b hb => hR1.lts b (by simp [hb])
      have n3' : S1.next ≤ S3.next := by omega
      have hpk2 : p ∉ bk' := hpk'
      have hpq2 : p ∉ bq' := fun hc => by rcases hq' p hc with h | h; exact hpq h; omega
      have hpd2 : p ∉ bd' := fun hc => by rcases hd' p hc with h | h; exact hpd h; omega
      have hnod : (p :: (bk' ++ bq' ++ bd')).Nodup := by
        rw [List.nodup_cons]
        refine ⟨by simp [hpk2, hpq2, hpd2], ?_⟩
        rw [List.nodup_append, List.nodup_append]
        refine ⟨⟨Lst.one hL3, Lst.one hLq5, fun a ha b hb e => ?_⟩, Lst.one hLd6, fun a ha b hb e => ?_⟩
        · subst e
          have := lk a ha
          rcases hb2' a ha with h1 | h1 <;> rcases hq' a hb with h2 | h2
          · exact dkq a h1 h2
          · omega
          · have := l2 a h2; omega
          · omega
        · subst e
          rcases List.mem_append.1 ha with ha | ha
          · have := lk a ha
            rcases hb2' a ha with h1 | h1 <;> rcases hd' a hb with h2 | h2
            · exact dkd a h1 h2
            · omega
            · have := l3 a h2; omega
            · omega
          · have := lq a ha
            rcases hq' a ha with h1 | h1 <;> rcases hd' a hb with h2 | h2
            · exact ddq a h2 h1
            · omega
            · have := l3 a h2; omega
            · omega
      have hPP : Fra [p] S6 ((S6.put p (some (.cells none false [kv', qv', dv, i64 t2, .bool true, .bool r.bg]))).put p (some (.cells none false [kv', qv', dv', i64 t2, .bool true, .bool r.bg]))) := ((Fra.refl [p] _).put (.inr (List.mem_singleton.2 rfl)) _).put (.inr (List.mem_singleton.2 rfl)) _
      have hnot : ∀ {W : List Nat}, p ∉ W → ∀ b ∈ W, b ∉ [p] := fun h b hb e => by rw [List.mem_singleton] at e; subst e; exact h hb
      refine k _ kv' qv' dv' bk' bq' bd' (hFa.trans' (hPP.mono fun b hb => .inr (by rw [List.mem_singleton.1 hb]; exact List.mem_cons_self ..))) ⟨put_at _ _ _, by (first | omega | (simp only [Hp.add_next, Hp.put_next]; done) | (simp only [Hp.add_next, Hp.put_next]; omega)), hLk6.fra hPP (hnot hpk2), hLq6.fra hPP (hnot hpq2), hLd6.fra hPP (hnot hpd2), hnod⟩ fun b hb => ?_
      have := hF1.next
      rcases List.mem_append.1 hb with hb | hb
      · rcases List.mem_append.1 hb with hb | hb
        · rcases hb2' b hb with h | h
          · exact .inl (by simp [h])
          · exact .inr (by omega)
        · rcases hq' b hb with h | h
          · exact .inl (by simp [h])
          · exact .inr (by omega)
      · rcases hd' b hb with h | h
        · exact .inl (by simp [h])
        · exact .inr (by omega)
  have hR0 : RdAt (S.put p (some (.cells none false [kv, qv, dv, i64 t2, .bool true, .bool r.bg]))) p { r with t := t2 } kv qv dv bk bq bd := hR.setf
  by_cases hc : at_ ≤ r.t ∧ 0 < r.ks.length
  · rw [if_pos hc] at ht2
    have e1 : decide (((at_ : Nat) : Int) ≤ ((r.t : Nat) : Int)) = true := decide_eq_true (by omega)
    have e2 : decide (((r.ks.length : Nat) : Int) > 0) = true := decide_eq_true (by omega)
    have hadd : ((r.t : Nat) : Int) + 1 = ((t2 : Nat) : Int) := by omega
    simp (disch := first | omega | (simp only [Hp.add_next, Hp.put_next]; done) | (simp only [Hp.add_next, Hp.put_next]; omega) | fail) only [ifB_true, ↓P_add64, blkP_cells, rdP_cells, optP_some, condP_of, List.getElem?_cons_zero, List.getElem?_cons_succ, List.length_cons, List.length_nil, Nat.zero_add, Nat.reduceAdd, Nat.reduceLeDiff, and_self, List.size_toArray, splice_z, splice_3, overlay_n, overlay_c, List.all_cons, List.all_nil, one_int, cells_int, Bool.and_self, e1, e2, hp, hadd]
    exact main _ hR0 (hW.put hR.lt _) ((Fra.refl [p] _).put (.inr (List.mem_singleton.2 rfl)) _)
  · rw [if_neg hc] at ht2
    have e : (decide (((at_ : Nat) : Int) ≤ ((r.t : Nat) : Int)) && decide (((r.ks.length : Nat) : Int) > 0)) = false := by
      rw [Bool.and_eq_false_iff, decide_eq_false_iff_not, decide_eq_false_iff_not]
      by_cases h1 : at_ ≤ r.t
      · exact .inr (by omega)
      · exact .inl (by omega)
    rw [e, ifB_false]
    exact main S (by rw [ht2]; exact hR) hW (Fra.refl _ _)
end Go.Proofs.Ytmepokefmpcnnaa.Dr
