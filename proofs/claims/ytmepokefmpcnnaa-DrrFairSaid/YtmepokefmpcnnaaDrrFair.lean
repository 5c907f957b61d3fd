/- That layer 28's law 'DrrFair' is true for every input; it has no conditions. -/
import Derived.Test.YtmepokefmpcnnaaDrFD
set_option maxRecDepth 100000
set_option linter.unusedVariables false
set_option linter.unusedSimpArgs false
namespace Go.Proofs.Ytmepokefmpcnnaa.DrrFair
open Go.ChangeShapes Go.WideShapes Go.ChangeAt Go.RowKit Go.Wb
open Go.Proofs.Ytmepokefmpcnnaa
open Dr
theorem rep_repl (n : Nat) (v : Value) : rep n [v] = List.replicate n v := by
  induction n with
  | zero => rfl
  | succ n ih => rw [rep, ih, List.replicate_succ]; rfl
theorem wf_ro (bs : List (List Value)) : WF (roHp bs) := by
  intro b o h
  rw [roHp_get, Option.map_eq_some_iff] at h
  obtain ⟨c, h, _⟩ := h
  exact (List.getElem?_eq_some_iff.1 h).1
theorem rep_nats (n : Nat) : rep n [.int .i64 0] = Dr.ints (nats (List.replicate n 0)) := by
  rw [rep_repl]
  unfold Dr.ints nats
  rw [List.map_replicate, List.map_replicate]
  rfl
theorem rep_ints (n : Nat) : rep n [.int .i64 0] = Dr.ints (List.replicate n 0) := by
  rw [rep_repl]
  unfold Dr.ints
  rw [List.map_replicate]
set_option maxHeartbeats 1000000 in
theorem law (bs : List (List Value)) (args : List Value) (h : ShpA Try.prog bs 5 [85, 86, 5, 5] args) : wp (callN T 4001 (.fn 10) args) (fun v _ => v = .bool true) (roHp bs) := by
  obtain ⟨v0, r, rfl, h0, h⟩ := h
  obtain ⟨v1, r, rfl, h1, h⟩ := h
  obtain ⟨v2, r, rfl, h2, h⟩ := h
  obtain ⟨v3, r, rfl, h3, h⟩ := h
  obtain rfl : r = [] := h
  obtain ⟨a, rfl, ha⟩ := shp_int hu5 (shpV_one (fun fs => by rw [hu5]; simp) h2)
  obtain ⟨b, rfl, hb⟩ := shp_int hu5 (shpV_one (fun fs => by rw [hu5]; simp) h3)
  obtain ⟨qs, hq⟩ := arg85 h0
  obtain ⟨xs, hx, hxs⟩ := arg86 h1
  refine c10 g10 ?_
  rw [h10]
  unfold H10
  have hl0 : ∀ (Φ : Value → Hp → Prop) (S : Hp), wp (X (callN T 4000) (.len .slice (.const v0))) Φ S = Φ (i64 qs.length) S := fun Φ S => by rw [hq.len, List.length_map]
  have hl1 : ∀ (Φ : Value → Hp → Prop) (S : Hp), wp (X (callN T 4000) (.len .slice (.const v1))) Φ S = Φ (i64 xs.length) S := fun Φ S => hx.len _ Φ S
  generalize hΦ : (fun (v : Value) (_ : Hp) => v = Value.bool true) = Φ
  have ht : ∀ S, Φ (.bool true) S := fun S => by subst hΦ; rfl
  simp (maxSteps := 100000000) (disch := first | omega | (simp only [Hp.add_next, Hp.put_next]; done) | (simp only [Hp.add_next, Hp.put_next]; omega) | fail) only [↓P_andQ, orQ_p, ifP_bool, ↓P_lss, ↓P_gtr, ↓P_callF0, List.append_nil, hl0, hl1, kn]
  refine ifB_in (fun _ => ht _) (fun hc => ?_)
  simp only [Bool.or_eq_false_iff, decide_eq_false_iff_not] at hc
  obtain ⟨n, hn⟩ : ∃ n, n = xs.length := ⟨_, rfl⟩
  rw [← hn] at hl1 hc
  have hn2 : 2 ≤ n ∧ n ≤ 6 ∧ n ≤ qs.length := by omega
  have hWF : WF (roHp bs) := wf_ro bs
  unfold G10
  simp (maxSteps := 100000000) (disch := first | omega | (simp only [Hp.add_next, Hp.put_next]; done) | (simp only [Hp.add_next, Hp.put_next]; omega) | fail) only [↓P_callF0, List.append_nil]
  refine call_wf hWF ?_
  refine s50 fun S1 hF1 hn1 hR1 hW1 => ?_
  simp (maxSteps := 100000000) (disch := first | omega | (simp only [Hp.add_next, Hp.put_next]; done) | (simp only [Hp.add_next, Hp.put_next]; omega) | fail) only [ifP_bool, ifB_false, ↓P_eqptr1, hl1]
  refine D_mkslice 2 [] 3 1 8 [.int .i64 0] n n _ (by simp; omega) ?_
  refine D_mkslice 5 _ 3 1 8 [.int .i64 0] n n _ (by simp; omega) ?_
  refine okP_in ?_ ?_
  · exact apart_cons (one_cons (.inr apt_aa) one_nil) (apart_cons one_nil apart_nil)
  have hS : Stt bs (roHp bs).next S1.next (S1.next + 1) ⟨[], [], [], 0, false⟩ (nats (List.replicate n 0)) (List.replicate n 0) ((S1.add (.cells none false (rep n [.int .i64 0]))).add (.cells none false (rep n [.int .i64 0]))) := by
    have hb : (roHp bs).next = bs.length := rfl
    refine ⟨(hF1.add _).add _, (hW1.add _).add _, ?_, ?_, ⟨by omega, by (first | omega | (simp only [Hp.add_next, Hp.put_next]; done) | (simp only [Hp.add_next, Hp.put_next]; omega))⟩, ⟨by omega, by (first | omega | (simp only [Hp.add_next, Hp.put_next]; done) | (simp only [Hp.add_next, Hp.put_next]; omega))⟩, by omega, _, _, _, [], [], [], hR1.fra (((Fra.refl [] _).add _).add _) (by simp), by simp; omega⟩
    · rw [add_off (by (first | omega | (simp only [Hp.add_next, Hp.put_next]; done) | (simp only [Hp.add_next, Hp.put_next]; omega))), add_at, rep_nats]
    · have := add_at (S1.add (.cells none false (rep n [.int .i64 0]))) (.cells none false (rep n [.int .i64 0]))
      rw [show (S1.add (.cells none false (rep n [.int .i64 0]))).next = S1.next + 1 from rfl] at this
      rw [this, rep_ints]
  have hpx : (S1.add (.cells none false (rep n [.int .i64 0]))).next = S1.next + 1 := rfl
  rw [hpx]
  generalize (S1.add (.cells none false (rep n [.int .i64 0]))).add (.cells none false (rep n [.int .i64 0])) = S2 at hS ⊢
  obtain ⟨x, hxe⟩ : ∃ x, x = S1.next := ⟨_, rfl⟩
  obtain ⟨p, hpe⟩ : ∃ p, p = (roHp bs).next := ⟨_, rfl⟩
  rw [← hxe, ← hpe] at hS ⊢
  clear hF1 hn1 hR1 hW1 hpx hxe hpe hWF
  subst hn
  refine l17 (p := p) (x := x) (y := x + 1) hq hx hxs (by omega) (by omega) (by omega) ht hS fun S3 hS3 hm hc => ?_
  clear hS
  unfold R17
  have ha2 : 0 ≤ a ∧ a < 256 := by
    simp [IntKind.has, IntKind.min, IntKind.max, IntKind.bits, IntKind.signed] at ha
    omega
  have hb2 : 0 ≤ b ∧ b < 256 := by
    simp [IntKind.has, IntKind.min, IntKind.max, IntKind.bits, IntKind.signed] at hb
    omega
  obtain ⟨f, hf⟩ := hc.pick
  clear hc
  rw [P_convI64 _ (by omega) (by omega)]
  obtain ⟨n, hn⟩ : ∃ n, n = xs.length := ⟨_, rfl⟩
  rw [← hn] at hS3 hm hf hl1 ⊢
  obtain ⟨A, hA⟩ : ∃ A : Nat, a = (A : Int) := ⟨a.toNat, by omega⟩
  subst hA
  unfold L53
  have hqs : ∀ i, i < n → 0 ≤ at' (qs.take n) i := fun i hi => by
    rw [at'_take hi]
    have := hm i hi
    unfold mayQ at this
    rw [Bool.and_eq_true, decide_eq_true_iff, decide_eq_true_iff] at this
    omega
  have hz : ∀ i, at' (List.replicate n 0) i = 0 := by
    intro i
    unfold at'
    rw [List.getD_eq_getElem?_getD, List.getElem?_replicate]
    split <;> rfl
  have hk0 : Ok53 bs p x (x + 1) n qs 0 (List.replicate n 0) (List.replicate n 0) (List.replicate n 0) 0 false S3 := by
    refine ⟨hS3, List.length_replicate .., List.length_replicate .., List.length_replicate .., ⟨_, _, _, (Inv.zero (by omega) hqs).congr fun i hi => (hz i).symm⟩, fun i hi => by rw [hz]; omega, fun i hi => ?_⟩
    rw [List.getD_eq_getElem?_getD, List.getElem?_replicate]
    split <;> simp
  refine ⟨fun m u0 u1 u3 u8 u9 u10 u11 u85 u86 S' => ∃ (j : Nat) (ms : List Nat) (ds ws : List Int) (t : Nat) (bg : Bool), u0 = v0 ∧ u1 = v1 ∧ u3 = .int .u8 b ∧ u8 = .bool false ∧ u9 = ptr p ∧ u10 = .slice (some ⟨x, 0, none⟩) n n ∧ u11 = .slice (some ⟨x + 1, 0, none⟩) n n ∧ u85 = i64 A ∧ u86 = i64 j ∧ j ≤ A ∧ m = A - j ∧ Ok53 bs p x (x + 1) n qs j ms ds ws t bg S',
    ⟨A, by omega, 0, _, _, _, _, _, rfl, rfl, rfl, rfl, rfl, rfl, rfl, rfl, rfl, Nat.zero_le _, rfl, hk0⟩, ?_⟩
  clear hk0 hS3
  rintro m S4 u0 u1 u3 u8 u9 u10 u11 u85 u86 ⟨j, ms, ds, ws, t, bg, rfl, rfl, rfl, rfl, rfl, rfl, rfl, rfl, rfl, hj, rfl, hO⟩
  rw [P_lss, ifP_bool]
  refine ifD_in (fun hlt => ?_) (fun hge => ?_)
  rotate_left
  · rw [P_call0]
    rw [kn]
    exact ht _
  rw [P_convI64 _ (by omega) (by omega), P_eql]
  refine jn_intro fun J hJ => ?_
  have main : ∀ S5 ws5, Ok53 bs p x (x + 1) n qs j ms ds ws5 t bg S5 → J S5 := by
    intro S5 ws5 hO5
    subst hJ
    show wp _ _ S5
    rw [hl1]
    refine l68 (f := f) (ms := ms) hx hf (by omega) (by omega) (by omega) hO5.lm hO5.st fun S6 L hF6 hW6 hL6 hL1 hL2 => ?_
    refine r68 hq hx hf (by omega) (by omega) hn (by omega) hm (by omega) hO5 hF6 hW6 hL6 hL1 hL2 fun S7 ms' ds' ws' t' hO7 => ?_
    exact ⟨A - (j + 1), by omega, j + 1, ms', ds', ws', t', true, rfl, rfl, rfl, rfl, rfl, rfl, rfl, rfl, by simp, by omega, rfl, hO7⟩
  rw [ifP_bool]
  refine ifB_in (fun hjb => ?_) (fun hjb => ?_)
  · have hgy := hO.st.hy
    have hly : (Dr.ints ws).length = n := by rw [List.length_map]; exact hO.lw
    have hrl : (rep n [Value.int .i64 0]).length = n := by rw [rep_ints]; simp
    rw [P_clear, wp_stCells, hgy, blkP_cells]
    refine ⟨⟨by rw [hly, hrl]; omega, by rw [rep_repl]; simp [Value.oneCell']⟩, ?_⟩
    have hsp : splice (Dr.ints ws) 0 (rep n [Value.int .i64 0]) = Dr.ints (List.replicate n 0) := by
      have := splice_mid [] (Dr.ints ws) (rep n [Value.int .i64 0]) [] (by rw [hly, hrl])
      simpa [rep_ints] using this
    rw [hsp]
    refine main _ (List.replicate n 0) ⟨hO.st.puty, hO.lm, List.length_replicate .., hO.ld, ?_, fun i hi => by rw [hz]; omega, hO.ms⟩
    obtain ⟨e, s, m, hI⟩ := hO.inv
    obtain ⟨e', s', m', hI'⟩ := hI.again hqs
    exact ⟨e', s', m', hI'.congr fun i hi => (hz i).symm⟩
  · exact main _ _ hO
theorem own : ownKnob Try.prog.godebug = none := by kernel_rfl
theorem laid : laidOutB Try.prog = true := by kernel_rfl
theorem par : Try.f10.params.toList = [85, 86, 5, 5] := by kernel_rfl
theorem contract (H : Type) (enc : TypeId × Value → H) (W : World) (base : Nat) (args : Array Value) (ds gs : List (DataW H)) (before : List MemPlace)
    (hval : ∀ (j : Nat) t v, Try.f10.params[j]? = some t → args[j]? = some v → Value.okWide Try.prog W .any base t v)
    (hW : DataW.Whole enc Try.prog Try.f10.params.toList Rows.drrFairSpec.vars false W args.toList ds gs before) :
    Calls Try.prog 10 args W fun e W' => ∃ v, e = .returned v ∧ Rows.drrFairSpec.post enc Try.prog Try.f10 false true false false W args v W' := by
  obtain ⟨p, q, hA, hV, _⟩ := id hW
  obtain ⟨rfl, _⟩ := trodVars_none hV
  refine (law_ro Try.checked.mixed (T_ok Try.checked.mixed) (n := 4001) (g := 5) (by rw [g10]; rfl) (by kernel_rfl) hval hA (by rw [par]; exact law)).mono fun e W' ⟨he, hb⟩ => ?_
  subst he
  obtain ⟨d0, d1, d2, d3, rfl⟩ := len4 (trod_len hA)
  exact ⟨_, rfl, law_post laid rfl rfl (t := 4) (by rfl) Try.underlying4 (by kernel_rfl) hW hb⟩
theorem lifted (os : Os) (started : os.Started) (H : Type) (enc : TypeId × Value → H) :
    ReturnsInHanded {} Try.checked os 10 .any (Rows.drrFairSpec.pre6 enc Try.prog Try.f10 Rows.drrFairRow.domain false) (Rows.drrFairSpec.post enc Try.prog Try.f10 false true false false) := by
  refine returnsInHanded_of_change (C := Try.checked) own started (by kernel_rfl) Try.func10
    (ChangeSpec.witness6 (enc := enc) (C := Try.checked) false ⟨#[], #[.slice none 0 0, .slice none 0 0, .int .u8 0, .int .u8 0], []⟩ 8 (by kernel_rfl) (by kernel_rfl) (by kernel_rfl) (by kernel_rfl)) ?_
  intro W base args ds gs before hval hW _ _
  exact contract H enc W base args ds gs before hval hW
theorem proved : Rows.DrrFairSaid :=
  OpenClaim.holds_of_wide 10 Try.f10 rfl rfl rfl rfl rfl rfl rfl ⟨rfl, rfl, rfl, rfl, rfl⟩ rfl rfl rfl rfl rfl (by kernel_rfl) Try.func10 (by kernel_rfl)
    (of_decide_eq_true (by kernel_rfl)) (by unfold Func.isWrapper; first | (rw [if_pos (by decide +kernel)]; kernel_rfl) | (rw [if_neg (by decide +kernel)]; exact ⟨rfl, rfl⟩))
    (fun os started H enc _ => lifted os started H enc)

end Go.Proofs.Ytmepokefmpcnnaa.DrrFair
