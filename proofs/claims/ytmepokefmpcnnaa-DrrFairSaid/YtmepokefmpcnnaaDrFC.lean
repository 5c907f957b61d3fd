/- The list of costs that layer 28's first law hands in. -/
import Derived.Test.YtmepokefmpcnnaaDrFB
import Derived.Test.YtmepokefmpcnnaaEngRX
set_option maxRecDepth 100000
set_option linter.unusedVariables false
set_option linter.unusedSimpArgs false
namespace Go.Proofs.Ytmepokefmpcnnaa.Dr
open Go.Wb
open Go.Proofs.Ytmepokefmpcnnaa.DrrFair
theorem D_b2str {C : Tgt → List Value → M Value} {S : Hp} {j b n c : Nat} {ts : List (Nat × Wb.Touch)} {e : Option Nat} {s : Bool} {l : List Value} {r : List UInt8} {Ψ : Value → List (Nat × Wb.Touch) → Hp → Prop} (hb : S.heap.get b = some (.cells e s l)) (hr : bytesOf l = some r) (hn : n = l.length)
    (k : Ψ (.string ⟨r.toArray⟩) ((j, ⟨[(b, false)], S.next, S.next⟩) :: ts) S) : dstepP j ts (X C (.conv .b2str (.const (.slice (some ⟨b, 0, none⟩) n c)))) Ψ S := by
  subst hn
  refine ⟨.string ⟨r.toArray⟩, { heap := S.heap, next := S.next, log := [(b, false)] }, ?_, k⟩
  have h1 : (l.drop 0).take l.length = l := by simp
  simp only [X, exec, M.bind, M.lift, Atom.ev, ldCells, rd, Hp.st, hb, M.pure, Nat.zero_add, Nat.le_refl, if_true, h1, hr]
theorem s53' {n : Nat} {S : Hp} {bs : List (List Value)} {v : Value} {ns : List Int} {m : Nat} {Φ : Value → Hp → Prop} (h : Arg bs v (ns.map (.int .u16))) (h0 : 1 ≤ ns.length) (hr : ∀ n ∈ ns, 0 ≤ n ∧ n < 65536)
    (hg : ∀ b c, bs[b]? = some c → S.heap.get b = some (.ro c)) (k : Φ (i64 (frameC (at' ns (m % ns.length)))) S) : wp (callN T (n + 1) (.fn 53) [v, i64 m]) Φ S := by
  have hm : m % ns.length < ns.length := Nat.mod_lt _ h0
  have he := at'_get hm
  rcases h with ⟨h, _⟩ | ⟨id, c, zs, rfl, h⟩
  · rw [List.map_eq_nil_iff] at h; subst h; simp at h0
  · have hx : (ns.map (Value.int .u16) ++ zs)[0 + m % (ns.map (Value.int .u16)).length]? = some (.int .u16 (at' ns (m % ns.length))) := by
      rw [List.length_map, Nat.zero_add, List.getElem?_append_left (by rw [List.length_map]; exact hm), List.getElem?_map, he]; rfl
    refine s53 (e := none) (c := ns.map (.int .u16) ++ zs) (by rw [List.length_map]; omega) (fun Ψ => by rw [hg id _ h, rdP_ro]) hx (hr _ (List.mem_of_getElem? he)) k
theorem apt_hole {t : Wb.Touch} {n : Nat} (h : ∀ x ∈ t.log, x.1 ≠ n) : apt t ⟨[], n, n + 1⟩ := by
  refine ⟨?_, rfl⟩
  unfold hits
  rw [List.any_eq_false]
  intro x hx
  have h1 := h x hx
  have h2 : (Nat.ble n x.1 && Nat.blt x.1 (n + 1)) = false := by
    rw [Bool.eq_false_iff]
    intro c
    rw [Bool.and_eq_true] at c
    have a := Nat.le_of_ble_eq_true c.1
    have b : x.1 < n + 1 := Nat.le_of_ble_eq_true c.2
    omega
  simp only [h2, List.any_nil, Bool.or_self]
  exact Bool.false_ne_true
def flat (c : Nat → Int) (k : Nat) : List Value := (List.range k).flatMap fun i => [.string (keyN i), i64 (c i)]
theorem flat_succ (c : Nat → Int) (k : Nat) : flat c (k + 1) = flat c k ++ [.string (keyN k), i64 (c k)] := by simp [flat, List.range_succ]
theorem flat_len (c : Nat → Int) (k : Nat) : (flat c k).length = k * 2 := by
  induction k with
  | zero => rfl
  | succ k ih => rw [flat_succ, List.length_append, ih]; simp; omega
theorem flat_get (c : Nat → Int) : ∀ (k i : Nat), i < k → ((flat c k).drop (i * 2)).take 2 = [.string (keyN i), i64 (c i)]
  | k + 1, i, h => by
    have hl := flat_len c k
    rw [flat_succ]
    by_cases hi : i = k
    · subst hi
      rw [List.drop_append_of_le_length (by omega), List.drop_of_length_le (by omega)]
      rfl
    · rw [List.drop_append_of_le_length (by omega), List.take_append_of_le_length (by rw [List.length_drop]; omega)]
      exact flat_get c k i (by omega)
theorem CL.of {S : Hp} {L n cap : Nat} {e : Option Nat} {s : Bool} {c : Nat → Int} (hL : S.heap.get L = some (.cells e s (flat c n))) : CL S (.slice (some ⟨L, 0, none⟩) n cap) (costsN c n) [L] := by
  have hlen : (costsN c n).length = n := by simp [costsN]
  refine ⟨fun C Φ S' => by rw [P_lenS, hlen], fun C i k x S' hi hS Φ => ?_⟩
  have hin : i < n := by have := (List.getElem?_eq_some_iff.1 hi).1; omega
  have hkx : (keyN i, c i) = (k, x) := by
    have : (costsN c n)[i]? = some (keyN i, c i) := by simp [costsN, hin]
    rw [this] at hi; exact Option.some.inj hi
  cases hkx
  have hg : S'.heap.get L = some (.cells e s (flat c n)) := by rw [hS L (by simp), hL]
  have hi2 : (0 : Int) ≤ (i : Nat) ∧ ((i : Nat) : Int) < (n : Nat) := ⟨by omega, by omega⟩
  have h05 : 0 + i * 2 = i * 2 := Nat.zero_add _
  have f1 := flat_get c n i hin
  have f2 : i * 2 + 2 ≤ (flat c n).length := by rw [flat_len]; omega
  simp only [↓P_ixA, condP_of hi2, Int.toNat_natCast, h05, ↓P_loadN, hg, rdP_cells, condP_of f2, f1]
/-- what the keys' next frames cost -/
def cst (f : Nat → List Int) (ms : List Nat) (i : Nat) : Int := frameC (at' (f i) (ms.getD i 0 % (f i).length))
def COk (bs : List (List Value)) (xs : List Value) (f : Nat → List Int) (N : Nat) : Prop := ∀ i, i < N → ∃ x : Value, xs[i]? = some x ∧ Arg bs x ((f i).map (.int .u16)) ∧ (1 ≤ (f i).length ∧ (f i).length ≤ 20) ∧ ∀ n ∈ f i, 0 ≤ n ∧ n < 65536
theorem CostsOk.pick {bs : List (List Value)} {xs : List Value} {N : Nat} (h : CostsOk bs xs N) : ∃ f, COk bs xs f N := by
  have h2 : ∀ i, ∃ ns : List Int, i < N → ∃ x : Value, xs[i]? = some x ∧ Arg bs x (ns.map (.int .u16)) ∧ (1 ≤ ns.length ∧ ns.length ≤ 20) ∧ ∀ n ∈ ns, 0 ≤ n ∧ n < 65536 := by
    intro i
    by_cases hi : i < N
    · obtain ⟨x, ns, h1⟩ := h i hi
      exact ⟨ns, fun _ => ⟨x, h1⟩⟩
    · exact ⟨[], fun hc => absurd hc hi⟩
  obtain ⟨f, hf⟩ := Classical.axiomOfChoice h2
  exact ⟨f, hf⟩
def nats (ms : List Nat) : List Int := List.map (fun m : Nat => (m : Int)) ms
theorem nats_get {ms : List Nat} {i : Nat} (h : i < ms.length) : (ints (nats ms))[i]? = some (i64 ((ms.getD i 0 : Nat) : Int)) := by
  rw [List.getElem?_map, nats, List.getElem?_map, List.getElem?_eq_getElem h, List.getD_eq_getElem?_getD, List.getElem?_eq_getElem h]; rfl
theorem ro_get {bs : List (List Value)} {S : Hp} (hF : Fra [] (roHp bs) S) {b : Nat} {c : List Value} (h : bs[b]? = some c) : S.heap.get b = some (.ro c) := by
  rw [hF.heap b (List.getElem?_eq_some_iff.1 h).1 (by simp), roHp_get, h]; rfl
theorem l68 {bs : List (List Value)} {v0 v1 : Value} {xs : List Value} {f : Nat → List Int} {ms : List Nat} {Φ : Value → Hp → Prop} {S : Hp} {p x y N cx : Nat} {t3 t8 t9 t11 t85 t86 : Value} {r : Rd} {ws : List Int} {K : Value → Value → Value → Value → Value → Value → Value → Value → Value → Value → Hp → Prop}
    (hx : Arg bs v1 xs) (hf : COk bs xs f N) (h0 : 0 < N) (hN : N ≤ 6) (hNx : N ≤ xs.length) (hms : ms.length = N) (h : Stt bs p x y r (nats ms) ws S)
    (k : ∀ S' L, Fra [] S S' → WF S' → S'.heap.get L = some (.cells (some 2) false (flat (cst f ms) N)) → S.next ≤ L → L < S'.next → K (.slice (some ⟨L, 0, none⟩) N N) t9 v1 t11 (.slice (some ⟨x, 0, none⟩) N cx) v0 t3 t8 t85 t86 S') :
    L68 (callN T 4000) 4000 Φ K v0 v1 t3 t8 t9 (.slice (some ⟨x, 0, none⟩) N cx) t11 t85 t86 (i64 N) S := by
  refine ⟨fun m u0 u1 u3 u8 u9 u10 u11 u15 u85 u86 u95 u96 S' => ∃ k : Nat, u0 = v0 ∧ u1 = v1 ∧ u3 = t3 ∧ u8 = t8 ∧ u9 = t9 ∧ u10 = .slice (some ⟨x, 0, none⟩) N cx ∧ u11 = t11 ∧ u85 = t85 ∧ u86 = t86 ∧ u95 = i64 N ∧ u96 = i64 k ∧ k ≤ N ∧ m = N - k ∧ Fra [] S S' ∧ WF S' ∧
      ((k = 0 ∧ u15 = .slice none 0 0) ∨ ∃ L, 0 < k ∧ u15 = .slice (some ⟨L, 0, none⟩) k k ∧ S'.heap.get L = some (.cells (some 2) false (flat (cst f ms) k)) ∧ S.next ≤ L ∧ L < S'.next),
    ⟨N, by omega, 0, rfl, rfl, rfl, rfl, rfl, rfl, rfl, rfl, rfl, rfl, rfl, Nat.zero_le _, rfl, Fra.refl _ _, h.wf, .inl ⟨rfl, rfl⟩⟩, ?_⟩
  rintro m S1 u0 u1 u3 u8 u9 u10 u11 u15 u85 u86 u95 u96 ⟨i, rfl, rfl, rfl, rfl, rfl, rfl, rfl, rfl, rfl, rfl, rfl, hi, rfl, hF1, hW1, hL⟩
  rw [P_lss, ifP_bool]
  refine ifD_in (fun hlt => ?_) (fun hge => ?_)
  rotate_left
  · obtain rfl : i = N := by omega
    rcases hL with ⟨rfl, _⟩ | ⟨L, _, rfl, h1, h2, h3⟩
    · omega
    · exact k S1 L hF1 hW1 h1 h2 h3
  have hlt : i < N := by omega
  obtain ⟨xk, hxk, hak, hlk, hrk⟩ := hf i hlt
  simp (maxSteps := 100000000) (disch := first | omega | (simp only [Hp.add_next, Hp.put_next]; done) | (simp only [Hp.add_next, Hp.put_next]; omega) | fail) only [↓P_build, ↓P_bslice, ↓D_load1, ↓P_ixA, ↓P_add64, ↓P_convU8, condP_of, List.length_cons, List.length_nil, Nat.zero_add, Nat.reduceAdd, Nat.reduceLeDiff, and_true, true_and, fillA, Atom.ev, List.size_toArray, cells_agg, Int.toNat_natCast]
  refine D_bslice 4 _ 5 1 _ _ _ ?_
  simp (maxSteps := 100000000) (disch := first | omega | (simp only [Hp.add_next, Hp.put_next]; done) | (simp only [Hp.add_next, Hp.put_next]; omega) | fail) only [optP_some, List.length_cons, List.length_nil, Nat.zero_add, Nat.reduceLeDiff, and_self, if_true, fillA, Atom.ev, setAll, List.set_cons_zero, List.size_toArray, cells_int]
  have hS1 := h.fra hF1 hW1
  have hW2 := hW1.add (.cells none false [.int .u8 (97 + (i : Int))])
  have hS2 := hS1.fra ((Fra.refl _ _).add (.cells none false [.int .u8 (97 + (i : Int))])) hW2
  have hnew := add_at S1 (.cells none false [.int .u8 (97 + (i : Int))])
  obtain ⟨S2, hS2e⟩ : ∃ S2, S2 = S1.add (.cells none false [.int .u8 (97 + (i : Int))]) := ⟨_, rfl⟩
  rw [← hS2e] at hW2 hS2 hnew ⊢
  refine D_b2str hnew (bytes_key (by omega)) rfl ?_
  obtain ⟨iv, cv, zv, rfl, hiv, hgv⟩ := hx.pos (by omega)
  have hg := hgv S2 hS2.fr
  have hcell : (xs ++ zv)[i]? = some xk := by rw [List.getElem?_append_left (by omega)]; exact hxk
  have hgx := hS2.hx
  have hcx := nats_get (ms := ms) (i := i) (by omega)
  simp (maxSteps := 100000000) (disch := first | omega | (simp only [Hp.add_next, Hp.put_next]; done) | (simp only [Hp.add_next, Hp.put_next]; omega) | fail) only [↓D_load1, ↓P_ixA, rdP_cells, rdP_ro, optP_some, condP_of, List.length_cons, List.length_nil, Nat.zero_add, Nat.reduceAdd, Nat.reduceLeDiff, and_true, if_true, setAll, List.set_cons_zero, List.size_toArray, cells_str, Int.toNat_natCast, hg, hcell, hgx, hcx, Nat.mul_one]
  rw [D_call 14 _ 53 (vs := [xk, i64 ((ms.getD i 0 : Nat) : Int)]) rfl]
  have n2 : S2.next = S1.next + 1 := by rw [hS2e]; rfl
  have hlow : (roHp bs).next ≤ S1.next := hS1.fr.next
  have hxS : x < S1.next := hS1.lx.2
  have hbsn : (roHp bs).next = bs.length := rfl
  refine D_specH (BdX.callN _ _ _ _) (Framed.callN _ _ _ _) hW2 (n := S1.next) (by omega) (W := []) (by simp) (Post := fun v => v = i64 (cst f ms i)) (s53' hak hlk.1 hrk (fun b c hb => ?_) ⟨Fra.refl _ _, rfl⟩) ?_
  · have hb2 := ro_get hS2.fr hb
    have := (List.getElem?_eq_some_iff.1 hb).1
    simp only [Tr.get_set]
    rw [if_neg (by omega)]
    exact hb2
  rintro v S3 t hF3 rfl hW3 t1 t2 t3 t4
  have n3 := hF3.next
  simp (maxSteps := 100000000) (disch := first | omega | (simp only [Hp.add_next, Hp.put_next]; done) | (simp only [Hp.add_next, Hp.put_next]; omega) | fail) only [optP_some, List.length_cons, List.length_nil, Nat.zero_add, Nat.reduceAdd, if_true, setAll, List.set_cons_zero, List.set_cons_succ, List.size_toArray, cells_int]
  rw [show ({ data := #[UInt8.ofNat (97 + i)] } : ByteArray) = keyN i from rfl]
  have hnew4 := add_at S3 (.cells none false [.string (keyN i), i64 (cst f ms i)])
  have hf4 : ∀ Ψ : List Value → Hp → Prop, wp (firstN 2 1 (.slice (some ⟨S3.next, 0, none⟩) 1 1)) Ψ (S3.add (.cells none false [.string (keyN i), i64 (cst f ms i)])) = Ψ [.string (keyN i), i64 (cst f ms i)] (S3.add (.cells none false [.string (keyN i), i64 (cst f ms i)])) := by
    intro Ψ
    rw [W_firstN, hnew4, rdP_cells, condP_of (by simp)]
    rfl
  have hF4 : Fra [] S (S3.add (.cells none false [.string (keyN i), i64 (cst f ms i)])) := ((hF1.trans' (by rw [hS2e] at hF3; exact ((Fra.refl _ _).add _).trans' hF3))).add _
  have hW4 := hW3.add (.cells none false [.string (keyN i), i64 (cst f ms i)])
  have hkeep : ∀ b, b < S1.next → (S3.add (.cells none false [.string (keyN i), i64 (cst f ms i)])).heap.get b = S1.heap.get b := by
    intro b hb
    rw [add_off (by omega), hF3.heap b (by omega) (by simp), hS2e, add_off (by omega)]
  have hap : apartAll [0, 0, 2, 6, 14, 30, 0, 0, 192, 448, 0, 0, 3072, 7168, 16320, 32766, 65534, 131071, 262143] (keepT 14 t [(13, { log := [(x, false)], lo := S2.next, hi := S2.next }), (9, { log := [(iv, false)], lo := S2.next, hi := S2.next }), (5, { log := [(S1.next, false)], lo := S2.next, hi := S2.next }), (4, { log := [], lo := S1.next, hi := S1.next + 1 })]) = true := by
    refine apart_keep (one_cons (.inl (by decide)) (one_cons (.inl (by decide)) (one_cons (.inr (apt_read (by omega) (fun hb => ?_)).symm) (one_cons (.inr (apt_hole fun x hx => (t4 x hx).2)) one_nil)))) ?_
    · rcases t3 _ hb with hb | hb
      · omega
      · simp at hb
    refine apart_cons (one_cons (.inr apt_reads) (one_cons (.inr apt_reads) (one_cons (.inr (apt_ra (by omega))) one_nil))) ?_
    refine apart_cons (one_cons (.inr apt_reads) (one_cons (.inr (apt_ra (by omega))) one_nil)) ?_
    exact apart_cons (one_cons (.inl (by decide)) one_nil) (apart_cons one_nil apart_nil)
  generalize hS4 : S3.add (.cells none false [.string (keyN i), i64 (cst f ms i)]) = S4 at hnew4 hf4 hF4 hW4 hkeep ⊢
  have n4 : S4.next = S3.next + 1 := by rw [← hS4]; rfl
  have hn4 := hF4.next
  rcases hL with ⟨rfl, rfl⟩ | ⟨L, hL0, rfl, hL1, hL2, hL3⟩
  · rw [P_app_nil 2 24 94 rfl (by omega) ⟨by omega, by omega, by omega⟩, hf4]
    refine ⟨rfl, okP_in hap ?_⟩
    exact ⟨N - (0 + 1), by omega, 0 + 1, by simp, by omega, rfl, hF4.add _, hW4.add _, .inr ⟨S4.next, by omega, rfl, by rw [add_at, flat_succ]; rfl, by omega, by (first | omega | (simp only [Hp.add_next, Hp.put_next]; done) | (simp only [Hp.add_next, Hp.put_next]; omega))⟩⟩
  · have hL4 := hkeep L hL3
    rw [hL1] at hL4
    have hfl := flat_len (cst f ms) i
    rw [P_app_ext 2 24 94 L 0 i i (x := .slice (some ⟨S3.next, 0, none⟩) 1 1) (n := 1) rfl (by omega) ⟨by omega, by omega, by omega⟩ hL4 (by omega) (by omega) hf4 rfl]
    refine okP_in hap ?_
    refine ⟨N - (i + 1), by omega, i + 1, by simp, by omega, rfl, (hF4.put (.inl hL2) _).add _, (hW4.put (by omega) _).add _, .inr ⟨S4.next, by omega, rfl, ?_, by omega, by (first | omega | (simp only [Hp.add_next, Hp.put_next]; done) | (simp only [Hp.add_next, Hp.put_next]; omega))⟩⟩
    have := add_at (S4.put L none) (.cells (some 2) false (((flat (cst f ms) i).drop 0).take (i * 2) ++ [.string (keyN i), i64 (cst f ms i)]))
    rw [show (S4.put L none).next = S4.next from rfl] at this
    rw [this, flat_succ, List.drop_zero, List.take_of_length_le (by omega)]
end Go.Proofs.Ytmepokefmpcnnaa.Dr
