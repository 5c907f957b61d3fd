/- What layer 27's queue brings. -/
import Derived.Test.YtmepokefmpcnnaaQuText
set_option maxRecDepth 100000
set_option linter.unusedVariables false
set_option linter.unusedSimpArgs false
namespace Go.Proofs.Ytmepokefmpcnnaa.Qu
open Go.Wb
variable {A : Nat}
/-- an item: its bytes' cells, when, what -/
structure It where
  l : List Value
  a : Int
  w : Int
/-- bytes in cells -/
def Byt (l : List Value) : Prop := ∀ v ∈ l, ∃ n : Int, v = .int .u8 n
theorem Byt.one {l : List Value} (h : Byt l) : l.all (·.oneCell') = true := by
  rw [List.all_eq_true]; intro v hv; obtain ⟨n, rfl⟩ := h v hv; rfl
/-- a slice that is these bytes -/
def Bs (A : Nat) (S : Hp) (v : Value) (l : List Value) : Prop := Byt l ∧ ((v = .slice none 0 0 ∧ l = []) ∨ ∃ b x s, v = .slice (some ⟨b, 0, none⟩) l.length l.length ∧ b ≠ A ∧ b < S.next ∧ S.heap.get b = some (.cells x s l))
def itv (v : Value) (i : It) : Value := .agg ⟨[v, .int .u64 i.a, .int .u64 i.w]⟩
abbrev ptr (b : Nat) : Value := .pointer (some ⟨b, 0, none⟩)
def get3 (l : List Value) (p : Nat) : List Value := (l.drop (3 * p)).take 3
theorem rep_len (n : Nat) (v : Value) : (rep n [v]).length = n := by
  induction n with
  | zero => rfl
  | succ n ih => simp [rep, ih]
theorem overlay_all : ∀ (c vs : List Value), vs.length = c.length → overlay c vs = vs
  | [], [], h => rfl
  | [], v :: vs, h => by simp at h
  | a :: c, [], h => by simp at h
  | a :: c, v :: vs, h => by simp only [overlay, overlay_all c vs (by simpa using h)]
theorem splice_0 (c vs : List Value) : splice c 0 vs = overlay c vs := by cases c <;> rfl
/-- at: where the i-th item stands -/
theorem s89 {n : Nat} {S : Hp} {q rb d f k : Nat} {i : Int} (hq : S.heap.get q = some (.cells none false [.slice (some ⟨rb, 0, none⟩) d d, .int .i64 f, .int .i64 k])) (hd : 0 < d) (hf : f ≤ 65536) (h0 : 0 ≤ i) (h1 : i ≤ 65536) :
    wp (callN T (n + 1) (.fn 89) [ptr q, .int .i64 i]) (fun v S' => Fra [] S S' ∧ (S' = S ∧ v = .int .i64 (((f : Int) + i) % (d : Int)))) S := by
  refine c89 g89 ?_
  unfold P89
  simp only [↓P_fldA, ↓P_nil, ↓P_load1, rdP_cells, optP_some, List.getElem?_cons_zero, List.getElem?_cons_succ, Nat.zero_add, Nat.add_zero, hq]
  rw [P_add64 (by omega) (by omega)]
  simp only [↓P_lenS, rdP_cells, optP_some, List.getElem?_cons_zero, hq]
  rw [P_remp .i64 (by omega) (by omega)]
  exact ⟨Fra.refl _ _, rfl, rfl⟩
/-- what may be read as these bytes -/
structure Rd (S : Hp) (v : Value) (l : List Value) : Prop where
  byt : Byt l
  one : v.oneCell' = true
  len : ∀ (C : Tgt → List Value → M Value) (Φ : Value → Hp → Prop) (S' : Hp), wp (X C (.len .slice (.const v))) Φ S' = Φ (.int .i64 l.length) S'
  lo : lenOf v = some l.length
  rd : ∀ (S' : Hp) (Ψ : List Value → Hp → Prop), (∀ b, b < S.next → S'.heap.get b = S.heap.get b) → wp (firstN 1 l.length v) Ψ S' = Ψ l S'
theorem Rd.mono {S S1 : Hp} {v : Value} {l : List Value} (h : Rd S v l) (k : Fra [] S S1) : Rd S1 v l :=
  ⟨h.byt, h.one, h.len, h.lo, fun S' Ψ hS => h.rd S' Ψ fun b hb => by rw [hS b (by have := k.next; omega), k.heap b hb (by simp)]⟩
theorem Bs.toRd {S : Hp} {v : Value} {l : List Value} (hv : Bs A S v l) : Rd S v l := by
  refine ⟨hv.1, ?_, fun C Φ S => ?_, ?_, fun S' Ψ hS => ?_⟩
  · rcases hv.2 with ⟨rfl, _⟩ | ⟨b, x, s, rfl, _⟩ <;> rfl
  · rcases hv.2 with ⟨rfl, h⟩ | ⟨b, x, s, rfl, h⟩
    · rw [P_lenS, h]; rfl
    · rw [P_lenS]
  · rcases hv.2 with ⟨rfl, h⟩ | ⟨b, x, s, rfl, h⟩
    · rw [h]; rfl
    · rfl
  · rcases hv.2 with ⟨rfl, h⟩ | ⟨b, x, s, rfl, _, h1, h2⟩
    · rw [h]; exact W_firstN0 ..
    · rw [W_firstN, hS b h1, h2, rdP_cells, Nat.mul_one, Nat.zero_add, List.drop_zero, List.take_length]
      simp [condP]
/-- own: an item in memory of its own -/
theorem s88 {n : Nat} {S : Hp} {v : Value} {i : It} (hv : Rd S v i.l) (hl : i.l.length ≤ 100000) :
    wp (callN T (n + 1) (.fn 88) [itv v i]) (fun r S' => Fra [] S S' ∧ ∃ b, r = itv (.slice (some ⟨b, 0, none⟩) i.l.length i.l.length) i ∧ S.next ≤ b ∧ b < S'.next ∧ S'.heap.get b = some (.cells none false i.l)) S := by
  refine c88 g88 ?_
  unfold P88 itv
  have hlen : ∀ (Φ : Value → Hp → Prop) (S : Hp), wp (X (callN T n) (.len .slice (.const v))) Φ S = Φ (.int .i64 i.l.length) S := fun Φ S => hv.len _ Φ S
  have hlo : lenOf v = some i.l.length := hv.lo
  have hread : ∀ (S' : Hp) (Ψ : List Value → Hp → Prop), (∀ b, b < S.next → S'.heap.get b = S.heap.get b) → wp (firstN 1 (Min.min i.l.length i.l.length) v) Ψ S' = Ψ i.l S' := by
    intro S' Ψ hS
    rw [Nat.min_self]; exact hv.rd S' Ψ hS
  simp (disch := first | omega | (simp only [Hp.add_next, Hp.put_next]; done) | (simp only [Hp.add_next, Hp.put_next]; omega) | fail) only [↓P_fldA, ↓P_alloc, ↓P_box, ↓P_load1, ↓P_loadN, ↓P_cellN, ↓P_store, ↓P_mkslice, rdP_cells, optP_some, condP_of, put_at, put_off, add_eq, add_off, Hp.put_next, Hp.add_next, List.getElem?_cons_zero, List.length_cons, List.length_nil, Nat.zero_add, Nat.add_zero, List.drop_zero, and_true, true_and, List.size_toArray, splice_z, List.all_cons, List.all_nil, one_sl, cells_agg, cells_sl, Bool.and_self, Int.le_refl, Int.toNat_natCast, hlen, P_copy 1 _ 0 _ _ hlo]
  rw [hread _ _ (fun b hb => ((((Fra.refl [] S).add _).add _).add _).heap b hb (by simp))]
  rw [wp_stCells]
  simp (disch := first | omega | (simp only [Hp.add_next, Hp.put_next]; done) | (simp only [Hp.add_next, Hp.put_next]; omega) | fail) only [blkP_cells, condP_of, put_off, add_eq, add_off, Hp.put_next, Hp.add_next, List.length_cons, List.length_nil, Nat.zero_add, Nat.reduceAdd, Nat.reduceLeDiff, List.take_succ_cons, List.take_zero, and_self, and_true, splice_z, overlay_n, overlay_c, List.all_cons, List.all_nil, one_int, one_sl, Bool.and_self, rep_len, hv.byt.one, overlay_all _ _ (rep_len i.l.length (.int .u8 0)).symm]
  refine ⟨?_, S.next + 1 + 1, rfl, by omega, by (first | omega | (simp only [Hp.add_next, Hp.put_next]; done) | (simp only [Hp.add_next, Hp.put_next]; omega)), by simp (disch := first | omega | (simp only [Hp.add_next, Hp.put_next]; done) | (simp only [Hp.add_next, Hp.put_next]; omega) | fail) only [put_at, put_off]⟩
  repeat' (first | exact Fra.refl _ _ | assumption | apply Fra.add | (refine Fra.put ?_ ?_ _) | exact Or.inl (by (first | omega | (simp only [Hp.add_next, Hp.put_next]; done) | (simp only [Hp.add_next, Hp.put_next]; omega))) | exact Or.inr (by simp))
/-- how a queue lies in memory: its ring, from where, its items -/
structure QR (A : Nat) (S : Hp) (q rb d f : Nat) (its : List It) : Prop where
  qb : S.heap.get q = some (.cells none false [.slice (some ⟨rb, 0, none⟩) d d, .int .i64 f, .int .i64 (its.length : Nat)])
  rng : ∃ ring, S.heap.get rb = some (.cells none false ring) ∧ ring.length = 3 * d ∧ (∀ p, p < d → ∃ po n c a w, get3 ring p = [.slice po n c, .int .u64 a, .int .u64 w]) ∧
    ∀ (j : Nat) (i : It), its[j]? = some i → ∃ v, get3 ring ((f + j) % d) = [v, .int .u64 i.a, .int .u64 i.w] ∧ Bs A S v i.l ∧ i.l.length ≤ 1600
  many : its.length ≤ d
  d0 : 0 < d
  d1 : d ≤ 256
  f1 : f < d
  q1 : q < S.next
  r1 : rb < S.next
  ne : rb ≠ q
  a1 : A < S.next
/-- blocks of bytes are others than those -/
theorem get3_len {ring : List Value} {d p : Nat} (h : ring.length = 3 * d) (hp : p < d) : (get3 ring p).length = 3 := by
  simp only [get3, List.length_take, List.length_drop]; omega
theorem Byt.not_q {S : Hp} {q rb d f b : Nat} {m : Int} {x : Option Nat} {s : Bool} {l : List Value} (hq : S.heap.get q = some (.cells none false [.slice (some ⟨rb, 0, none⟩) d d, .int .i64 f, .int .i64 m])) (hb : S.heap.get b = some (.cells x s l)) (hl : Byt l) : b ≠ q := by
  intro e
  subst e
  rw [hq] at hb
  cases hb
  obtain ⟨n, h⟩ := hl _ (List.mem_cons_self ..)
  cases h
theorem Byt.not_r {S : Hp} {rb d b : Nat} {ring : List Value} {x : Option Nat} {s : Bool} {l : List Value} (hr : S.heap.get rb = some (.cells none false ring)) (hlen : ring.length = 3 * d) (hd : 0 < d) (h0 : ∀ p, p < d → ∃ po n c a w, get3 ring p = [.slice po n c, .int .u64 a, .int .u64 w])
    (hb : S.heap.get b = some (.cells x s l)) (hl : Byt l) : b ≠ rb := by
  intro e
  subst e
  rw [hr] at hb
  cases hb
  obtain ⟨po, n, c, a, w, h⟩ := h0 0 hd
  have h1 : Value.slice po n c ∈ ring := by
    have : Value.slice po n c ∈ get3 ring 0 := by rw [h]; exact List.mem_cons_self ..
    exact List.mem_of_mem_drop (List.mem_of_mem_take this)
  obtain ⟨k, h⟩ := hl _ h1
  cases h
theorem Bs.keep {S S' : Hp} {v : Value} {l : List Value} (h : Bs A S v l) (hn : S.next ≤ S'.next) (k : ∀ b x s, b < S.next → S.heap.get b = some (.cells x s l) → S'.heap.get b = S.heap.get b) : Bs A S' v l := by
  refine ⟨h.1, ?_⟩
  rcases h.2 with h1 | ⟨b, x, s, h1, h0, h2, h3⟩
  · exact .inl h1
  · exact .inr ⟨b, x, s, h1, h0, by omega, by rw [k b x s h2 h3, h3]⟩
/-- a queue stays, if its blocks and its bytes do -/
theorem QR.keep {S S' : Hp} {q rb d f : Nat} {its : List It} (h : QR A S q rb d f its) (hn : S.next ≤ S'.next) (kq : S'.heap.get q = S.heap.get q) (kr : S'.heap.get rb = S.heap.get rb)
    (kb : ∀ b x s l, Byt l → b < S.next → S.heap.get b = some (.cells x s l) → S'.heap.get b = S.heap.get b) : QR A S' q rb d f its := by
  obtain ⟨h1, ⟨ring, h2, h3, h4, h5⟩, h6, h7, h8, h9, h10, h11, h12, h13⟩ := h
  refine ⟨by rw [kq]; exact h1, ⟨ring, by rw [kr]; exact h2, h3, h4, fun j i hj => ?_⟩, h6, h7, h8, h9, by omega, by omega, h12, by omega⟩
  obtain ⟨v, k1, k2, k3⟩ := h5 j i hj
  exact ⟨v, k1, k2.keep hn fun b x s hb hs => kb b x s i.l k2.1 hb hs, k3⟩
theorem QR.fra {S S' : Hp} {q rb d f : Nat} {its : List It} (h : QR A S q rb d f its) (k : Fra [] S S') : QR A S' q rb d f its :=
  h.keep k.next (k.heap q h.q1 (by simp)) (k.heap rb h.r1 (by simp)) fun b x s l _ hb _ => k.heap b hb (by simp)
/-- Depth and Len -/
theorem s40 {n : Nat} {S : Hp} {q rb d f : Nat} {m : Int} (hq : S.heap.get q = some (.cells none false [.slice (some ⟨rb, 0, none⟩) d d, .int .i64 f, .int .i64 m])) : wp (callN T (n + 1) (.fn 40) [ptr q]) (fun v S' => Fra [] S S' ∧ (S' = S ∧ v = .int .i64 d)) S := by
  refine c40 g40 ?_
  unfold P40
  simp (disch := first | omega | (simp only [Hp.add_next, Hp.put_next]; done) | (simp only [Hp.add_next, Hp.put_next]; omega) | fail) only [↓P_fldA, ↓P_nil, ↓P_load1, ↓P_lenS, ifP_bool, ifB_false, ↓P_eqptr1, rdP_cells, optP_some, List.getElem?_cons_zero, Nat.add_zero, and_self, and_true, hq]
  exact Fra.refl _ _
theorem s29 {n : Nat} {S : Hp} {q rb d f : Nat} {m : Int} (hq : S.heap.get q = some (.cells none false [.slice (some ⟨rb, 0, none⟩) d d, .int .i64 f, .int .i64 m])) : wp (callN T (n + 1) (.fn 29) [ptr q]) (fun v S' => Fra [] S S' ∧ (S' = S ∧ v = .int .i64 m)) S := by
  refine c29 g29 ?_
  unfold P29
  simp (disch := first | omega | (simp only [Hp.add_next, Hp.put_next]; done) | (simp only [Hp.add_next, Hp.put_next]; omega) | fail) only [↓P_fldA, ↓P_nil, ↓P_load1, ifP_bool, ifB_false, ↓P_eqptr1, rdP_cells, optP_some, List.getElem?_cons_zero, List.getElem?_cons_succ, Nat.zero_add, and_true, true_and, hq]
  exact Fra.refl _ _
theorem s87 {n : Nat} {S : Hp} (i : Int) : wp (callN T (n + 1) (.fn 87) [.int .i64 i]) (fun v S' => S' = S ∧ v = .bool (decide (i ≥ 1) && decide (i ≤ 256))) S := by
  refine c87 g87 ?_
  unfold P87
  simp (disch := first | omega | (simp only [Hp.add_next, Hp.put_next]; done) | (simp only [Hp.add_next, Hp.put_next]; omega) | fail) only [↓P_andQ, andQ_p, ↓P_leq, ↓P_geq, and_self]
theorem s41 {n : Nat} {S : Hp} {q : Nat} : wp (callN T (n + 1) (.fn 41) [ptr q]) (fun v S' => S' = S.add (.cells none false [ptr q]) ∧ v = .func (.func 92) ⟨[]⟩ ⟨[ptr S.next]⟩) S := by
  refine c41 g41 ?_
  unfold P41
  simp (disch := first | omega | (simp only [Hp.add_next, Hp.put_next]; done) | (simp only [Hp.add_next, Hp.put_next]; omega) | fail) only [↓P_box, ↓P_mkfn1, and_self, cells_ptr]
/-- All: each item is handed out, till it is enough -/
theorem s92 {n : Nat} {q nb l : Nat} {rb d f : Nat} {its : List It} (hn : its.length + 2 ≤ n) (Inv : Nat → Hp → Prop) (Stop : Hp → Prop)
    (hinv : ∀ i S, Inv i S → QR A S q rb d f its ∧ S.heap.get nb = some (.cells none false [ptr q]) ∧ nb < S.next)
    (hy : ∀ i it S b S1 (Ψ : Value → Hp → Prop), its[i]? = some it → Inv i S → Fra [] S S1 → S.next ≤ b → b < S1.next → S1.heap.get b = some (.cells none false it.l) → (∀ S2, Inv (i + 1) S2 → Ψ (.bool true) S2) → (∀ S2, Stop S2 → Ψ (.bool false) S2) →
      wp (callN T n (.yield l) [itv (.slice (some ⟨b, 0, none⟩) it.l.length it.l.length) it]) Ψ S1)
    {S : Hp} (h0 : Inv 0 S) : wp (callN T (n + 1) (.fn 92) [.func (.yield l) #[] #[], ptr nb]) (fun _ S' => Inv its.length S' ∨ Stop S') S := by
  refine c92 g92 ?_
  unfold P92
  obtain ⟨n, rfl⟩ : ∃ m, n = m + 1 := ⟨n - 1, by omega⟩
  refine ⟨fun m t0 t1 t3 S => ∃ i : Nat, t0 = .func (.yield l) #[] #[] ∧ t1 = ptr nb ∧ t3 = .int .i64 i ∧ m = its.length - i ∧ i ≤ its.length ∧ Inv i S, ⟨its.length, by omega, 0, rfl, rfl, rfl, by omega, by omega, h0⟩, ?_⟩
  rintro m S t0 t1 t3 ⟨i, rfl, rfl, rfl, rfl, hi, hI⟩
  obtain ⟨hQ, hnb, hnbl⟩ := hinv i S hI
  have hQb := hQ.qb
  obtain ⟨ring, hr, hrl, hr0, hri⟩ := hQ.rng
  have hd0 := hQ.d0
  have hd1 := hQ.d1
  have hf1 := hQ.f1
  have hmany := hQ.many
  simp (disch := first | omega | (simp only [Hp.add_next, Hp.put_next]; done) | (simp only [Hp.add_next, Hp.put_next]; omega) | fail) only [↓P_load1, ↓D_load1, ↓P_add64, ↓P_callF1, ↓P_callY1, rdP_cells, optP_some, List.getElem?_cons_zero, true_and, List.nil_append, List.append_nil, hnb]
  refine Wb.wp_mono (s29 hQb) fun v S' h => ?_
  obtain ⟨_, rfl, rfl⟩ := h
  simp (disch := first | omega | (simp only [Hp.add_next, Hp.put_next]; done) | (simp only [Hp.add_next, Hp.put_next]; omega) | fail) only [ifP_bool, ↓P_lss]
  refine ifD_in (fun hlt => ?_) (fun hge => ?_)
  rotate_left
  · refine .inl ?_
    have : i = its.length := by omega
    rw [← this]; exact hI
  have hlt' : i < its.length := by omega
  simp (disch := first | omega | (simp only [Hp.add_next, Hp.put_next]; done) | (simp only [Hp.add_next, Hp.put_next]; omega) | fail) only [↓P_fldA, ↓P_nil, ↓D_load1, rdP_cells, optP_some, List.getElem?_cons_zero, Nat.add_zero, hnb, hQb]
  rw [D_call 7 _ 89 (vs := [ptr q, .int .i64 i]) rfl]
  refine D_spec (s89 (i := i) hQb hd0 (by omega) (by omega) (by omega)) fun v S' t hF hP h1 h2 h3 => ?_
  obtain ⟨rfl, rfl⟩ := hP
  obtain ⟨it, hit⟩ : ∃ it, its[i]? = some it := ⟨_, List.getElem?_eq_getElem hlt'⟩
  obtain ⟨v, k1, k2, k3⟩ := hri i it hit
  have hp : (f + i) % d < d := Nat.mod_lt _ hd0
  have hcast : ((f : Int) + (i : Int)) % (d : Int) = (((f + i) % d : Nat) : Int) := by simp
  rw [hcast]
  simp (disch := first | omega | (simp only [Hp.add_next, Hp.put_next]; done) | (simp only [Hp.add_next, Hp.put_next]; omega) | fail) only [↓P_loadN, ↓P_ixA, rdP_cells, condP_of, Nat.zero_add, Int.toNat_natCast, hr]
  have hval : (Value.agg ⟨List.take 3 (List.drop ((f + i) % d * 3) ring)⟩) = itv v it := by
    unfold get3 at k1
    rw [Nat.mul_comm, k1]; rfl
  rw [hval]
  refine Wb.wp_mono (s88 k2.toRd (by omega)) fun r S1 h => ?_
  obtain ⟨hF1, b, rfl, hb1, hb2, hb3⟩ := h
  have hap : apartAll [0, 0, 2, 6, 14, 0, 0, 96, 254, 510, 1022, 2047, 4095] (keepT 7 t [(4, { log := [(q, false)], lo := S'.next, hi := S'.next }), (1, { log := [(nb, false)], lo := S'.next, hi := S'.next })]) = true := by
    have hw : ∀ b, b < S'.next → (b, true) ∉ t.log := fun b hb hc => by
      rcases h3 b hc with h | h
      · omega
      · simp at h
    refine apart_keep (one_cons (.inr (apt_read (by rw [h1]; exact hQ.q1) (hw q hQ.q1)).symm) (one_cons (.inr (apt_read (by rw [h1]; exact hnbl) (hw nb hnbl)).symm) one_nil)) (apart_cons (one_cons (.inr apt_reads) one_nil) (apart_cons one_nil apart_nil))
  refine hy i it S' b S1 _ hit hI hF1 hb1 hb2 hb3 (fun S2 hI2 => ?_) (fun S2 hS2 => ?_)
  · simp (disch := first | omega | (simp only [Hp.add_next, Hp.put_next]; done) | (simp only [Hp.add_next, Hp.put_next]; omega) | fail) only [↓P_not, ifP_bool, ifB_false, Bool.not_true]
    refine okP_in hap ?_
    try simp (disch := first | omega | (simp only [Hp.add_next, Hp.put_next]; done) | (simp only [Hp.add_next, Hp.put_next]; omega) | fail) only [↓P_pick, ↓P_not, ↓P_ext, ↓P_fld, ↓P_fldA, ↓P_nil, ↓P_alloc, ↓P_box, ↓P_build, ↓P_bslice, ↓P_load1, ↓P_loadN, ↓P_cell1, ↓P_cellN, ↓D_load1, ↓D_loadN, ↓P_store, ↓P_ixA, ↓P_ix, ↓P_ixS, ↓P_lenS, ↓P_lenE, ↓P_lenStr, ↓P_mkif, ↓P_eqB, ↓P_eqC, ↓P_mkslice, ↓P_slc, ↓P_slc0, ↓P_andQ, andQ_tt, andQ_tf, andQ_ff, andQ_ft, andQ_p, orQ_p, ifP_bool, ifB_true, ifB_false, ↓P_eqptr0, ↓P_eqptr1, ↓P_eqptr0N, ↓P_eqptr1N, ↓P_eqsl0, ↓P_eqsl1, ↓P_eqsl0N, ↓P_eqsl1N, ↓P_eqmap0, ↓P_eqmap1, ↓P_eqmap0N, ↓P_eqmap1N, ↓P_eqfn0, ↓P_eqfn1, ↓P_eqfn0N, ↓P_eqfn1N, ↓P_lss, ↓P_leq, ↓P_gtr, ↓P_geq, ↓P_eql, ↓P_neq, ↓P_add64, ↓P_sub64, ↓P_addU64, ↓P_subU64, ↓P_addU32, ↓P_subU32, ↓P_addU16, ↓P_subU16, ↓P_addU8, ↓P_subU8, ↓P_convI64, ↓P_convU64, ↓P_convU32, ↓P_convU16, ↓P_convU8, ↓P_seql, ↓P_sneq, ↓P_sadd, ↓P_call0, ↓P_mkfn0, ↓P_call1, ↓P_mkfn1, ↓P_call2, ↓P_mkfn2, ↓P_call3, ↓P_mkfn3, ↓P_call4, ↓P_mkfn4, ↓P_call5, ↓P_mkfn5, ↓P_call6, ↓P_mkfn6, ↓P_call7, ↓P_mkfn7, ↓P_callF0, ↓P_callY0, ↓P_mkfnR0, ↓P_callF1, ↓P_callY1, ↓P_mkfnR1, ↓P_callF2, ↓P_callY2, ↓P_mkfnR2, ↓P_callF3, ↓P_callY3, ↓P_mkfnR3, ↓P_callF4, ↓P_callY4, ↓P_mkfnR4, blkP_cells, rdP_cells, rdP_ro, cutP_none, cutP_some, cutP_ro, optP_some, condP_true, condP_of, bnds_l, bnds_h, bnds_lh, bnds_0, put_at, put_off, add_at, add_eq, add_off, Hp.put_next, Hp.add_next, List.getElem?_cons_zero, List.getElem?_cons_succ, List.length_cons, List.length_nil, Nat.zero_add, Nat.add_zero, Nat.reduceAdd, Nat.reduceLeDiff, Nat.reduceSub, Nat.reduceMul, Nat.reduceEqDiff, List.drop_zero, List.drop_succ_cons, List.take_succ_cons, List.take_zero, and_self, and_true, true_and, if_true, if_false, Bool.false_eq_true, Bool.not_true, Bool.not_false, decide_true, decide_false, beq_true, beq_false, Bool.true_beq, Bool.false_beq, fillA, Atom.ev, setAll, List.set_cons_zero, List.set_cons_succ, List.size_toArray, splice_z, splice_1, splice_2, splice_3, splice_4, overlay_n, overlay_c, List.all_cons, List.all_nil, one_int, one_bool, one_str, one_ptr, one_sl, one_map, one_fn, one_nf, cells_agg, cells_int, cells_bool, cells_str, cells_ptr, cells_sl, cells_map, cells_fn, cells_nf, cells_tok, Bool.and_self, Bool.or_self, Bool.true_or, Bool.or_true, Bool.false_or, Bool.or_false, Bool.false_and, Bool.and_false, Bool.and_true, Bool.true_and, beq_self_eq_true, Int.reduceToNat, List.nil_append, List.append_nil, List.cons_append, Int.le_refl, Int.toNat_natCast]
    exact ⟨its.length - (i + 1), by omega, i + 1, by simp, rfl, by omega, hI2⟩
  · simp (disch := first | omega | (simp only [Hp.add_next, Hp.put_next]; done) | (simp only [Hp.add_next, Hp.put_next]; omega) | fail) only [↓P_not, ifP_bool, ifB_true, Bool.not_false]
    refine okP_in hap ?_
    try simp (disch := first | omega | (simp only [Hp.add_next, Hp.put_next]; done) | (simp only [Hp.add_next, Hp.put_next]; omega) | fail) only [↓P_pick, ↓P_not, ↓P_ext, ↓P_fld, ↓P_fldA, ↓P_nil, ↓P_alloc, ↓P_box, ↓P_build, ↓P_bslice, ↓P_load1, ↓P_loadN, ↓P_cell1, ↓P_cellN, ↓D_load1, ↓D_loadN, ↓P_store, ↓P_ixA, ↓P_ix, ↓P_ixS, ↓P_lenS, ↓P_lenE, ↓P_lenStr, ↓P_mkif, ↓P_eqB, ↓P_eqC, ↓P_mkslice, ↓P_slc, ↓P_slc0, ↓P_andQ, andQ_tt, andQ_tf, andQ_ff, andQ_ft, andQ_p, orQ_p, ifP_bool, ifB_true, ifB_false, ↓P_eqptr0, ↓P_eqptr1, ↓P_eqptr0N, ↓P_eqptr1N, ↓P_eqsl0, ↓P_eqsl1, ↓P_eqsl0N, ↓P_eqsl1N, ↓P_eqmap0, ↓P_eqmap1, ↓P_eqmap0N, ↓P_eqmap1N, ↓P_eqfn0, ↓P_eqfn1, ↓P_eqfn0N, ↓P_eqfn1N, ↓P_lss, ↓P_leq, ↓P_gtr, ↓P_geq, ↓P_eql, ↓P_neq, ↓P_add64, ↓P_sub64, ↓P_addU64, ↓P_subU64, ↓P_addU32, ↓P_subU32, ↓P_addU16, ↓P_subU16, ↓P_addU8, ↓P_subU8, ↓P_convI64, ↓P_convU64, ↓P_convU32, ↓P_convU16, ↓P_convU8, ↓P_seql, ↓P_sneq, ↓P_sadd, ↓P_call0, ↓P_mkfn0, ↓P_call1, ↓P_mkfn1, ↓P_call2, ↓P_mkfn2, ↓P_call3, ↓P_mkfn3, ↓P_call4, ↓P_mkfn4, ↓P_call5, ↓P_mkfn5, ↓P_call6, ↓P_mkfn6, ↓P_call7, ↓P_mkfn7, ↓P_callF0, ↓P_callY0, ↓P_mkfnR0, ↓P_callF1, ↓P_callY1, ↓P_mkfnR1, ↓P_callF2, ↓P_callY2, ↓P_mkfnR2, ↓P_callF3, ↓P_callY3, ↓P_mkfnR3, ↓P_callF4, ↓P_callY4, ↓P_mkfnR4, blkP_cells, rdP_cells, rdP_ro, cutP_none, cutP_some, cutP_ro, optP_some, condP_true, condP_of, bnds_l, bnds_h, bnds_lh, bnds_0, put_at, put_off, add_at, add_eq, add_off, Hp.put_next, Hp.add_next, List.getElem?_cons_zero, List.getElem?_cons_succ, List.length_cons, List.length_nil, Nat.zero_add, Nat.add_zero, Nat.reduceAdd, Nat.reduceLeDiff, Nat.reduceSub, Nat.reduceMul, Nat.reduceEqDiff, List.drop_zero, List.drop_succ_cons, List.take_succ_cons, List.take_zero, and_self, and_true, true_and, if_true, if_false, Bool.false_eq_true, Bool.not_true, Bool.not_false, decide_true, decide_false, beq_true, beq_false, Bool.true_beq, Bool.false_beq, fillA, Atom.ev, setAll, List.set_cons_zero, List.set_cons_succ, List.size_toArray, splice_z, splice_1, splice_2, splice_3, splice_4, overlay_n, overlay_c, List.all_cons, List.all_nil, one_int, one_bool, one_str, one_ptr, one_sl, one_map, one_fn, one_nf, cells_agg, cells_int, cells_bool, cells_str, cells_ptr, cells_sl, cells_map, cells_fn, cells_nf, cells_tok, Bool.and_self, Bool.or_self, Bool.true_or, Bool.or_true, Bool.false_or, Bool.or_false, Bool.false_and, Bool.and_false, Bool.and_true, Bool.true_and, beq_self_eq_true, Int.reduceToNat, List.nil_append, List.append_nil, List.cons_append, Int.le_refl, Int.toNat_natCast]
    exact .inr hS2
/-- what a range over a queue leaves that takes the first one -/
def StH (A : Nat) (S : Hp) (its : List It) (e' : Env) (S' : Hp) : Prop := Fra [] S S' ∧ ∃ i r u, its = i :: r ∧ Bs A S' u i.l ∧ S'.heap.get S.next = some (.cells none false [u, .int .u64 i.a, .int .u64 i.w]) ∧ S'.heap.get (S.next + 1) = some (.cells none false [.bool true]) ∧
      S'.heap.get (S.next + 1 + 1 + 1) = some (.loop [7] (rA (bB (sR (sL (sR b39))))) (rB (bB (sR (sL (sR b39))))) e' (some .ret)) ∧ S.next + 1 + 1 + 1 + 1 ≤ S'.next
/-- Head: a copy of the first one -/
theorem s39 {n : Nat} {S : Hp} {q rb d f : Nat} {its : List It} {Φ : Value → Hp → Prop} (hn : 300 ≤ n) (h : QR A S q rb d f its)
    (kn : its = [] → ∀ S', Fra [] S S' → Φ (.tuple ⟨[.agg ⟨[.slice none 0 0, .int .u64 0, .int .u64 0]⟩, .bool false]⟩) S')
    (ks : ∀ i r u S', its = i :: r → Fra [] S S' → Bs A S' u i.l → Φ (.tuple ⟨[itv u i, .bool true]⟩) S') : wp (callN T (n + 1) (.fn 39) [ptr q]) Φ S := by
  refine c39 g39 ?_
  unfold P39
  obtain ⟨n, rfl⟩ : ∃ m, n = m + 1 + 1 := ⟨n - 2, by omega⟩
  simp (disch := first | omega | (simp only [Hp.add_next, Hp.put_next]; done) | (simp only [Hp.add_next, Hp.put_next]; omega) | fail) only [↓P_alloc, ↓P_build, ↓P_cell1, ↓P_cellN, ↓P_store, ↓P_callF1, rdP_cells, optP_some, condP_of, put_at, put_off, Hp.add_next, List.length_cons, List.length_nil, Nat.zero_add, Nat.reduceAdd, List.drop_zero, and_true, fillA, List.size_toArray, splice_z, List.all_cons, List.all_nil, one_int, one_bool, one_sl, cells_agg, cells_bool, Bool.and_self, List.nil_append, List.append_nil]
  refine Wb.wp_mono s41 fun v S1 h1 => ?_
  obtain ⟨rfl, rfl⟩ := h1
  rw [R_range]
  intro e' he'
  have hle : Le (((.leaf : Env).set 2 (some (ptr S.next))).set 3 (some (ptr (S.next + 1)))) e' := ((Le.leaf _).of_set (he' 2 _ (by kernel_rfl))).of_set (he' 3 _ (by kernel_rfl))
  simp (disch := first | omega | (simp only [Hp.add_next, Hp.put_next]; done) | (simp only [Hp.add_next, Hp.put_next]; omega) | fail) only [put_off, Hp.add_next, List.nil_append, List.cons_append]
  generalize hS0 : (((S.add _).add _).add _).add _ = S0
  have hF0 : Fra [] S S0 := by subst hS0; repeat' (first | exact Fra.refl _ _ | assumption | apply Fra.add | (refine Fra.put ?_ ?_ _) | exact Or.inl (by (first | omega | (simp only [Hp.add_next, Hp.put_next]; done) | (simp only [Hp.add_next, Hp.put_next]; omega))) | exact Or.inr (by simp))
  have hn0 : S0.next = S.next + 1 + 1 + 1 + 1 := by subst hS0; rfl
  have g0 : S0.heap.get S.next = some (.cells none false [.slice none 0 0, .int .u64 0, .int .u64 0]) := by subst hS0; simp (disch := first | omega | (simp only [Hp.add_next, Hp.put_next]; done) | (simp only [Hp.add_next, Hp.put_next]; omega) | fail) only [add_eq, add_off]
  have g1 : S0.heap.get (S.next + 1) = some (.cells none false [.bool false]) := by subst hS0; simp (disch := first | omega | (simp only [Hp.add_next, Hp.put_next]; done) | (simp only [Hp.add_next, Hp.put_next]; omega) | fail) only [add_eq, add_off]
  have g2 : S0.heap.get (S.next + 1 + 1) = some (.cells none false [ptr q]) := by subst hS0; simp (disch := first | omega | (simp only [Hp.add_next, Hp.put_next]; done) | (simp only [Hp.add_next, Hp.put_next]; omega) | fail) only [add_eq, add_off]
  have g3 : S0.heap.get (S.next + 1 + 1 + 1) = some (.loop [7] (rA (bB (sR (sL (sR b39))))) (rB (bB (sR (sL (sR b39))))) e' none) := by subst hS0; simp (disch := first | omega | (simp only [Hp.add_next, Hp.put_next]; done) | (simp only [Hp.add_next, Hp.put_next]; omega) | fail) only [add_eq]
  have hQ0 := h.fra hF0
  clear hS0
  refine Wb.wp_mono (s92 (A := A) (q := q) (rb := rb) (d := d) (f := f) (its := its) (nb := S.next + 1 + 1) (l := S.next + 1 + 1 + 1) (by have := h.many; have := h.d1; omega) (fun i S' => i = 0 ∧ S' = S0) (StH A S its e') ?_ ?_ ⟨rfl, rfl⟩) ?_
  · rintro i S' ⟨rfl, rfl⟩
    exact ⟨hQ0, g2, by omega⟩
  · rintro i it S' b S1 Ψ hit ⟨rfl, rfl⟩ hF1 hb1 hb2 hb3 _ fin
    have k3 := hF1.at_ (by omega) (by simp) g3
    refine yieldP (args := [itv (.slice (some ⟨b, 0, none⟩) it.l.length it.l.length) it]) (A := B39_0) (B := B39_0) k3 rfl (zipSet_mono hle) ?_
    rw [q39_0]
    unfold Q39_0 itv
    have k0 := hF1.at_ (by omega) (by simp) g0
    have k1 := hF1.at_ (by omega) (by simp) g1
    have hn1 := hF1.next
    have hF2 := hF0.trans' hF1
    simp (disch := first | omega | (simp only [Hp.add_next, Hp.put_next]; done) | (simp only [Hp.add_next, Hp.put_next]; omega) | fail) only [↓P_alloc, ↓P_loadN, ↓P_store, blkP_cells, rdP_cells, condP_of, put_at, put_off, add_eq, add_off, Hp.put_next, List.length_cons, List.length_nil, Nat.zero_add, Nat.reduceAdd, Nat.reduceLeDiff, List.drop_zero, List.take_succ_cons, List.take_zero, and_self, List.size_toArray, splice_z, overlay_n, overlay_c, List.all_cons, List.all_nil, one_int, one_bool, one_sl, cells_agg, cells_bool, Bool.and_self, k0, k1]
    refine fin _ ?_
    obtain ⟨r, rfl⟩ : ∃ r, its = it :: r := by
      cases its with
      | nil => simp at hit
      | cons a r => simp at hit; exact ⟨r, by rw [hit]⟩
    have hbl : it.l.length ≤ 1600 ∧ Byt it.l := by
      obtain ⟨ring, _, _, _, hri⟩ := h.rng
      obtain ⟨v, _, k2, k3⟩ := hri 0 it rfl
      exact ⟨k3, k2.1⟩
    refine ⟨?_, it, r, _, rfl, ⟨hbl.2, .inr ⟨b, none, false, rfl, by have := h.a1; omega, by (first | omega | (simp only [Hp.add_next, Hp.put_next]; done) | (simp only [Hp.add_next, Hp.put_next]; omega)), ?_⟩⟩, ?_, ?_, ?_, by (first | omega | (simp only [Hp.add_next, Hp.put_next]; done) | (simp only [Hp.add_next, Hp.put_next]; omega))⟩
    · repeat' (first | exact Fra.refl _ _ | assumption | apply Fra.add | (refine Fra.put ?_ ?_ _) | exact Or.inl (by (first | omega | (simp only [Hp.add_next, Hp.put_next]; done) | (simp only [Hp.add_next, Hp.put_next]; omega))) | exact Or.inr (by simp))
    · simp (disch := first | omega | (simp only [Hp.add_next, Hp.put_next]; done) | (simp only [Hp.add_next, Hp.put_next]; omega) | fail) only [put_off, add_off]; exact hb3
    · simp (disch := first | omega | (simp only [Hp.add_next, Hp.put_next]; done) | (simp only [Hp.add_next, Hp.put_next]; omega) | fail) only [put_at, put_off]
    · simp (disch := first | omega | (simp only [Hp.add_next, Hp.put_next]; done) | (simp only [Hp.add_next, Hp.put_next]; omega) | fail) only [put_at, put_off]
    · simp (disch := first | omega | (simp only [Hp.add_next, Hp.put_next]; done) | (simp only [Hp.add_next, Hp.put_next]; omega) | fail) only [put_at]
  · rintro v S2 (⟨hi, rfl⟩ | ⟨hF2, i, r, u, rfl, hbs, k0, k1, k3, hn2⟩)
    · have : its = [] := List.length_eq_zero_iff.1 hi
      refine ⟨_, _, _, _, _, g3, ?_⟩
      simp (disch := first | omega | (simp only [Hp.add_next, Hp.put_next]; done) | (simp only [Hp.add_next, Hp.put_next]; omega) | fail) only [blkP_cells, optP_some, condP_of, List.getElem?_cons_zero, List.length_cons, List.length_nil, Nat.zero_add, Nat.reduceAdd, Nat.reduceLeDiff, List.take_succ_cons, List.take_zero, overlay_n, overlay_c, g0, g1]
      exact kn this _ (by repeat' (first | exact Fra.refl _ _ | assumption | apply Fra.add | (refine Fra.put ?_ ?_ _) | exact Or.inl (by (first | omega | (simp only [Hp.add_next, Hp.put_next]; done) | (simp only [Hp.add_next, Hp.put_next]; omega))) | exact Or.inr (by simp)))
    · refine ⟨_, _, _, _, _, k3, ?_⟩
      simp only [blockP, contP, endP, resP, tupP, Tr.get_set, Tr.get_leaf, Nat.reduceEqDiff, reduceCtorEq, if_true, if_false]
      simp (disch := first | omega | (simp only [Hp.add_next, Hp.put_next]; done) | (simp only [Hp.add_next, Hp.put_next]; omega) | fail) only [↓P_cell1, ↓P_cellN, rdP_cells, optP_some, condP_of, put_off, List.getElem?_cons_zero, List.length_cons, List.length_nil, Nat.zero_add, Nat.reduceAdd, Nat.reduceLeDiff, List.drop_zero, List.take_succ_cons, List.take_zero, k0, k1]
      refine ks i r u _ rfl (by repeat' (first | exact Fra.refl _ _ | assumption | apply Fra.add | (refine Fra.put ?_ ?_ _) | exact Or.inl (by (first | omega | (simp only [Hp.add_next, Hp.put_next]; done) | (simp only [Hp.add_next, Hp.put_next]; omega))) | exact Or.inr (by simp))) (hbs.keep (by (first | omega | (simp only [Hp.add_next, Hp.put_next]; done) | (simp only [Hp.add_next, Hp.put_next]; omega))) fun b x s hb hs => ?_)
      rw [put_off]
      intro e
      subst e
      rw [k3] at hs; cases hs
theorem get3_get (l : List Value) (p k : Nat) : (get3 l p)[k]? = if k < 3 then l[3 * p + k]? else none := by
  unfold get3
  rw [List.getElem?_take, List.getElem?_drop]
theorem get3_ext {l : List Value} {p : Nat} {x y z : Value} (h0 : l[3 * p]? = some x) (h1 : l[3 * p + 1]? = some y) (h2 : l[3 * p + 2]? = some z) : get3 l p = [x, y, z] := by
  apply List.ext_getElem?
  intro k
  rw [get3_get]
  match k with
  | 0 => simp [h0]
  | 1 => simp [h1]
  | 2 => simp [h2]
  | k + 3 => rw [if_neg (by omega)]; rfl
theorem get3_splice {ring : List Value} {d p : Nat} (h : ring.length = 3 * d) (hp : p < d) (x y z : Value) : (splice ring (3 * p) [x, y, z]).length = 3 * d ∧ ∀ p', get3 (splice ring (3 * p) [x, y, z]) p' = if p' = p then [x, y, z] else get3 ring p' := by
  rw [splice_eq _ _ _ (by simp; omega)]
  simp only [setAll]
  refine ⟨by simp [h], fun p' => ?_⟩
  by_cases e : p' = p
  · subst e
    rw [if_pos rfl]
    refine get3_ext ?_ ?_ ?_
    · rw [List.getElem?_set_ne (by omega), List.getElem?_set_ne (by omega), List.getElem?_set_self (by omega)]
    · rw [List.getElem?_set_ne (by omega), List.getElem?_set_self (by simp; omega)]
    · rw [List.getElem?_set_self (by simp; omega)]
  · rw [if_neg e]
    apply List.ext_getElem?
    intro k
    rw [get3_get, get3_get]
    split
    · rw [List.getElem?_set_ne (by omega), List.getElem?_set_ne (by omega), List.getElem?_set_ne (by omega)]
    · rfl
theorem rep3 (x y z : Value) : ∀ (n : Nat), (rep n [x, y, z]).length = 3 * n ∧ ∀ p, p < n → get3 (rep n [x, y, z]) p = [x, y, z]
  | 0 => ⟨rfl, fun p h => by omega⟩
  | n + 1 => by
    obtain ⟨h1, h2⟩ := rep3 x y z n
    refine ⟨by simp [rep, h1]; omega, fun p hp => ?_⟩
    cases p with
    | zero => rfl
    | succ p =>
      have := h2 p (by omega)
      unfold get3 at this ⊢
      rw [show 3 * (p + 1) = 3 * p + 3 by omega]
      simp only [rep, List.cons_append, List.nil_append, List.drop_succ_cons]
      exact this
theorem mod_ne {d f i j : Nat} (hf : f < d) (hi : i < d) (hj : j < d) (h : i ≠ j) : (f + i) % d ≠ (f + j) % d := by
  rw [Nat.mod_eq (f + i), Nat.mod_eq (f + j)]
  split <;> split <;> (try rw [Nat.mod_eq_of_lt (by omega)]) <;> (try rw [Nat.mod_eq_of_lt (by omega)]) <;> omega
theorem mod_step {d f i : Nat} (hd : 0 < d) : ((f + 1) % d + i) % d = (f + (i + 1)) % d := by
  rw [Nat.mod_add_mod]; congr 1; omega
/-- New -/
theorem s26 {n : Nat} {S : Hp} {t : Int} {Φ : Value → Hp → Prop} (hA : A ≤ S.next) (kn : ¬ (1 ≤ t ∧ t ≤ 256) → ∀ S', Fra [] S S' → Φ (.tuple ⟨[.pointer none, .int .i64 2]⟩) S')
    (ks : ∀ S' (q rb d : Nat), (d : Int) = t → Fra [] S S' → S.next ≤ q → S.next ≤ rb → QR A S' q rb d 0 [] → Φ (.tuple ⟨[ptr q, .int .i64 0]⟩) S') : wp (callN T (n + 1 + 1) (.fn 26) [.int .i64 t]) Φ S := by
  refine c26 g26 ?_
  unfold P26
  simp (disch := first | omega | (simp only [Hp.add_next, Hp.put_next]; done) | (simp only [Hp.add_next, Hp.put_next]; omega) | fail) only [↓P_box, ↓P_build, ↓P_mkslice, ↓P_callF1, optP_some, Hp.add_next, List.length_cons, List.length_nil, Nat.zero_add, Nat.reduceAdd, Nat.reduceLeDiff, and_self, and_true, true_and, if_true, fillA, Atom.ev, setAll, List.set_cons_zero, List.size_toArray, cells_agg, cells_sl, List.nil_append, List.append_nil, Int.le_refl]
  refine Wb.wp_mono (s87 t) fun v S' h => ?_
  obtain ⟨rfl, rfl⟩ := h
  simp (disch := first | omega | (simp only [Hp.add_next, Hp.put_next]; done) | (simp only [Hp.add_next, Hp.put_next]; omega) | fail) only [↓P_not, ifP_bool]
  refine ifB_in (fun h => ?_) (fun h => ?_)
  · refine kn (fun hc => ?_) _ (Fra.refl _ _)
    rw [decide_eq_true hc.1, decide_eq_true hc.2] at h; cases h
  · simp only [Bool.not_eq_false', Bool.and_eq_true, decide_eq_true_eq] at h
    simp (disch := first | omega | (simp only [Hp.add_next, Hp.put_next]; done) | (simp only [Hp.add_next, Hp.put_next]; omega) | fail) only [condP_of]
    have hd : ((t.toNat : Nat) : Int) = t := by omega
    obtain ⟨r1, r2⟩ := rep3 (.slice none 0 0) (.int .u64 0) (.int .u64 0) t.toNat
    refine ks _ (S'.next + 1) S'.next t.toNat hd (by repeat' (first | exact Fra.refl _ _ | assumption | apply Fra.add | (refine Fra.put ?_ ?_ _) | exact Or.inl (by (first | omega | (simp only [Hp.add_next, Hp.put_next]; done) | (simp only [Hp.add_next, Hp.put_next]; omega))) | exact Or.inr (by simp))) (by omega) (by omega) ⟨by simp (disch := first | omega | (simp only [Hp.add_next, Hp.put_next]; done) | (simp only [Hp.add_next, Hp.put_next]; omega) | fail) only [add_eq]; rfl, ⟨rep t.toNat [.slice none 0 0, .int .u64 0, .int .u64 0], by simp (disch := first | omega | (simp only [Hp.add_next, Hp.put_next]; done) | (simp only [Hp.add_next, Hp.put_next]; omega) | fail) only [add_eq, add_off], r1, fun p hp => ⟨none, 0, 0, 0, 0, r2 p hp⟩, fun j i hj => by simp at hj⟩, by simp, by omega, by omega, by omega, by (first | omega | (simp only [Hp.add_next, Hp.put_next]; done) | (simp only [Hp.add_next, Hp.put_next]; omega)), by (first | omega | (simp only [Hp.add_next, Hp.put_next]; done) | (simp only [Hp.add_next, Hp.put_next]; omega)), by omega, by (first | omega | (simp only [Hp.add_next, Hp.put_next]; done) | (simp only [Hp.add_next, Hp.put_next]; omega))⟩
/-- Push -/
theorem s27 {n : Nat} {S : Hp} {q rb d f : Nat} {its : List It} {v : Value} {i : It} {Φ : Value → Hp → Prop} (hQ : QR A S q rb d f its) (hv : Rd S v i.l) (hl : i.l.length ≤ 100000)
    (kl : 1600 < i.l.length → ∀ S', Fra [] S S' → Φ (.int .i64 3) S')
    (kf : i.l.length ≤ 1600 → its.length = d → ∀ S', Fra [] S S' → Φ (.int .i64 9) S')
    (ks : i.l.length ≤ 1600 → its.length < d → ∀ S', Fra [q, rb] S S' → QR A S' q rb d f (its ++ [i]) → Φ (.int .i64 0) S') : wp (callN T (n + 1 + 1) (.fn 27) [ptr q, itv v i]) Φ S := by
  refine c27 g27 ?_
  unfold P27
  have hlen : ∀ (Φ : Value → Hp → Prop) (S : Hp), wp (X (callN T (n + 1)) (.len .slice (.const v))) Φ S = Φ (.int .i64 i.l.length) S := fun Φ S => hv.len _ Φ S
  have hF0 : Fra [] S (S.add (.cells none false [v, .int .u64 i.a, .int .u64 i.w])) := by repeat' (first | exact Fra.refl _ _ | assumption | apply Fra.add | (refine Fra.put ?_ ?_ _) | exact Or.inl (by (first | omega | (simp only [Hp.add_next, Hp.put_next]; done) | (simp only [Hp.add_next, Hp.put_next]; omega))) | exact Or.inr (by simp))
  have hQ0 := hQ.fra hF0
  have hv0 : Rd (S.add (.cells none false [v, .int .u64 i.a, .int .u64 i.w])) v i.l := hv.mono hF0
  have g0 : (S.add (.cells none false [v, .int .u64 i.a, .int .u64 i.w])).heap.get S.next = some (.cells none false [v, .int .u64 i.a, .int .u64 i.w]) := add_at _ _
  have hq1 := hQ.q1
  have hr1 := hQ.r1
  unfold itv
  simp (disch := first | omega | (simp only [Hp.add_next, Hp.put_next]; done) | (simp only [Hp.add_next, Hp.put_next]; omega) | fail) only [↓P_fldA, ↓P_nil, ↓P_box, ↓P_load1, ↓D_load1, ↓D_loadN, ↓P_store, ↓P_callF1, Nat.zero_add, Nat.add_zero, List.drop_zero, cells_agg, List.nil_append, List.append_nil]
  have hnx : (S.add (.cells none false [v, .int .u64 i.a, .int .u64 i.w])).next = S.next + 1 := rfl
  generalize S.add (.cells none false [v, .int .u64 i.a, .int .u64 i.w]) = S0 at hF0 hQ0 hv0 g0 hnx ⊢
  have hqb := hQ0.qb
  obtain ⟨ring, hr, hrl, hr0, hri⟩ := hQ0.rng
  have hd0 := hQ.d0
  have hd1 := hQ.d1
  have hf1 := hQ.f1
  have hmany := hQ.many
  have hne := hQ.ne
  have hn0 := hF0.next
  refine Wb.wp_mono (s40 hqb) fun u S1 h => ?_
  obtain ⟨_, rfl, rfl⟩ := h
  have e0 : decide ((d : Int) = 0) = false := decide_eq_false (by omega)
  simp (disch := first | omega | (simp only [Hp.add_next, Hp.put_next]; done) | (simp only [Hp.add_next, Hp.put_next]; omega) | fail) only [ifP_bool, ifB_false, ↓P_gtr, ↓P_eql, rdP_cells, optP_some, List.getElem?_cons_zero, e0, g0, hlen]
  refine ifD_in (fun hlong => ?_) (fun hlong => ?_)
  · exact kl (by omega) _ hF0
  simp (disch := first | omega | (simp only [Hp.add_next, Hp.put_next]; done) | (simp only [Hp.add_next, Hp.put_next]; omega) | fail) only [↓P_lenS, ifP_bool, ↓P_eql, rdP_cells, optP_some, List.getElem?_cons_zero, List.getElem?_cons_succ, hqb]
  refine ifD_in (fun hfull => ?_) (fun hfull => ?_)
  · exact kf (by omega) (by omega) _ hF0
  simp (disch := first | omega | (simp only [Hp.add_next, Hp.put_next]; done) | (simp only [Hp.add_next, Hp.put_next]; omega) | fail) only [rdP_cells, optP_some, List.getElem?_cons_zero, List.getElem?_cons_succ, hqb]
  rw [D_call 9 _ 89 (vs := [ptr q, .int .i64 (its.length : Nat)]) rfl]
  refine D_spec (s89 (i := (its.length : Nat)) hqb hd0 (by omega) (by omega) (by omega)) fun u S2 t hF hP h1 h2 h3 => ?_
  obtain ⟨rfl, rfl⟩ := hP
  simp (disch := first | omega | (simp only [Hp.add_next, Hp.put_next]; done) | (simp only [Hp.add_next, Hp.put_next]; omega) | fail) only [↓P_store, ↓P_ixA, rdP_cells, condP_of, List.length_cons, List.length_nil, Nat.zero_add, Nat.reduceAdd, Nat.reduceLeDiff, List.take_succ_cons, List.take_zero, g0]
  rw [D_call 11 _ 88 (vs := [itv v i]) rfl]
  refine D_spec (s88 hv0 hl) fun u S3 t' hF3 hP k1 k2 k3 => ?_
  obtain ⟨b, rfl, hb1, hb2, hb3⟩ := hP
  have hcast : ((f : Int) + ((its.length : Nat) : Int)) % (d : Int) = (((f + its.length) % d : Nat) : Int) := by simp
  have hp : (f + its.length) % d < d := Nat.mod_lt _ hd0
  have hr3 := hF3.at_ (by omega) (by simp) hr
  have hq3 := hF3.at_ (by omega) (by simp) hqb
  have hQ3 := hQ0.fra hF3
  rw [hcast]
  unfold itv
  have hm3 : (f + its.length) % d * 3 = 3 * ((f + its.length) % d) := Nat.mul_comm _ _
  simp (disch := first | omega | (simp only [Hp.add_next, Hp.put_next]; done) | (simp only [Hp.add_next, Hp.put_next]; omega) | fail) only [blkP_cells, condP_of, List.length_cons, List.length_nil, Nat.zero_add, Nat.reduceAdd, and_true, List.size_toArray, List.all_cons, List.all_nil, one_int, one_sl, cells_agg, Bool.and_self, Int.toNat_natCast, hr3, hm3]
  have hw : ∀ b, b < S2.next → (b, true) ∉ t.log := fun b hb hc => by
    rcases h3 b hc with h | h
    · omega
    · simp at h
  have hw' : ∀ b, b < S2.next → (b, true) ∉ t'.log := fun b hb hc => by
    rcases k3 b hc with h | h
    · omega
    · simp at h
  refine okP_in ?_ ?_
  · have a3 : apt t ⟨[(q, false)], S2.next, S2.next⟩ := (apt_read (by omega) (hw q (by omega))).symm
    have a3' : apt t' ⟨[(q, false)], S2.next, S2.next⟩ := (apt_read (by omega) (hw' q (by omega))).symm
    exact apart_keep (one_cons (.inl rfl) (one_keep (.inl rfl) (one_cons (.inr a3') one_nil))) (apart_cons (one_keep (.inr (apt_read (by omega) (hw _ (by omega)))) (one_cons (.inr apt_reads) one_nil)) (apart_keep (one_cons (.inr a3) one_nil) (apart_cons one_nil apart_nil)))
  simp (disch := first | omega | (simp only [Hp.add_next, Hp.put_next]; done) | (simp only [Hp.add_next, Hp.put_next]; omega) | fail) only [↓P_add64, blkP_cells, rdP_cells, optP_some, condP_of, put_off, List.getElem?_cons_zero, List.getElem?_cons_succ, List.length_cons, List.length_nil, Nat.zero_add, Nat.reduceAdd, Nat.reduceLeDiff, and_self, List.size_toArray, splice_z, splice_2, overlay_n, overlay_c, List.all_cons, List.all_nil, one_int, cells_int, Bool.and_self, hq3]
  have hm : its.length < d := by omega
  obtain ⟨r1, r2⟩ := get3_splice hrl hp (.slice (some ⟨b, 0, none⟩) i.l.length i.l.length) (.int .u64 i.a) (.int .u64 i.w)
  refine ks (by omega) hm _ ?_ ?_
  · refine ((hF0.trans (W := [q, rb]) hF3 (by simp) (by simp)).put (.inr (by simp)) _).put (.inr (by simp)) _
  · have keep : ∀ (u : Value) (l : List Value), Bs A S2 u l → Bs A ((S3.put rb (some (.cells none false (splice ring (3 * ((f + its.length) % d)) [.slice (some ⟨b, 0, none⟩) i.l.length i.l.length, .int .u64 i.a, .int .u64 i.w])))).put q (some (.cells none false [.slice (some ⟨rb, 0, none⟩) d d, .int .i64 f, .int .i64 ((its.length : Nat) + 1)]))) u l := by
      intro u l hu
      refine hu.keep (by simp only [Hp.put_next]; exact hF3.next) fun c x s hc hs => ?_
      rw [put_off (Byt.not_q hqb hs hu.1), put_off (Byt.not_r hr hrl hd0 hr0 hs hu.1), hF3.heap c hc (by simp)]
    refine ⟨by rw [put_at, List.length_append]; rfl, ⟨_, by rw [put_off hne, put_at], r1, fun p hpd => ?_, fun j it hj => ?_⟩, by rw [List.length_append]; simp; omega, hd0, hd1, hf1, by (first | omega | (simp only [Hp.add_next, Hp.put_next]; done) | (simp only [Hp.add_next, Hp.put_next]; omega)), by (first | omega | (simp only [Hp.add_next, Hp.put_next]; done) | (simp only [Hp.add_next, Hp.put_next]; omega)), hne, by have := hQ.a1; have := hF0.next; (first | omega | (simp only [Hp.add_next, Hp.put_next]; done) | (simp only [Hp.add_next, Hp.put_next]; omega))⟩
    · rw [r2]
      split
      · exact ⟨_, _, _, _, _, rfl⟩
      · exact hr0 p hpd
    · by_cases hjl : j < its.length
      · rw [List.getElem?_append_left hjl] at hj
        obtain ⟨u, m1, m2, m3⟩ := hri j it hj
        exact ⟨u, by rw [r2, if_neg (mod_ne hf1 (by omega) hm (by omega))]; exact m1, keep _ _ m2, m3⟩
      · have hje : j = its.length := by
          have := (List.getElem?_eq_some_iff.1 hj).1
          simp at this; omega
        subst hje
        rw [List.getElem?_append_right (Nat.le_refl _), Nat.sub_self] at hj
        obtain rfl : i = it := by simpa using hj
        refine ⟨_, by rw [r2, if_pos rfl], ⟨hv.byt, .inr ⟨b, none, false, rfl, by have := hQ.a1; have := hF0.next; omega, by (first | omega | (simp only [Hp.add_next, Hp.put_next]; done) | (simp only [Hp.add_next, Hp.put_next]; omega)), ?_⟩⟩, by omega⟩
        rw [put_off (by omega), put_off (by omega)]; exact hb3
/-- Pop -/
theorem s28 {n : Nat} {S : Hp} {q rb d f : Nat} {its : List It} {Φ : Value → Hp → Prop} (hn : 300 ≤ n) (hQ : QR A S q rb d f its)
    (kn : its = [] → ∀ S', Fra [] S S' → Φ (.tuple ⟨[.agg ⟨[.slice none 0 0, .int .u64 0, .int .u64 0]⟩, .bool false]⟩) S')
    (ks : ∀ i r u S', its = i :: r → Fra [q, rb] S S' → Bs A S' u i.l → QR A S' q rb d ((f + 1) % d) r → Φ (.tuple ⟨[itv u i, .bool true]⟩) S') : wp (callN T (n + 1 + 1) (.fn 28) [ptr q]) Φ S := by
  refine c28 g28 ?_
  unfold P28
  have hF0 : Fra [] S (S.add (.cells none false [.slice none 0 0, .int .u64 0, .int .u64 0])) := by repeat' (first | exact Fra.refl _ _ | assumption | apply Fra.add | (refine Fra.put ?_ ?_ _) | exact Or.inl (by (first | omega | (simp only [Hp.add_next, Hp.put_next]; done) | (simp only [Hp.add_next, Hp.put_next]; omega))) | exact Or.inr (by simp))
  have hQ0 := hQ.fra hF0
  have g0 : (S.add (.cells none false [.slice none 0 0, .int .u64 0, .int .u64 0])).heap.get S.next = some (.cells none false [.slice none 0 0, .int .u64 0, .int .u64 0]) := add_at _ _
  have hnx : (S.add (.cells none false [.slice none 0 0, .int .u64 0, .int .u64 0])).next = S.next + 1 := rfl
  simp (disch := first | omega | (simp only [Hp.add_next, Hp.put_next]; done) | (simp only [Hp.add_next, Hp.put_next]; omega) | fail) only [↓P_fldA, ↓P_nil, ↓P_alloc, ↓P_build, ↓P_load1, ↓P_loadN, ↓P_cellN, ↓P_store, ↓P_callF1, ↓P_callF2, blkP_cells, rdP_cells, optP_some, put_at, add_eq, List.length_cons, List.length_nil, Nat.zero_add, Nat.add_zero, Nat.reduceAdd, List.drop_zero, fillA, List.size_toArray, splice_z, cells_agg, List.nil_append, List.append_nil]
  generalize S.add (.cells none false [.slice none 0 0, .int .u64 0, .int .u64 0]) = S0 at hF0 hQ0 g0 hnx ⊢
  have hq1 := hQ.q1
  have hr1 := hQ.r1
  refine s39 (by omega) hQ0 (fun hnil S1 hF1 => ?_) (fun i r u S1 hi hF1 hu => ?_)
  · have g1 := hF1.at_ (by omega) (by simp) g0
    have hn1 := hF1.next
    simp (disch := first | omega | (simp only [Hp.add_next, Hp.put_next]; done) | (simp only [Hp.add_next, Hp.put_next]; omega) | fail) only [↓P_ext, ifP_bool, ifB_false, blkP_cells, rdP_cells, optP_some, condP_of, put_at, put_off, add_off, List.getElem?_cons_zero, List.getElem?_cons_succ, List.length_cons, List.length_nil, Nat.zero_add, Nat.reduceAdd, Nat.reduceLeDiff, List.take_succ_cons, List.take_zero, and_self, List.size_toArray, overlay_n, overlay_c, List.all_cons, List.all_nil, one_int, one_sl, cells_agg, Bool.and_self, g1]
    exact kn hnil _ (by
      refine (((hF0.trans hF1 (W := []) (by simp) (by simp)).add _).put (.inl (by omega)) _).put (.inl (by omega)) _)
  · have g1 := hF1.at_ (by omega) (by simp) g0
    have hn1 := hF1.next
    have hQ1 := hQ0.fra hF1
    have hqb := hQ1.qb
    obtain ⟨ring, hr, hrl, hr0, hri⟩ := hQ1.rng
    have hd0 := hQ.d0
    have hd1 := hQ.d1
    have hf1 := hQ.f1
    have hmany := hQ.many
    have hne := hQ.ne
    have hu1 : u.oneCell' = true := by
      rcases hu.2 with ⟨rfl, _⟩ | ⟨b, x, s, rfl, _⟩ <;> rfl
    have hm3 : f * 3 = 3 * f := Nat.mul_comm _ _
    unfold itv
    simp (disch := first | omega | (simp only [Hp.add_next, Hp.put_next]; done) | (simp only [Hp.add_next, Hp.put_next]; omega) | fail) only [↓P_ext, ↓P_store, ↓P_ixA, ifP_bool, ifB_true, blkP_cells, rdP_cells, optP_some, condP_of, put_off, add_off, List.getElem?_cons_zero, List.getElem?_cons_succ, List.length_cons, List.length_nil, Nat.zero_add, Nat.reduceAdd, Nat.reduceLeDiff, and_self, and_true, List.size_toArray, overlay_n, overlay_c, List.all_cons, List.all_nil, one_int, one_sl, cells_agg, Bool.and_self, Int.toNat_natCast, hqb, hr, hu1, hm3]
    refine okP_in apart_nil ?_
    obtain ⟨r1, r2⟩ := get3_splice hrl hf1 (.slice none 0 0) (.int .u64 0) (.int .u64 0)
    generalize hSX : ((S1.add _).put _ _).put _ _ = SX
    have xn : SX.next = S1.next + 1 := by subst hSX; rfl
    have xq : SX.heap.get q = S1.heap.get q := by subst hSX; simp (disch := first | omega | (simp only [Hp.add_next, Hp.put_next]; done) | (simp only [Hp.add_next, Hp.put_next]; omega) | fail) only [put_off, add_off]
    have xr : SX.heap.get rb = some (.cells none false (splice ring (3 * f) [.slice none 0 0, .int .u64 0, .int .u64 0])) := by subst hSX; simp (disch := first | omega | (simp only [Hp.add_next, Hp.put_next]; done) | (simp only [Hp.add_next, Hp.put_next]; omega) | fail) only [put_at]
    have xi : SX.heap.get S1.next = some (.cells none false [u, .int .u64 i.a, .int .u64 i.w]) := by subst hSX; simp (disch := first | omega | (simp only [Hp.add_next, Hp.put_next]; done) | (simp only [Hp.add_next, Hp.put_next]; omega) | fail) only [put_at, put_off]
    have x0 : SX.heap.get S.next = some (.cells none false [.slice none 0 0, .int .u64 0, .int .u64 0]) := by subst hSX; simp (disch := first | omega | (simp only [Hp.add_next, Hp.put_next]; done) | (simp only [Hp.add_next, Hp.put_next]; omega) | fail) only [put_off, add_off]; exact g1
    have xF : Fra [q, rb] S SX := by
      subst hSX
      exact (((hF0.trans hF1 (W := [q, rb]) (by simp) (by simp)).add _).put (.inl (by omega)) _).put (.inr (by simp)) _
    have xk : ∀ b, b < S1.next → b ≠ rb → SX.heap.get b = S1.heap.get b := by
      intro b hb hne
      subst hSX
      rw [put_off hne, put_off (by omega), add_off (by omega)]
    clear hSX
    refine Wb.wp_mono (s89 (i := 1) (by rw [xq]; exact hqb) hd0 (by omega) (by omega) (by omega)) fun w S2 h => ?_
    obtain ⟨_, rfl, rfl⟩ := h
    have hcast : ((f : Int) + 1) % (d : Int) = (((f + 1) % d : Nat) : Int) := by simp
    have hp : (f + 1) % d < d := Nat.mod_lt _ hd0
    have hlen : its.length = r.length + 1 := by rw [hi]; rfl
    rw [hcast]
    simp (disch := first | omega | (simp only [Hp.add_next, Hp.put_next]; done) | (simp only [Hp.add_next, Hp.put_next]; omega) | fail) only [↓P_sub64, blkP_cells, rdP_cells, optP_some, condP_of, put_at, put_off, List.getElem?_cons_zero, List.getElem?_cons_succ, List.length_cons, List.length_nil, Nat.zero_add, Nat.reduceAdd, Nat.reduceLeDiff, List.take_succ_cons, List.take_zero, and_self, List.size_toArray, splice_z, splice_1, splice_2, overlay_n, overlay_c, List.all_cons, List.all_nil, one_int, cells_int, Bool.and_self, xq, hqb, xi, x0, hu1, hlen, Int.natCast_add, Int.natCast_one]
    have hsub : ((r.length : Nat) : Int) + 1 - 1 = (r.length : Nat) := by omega
    rw [hsub]
    refine ks i r u _ hi ?_ ?_ ?_
    · exact ((xF.put (.inr (by simp)) _).put (.inr (by simp)) _).put (.inl (by omega)) _
    all_goals
      have keep : ∀ (u : Value) (l : List Value) (o1 o2 o3 : Option Blk), Bs A S1 u l → Bs A (((S2.put q o1).put q o2).put S.next o3) u l := by
        intro u l o1 o2 o3 hu
        refine hu.keep (by simp only [Hp.put_next]; omega) fun c x s hc hs => ?_
        have hcn : c ≠ S.next := by
          intro e
          subst e
          rw [g1] at hs
          cases hs
          obtain ⟨k, h⟩ := hu.1 _ (List.mem_cons_self ..)
          cases h
        rw [put_off hcn, put_off (Byt.not_q hqb hs hu.1), put_off (Byt.not_q hqb hs hu.1), xk c hc (Byt.not_r hr hrl hd0 hr0 hs hu.1)]
    · exact keep _ _ _ _ _ hu
    · refine ⟨by rw [put_off (by omega), put_at], ⟨_, by rw [put_off (by omega), put_off hne, put_off hne]; exact xr, r1, fun p hpd => ?_, fun j it hj => ?_⟩, by omega, hd0, hd1, hp, by (first | omega | (simp only [Hp.add_next, Hp.put_next]; done) | (simp only [Hp.add_next, Hp.put_next]; omega)), by (first | omega | (simp only [Hp.add_next, Hp.put_next]; done) | (simp only [Hp.add_next, Hp.put_next]; omega)), hne, by have := hQ.a1; (first | omega | (simp only [Hp.add_next, Hp.put_next]; done) | (simp only [Hp.add_next, Hp.put_next]; omega))⟩
      · rw [r2]
        split
        · exact ⟨_, _, _, _, _, rfl⟩
        · exact hr0 p hpd
      · have hjl : j < r.length := (List.getElem?_eq_some_iff.1 hj).1
        obtain ⟨v, m1, m2, m3⟩ := hri (j + 1) it (by rw [hi, List.getElem?_cons_succ]; exact hj)
        refine ⟨v, ?_, keep _ _ _ _ _ m2, m3⟩
        rw [mod_step hd0, r2, if_neg ?_]
        · exact m1
        · have := mod_ne hf1 (i := j + 1) (j := 0) (by omega) (by omega) (by omega)
          rw [Nat.mod_eq_of_lt (show f + 0 < d by omega)] at this
          simpa using this
end Go.Proofs.Ytmepokefmpcnnaa.Qu
