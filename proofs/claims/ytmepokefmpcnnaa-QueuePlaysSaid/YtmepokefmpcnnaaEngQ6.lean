/- The engine, part Q6: the quick evaluator's operations on memory; each operation. -/
import Derived.Test.YtmepokefmpcnnaaEngQ5
set_option linter.unusedSimpArgs false
set_option linter.unusedVariables false
set_option autoImplicit false
namespace Go.Wb.Q
variable {qe : QE} {e : Env} {call : Tgt → List Value → M Value} {cq : Call} {q : QS} {S : St}

theorem blt_lt {a b : Nat} (h : Nat.blt a b = true) : a < b := Nat.le_of_ble_eq_true h
theorem mul_lim {a b c : Nat} (h : a * b ≤ c) : (a : Int) * (b : Int) ≤ (c : Int) := by
  rw [← Int.natCast_mul]; exact Int.ofNat_le.2 h
theorem lift_bind {α β : Type} (a : α) (f : α → M β) : (M.lift (some a)).bind f = f a := rfl
theorem alloc_ok (hr : SRel q S) (t : TypeId) (z : List Value) : Ok (execQ (.alloc t z) cq qe q) (exec call e (.alloc t z)) S := by
  intro c hc
  obtain ⟨b, S1, S2, h1, h2, h3⟩ := newQ_ok hr none false z (ptr0 c) hc
  exact ⟨_, S1, S2, by simp only [exec, M.bind, h1]; rfl, h2, h3⟩
theorem box_ok (he : ERel qe e) (hr : SRel q S) (t : TypeId) (a : Atom) : Ok (execQ (.box t a) cq qe q) (exec call e (.box t a)) S := by
  intro c hc
  obtain ⟨v, hv, hc1⟩ := bB_true.1 hc
  obtain ⟨b, S1, S2, h1, h2, h3⟩ := newQ_ok hr none false (cellsL v) (ptr0 c) hc1
  refine ⟨_, S1, S2, ?_, h2, h3⟩
  simp only [cellsL] at h1
  simp only [exec, M.bind, M.lift, evA_ok he hv, h1]
  rfl
theorem bsl_ok (he : ERel qe e) (hr : SRel q S) (t : TypeId) (n : Nat) (z : List Value) (p : List (Nat × Nat × Atom)) : Ok (execQ (.bslice t n z p) cq qe q) (exec call e (.bslice t n z p)) S := by
  intro c hc
  obtain ⟨l, hl, hc1⟩ := bLB_true.1 hc
  obtain ⟨b, S1, S2, h1, h2, h3⟩ := newQ_ok hr none false l (sl0 c n n) hc1
  refine ⟨_, S1, S2, ?_, h2, h3⟩
  simp only [exec, M.bind, M.lift, fillP_ok he hl, h1]
  rfl
theorem loadSh_ok (hr : SRel q S) (sh : Sh) (p : Addr) : Ok (fun c => loadQ sh q c p) (match sh with
      | .one => (ld1 p.block p.off).bind fun v => M.pure v
      | .agg n => (ldCells p.block p.off n).bind fun c => M.pure (.agg c.toArray)) S := by
  intro c hc
  cases sh with
  | one =>
    obtain ⟨v, S1, S2, h1, h2, h3⟩ := ld1Q_ok hr p.block p.off c hc
    exact ⟨v, S1, S2, by simp only [M.bind, h1]; rfl, h2, h3⟩
  | agg n =>
    obtain ⟨v, S1, S2, h1, h2, h3⟩ := ldCQ_ok hr p.block p.off n (aggK c) hc
    exact ⟨_, S1, S2, by simp only [M.bind, h1]; rfl, h2, h3⟩
theorem load_ok (he : ERel qe e) (hr : SRel q S) (sh : Sh) (a : Atom) : Ok (execQ (.load sh a) cq qe q) (exec call e (.load sh a)) S := by
  intro c hc
  obtain ⟨v, hv, hc1⟩ := bB_true.1 hc
  obtain ⟨p, rfl, hc2⟩ := ptrB_true.1 hc1
  obtain ⟨v, S1, S2, h1, h2, h3⟩ := loadSh_ok hr sh p c hc2
  refine ⟨v, S1, S2, ?_, h2, h3⟩
  simp only [exec, M.bind, M.lift, evA_ok he hv]
  exact h1
theorem store_ok (he : ERel qe e) (hr : SRel q S) (m : Nat) (a v : Atom) : Ok (execQ (.store m a v) cq qe q) (exec call e (.store m a v)) S := by
  intro c hc
  obtain ⟨x, hx, hc1⟩ := bB_true.1 hc
  obtain ⟨y, hy, hc2⟩ := bB_true.1 hc1
  obtain ⟨p, rfl, hc3⟩ := ptrB_true.1 hc2
  obtain ⟨hl, hc4⟩ := thenB_true.1 hc3
  obtain ⟨u, S1, S2, h1, h2, h3⟩ := stCQ_ok hr p.block p.off (cellsL y) (fun _ => c undef) hc4
  refine ⟨undef, S1, S2, ?_, h2, h3⟩
  have hl := (lenIs_true _ _).1 hl
  have hl : y.cells.size = m := by simpa [cellsL] using hl
  simp only [cellsL] at h1
  simp only [exec, M.bind, M.lift, evA_ok he hx, evA_ok he hy, hl, if_true, h1]
  rfl
theorem mks_ok (he : ERel qe e) (hr : SRel q S) (t : TypeId) (s b : Nat) (z : List Value) (l cp : Atom) : Ok (execQ (.mkslice t s b z l cp) cq qe q) (exec call e (.mkslice t s b z l cp)) S := by
  intro c hc
  obtain ⟨x, hx, hc1⟩ := bB_true.1 hc
  obtain ⟨y, hy, hc2⟩ := bB_true.1 hc1
  obtain ⟨k, n, rfl, hc3⟩ := natB_true.1 hc2
  obtain ⟨k', m, rfl, hc4⟩ := natB_true.1 hc3
  obtain ⟨h1, hc5⟩ := thenB_true.1 hc4
  obtain ⟨h2, hc6⟩ := thenB_true.1 hc5
  obtain ⟨h3, hc7⟩ := thenB_true.1 hc6
  obtain ⟨h4, hc8⟩ := thenB_true.1 hc7
  obtain ⟨nb, S1, S2, k1, k2, k3⟩ := newQ_ok hr none false (repQ z m) (sl0 c n m) hc8
  have h1 : n ≤ m := Nat.le_of_ble_eq_true h1
  have h2 : b * m ≤ 281474976710656 := Nat.le_of_ble_eq_true h2
  have h3 : m < 4611686018427387904 := blt_lt h3
  have h4 : z.length = s := (lenIs_true _ _).1 h4
  refine ⟨_, S1, S2, ?_, k2, k3⟩
  rw [repQ_eq] at k1
  have hcond : (0 : Int) ≤ (n : Int) ∧ (n : Int) ≤ (m : Int) ∧ (b : Int) * (m : Int) ≤ 281474976710656 ∧ (m : Int) < 4611686018427387904 ∧ z.length = s := by
    refine ⟨by omega, by omega, mul_lim (c := 281474976710656) h2, by omega, h4⟩
  simp only [exec, M.bind, M.lift, evA_ok he hx, evA_ok he hy, Option.bind_some, asInt, Int.ofNat_eq_natCast, if_pos hcond, Int.toNat_natCast, k1]
  rfl
theorem mkSl_eq (a : Addr) (l h m size : Nat) : mkSl a l h m size = .slice (some (if m = l then a else ⟨a.block, a.off + l * size, none⟩)) (h - l) (m - l) := by
  unfold mkSl
  by_cases e : m = l
  · subst e; simp
  · have : Nat.beq m l = false := by rw [Bool.eq_false_iff]; intro k; exact e (Nat.eq_of_beq_eq_true k)
    rw [this, if_neg e]
theorem b3_true {x : Option (Nat × Nat × Nat)} {f : Nat → Nat → Nat → Bool} : b3 x f = true ↔ ∃ a b c, x = some (a, b, c) ∧ f a b c = true := by
  cases x with
  | none => exact ⟨fun h => (by cases h), fun ⟨_, _, _, e, _⟩ => (by cases e)⟩
  | some p => exact ⟨fun h => ⟨p.1, p.2.1, p.2.2, rfl, h⟩, fun ⟨_, _, _, e, h⟩ => by cases e; exact h⟩
theorem extOk_true {size : Nat} {x : Option Nat} : extOk size x = true → x = none ∨ x = some size := by
  cases x with
  | none => exact fun _ => .inl rfl
  | some s => exact fun h => .inr (congrArg some (Nat.eq_of_beq_eq_true h))
theorem noneB_true {x : Option Nat} : noneB x = true → x = none := by
  cases x with
  | none => exact fun _ => rfl
  | some s => exact fun h => by cases h
theorem slc_ok (he : ERel qe e) (hr : SRel q S) (s : Nat) (x : Atom) (lo hi mx : Option Atom) : Ok (execQ (.slc s x lo hi mx) cq qe q) (exec call e (.slc s x lo hi mx)) S := by
  intro c hc
  obtain ⟨v, hv, hc1⟩ := bB_true.1 hc
  obtain ⟨a, len, cap, rfl, hc2⟩ := eSlB_true.1 hc1
  cases a with
  | none =>
    obtain ⟨l, h, m, hb, hc3⟩ := b3_true.1 hc2
    exact ⟨_, S, q, by simp only [exec, M.bind, M.lift, evA_ok he hv, bndsQ_ok he hb]; rfl, hr, hc3⟩
  | some a =>
    obtain ⟨l, h, m, hb, hc3⟩ := b3_true.1 hc2
    obtain ⟨x, s', cs, k1, hc4⟩ := lookQ_ok hr a.block hc3
    obtain ⟨k2, hc5⟩ := thenB_true.1 hc4
    obtain ⟨k3, hc6⟩ := thenB_true.1 hc5
    refine ⟨_, _, _, ?_, hr.saw a.block, hc6⟩
    have k3 : h ≤ m := Nat.le_of_ble_eq_true k3
    simp only [exec, M.bind, M.lift, evA_ok he hv, bndsQ_ok he hb, rd, k1, extOk_true k2, k3, and_self, if_true, mkSl_eq]
    rfl
theorem slA_ok (he : ERel qe e) (hr : SRel q S) (n s : Nat) (x : Atom) (lo hi mx : Option Atom) : Ok (execQ (.slcA n s x lo hi mx) cq qe q) (exec call e (.slcA n s x lo hi mx)) S := by
  intro c hc
  obtain ⟨v, hv, hc1⟩ := bB_true.1 hc
  obtain ⟨a, rfl, hc2⟩ := ptrB_true.1 hc1
  obtain ⟨l, h, m, hb, hc3⟩ := b3_true.1 hc2
  obtain ⟨x, s', cs, k1, hc4⟩ := lookQ_ok hr a.block hc3
  obtain ⟨k2, hc5⟩ := thenB_true.1 hc4
  refine ⟨_, _, _, ?_, hr.saw a.block, hc5⟩
  obtain rfl := noneB_true k2
  simp only [exec, M.bind, M.lift, evA_ok he hv, bndsQ_ok he hb, rd, k1, mkSl_eq]
  rfl
theorem lenB_true {v : Value} {k : Nat → Bool} (h : lenB v k = true) : ∃ n, lenOf v = some n ∧ k n = true := by
  cases v <;> first | exact ⟨_, rfl, h⟩ | cases h
theorem firstQ_ok (hr : SRel q S) (s n : Nat) (v : Value) : Ok (firstQ s n v q) (firstN s n v) S := by
  intro c hc
  unfold firstQ at hc
  split at hc
  · exact ldCQ_ok hr _ _ _ c hc
  · exact ⟨_, S, q, rfl, hr, hc⟩
  · rename_i s'
    obtain ⟨h1, h2⟩ := thenB_true.1 hc
    have h1 := Nat.eq_of_beq_eq_true h1
    rw [u8L_eq] at h2
    exact ⟨_, S, q, by simp only [firstN, h1, if_true]; rfl, hr, h2⟩
  · cases hc
theorem growOk_true {size bytes sLen n : Nat} (h : growOk size bytes sLen n = true) : 2 * ((sLen + n) * bytes) ≤ 281474976710656 ∧ bytes ≠ 0 ∧ size ≠ 0 := by
  obtain ⟨h1, h2⟩ := thenB_true.1 h
  obtain ⟨h2, h3⟩ := thenB_true.1 h2
  have h2 : 0 < bytes := blt_lt h2
  have h3 : 0 < size := blt_lt h3
  exact ⟨Nat.le_of_ble_eq_true h1, by omega, by omega⟩
theorem put_ok {size sLen sCap n : Nat} {base : Option Addr} {src : (List Value → QS → Bool) → Bool} {news : M (List Value)} (hs : Ok src news S) :
    Ok (fun c => src (putQ size base sLen sCap n c)) (putA size base sLen sCap n news) S := by
  intro c hc
  obtain ⟨new, S1, S2, h1, h2, h3⟩ := hs _ hc
  cases base with
  | none =>
    obtain ⟨k1, k2⟩ := thenB_true.1 h3
    have k1 := Nat.eq_of_beq_eq_true k1
    exact ⟨_, S1, S2, by simp only [putA, M.bind, h1, k1, if_true]; rfl, h2, k2⟩
  | some a =>
    obtain ⟨u, S3, S4, k1, k2, k3⟩ := stCQ_ok h2 a.block (a.off + sLen * size) new (fun _ => c (.slice (some a) (sLen + n) sCap)) h3
    exact ⟨_, S3, S4, by simp only [putA, M.bind, h1, k1]; rfl, k2, k3⟩
theorem grow_ok {size bytes sLen sCap n : Nat} {base : Option Addr} {src : (List Value → QS → Bool) → Bool} {news : M (List Value)} (hs : Ok src news S) (hg : growOk size bytes sLen n = true) :
    Ok (fun c => src (growQ size bytes base sLen sCap n c)) (growA size bytes base sLen sCap n news) S := by
  intro c hc
  obtain ⟨new, S1, S2, h1, h2, h3⟩ := hs _ hc
  have hg := growOk_true hg
  obtain ⟨ha, h3⟩ := thenB_true.1 h3
  rw [allQ_eq] at ha
  cases base with
  | none =>
    obtain ⟨k1, h3⟩ := thenB_true.1 h3
    obtain ⟨k2, h3⟩ := thenB_true.1 h3
    have k1 := Nat.eq_of_beq_eq_true k1
    have k2 := Nat.eq_of_beq_eq_true k2
    obtain ⟨nb, S3, S4, m1, m2, m3⟩ := newQ_ok h2 (some size) false new (sl0 c n n) h3
    refine ⟨_, S3, S4, ?_, m2, m3⟩
    rw [growA, if_pos hg]
    simp only [M.bind, h1, ha, if_true, k1, k2, and_self, m1]
    rfl
  | some a =>
    simp only [eS_eq] at h3
    obtain ⟨x, s, len, t, g1, h3⟩ := atC_true.1 h3
    obtain ⟨g2, h3⟩ := thenB_true.1 h3
    have g2 : a.off + sLen * size ≤ len := Nat.le_of_ble_eq_true g2
    obtain ⟨cs, g3, g4⟩ := h2.cells g1
    have hlen : len = cs.length := by cases g4 with | cells e1 e2 => exact e1
    have hget : ∀ i, i < sLen * size → t.get (a.off + i) = cs[a.off + i]? := by
      cases g4 with
      | cells e1 e2 => exact fun i hi => e2 _ (by omega)
    cases x with
    | none =>
      obtain ⟨l, g5, g6⟩ := bLB_true.1 h3
      have := takeQ_ok t cs a.off _ new l hget g5
      subst this
      obtain ⟨nb, S3, S4, m1, m2, m3⟩ := newQ_ok (h2.saw a.block) (some size) false _ (sl0 c (sLen + n) (sLen + n)) g6
      refine ⟨_, S3, S4, ?_, m2, m3⟩
      rw [growA, if_pos hg]
      simp only [M.bind, h1, ha, if_true, rd, g3, show a.off + sLen * size ≤ cs.length by omega, m1]
      rfl
    | some z =>
      obtain ⟨g5, g6⟩ := thenB_true.1 h3
      obtain rfl := Nat.eq_of_beq_eq_true g5
      have hk : SRel (mkS S2.h a.block none S2.n ((a.block, true) :: (a.block, false) :: S2.lg)) { heap := S1.heap.set a.block none, next := S1.next, log := (a.block, true) :: (a.block, false) :: S1.log } := h2.kill (by rw [h2.log])
      have key : ∀ {S3 : St} {S4 : QS} {b : Nat}, nw (.cells (some z) s ((cs.drop a.off).take (sLen * z) ++ new)) { heap := S1.heap.set a.block none, next := S1.next, log := (a.block, true) :: (a.block, false) :: S1.log } = some (b, S3) →
          growA z bytes (some a) sLen sCap n news S = some (.slice (some ⟨b, 0, none⟩) (sLen + n) (sLen + n), S3) := by
        intro S3 S4 b m1
        rw [growA, if_pos hg]
        simp only [M.bind, h1, ha, if_true, rd, g3, show a.off + sLen * z ≤ cs.length by omega, wr, m1]
        rfl
      unfold grow3 at g6
      rw [ifB_eq] at g6
      split at g6
      · rename_i hcond
        have hc2 : Nat.beq a.off 0 = true ∧ Nat.beq len (sLen * z) = true := by
          cases hx : Nat.beq a.off 0
          · rw [hx] at hcond; cases hcond
          · rw [hx] at hcond; exact ⟨rfl, hcond⟩
        have c1 := Nat.eq_of_beq_eq_true hc2.1
        have c2 := Nat.eq_of_beq_eq_true hc2.2
        have hall : (cs.drop a.off).take (sLen * z) = cs := by rw [c1, List.drop_zero, List.take_of_length_le (by omega)]
        obtain ⟨nb, S3, S4, m1, m2, m3⟩ := nwQ_ok hk (g4.grow (y := some z) (s' := s) new) (sl0 c (sLen + n) (sLen + n)) g6
        rw [← hall] at m1
        exact ⟨_, S3, S4, key (S4 := S4) m1, m2, m3⟩
      · obtain ⟨l, g7, g8⟩ := bLB_true.1 g6
        have := takeQ_ok t cs a.off _ new l hget g7
        subst this
        obtain ⟨nb, S3, S4, m1, m2, m3⟩ := newQ_ok hk (some z) s _ (sl0 c (sLen + n) (sLen + n)) g8
        exact ⟨_, S3, S4, key (S4 := S4) m1, m2, m3⟩
theorem appQ_ok {size bytes sLen sCap n : Nat} {base : Option Addr} {src : (List Value → QS → Bool) → Bool} {news : M (List Value)} (hs : Ok src news S) :
    Ok (fun c => appQ size bytes base sLen sCap n c src) (if sLen + n ≤ sCap then putA size base sLen sCap n news else growA size bytes base sLen sCap n news) S := by
  intro c hc
  simp only [appQ, ifB_eq] at hc
  by_cases h : sLen + n ≤ sCap
  · rw [if_pos h]
    rw [if_pos (by simpa [Nat.ble_eq] using h)] at hc
    exact put_ok hs c hc
  · rw [if_neg h]
    rw [if_neg (by simpa [Nat.ble_eq] using h)] at hc
    obtain ⟨h1, h2⟩ := thenB_true.1 hc
    exact grow_ok hs h1 c h2
theorem app_ok (he : ERel qe e) (hr : SRel q S) (s b : Nat) (t : TypeId) (x y : Atom) : Ok (execQ (.app s b t x y) cq qe q) (exec call e (.app s b t x y)) S := by
  intro c hc
  obtain ⟨v, hv, hc1⟩ := bB_true.1 hc
  obtain ⟨w, hw, hc2⟩ := bB_true.1 hc1
  obtain ⟨base, len, cap, rfl, hc3⟩ := eSlB_true.1 hc2
  obtain ⟨n, hn, hc4⟩ := lenB_true hc3
  obtain ⟨r, S1, S2, h1, h2, h3⟩ := appQ_ok (bytes := b) (base := base) (sLen := len) (sCap := cap) (n := n) (firstQ_ok hr s n w) c hc4
  refine ⟨r, S1, S2, ?_, h2, h3⟩
  simp only [exec, M.bind, M.lift, evA_ok he hv, evA_ok he hw, appendA, hn, h1]
  rfl
theorem appZ_ok (he : ERel qe e) (hr : SRel q S) (s b : Nat) (t : TypeId) (z : List Value) (x y : Atom) : Ok (execQ (.appZ s b t z x y) cq qe q) (exec call e (.appZ s b t z x y)) S := by
  intro c hc
  obtain ⟨v, hv, hc1⟩ := bB_true.1 hc
  obtain ⟨w, hw, hc2⟩ := bB_true.1 hc1
  obtain ⟨base, len, cap, rfl, hc3⟩ := eSlB_true.1 hc2
  obtain ⟨k, n, rfl, hc4⟩ := natB_true.1 hc3
  obtain ⟨a1, hc5⟩ := thenB_true.1 hc4
  obtain ⟨a2, hc6⟩ := thenB_true.1 hc5
  obtain ⟨a3, hc7⟩ := thenB_true.1 hc6
  have a1 : n < 281474976710656 := blt_lt a1
  have a2 : n * b ≤ 281474976710656 := Nat.le_of_ble_eq_true a2
  have a3 := (lenIs_true _ _).1 a3
  obtain ⟨r, S1, S2, h1, h2, h3⟩ := appQ_ok (size := s) (bytes := b) (base := base) (sLen := len) (sCap := cap) (n := n) (src := fun k => k (repQ z n) q) (news := M.pure (rep n z)) (S := S)
    (fun c hc => ⟨_, S, q, rfl, hr, by rw [repQ_eq] at hc; exact hc⟩) c hc7
  refine ⟨r, S1, S2, ?_, h2, h3⟩
  have e1 : exec call e (.appZ s b t z x y) S = (appendZ s b z (.slice base len cap) (.int k (n : Int))).bind (fun v => M.pure v) S := by
    have e0 : exec call e (.appZ s b t z x y) = (M.lift (x.ev e)).bind fun s' => (M.lift (y.ev e)).bind fun x' => (appendZ s b z s' x').bind fun v => M.pure v := rfl
    rw [e0, evA_ok he hv, evA_ok he hw, lift_bind, lift_bind, Int.ofNat_eq_natCast]
  rw [e1]
  have hb : (n : Int) * (b : Int) ≤ 281474976710656 := mul_lim (c := 281474976710656) a2
  have e2 : appendZ s b z (.slice base len cap) (.int k (n : Int)) = (if len + n ≤ cap then putA s base len cap n (M.pure (rep n z)) else growA s b base len cap n (M.pure (rep n z))) := by
    simp only [appendZ, Int.toNat_natCast]
    rw [if_pos ⟨by omega, by omega, hb, a3⟩]
  rw [e2]
  simp only [M.bind, h1]
  rfl
theorem cap_ok (he : ERel qe e) (hr : SRel q S) (a : Atom) : Ok (execQ (.cap a) cq qe q) (exec call e (.cap a)) S := by
  intro c hc
  obtain ⟨v, hv, hc1⟩ := bB_true.1 hc
  obtain ⟨p, len, n, rfl, hc2⟩ := eSlB_true.1 hc1
  cases p with
  | none => exact ⟨_, S, q, by simp only [exec, M.bind, M.lift, evA_ok he hv]; rfl, hr, hc2⟩
  | some p =>
    obtain ⟨x, s', cs, k1, hc3⟩ := lookQ_ok hr p.block hc2
    obtain ⟨k2, hc4⟩ := thenB_true.1 hc3
    obtain rfl := noneB_true k2
    exact ⟨_, _, _, by simp only [exec, M.bind, M.lift, evA_ok he hv, rd, k1]; rfl, hr.saw p.block, hc4⟩
theorem minN_eq (a b : Nat) : minN a b = Min.min a b := by
  unfold minN
  by_cases h : a ≤ b
  · have : Nat.ble a b = true := by simpa using h
    rw [this, Nat.min_eq_left h]
  · have : Nat.ble a b = false := by rw [Bool.eq_false_iff]; intro k; exact h (Nat.le_of_ble_eq_true k)
    rw [this, Nat.min_eq_right (by omega)]
theorem copy_ok (he : ERel qe e) (hr : SRel q S) (s : Nat) (x y : Atom) : Ok (execQ (.copy s x y) cq qe q) (exec call e (.copy s x y)) S := by
  intro c hc
  obtain ⟨v, hv, hc1⟩ := bB_true.1 hc
  obtain ⟨w, hw, hc2⟩ := bB_true.1 hc1
  obtain ⟨base, len, cap, rfl, hc3⟩ := eSlB_true.1 hc2
  obtain ⟨n, hn, hc4⟩ := lenB_true hc3
  rw [minN_eq] at hc4
  obtain ⟨cs, S1, S2, h1, h2, h3⟩ := firstQ_ok hr s _ w _ hc4
  cases base with
  | none =>
    refine ⟨_, S1, S2, ?_, h2, h3⟩
    simp only [exec, M.bind, M.lift, evA_ok he hv, evA_ok he hw, hn, h1]
    rfl
  | some a =>
    obtain ⟨u, S3, S4, k1, k2, k3⟩ := stCQ_ok h2 a.block a.off cs (fun _ => cpDone c (Min.min n len)) h3
    refine ⟨_, S3, S4, ?_, k2, k3⟩
    simp only [exec, M.bind, M.lift, evA_ok he hv, evA_ok he hw, hn, h1, k1]
    rfl
theorem clr_ok (he : ERel qe e) (hr : SRel q S) (z : List Value) (a : Atom) : Ok (execQ (.clear z a) cq qe q) (exec call e (.clear z a)) S := by
  intro c hc
  obtain ⟨v, hv, hc1⟩ := bB_true.1 hc
  obtain ⟨p, n, cap, rfl, hc2⟩ := eSlB_true.1 hc1
  cases p with
  | none => exact ⟨_, S, q, by simp only [exec, M.bind, M.lift, evA_ok he hv]; rfl, hr, hc2⟩
  | some p =>
    obtain ⟨u, S3, S4, k1, k2, k3⟩ := stCQ_ok hr p.block p.off (repQ z n) (fun _ => c (.tuple #[])) hc2
    rw [repQ_eq] at k1
    refine ⟨_, S3, S4, ?_, k2, k3⟩
    simp only [exec, M.bind, M.lift, evA_ok he hv, k1]
    rfl
theorem conv_ok (he : ERel qe e) (hr : SRel q S) (k : CK) (a : Atom) : Ok (execQ (.conv k a) cq qe q) (exec call e (.conv k a)) S := by
  cases k with
  | int k =>
    refine pureOk (cq := cq) (p := pConv (.int k) a) hr ?_
    intro v h
    · obtain ⟨x, h1, h2⟩ := bO_some.1 h
      obtain ⟨k', n, rfl, h3⟩ := eIntO_some.1 h2
      rw [cvI_eq] at h3
      cases h3
      simp only [exec, M.bind, M.lift, evA_ok he h1]
      rfl
  | same =>
    refine pureOk (cq := cq) (p := pConv .same a) hr ?_
    intro v h
    · obtain ⟨x, h1, h2⟩ := bO_some.1 h
      obtain ⟨s, rfl, h3⟩ := eStrO_some.1 h2
      cases h3
      simp only [exec, M.bind, M.lift, evA_ok he h1]
      rfl
  | str2b t =>
    intro c hc
    obtain ⟨v, hv, hc1⟩ := bB_true.1 hc
    obtain ⟨s, rfl, hc2⟩ := eStrB_true.1 hc1
    obtain ⟨b, S1, S2, h1, h2, h3⟩ := newQ_ok hr (some 1) true (u8L s.data.toList) (sl0 c s.size s.size) hc2
    rw [u8L_eq] at h1
    refine ⟨_, S1, S2, ?_, h2, h3⟩
    simp only [exec, M.bind, M.lift, evA_ok he hv, h1]
    rfl
  | b2str =>
    intro c hc
    obtain ⟨v, hv, hc1⟩ := bB_true.1 hc
    obtain ⟨p, n, cap, rfl, hc2⟩ := eSlB_true.1 hc1
    cases p with
    | none => exact ⟨_, S, q, by simp only [exec, M.bind, M.lift, evA_ok he hv]; rfl, hr, hc2⟩
    | some p =>
      obtain ⟨cs, S1, S2, h1, h2, h3⟩ := ldCQ_ok hr p.block p.off n _ hc2
      cases hb : bytesOf cs with
      | none => rw [hb] at h3; cases h3
      | some l =>
        rw [hb] at h3
        refine ⟨_, S1, S2, ?_, h2, h3⟩
        simp only [exec, M.bind, M.lift, evA_ok he hv, h1, hb]
        rfl
  | sameSl =>
    intro c hc
    obtain ⟨v, hv, hc1⟩ := bB_true.1 hc
    obtain ⟨p, n, cap, rfl, hc2⟩ := eSlB_true.1 hc1
    cases p with
    | none => cases hc2
    | some p =>
      simp only [eS_eq] at hc2
      obtain ⟨x, s, len, t, g1, h3⟩ := atC_true.1 hc2
      obtain ⟨cs, g3, g4⟩ := hr.cells g1
      have g5 : BRel (.cells x true len t) (.cells x true cs) := by cases g4 with | cells e1 e2 => exact .cells e1 e2
      refine ⟨_, _, _, ?_, hr.put (b := p.block) g5 (log := (p.block, true) :: (p.block, false) :: S.log) (by rw [hr.log]), h3⟩
      simp only [exec, M.bind, M.lift, evA_ok he hv, rd, g3, wr]
      rfl

/-! ## Maps -/
theorem mapB_true {v : Value} {k : Option Nat → Bool} (h : mapB v k = true) : ∃ p, v = .map p ∧ k p = true := by
  cases v <;> first | exact ⟨_, rfl, h⟩ | cases h
theorem bR_true {x : Option OM} {f : OM → Bool} (h : bR x f = true) : ∃ r, x = some r ∧ f r = true := by
  cases x with
  | none => cases h
  | some r => exact ⟨r, rfl, h⟩
theorem atM_true (hr : SRel q S) {b : Nat} {f : List MEnt → Nat → Bool} (h : atM q.h b f = true) : ∃ es cl, S.heap.get b = some (.map es cl) ∧ f es cl = true := by
  unfold atM at h
  rw [bQ_true, getQ_eq] at h
  obtain ⟨o, h1, h2⟩ := h
  cases o with
  | cells => cases h2
  | loop => cases h2
  | map es cl =>
    obtain ⟨o', h3, h4⟩ := hr.heap _ _ h1
    cases h4
    exact ⟨es, cl, h3, h2⟩
theorem mkm_ok (he : ERel qe e) (hr : SRel q S) (h : Option Atom) : Ok (execQ (.mkmap h) cq qe q) (exec call e (.mkmap h)) S := by
  intro c hc
  have hc : bU (hintQ qe h) (nwQ (.map [] 0) q (map0 c)) = true := hc
  have hh : hintOk e h = some () ∧ nwQ (.map [] 0) q (map0 c) = true := by
    cases h with
    | none => exact ⟨rfl, hc⟩
    | some a =>
      unfold hintQ at hc
      simp only at hc
      split at hc
      · rename_i k n hv
        exact ⟨by simp [hintOk, evA_ok he hv, asInt], hc⟩
      · cases hc
  obtain ⟨b, S1, S2, h1, h2, h3⟩ := nwQ_ok hr BRel.map (map0 c) hh.2
  refine ⟨_, S1, S2, ?_, h2, h3⟩
  simp only [exec, M.bind, M.lift, hh.1, h1]
  rfl
theorem mget_ok (he : ERel qe e) (hr : SRel q S) (kk : Nat) (ok : Bool) (z : Value) (m k : Atom) : Ok (execQ (.mget kk ok z m k) cq qe q) (exec call e (.mget kk ok z m k)) S := by
  intro c hc
  obtain ⟨x, hx, hc1⟩ := bB_true.1 hc
  obtain ⟨y, hy, hc2⟩ := bB_true.1 hc1
  obtain ⟨p, rfl, hc3⟩ := mapB_true hc2
  cases p with
  | none => exact ⟨_, S, q, by simp only [exec, M.bind, M.lift, evA_ok he hx, evA_ok he hy]; rfl, hr, hc3⟩
  | some b =>
    simp only [eS_eq, mgetR] at hc3
    obtain ⟨es, cl, h1, h2⟩ := atM_true hr hc3
    obtain ⟨r, h3, h4⟩ := bR_true h2
    exact ⟨_, _, _, by simp only [exec, M.bind, M.lift, evA_ok he hx, evA_ok he hy, rd, h1, h3]; rfl, hr.saw b, h4⟩
theorem ofM_put (y z : Value) (es : List MEnt) (cl : Nat) (r : OM) : BRel (ofM (mput y z es cl r)) (mput y z es cl r) := by cases r <;> exact BRel.map
theorem ofM_keep (y z : Value) (es : List MEnt) (cl : Nat) (r : OM) : BRel (ofM (mkeep y z es cl r)) (mkeep y z es cl r) := by cases r <;> exact BRel.map
theorem mset_ok (he : ERel qe e) (hr : SRel q S) (kk : Nat) (m k v : Atom) : Ok (execQ (.mset kk m k v) cq qe q) (exec call e (.mset kk m k v)) S := by
  intro c hc
  obtain ⟨x, hx, hc1⟩ := bB_true.1 hc
  obtain ⟨y, hy, hc2⟩ := bB_true.1 hc1
  obtain ⟨z, hz, hc3⟩ := bB_true.1 hc2
  obtain ⟨p, rfl, hc4⟩ := mapB_true hc3
  cases p with
  | none => cases hc4
  | some b =>
    simp only [eS_eq, msetR] at hc4
    obtain ⟨es, cl, h1, h2⟩ := atM_true hr hc4
    obtain ⟨hk, h2⟩ := thenB_true.1 h2
    obtain ⟨r, h3, h4⟩ := bR_true h2
    refine ⟨undef, _, _, ?_, hr.put (b := b) (ofM_put y z es cl r) (log := (b, true) :: (b, false) :: S.log) (by rw [hr.log]), h4⟩
    simp only [exec, M.bind, M.lift, evA_ok he hx, evA_ok he hy, evA_ok he hz, rd, h1, hk, if_true, h3, wr]
    rfl
theorem ment_ok (he : ERel qe e) (hr : SRel q S) (kk : Nat) (z : Value) (m k : Atom) : Ok (execQ (.ment kk z m k) cq qe q) (exec call e (.ment kk z m k)) S := by
  intro c hc
  obtain ⟨x, hx, hc1⟩ := bB_true.1 hc
  obtain ⟨y, hy, hc2⟩ := bB_true.1 hc1
  obtain ⟨p, rfl, hc4⟩ := mapB_true hc2
  cases p with
  | none => cases hc4
  | some b =>
    simp only [eS_eq, mentR] at hc4
    obtain ⟨es, cl, h1, h2⟩ := atM_true hr hc4
    obtain ⟨hk, h2⟩ := thenB_true.1 h2
    obtain ⟨r, h3, h4⟩ := bR_true h2
    refine ⟨_, _, _, ?_, hr.put (b := b) (ofM_keep y z es cl r) (log := (b, true) :: (b, false) :: S.log) (by rw [hr.log]), h4⟩
    simp only [exec, M.bind, M.lift, evA_ok he hx, evA_ok he hy, rd, h1, hk, if_true, h3, wr]
    rfl
theorem mfill_ok (he : ERel qe e) (hr : SRel q S) (m s v : Atom) : Ok (execQ (.mfill m s v) cq qe q) (exec call e (.mfill m s v)) S := by
  intro c hc
  obtain ⟨x, hx, hc1⟩ := bB_true.1 hc
  obtain ⟨t, ht, hc2⟩ := bB_true.1 hc1
  obtain ⟨k, n, rfl, hc3⟩ := eIntB_true.1 hc2
  obtain ⟨z, hz, hc4⟩ := bB_true.1 hc3
  obtain ⟨p, rfl, hc5⟩ := mapB_true hc4
  cases p with
  | none => cases hc5
  | some b =>
    simp only [eS_eq, mfillR] at hc5
    obtain ⟨es, cl, h1, h2⟩ := atM_true hr hc5
    have hb : ∃ r, findBorn n es 0 = some r ∧ c undef (mkS q.h b (some (.map (es.set r.1 ⟨r.2.key, z, r.2.born⟩) cl)) q.n ((b, true) :: (b, false) :: q.lg)) = true := by
      cases hf : findBorn n es 0 with
      | none => rw [hf] at h2; cases h2
      | some r => rw [hf] at h2; exact ⟨r, rfl, h2⟩
    obtain ⟨r, h3, h4⟩ := hb
    refine ⟨undef, _, _, ?_, hr.put (b := b) (BRel.map (es := es.set r.1 ⟨r.2.key, z, r.2.born⟩) (cl := cl)) (log := (b, true) :: (b, false) :: S.log) (by rw [hr.log]), h4⟩
    simp only [exec, M.bind, M.lift, evA_ok he hx, evA_ok he ht, Option.bind_some, asInt, evA_ok he hz, rd, h1, h3, wr]
    rfl
theorem mdel_ok (he : ERel qe e) (hr : SRel q S) (kk : Nat) (m k : Atom) : Ok (execQ (.mdel kk m k) cq qe q) (exec call e (.mdel kk m k)) S := by
  intro c hc
  obtain ⟨x, hx, hc1⟩ := bB_true.1 hc
  obtain ⟨y, hy, hc2⟩ := bB_true.1 hc1
  obtain ⟨p, rfl, hc3⟩ := mapB_true hc2
  cases p with
  | none => exact ⟨_, S, q, by simp only [exec, M.bind, M.lift, evA_ok he hx, evA_ok he hy]; rfl, hr, hc3⟩
  | some b =>
    simp only [eS_eq, mdelR] at hc3
    obtain ⟨es, cl, h1, h2⟩ := atM_true hr hc3
    obtain ⟨r, h3, h4⟩ := bR_true h2
    refine ⟨.tuple #[], _, _, ?_, hr.put (b := b) (BRel.map (es := mcut es r) (cl := cl)) (log := (b, true) :: (b, false) :: S.log) (by rw [hr.log]), h4⟩
    simp only [exec, M.bind, M.lift, evA_ok he hx, evA_ok he hy, rd, h1, h3, wr]
    rfl
theorem len_ok (he : ERel qe e) (hr : SRel q S) (k : LenK) (a : Atom) : Ok (execQ (.len k a) cq qe q) (exec call e (.len k a)) S := by
  cases k with
  | str => exact lenP_ok (cq := cq) he hr .str a (by simp)
  | slice => exact lenP_ok (cq := cq) he hr .slice a (by simp)
  | arr n => exact lenP_ok (cq := cq) he hr (.arr n) a (by simp)
  | map =>
    intro c hc
    obtain ⟨x, hx, hc1⟩ := bB_true.1 hc
    obtain ⟨p, rfl, hc2⟩ := mapB_true hc1
    cases p with
    | none => exact ⟨_, S, q, by simp only [exec, M.bind, M.lift, evA_ok he hx]; rfl, hr, hc2⟩
    | some b =>
      simp only [eS_eq, mlenR] at hc2
      obtain ⟨es, cl, h1, h2⟩ := atM_true hr hc2
      exact ⟨_, _, _, by simp only [exec, M.bind, M.lift, evA_ok he hx, rd, h1]; rfl, hr.saw b, h2⟩

/-! ## Calls -/
def CallOkQ (cq : Call) (call : Tgt → List Value → M Value) : Prop := ∀ t args q S, SRel q S → Ok (cq t args q) (call t args) S
theorem tgt_ok (hcall : CallOkQ cq call) (hr : SRel q S) {l : List Value} {f : Fn} {first captured : Array Value} : ∀ c, tgtQ cq l q c f first captured = true → ∃ t, target (.func f first captured) l = some t ∧ ∃ v S' S2, call t.1 t.2 S = some (v, S') ∧ SRel S2 S' ∧ c v S2 = true := by
  intro c hc
  unfold tgtQ at hc
  split at hc
  · exact ⟨_, rfl, hcall _ _ _ _ hr _ hc⟩
  · exact ⟨_, rfl, hcall _ _ _ _ hr _ hc⟩
  · cases hc
theorem call_ok (hcall : CallOkQ cq call) (he : ERel qe e) (hr : SRel q S) (f : Atom) (args : List Atom) : Ok (execQ (.call f args) cq qe q) (exec call e (.call f args)) S := by
  intro c hc
  obtain ⟨g, hg, hc1⟩ := bB_true.1 hc
  obtain ⟨l, hl, hc2⟩ := bLB_true.1 hc1
  obtain ⟨f, a, b, rfl, hc3⟩ := eFuncB_true.1 hc2
  obtain ⟨t, h1, v, S1, S2, h2, h3, h4⟩ := tgt_ok hcall hr _ hc3
  refine ⟨v, S1, S2, ?_, h3, h4⟩
  simp only [exec, M.bind, M.lift, evA_ok he hg, evL_ok he hl, h1, h2]
  rfl
theorem exec_ok (hcall : CallOkQ cq call) (he : ERel qe e) (hr : SRel q S) (op : AOp) : Ok (execQ op cq qe q) (exec call e op) S := by
  cases op with
  | mov a => exact mov_ok he hr a
  | pick c a b => exact pick_ok he hr c a b
  | bin op a b => exact bin_ok he hr op a b
  | eq n k a b => exact eq_ok he hr n k a b
  | un op a => exact un_ok he hr op a
  | conv k a => exact conv_ok he hr k a
  | alloc t z => exact alloc_ok hr t z
  | box t a => exact box_ok he hr t a
  | build z p => exact build_ok he hr z p
  | bslice t n z p => exact bsl_ok he hr t n z p
  | load sh a => exact load_ok he hr sh a
  | store n a v => exact store_ok he hr n a v
  | nilchk a => exact nil_ok he hr a
  | mkslice t s b z l c => exact mks_ok he hr t s b z l c
  | slcS x l h => exact slS_ok he hr x l h
  | slc s x l h m => exact slc_ok he hr s x l h m
  | slcA n s x l h m => exact slA_ok he hr n s x l h m
  | fldA o a => exact fldA_ok he hr o a
  | fld sh o a => exact fld_ok he hr sh o a
  | ixA s a i => exact ixA_ok he hr s a i
  | ixAA n s a i => exact ixAA_ok he hr n s a i
  | ix n s sh a i => exact ix_ok he hr n s sh a i
  | ixS a i => exact ixS_ok he hr a i
  | mkfn f l r => exact mkf_ok he hr f l r
  | mkif t a => exact mki_ok he hr t a
  | ext a i => exact ext_ok he hr a i
  | call f args => exact call_ok hcall he hr f args
  | app s b t x y => exact app_ok he hr s b t x y
  | appZ s b t z x y => exact appZ_ok he hr s b t z x y
  | len k a => exact len_ok he hr k a
  | mkmap h => exact mkm_ok he hr h
  | mget kk ok z m k => exact mget_ok he hr kk ok z m k
  | mset kk m k v => exact mset_ok he hr kk m k v
  | mdel kk m k => exact mdel_ok he hr kk m k
  | ment kk z m k => exact ment_ok he hr kk z m k
  | mfill m s v => exact mfill_ok he hr m s v
  | cap a => exact cap_ok he hr a
  | copy s d x => exact copy_ok he hr s d x
  | clear z a => exact clr_ok he hr z a
  | max l => exact max_ok he hr l
  | min l => exact min_ok he hr l
  | panic => intro c hc; cases hc
end Go.Wb.Q
