/- The engine, part Q5: the quick evaluator's operations that touch no memory. -/
import Derived.Test.YtmepokefmpcnnaaEngQ4
set_option linter.unusedSimpArgs false
set_option linter.unusedVariables false
set_option autoImplicit false
namespace Go.Wb.Q

/-! ## Numbers -/
theorem lim_inj {a b : IntKind} (h : sameK a b = true) : a = b := by
  cases a <;> cases b <;> first | rfl | (exact absurd h (by decide))
theorem wrap_nat {k : IntKind} {n : Nat} (h : n < lim k) : k.wrap (n : Int) = n := by
  cases k <;> simp [lim] at h <;> simp [IntKind.wrap, IntKind.bits, IntKind.signed] <;> omega
theorem wrN_eq (k : IntKind) (n : Nat) : wrN k n = some (.int k (k.wrap (n : Int))) := by
  unfold wrN
  rw [ifO_eq]
  by_cases h : Nat.blt n (lim k) = true
  · rw [if_pos h]
    have : n < lim k := by simpa [Nat.blt_eq] using h
    rw [wrap_nat this]; rfl
  · rw [if_neg h]; rfl
theorem lim_pow (k : IntKind) : ∃ m, lim k = 2 ^ m ∧ m ≤ k.bits := by
  cases k
  · exact ⟨7, rfl, by decide⟩
  · exact ⟨15, rfl, by decide⟩
  · exact ⟨31, rfl, by decide⟩
  · exact ⟨63, rfl, by decide⟩
  · exact ⟨8, rfl, by decide⟩
  · exact ⟨16, rfl, by decide⟩
  · exact ⟨32, rfl, by decide⟩
  · exact ⟨64, rfl, by decide⟩
theorem toNat_ofInt {w a : Nat} (h : a < 2 ^ w) : (BitVec.ofInt w (a : Int)).toNat = a := by
  rw [BitVec.ofInt_natCast, BitVec.toNat_ofNat, Nat.mod_eq_of_lt h]
theorem bit_ok {k : IntKind} {a b : Nat} (ha : a < lim k) (hb : b < lim k) {f : Nat → Nat → Nat} {g : BitVec k.bits → BitVec k.bits → BitVec k.bits} (hg : ∀ x y, (g x y).toNat = f x.toNat y.toNat)
    (hf : ∀ m, a < 2 ^ m → b < 2 ^ m → f a b < 2 ^ m) : k.wrap ((g (BitVec.ofInt k.bits (a : Int)) (BitVec.ofInt k.bits (b : Int))).toNat : Int) = (f a b : Nat) := by
  obtain ⟨m, hm, hle⟩ := lim_pow k
  have h2 : (2 : Nat) ^ m ≤ 2 ^ k.bits := Nat.pow_le_pow_right (by decide) hle
  rw [hg, toNat_ofInt (by omega), toNat_ofInt (by omega), wrap_nat]
  rw [hm] at ha hb ⊢
  exact hf m ha hb
theorem beq_nat (a b : Nat) : ((a : Int) == (b : Int)) = Nat.beq a b := by
  rw [Bool.eq_iff_iff, Nat.beq_eq]
  simp only [beq_iff_eq]
  omega
theorem binN_ok (op : BinOp) (k : IntKind) (a b : Nat) {v : Value} (h : binN op k a b = some v) : binV op (.int k (a : Int)) (.int k (b : Int)) = some v := by
  cases op
  case add => exact (wrN_eq k (a + b)).symm.trans h |> fun e => by simpa [binV] using e
  case sub =>
    have h : ifO (Nat.ble b a) (wrN k (a - b)) (slowN .sub k a b) = some v := h
    rw [ifO_eq] at h
    by_cases hb : Nat.ble b a = true
    · rw [if_pos hb, wrN_eq] at h
      have : b ≤ a := Nat.le_of_ble_eq_true hb
      simp only [binV, ne_eq, not_true_eq_false, if_false]
      rw [← h, show ((a - b : Nat) : Int) = (a : Int) - b by omega]
    · rw [if_neg hb] at h; exact h
  case mul => exact (wrN_eq k (a * b)).symm.trans h |> fun e => by simpa [binV] using e
  case quo =>
    have h : ifO (Nat.beq b 0) none (wrN k (a / b)) = some v := h
    rw [ifO_eq] at h
    by_cases hb : Nat.beq b 0 = true
    · rw [if_pos hb] at h; cases h
    · rw [if_neg hb, wrN_eq] at h
      have hz : b ≠ 0 := by intro e; subst e; exact hb rfl
      simp only [binV, ne_eq, not_true_eq_false, if_false]
      rw [if_neg (by omega), ← h]
      rfl
  case rem =>
    have h : ifO (Nat.beq b 0) none (someN k (a % b)) = some v := h
    rw [ifO_eq] at h
    by_cases hb : Nat.beq b 0 = true
    · rw [if_pos hb] at h; cases h
    · rw [if_neg hb] at h
      have hz : b ≠ 0 := by intro e; subst e; exact hb rfl
      simp only [binV, ne_eq, not_true_eq_false, if_false]
      rw [if_neg (by omega), ← h]
      rfl
  case and =>
    have h : bitN Nat.land .and k a b = some v := h
    unfold bitN at h
    rw [ifO_eq, ifO_eq] at h
    by_cases h1 : Nat.blt a (lim k) = true
    · by_cases h2 : Nat.blt b (lim k) = true
      · rw [if_pos h1, if_pos h2] at h
        simp only [binV, ne_eq, not_true_eq_false, if_false]
        rw [← h, bit_ok (f := Nat.land) (g := (· &&& ·)) (by simpa [Nat.blt_eq] using h1) (by simpa [Nat.blt_eq] using h2) (fun x y => BitVec.toNat_and x y) (fun m ha hb => Nat.and_lt_two_pow a hb)]
        rfl
      · rw [if_pos h1, if_neg h2] at h; exact h
    · rw [if_neg h1] at h; exact h
  case or =>
    have h : bitN Nat.lor .or k a b = some v := h
    unfold bitN at h
    rw [ifO_eq, ifO_eq] at h
    by_cases h1 : Nat.blt a (lim k) = true
    · by_cases h2 : Nat.blt b (lim k) = true
      · rw [if_pos h1, if_pos h2] at h
        simp only [binV, ne_eq, not_true_eq_false, if_false]
        rw [← h, bit_ok (f := Nat.lor) (g := (· ||| ·)) (by simpa [Nat.blt_eq] using h1) (by simpa [Nat.blt_eq] using h2) (fun x y => BitVec.toNat_or x y) (fun m ha hb => Nat.or_lt_two_pow ha hb)]
        rfl
      · rw [if_pos h1, if_neg h2] at h; exact h
    · rw [if_neg h1] at h; exact h
  case xor =>
    have h : bitN Nat.xor .xor k a b = some v := h
    unfold bitN at h
    rw [ifO_eq, ifO_eq] at h
    by_cases h1 : Nat.blt a (lim k) = true
    · by_cases h2 : Nat.blt b (lim k) = true
      · rw [if_pos h1, if_pos h2] at h
        simp only [binV, ne_eq, not_true_eq_false, if_false]
        rw [← h, bit_ok (f := Nat.xor) (g := (· ^^^ ·)) (by simpa [Nat.blt_eq] using h1) (by simpa [Nat.blt_eq] using h2) (fun x y => BitVec.toNat_xor x y) (fun m ha hb => Nat.xor_lt_two_pow ha hb)]
        rfl
      · rw [if_pos h1, if_neg h2] at h; exact h
    · rw [if_neg h1] at h; exact h
  case shl => exact h
  case shr => exact h
  case andNot => exact h
  case eql =>
    have h : someB (Nat.beq a b) = some v := h
    simp only [binV, ne_eq, not_true_eq_false, if_false]
    rw [← h]; congr 2
    exact beq_nat a b
  case neq =>
    have h : someB (not (Nat.beq a b)) = some v := h
    simp only [binV, ne_eq, not_true_eq_false, if_false]
    rw [← h]
    simp only [bne, beq_nat]
    rfl
  case lss =>
    have h : someB (Nat.blt a b) = some v := h
    simp only [binV, ne_eq, not_true_eq_false, if_false]
    rw [← h]; congr 2
    rw [Bool.eq_iff_iff, Nat.blt_eq]; simp
  case leq =>
    have h : someB (Nat.ble a b) = some v := h
    simp only [binV, ne_eq, not_true_eq_false, if_false]
    rw [← h]; congr 2
    rw [Bool.eq_iff_iff, Nat.ble_eq]; simp
  case gtr =>
    have h : someB (Nat.blt b a) = some v := h
    simp only [binV, ne_eq, not_true_eq_false, if_false]
    rw [← h]; congr 2
    rw [Bool.eq_iff_iff, Nat.blt_eq]; simp
  case geq =>
    have h : someB (Nat.ble b a) = some v := h
    simp only [binV, ne_eq, not_true_eq_false, if_false]
    rw [← h]; congr 2
    rw [Bool.eq_iff_iff, Nat.ble_eq]; simp
theorem binI2_ok {op : BinOp} {k k' : IntKind} {a b : Int} {v : Value} (h : binI2 op k a k' b = some v) : binV op (.int k a) (.int k' b) = some v := by
  unfold binI2 at h
  rw [ifO_eq] at h
  by_cases hk : sameK k k' = true
  · rw [if_pos hk] at h
    obtain rfl := lim_inj hk
    cases a with
    | negSucc m => exact h
    | ofNat m =>
      cases b with
      | negSucc n => exact h
      | ofNat n => exact binN_ok op k m n h
  · rw [if_neg hk] at h; exact h
theorem binQ_ok {op : BinOp} {x y v : Value} (h : binQ op x y = some v) : binV op x y = some v := by
  cases x
  case int k a =>
    have h : eIntO y (binI2 op k a) = some v := h
    obtain ⟨k', b, rfl, h0⟩ := eIntO_some.1 h
    exact binI2_ok h0
  case string s =>
    have h : eStrO y (fun s' => binV op (.string s) (.string s')) = some v := h
    obtain ⟨s', rfl, h⟩ := eStrO_some.1 h
    exact h
  all_goals cases h

/-! ## Several atoms -/
variable {qe : QE} {e : Env}
theorem evL_ok (he : ERel qe e) : ∀ {l : List Atom} {vs : List Value}, evL l qe = some vs → evs e l = some vs
  | [], vs, h => h
  | a :: l, vs, h => by
    have h : (@Option.rec Value (fun _ => Option (List Value)) none (fun v => @Option.rec (List Value) (fun _ => Option (List Value)) none (fun l => some (v :: l)) (evL l qe)) (evA a qe)) = some vs := h
    cases ha : evA a qe with
    | none => rw [ha] at h; cases h
    | some v =>
      rw [ha] at h
      cases hl : evL l qe with
      | none => rw [hl] at h; cases h
      | some r =>
        rw [hl] at h
        simp only [evs, evA_ok he ha, evL_ok he hl]
        exact h
theorem fillP_ok (he : ERel qe e) : ∀ {l : List (Nat × Nat × Atom)} {c vs : List Value}, fillP qe l c = some vs → fillA e l c = some vs
  | [], c, vs, h => h
  | (off, size, a) :: l, c, vs, h => by
    have h : (@Option.rec Value (fun _ => Option (List Value)) none (fun v => fillStep off size c v (fillP qe l)) (evA a qe)) = some vs := h
    cases ha : evA a qe with
    | none => rw [ha] at h; cases h
    | some v =>
      rw [ha] at h
      have h : fillStep off size c v (fillP qe l) = some vs := h
      unfold fillStep at h
      cases h1 : lenIs size (cellsL v) with
      | false => rw [h1] at h; cases h
      | true =>
        rw [h1] at h
        cases h2 : longer (off + size) c with
        | false => rw [h2] at h; cases h
        | true =>
          rw [h2] at h
          have h : fillP qe l (setAll c off (cellsL v)) = some vs := h
          have k1 : v.cells.size = size := by
            have := (lenIs_true _ _).1 h1
            simpa [cellsL] using this
          simp only [fillA, evA_ok he ha]
          rw [if_pos ⟨k1, (longer_iff _ _).1 h2⟩]
          exact fillP_ok he h
theorem bndQ_ok (he : ERel qe e) {x : Option Atom} {d y n : Nat} (h : bndQ qe x d y = some n) : bnd e x d y = some n := by
  cases x with
  | none => exact h
  | some a =>
    simp only [bndQ] at h
    split at h
    · rename_i k i ha
      simp only [bnd, evA_ok he ha, Option.bind_some, asInt]
      cases hb : Nat.ble i y with
      | false => rw [hb] at h; cases h
      | true =>
        rw [hb] at h
        have := Nat.le_of_ble_eq_true hb
        cases h
        have h2 : (0 : Int) ≤ Int.ofNat n ∧ Int.ofNat n ≤ (y : Int) := ⟨by simp, by simpa using this⟩
        rw [if_pos h2]; rfl
    · cases h
theorem bndsQ_ok (he : ERel qe e) {lo hi mx : Option Atom} {len cap : Nat} {r : Nat × Nat × Nat} (h : bndsQ qe len cap lo hi mx = some r) : bnds e len cap lo hi mx = some r := by
  unfold bndsQ at h
  unfold bnds
  split at h
  · cases h
  · rename_i m h1
    rw [bndQ_ok he h1]
    simp only
    split at h
    · cases h
    · rename_i hh h2
      rw [bndQ_ok he h2]
      simp only
      split at h
      · cases h
      · rename_i l h3
        rw [bndQ_ok he h3]
        exact h
theorem partQ_ok {sh : Sh} {cs : List Value} {off : Nat} {v : Value} (h : partQ sh cs off = some v) : partOf sh cs off = some v := by
  cases sh with
  | one => exact h
  | agg n =>
    obtain ⟨h1, h2⟩ := thenO_some.1 h
    simp only [partOf]
    rw [if_pos ((longer_iff _ _).1 h1)]
    exact h2
theorem ptr_some {b o : Nat} {v : Value} (h : mkPtr b o = some v) : v = .pointer (some ⟨b, o, none⟩) := by cases h; rfl

/-! ## Operations -/
variable {call : Tgt → List Value → M Value} {cq : Call} {q : QS} {S : St}
theorem pureOk {p : P} {op : AOp} (hr : SRel q S) (h : ∀ v, p qe = some v → exec call e op S = some (v, S)) : Ok (pureO p cq qe q) (exec call e op) S := by
  intro c hc
  obtain ⟨v, h1, h2⟩ := fin_true.1 hc
  exact ⟨v, S, q, h v h1, hr, h2⟩
theorem on2_some {f : Value → Value → OV} {x y : OV} {w : Value} (h : on2 f x y = some w) : ∃ a b, x = some a ∧ y = some b ∧ f a b = some w := by
  unfold on2 at h
  obtain ⟨a, h1, h2⟩ := bO_some.1 h
  unfold at2 at h2
  obtain ⟨b, h3, h4⟩ := bO_some.1 h2
  exact ⟨a, b, h1, h3, h4⟩

theorem mov_ok (he : ERel qe e) (hr : SRel q S) (a : Atom) : Ok (execQ (.mov a) cq qe q) (exec call e (.mov a)) S :=
  pureOk (cq := cq) hr fun v h => by simp [exec, M.bind, M.lift, M.pure, evA_ok he h]
theorem pick_ok (he : ERel qe e) (hr : SRel q S) (t a b : Atom) : Ok (execQ (.pick t a b) cq qe q) (exec call e (.pick t a b)) S :=
  pureOk (cq := cq) hr fun v h => by
    obtain ⟨x, h1, h2⟩ := bO_some.1 h
    obtain ⟨y, rfl, h3⟩ := eBoolO_some.1 h2
    rw [ifO_eq] at h3
    cases y
    · simp at h3; simp [exec, M.bind, M.lift, M.pure, evA_ok he h1, asBool, evA_ok he h3]
    · simp at h3; simp [exec, M.bind, M.lift, M.pure, evA_ok he h1, asBool, evA_ok he h3]
theorem bin_ok (he : ERel qe e) (hr : SRel q S) (op : BinOp) (a b : Atom) : Ok (execQ (.bin op a b) cq qe q) (exec call e (.bin op a b)) S :=
  pureOk (cq := cq) hr fun v h => by
    obtain ⟨x, y, h1, h2, h3⟩ := on2_some h
    simp [exec, M.bind, M.lift, M.pure, evA_ok he h1, evA_ok he h2, binQ_ok h3]
theorem eq_ok (he : ERel qe e) (hr : SRel q S) (n : Bool) (k : EqK) (a b : Atom) : Ok (execQ (.eq n k a b) cq qe q) (exec call e (.eq n k a b)) S :=
  pureOk (cq := cq) hr fun v h => by
    obtain ⟨x, y, h1, h2, h3⟩ := on2_some h
    cases ht : eqV k x y with
    | none => rw [ht] at h3; cases h3
    | some t =>
      rw [ht] at h3
      simp only [exec, M.bind, M.lift, M.pure, evA_ok he h1, evA_ok he h2, ht]
      cases h3
      cases n <;> rfl
theorem un_ok (he : ERel qe e) (hr : SRel q S) (op : UnOp) (a : Atom) : Ok (execQ (.un op a) cq qe q) (exec call e (.un op a)) S :=
  pureOk (cq := cq) hr fun v h => by
    obtain ⟨x, h1, h2⟩ := bO_some.1 h
    simp [exec, M.bind, M.lift, M.pure, evA_ok he h1, h2]
theorem build_ok (he : ERel qe e) (hr : SRel q S) (z : List Value) (p : List (Nat × Nat × Atom)) : Ok (execQ (.build z p) cq qe q) (exec call e (.build z p)) S :=
  pureOk (cq := cq) hr fun v h => by
    obtain ⟨l, h1, h2⟩ := bL_some.1 h
    cases h2
    simp [exec, M.bind, M.lift, M.pure, fillP_ok he h1]
theorem nil_ok (he : ERel qe e) (hr : SRel q S) (a : Atom) : Ok (execQ (.nilchk a) cq qe q) (exec call e (.nilchk a)) S :=
  pureOk (cq := cq) hr fun v h => by
    obtain ⟨x, h1, h2⟩ := bO_some.1 h
    simp only [exec, M.bind, M.lift, evA_ok he h1]
    split at h2 <;> first | (cases h2; done) | (cases h2; rfl)
theorem slS_ok (he : ERel qe e) (hr : SRel q S) (x : Atom) (lo hi : Option Atom) : Ok (execQ (.slcS x lo hi) cq qe q) (exec call e (.slcS x lo hi)) S :=
  pureOk (cq := cq) hr fun v h => by
    obtain ⟨x, h1, h2⟩ := bO_some.1 h
    obtain ⟨s, rfl, h3⟩ := eStrO_some.1 h2
    simp only [exec, M.bind, M.lift, evA_ok he h1]
    split at h3
    · rename_i l hh m hb
      cases h3
      rw [bndsQ_ok he hb]
      rfl
    · cases h3
theorem fldA_ok (he : ERel qe e) (hr : SRel q S) (o : Nat) (a : Atom) : Ok (execQ (.fldA o a) cq qe q) (exec call e (.fldA o a)) S :=
  pureOk (cq := cq) hr fun v h => by
    obtain ⟨x, h1, h2⟩ := bO_some.1 h
    obtain ⟨p, rfl, h3⟩ := ptrO_some.1 h2
    cases h3
    simp [exec, M.bind, M.lift, M.pure, evA_ok he h1]
theorem fld_ok (he : ERel qe e) (hr : SRel q S) (sh : Sh) (o : Nat) (a : Atom) : Ok (execQ (.fld sh o a) cq qe q) (exec call e (.fld sh o a)) S :=
  pureOk (cq := cq) hr fun v h => by
    obtain ⟨x, h1, h2⟩ := bO_some.1 h
    obtain ⟨p, rfl, h3⟩ := eAggO_some.1 h2
    simp [exec, M.bind, M.lift, M.pure, evA_ok he h1, partQ_ok h3]
theorem ixA_ok (he : ERel qe e) (hr : SRel q S) (s : Nat) (a i : Atom) : Ok (execQ (.ixA s a i) cq qe q) (exec call e (.ixA s a i)) S :=
  pureOk (cq := cq) hr fun v h => by
    obtain ⟨x, y, h1, h2, h3⟩ := on2_some h
    obtain ⟨k, n, rfl, h4⟩ := natO_some.1 h3
    obtain ⟨p, len, cp, rfl, h5⟩ := eSlO_some.1 h4
    cases p with
    | none => cases h5
    | some p =>
      obtain ⟨h6, h7⟩ := thenO_some.1 h5
      cases h7
      have : n < len := by simpa [Nat.blt_eq] using h6
      simp [exec, M.bind, M.lift, M.pure, evA_ok he h1, evA_ok he h2, asInt, this]
theorem ixAA_ok (he : ERel qe e) (hr : SRel q S) (m s : Nat) (a i : Atom) : Ok (execQ (.ixAA m s a i) cq qe q) (exec call e (.ixAA m s a i)) S :=
  pureOk (cq := cq) hr fun v h => by
    obtain ⟨x, y, h1, h2, h3⟩ := on2_some h
    obtain ⟨k, n, rfl, h4⟩ := natO_some.1 h3
    obtain ⟨p, rfl, h5⟩ := ptrO_some.1 h4
    obtain ⟨h6, h7⟩ := thenO_some.1 h5
    cases h7
    have : n < m := by simpa [Nat.blt_eq] using h6
    simp [exec, M.bind, M.lift, M.pure, evA_ok he h1, evA_ok he h2, asInt, this]
theorem ix_ok (he : ERel qe e) (hr : SRel q S) (m s : Nat) (sh : Sh) (a i : Atom) : Ok (execQ (.ix m s sh a i) cq qe q) (exec call e (.ix m s sh a i)) S :=
  pureOk (cq := cq) hr fun v h => by
    obtain ⟨x, y, h1, h2, h3⟩ := on2_some h
    obtain ⟨k, n, rfl, h4⟩ := natO_some.1 h3
    obtain ⟨p, rfl, h5⟩ := eAggO_some.1 h4
    obtain ⟨h6, h7⟩ := thenO_some.1 h5
    have : n < m := by simpa [Nat.blt_eq] using h6
    simp [exec, M.bind, M.lift, M.pure, evA_ok he h1, evA_ok he h2, asInt, this, partQ_ok h7]
theorem ixS_ok (he : ERel qe e) (hr : SRel q S) (a i : Atom) : Ok (execQ (.ixS a i) cq qe q) (exec call e (.ixS a i)) S :=
  pureOk (cq := cq) hr fun v h => by
    obtain ⟨x, y, h1, h2, h3⟩ := on2_some h
    obtain ⟨k, n, rfl, h4⟩ := natO_some.1 h3
    obtain ⟨s, rfl, h5⟩ := eStrO_some.1 h4
    cases hb : s.data.toList[n]? with
    | none => rw [hb] at h5; cases h5
    | some b =>
      rw [hb] at h5
      cases h5
      simp only [exec, M.bind, M.lift, M.pure, evA_ok he h1, evA_ok he h2, asInt, Option.bind_some]
      rw [if_pos (by simp)]
      show (M.lift s.data.toList[n]?).bind (fun b => M.pure (Value.int .u8 (b.toNat : Int))) S = _
      rw [hb]; rfl
theorem mkf_ok (he : ERel qe e) (hr : SRel q S) (f : FuncId) (l r : List Atom) : Ok (execQ (.mkfn f l r) cq qe q) (exec call e (.mkfn f l r)) S :=
  pureOk (cq := cq) hr fun v h => by
    obtain ⟨x, h1, h2⟩ := bL_some.1 h
    obtain ⟨y, h3, h4⟩ := bL_some.1 h2
    cases h4
    simp [exec, M.bind, M.lift, M.pure, evL_ok he h1, evL_ok he h3]
theorem mki_ok (he : ERel qe e) (hr : SRel q S) (t : TypeId) (a : Atom) : Ok (execQ (.mkif t a) cq qe q) (exec call e (.mkif t a)) S :=
  pureOk (cq := cq) hr fun v h => by
    obtain ⟨x, h1, h2⟩ := bO_some.1 h
    cases h2
    simp [exec, M.bind, M.lift, M.pure, evA_ok he h1]
theorem ext_ok (he : ERel qe e) (hr : SRel q S) (a : Atom) (i : Nat) : Ok (execQ (.ext a i) cq qe q) (exec call e (.ext a i)) S :=
  pureOk (cq := cq) hr fun v h => by
    obtain ⟨x, h1, h2⟩ := bO_some.1 h
    obtain ⟨vs, rfl, h3⟩ := eTupO_some.1 h2
    simp [exec, M.bind, M.lift, M.pure, evA_ok he h1]
    simp at h3
    rw [h3]
theorem lenP_ok (he : ERel qe e) (hr : SRel q S) (k : LenK) (a : Atom) (hk : k ≠ .map) : Ok (pureO (pLen k a) cq qe q) (exec call e (.len k a)) S :=
  pureOk (cq := cq) hr fun v h => by
    obtain ⟨x, h1, h2⟩ := bO_some.1 h
    cases hn : lenV k x with
    | none => rw [hn] at h2; cases h2
    | some n =>
      rw [hn] at h2
      cases h2
      have e1 : exec call e (.len k a) = ((M.lift (a.ev e)).bind fun x => (M.lift (lenV k x)).bind fun n => M.pure (.int .i64 n)) := by
        cases k <;> first | rfl | exact absurd rfl hk
      rw [e1]
      simp [M.bind, M.lift, M.pure, evA_ok he h1, hn]
theorem max_ok (he : ERel qe e) (hr : SRel q S) (l : List Atom) : Ok (execQ (.max l) cq qe q) (exec call e (.max l)) S :=
  pureOk (cq := cq) hr fun v h => by
    obtain ⟨x, h1, h2⟩ := bL_some.1 h
    simp only [exec, M.bind, M.lift, evL_ok he h1]
    cases x with
    | nil => cases h2
    | cons x r => simp only [M.bind, M.lift] at h2 ⊢; rw [h2]; rfl
theorem min_ok (he : ERel qe e) (hr : SRel q S) (l : List Atom) : Ok (execQ (.min l) cq qe q) (exec call e (.min l)) S :=
  pureOk (cq := cq) hr fun v h => by
    obtain ⟨x, h1, h2⟩ := bL_some.1 h
    simp only [exec, M.bind, M.lift, evL_ok he h1]
    cases x with
    | nil => cases h2
    | cons x r => simp only [M.bind, M.lift] at h2 ⊢; rw [h2]; rfl
theorem cvI_eq (k : IntKind) (n : Int) : cvI k n = some (.int k (k.wrap n)) := by
  cases n with
  | ofNat n => exact wrN_eq k n
  | negSucc n => rfl
end Go.Wb.Q
