/- What layer 2's functions do. -/
import Derived.Test.YtmepokefmpcnnaaDoorEtText
import Derived.Test.YtmepokefmpcnnaaDoorEngRX
set_option maxRecDepth 100000
set_option linter.unusedVariables false
set_option linter.unusedSimpArgs false
namespace Go.Proofs.YtmepokefmpcnnaaDoor.Et
open Go.Wb
abbrev i64 (n : Int) : Value := .int .i64 n
abbrev u8 (n : Int) : Value := .int .u8 n
/-- bytes -/
def Byt (l : List Value) : Prop := ∀ v ∈ l, ∃ n, v = u8 n
theorem Byt.one {l : List Value} (h : Byt l) : l.all (·.oneCell') = true := by
  rw [List.all_eq_true]; intro v hv; obtain ⟨n, rfl⟩ := h v hv; rfl
theorem Byt.bytes : ∀ {l : List Value}, Byt l → ∃ r, bytesOf l = some r
  | [], _ => ⟨[], rfl⟩
  | v :: l, h => by
    obtain ⟨n, rfl⟩ := h v (List.mem_cons_self ..)
    obtain ⟨r, hr⟩ := Byt.bytes (l := l) fun v hv => h v (List.mem_cons_of_mem _ hv)
    exact ⟨_, by rw [bytesOf, hr]⟩
def strOf (l : List Value) : ByteArray := match bytesOf l with | some r => ⟨r.toArray⟩ | none => .empty
/-- a slice of bytes that may be read -/
def BS (S : Hp) (v : Value) (l : List Value) (W : List Nat) : Prop :=
  (l = [] ∧ W = [] ∧ (v = .slice none 0 0 ∨ v = .chan none)) ∨
  ∃ b o c cs, W = [b] ∧ v = .slice (some ⟨b, o, none⟩) l.length c ∧ l.length ≤ c ∧ b < S.next ∧ (S.heap.get b = some (.ro cs) ∨ ∃ x s, (x = none ∨ x = some 1) ∧ S.heap.get b = some (.cells x s cs)) ∧ (cs.drop o).take l.length = l ∧ o + l.length ≤ cs.length
theorem BS.fra {S S' : Hp} {v : Value} {l : List Value} {W W' : List Nat} (h : BS S v l W) (hF : Fra W' S S') (hd : ∀ b ∈ W, b ∉ W') : BS S' v l W := by
  rcases h with h | ⟨b, o, c, cs, rfl, h1, h2, h3, h4, h5⟩
  · exact .inl h
  · refine .inr ⟨b, o, c, cs, rfl, h1, h2, Nat.lt_of_lt_of_le h3 hF.next, ?_, h5⟩
    rw [hF.heap b h3 (hd b (by simp))]
    exact h4
theorem BS.lt {S : Hp} {v : Value} {l : List Value} {W : List Nat} (h : BS S v l W) : ∀ b ∈ W, b < S.next := by
  rcases h with ⟨_, rfl, _⟩ | ⟨b, o, c, cs, rfl, h1, h2, h3, h4, h5⟩
  · simp
  · simpa using h3
section
variable {C : Tgt → List Value → M Value} {S : Hp} {Φ : Value → Hp → Prop}
theorem rd_of {b : Nat} {cs : List Value} (h : S.heap.get b = some (.ro cs) ∨ ∃ x s, (x = none ∨ x = some 1) ∧ S.heap.get b = some (.cells x s cs)) (Ψ : List Value → Prop) : rdP (S.heap.get b) Ψ = Ψ cs := by
  rcases h with h | ⟨x, s, _, h⟩
  · rw [h, rdP_ro]
  · rw [h, rdP_cells]
theorem BS.len {v : Value} {l : List Value} {W : List Nat} (h : BS S v l W) (C : Tgt → List Value → M Value) (Φ : Value → Hp → Prop) (S' : Hp) : wp (X C (.len .slice (.const v))) Φ S' = Φ (i64 l.length) S' := by
  rcases h with ⟨rfl, _, rfl | rfl⟩ | ⟨b, o, c, cs, _, rfl, _⟩
  · rw [P_lenS]; rfl
  · rw [P_lenE]; rfl
  · rw [P_lenS]
theorem BS.lenOf {v : Value} {l : List Value} {W : List Nat} (h : BS S v l W) : lenOf v = some l.length := by
  rcases h with ⟨rfl, _, rfl | rfl⟩ | ⟨b, o, c, cs, _, rfl, _⟩ <;> rfl
theorem BS.first {v : Value} {l : List Value} {W : List Nat} (h : BS S v l W) (Ψ : List Value → Hp → Prop) : wp (firstN 1 l.length v) Ψ S = Ψ l S := by
  rcases h with ⟨rfl, _, rfl | rfl⟩ | ⟨b, o, c, cs, _, rfl, _, _, h4, h5, h6⟩
  · exact wp_pure _ _ _
  · exact wp_pure _ _ _
  · rw [W_firstN, rd_of h4, Nat.mul_one, condP_of h6, h5]
theorem BS.str {v : Value} {l : List Value} {W : List Nat} (h : BS S v l W) (hb : Byt l) : wp (X C (.conv .b2str (.const v))) Φ S = Φ (.string (strOf l)) S := by
  obtain ⟨r, hr⟩ := hb.bytes
  rcases h with ⟨rfl, _, rfl | rfl⟩ | ⟨b, o, c, cs, _, rfl, _, _, h4, h5, h6⟩
  · rw [P_b2strN]; rfl
  · exact wp_Xp (by funext S; rfl)
  · rw [P_b2str, rd_of h4, condP_of h6, h5, hr, optP_some]
    simp [strOf, hr]
theorem BS.get {v : Value} {l : List Value} {W : List Nat} {i : Nat} {x : Value} (h : BS S v l W) (hx : l[i]? = some x) : wp (X C (.ixA 1 (.const v) (.const (i64 i)))) (fun t S => wp (X C (.load .one (.const t))) Φ S) S = Φ x S := by
  have hi := (List.getElem?_eq_some_iff.1 hx).1
  rcases h with ⟨rfl, _⟩ | ⟨b, o, c, cs, _, rfl, _, _, h4, h5, h6⟩
  · simp at hi
  · have hii : (0 : Int) ≤ (i : Nat) ∧ ((i : Nat) : Int) < (l.length : Nat) := ⟨by omega, by omega⟩
    have hcs : cs[o + i]? = some x := by
      rw [← h5, List.getElem?_take, if_pos hi, List.getElem?_drop] at hx
      exact hx
    rw [P_ixA, condP_of hii, P_load1, rd_of h4, Nat.mul_one, Int.toNat_natCast, hcs, optP_some]
theorem slcR_14 {b o n c : Nat} (h : 14 ≤ n) (hc : n ≤ c) : ∃ o', slcR 1 b o 0 14 n c = .slice (some ⟨b, o', none⟩) (n - 14) (c - 14) ∧ (o' = o + 14 ∨ (o' = o ∧ n = 14)) := by
  unfold slcR
  by_cases hcc : c = 14
  · subst hcc
    exact ⟨o, by simp, .inr ⟨rfl, by omega⟩⟩
  · exact ⟨o + 14, by simp [hcc], .inl rfl⟩
theorem BS.slc14 {v : Value} {l : List Value} {W : List Nat} (h : BS S v l W) (h14 : 14 ≤ l.length) : ∃ v', BS S v' (l.drop 14) W ∧ (∃ b o n c, v' = .slice (some ⟨b, o, none⟩) n c) ∧ ∀ (C : Tgt → List Value → M Value) (Φ : Value → Hp → Prop), wp (X C (.slc 1 (.const v) (some (.const (i64 14))) none none)) Φ S = Φ v' S := by
  rcases h with ⟨rfl, _⟩ | ⟨b, o, c, cs, hW, rfl, hc, h3, h4, h5, h6⟩
  · simp at h14
  · obtain ⟨o', e1, e2⟩ := slcR_14 (b := b) (o := o) h14 hc
    refine ⟨.slice (some ⟨b, o', none⟩) (l.length - 14) (c - 14), .inr ⟨b, o', c - 14, cs, hW, by rw [List.length_drop], by rw [List.length_drop]; omega, h3, h4, ?_, ?_⟩, ⟨b, o', l.length - 14, c - 14, rfl⟩, fun C Φ => ?_⟩
    · rw [List.length_drop]
      rcases e2 with rfl | ⟨rfl, h0⟩
      · rw [← List.drop_drop, ← List.drop_take, h5]
      · rw [h0, Nat.sub_self, List.take_zero, List.drop_of_length_le (by omega)]
    · rw [List.length_drop]
      rcases e2 with rfl | ⟨rfl, h0⟩ <;> omega
    · have hcut : ∀ p : Prop, cutP 1 (S.heap.get b) p = p := by
        intro p
        rcases h4 with h | ⟨x, s, hx, h⟩
        · rw [h, cutP_ro]
        · rw [h]
          rcases hx with rfl | rfl
          · rw [cutP_none]
          · rw [cutP_some]
      rw [P_slc, bnds_l]
      have hb : (0 : Int) ≤ 14 ∧ (14 : Int) ≤ (l.length : Nat) := ⟨by omega, by omega⟩
      simp only [hb, and_self, if_true, optP_some]
      rw [condP_of hc, hcut, ← e1]
      rfl
/-- appending to an empty slice of its own -/
theorem app_copy (size bytes : Nat) (t : TypeId) (b : Nat) {x : Value} {l : List Value} {n : Nat} (hW : WF S) (hx : lenOf x = some n) (hln : l.length = n * size) (hb : S.heap.get b = some (.cells none false [])) (hf : ∀ Ψ : List Value → Hp → Prop, wp (firstN size n x) Ψ S = Ψ l S) (hone : l.all (·.oneCell') = true)
    (hok : 2 * (n * bytes) ≤ 281474976710656 ∧ bytes ≠ 0 ∧ size ≠ 0)
    (k : ∀ S' b' y, Fra [b] S S' → S'.heap.get b = S.heap.get b → WF S' → b ≤ b' → b' < S'.next → (y = none ∨ y = some size) → S'.heap.get b' = some (.cells y false l) → Φ (.slice (some ⟨b', 0, none⟩) n n) S') :
    wp (X C (.app size bytes t (.const (.slice (some ⟨b, 0, none⟩) 0 0)) (.const x))) Φ S := by
  have hbn := hW _ _ hb
  by_cases hn : n = 0
  · subst hn
    rw [P_app_fit size bytes t b 0 0 0 hx (by omega), hf]
    have : l = [] := List.length_eq_zero_iff.1 (by omega)
    subst this
    rw [wp_stCells, hb, blkP_cells]
    have := k (S.put b (some (.cells none false []))) b none ((Fra.refl _ _).put (.inr (by simp)) _) (by rw [put_at, hb]) (hW.put hbn _) (Nat.le_refl _) hbn (.inl rfl) (put_at _ _ _)
    exact ⟨⟨by simp, rfl⟩, by simpa [splice_z, overlay_n] using this⟩
  · rw [P_app_own size bytes t b 0 0 0 hx (by omega) (by rw [Nat.zero_add]; exact hok) hb (by simp) hf hone]
    have := k (S.add (.cells (some size) false l)) S.next (some size) ((Fra.refl _ _).add _) (add_off (by omega) _) (hW.add _) (by omega) (by rw [Hp.add_next]; omega) (.inr rfl) (add_at _ _)
    simpa using this

/-! ## Drawn regions -/
structure Quiet (t : Wb.Touch) (n : Nat) : Prop where
  lo : t.lo = n
  hi : t.hi = n
  log : ∀ x ∈ t.log, x.2 = false ∧ x.1 < n
theorem Quiet.hits {t u : Wb.Touch} {n m : Nat} (h : Quiet t n) (k : Quiet u m) : hits t u = false := by
  unfold Wb.hits
  rw [List.any_eq_false]
  intro x hx
  have h1 : (Nat.ble u.lo x.1 && Nat.blt x.1 u.hi) = false := by
    rw [Bool.eq_false_iff]
    intro c
    rw [Bool.and_eq_true] at c
    have a := Nat.le_of_ble_eq_true c.1
    have b : x.1 < u.hi := Nat.le_of_ble_eq_true c.2
    rw [k.lo] at a
    rw [k.hi] at b
    omega
  have h2 : (u.log.any fun y => Nat.beq x.1 y.1 && (x.2 || y.2)) = false := by
    rw [List.any_eq_false]
    intro y hy
    rw [(h.log x hx).1, (k.log y hy).1]
    simp
  rw [h1, h2]
  simp
theorem Quiet.apt {t u : Wb.Touch} {n m : Nat} (h : Quiet t n) (k : Quiet u m) : apt t u := ⟨h.hits k, k.hits h⟩
theorem Quiet.new {t : Wb.Touch} {n a b : Nat} (h : Quiet t n) (ha : n ≤ a) : Wb.apt ⟨[], a, b⟩ t := apt_new fun x hx => by have := (h.log x hx).2; omega
theorem quiet_rd {b n : Nat} (h : b < n) : Quiet ⟨[(b, false)], n, n⟩ n := ⟨rfl, rfl, by simpa using h⟩
theorem wrs_nil : ∀ {l : List (Nat × Bool)}, wrs l = [] → ∀ x ∈ l, x.2 = false
  | [], _, x, hx => by cases hx
  | (b, true) :: l, h, x, hx => by cases h
  | (b, false) :: l, h, x, hx => by
    rcases List.mem_cons.1 hx with rfl | hx
    · rfl
    · exact wrs_nil (l := l) h x hx
/-- something that but reads -/
theorem D_q {j : Nat} {ts : List (Nat × Wb.Touch)} {m : M Value} (hm : Bd m) {S : Hp} (hW : WF S) {v : Value} {Ψ : Value → List (Nat × Wb.Touch) → Hp → Prop} (h : ∀ Φ : Value → Hp → Prop, wp m Φ S = Φ v S) (k : ∀ t, Quiet t S.next → Ψ v (keepT j t ts) S) : dstepP j ts m Ψ S := by
  obtain ⟨a, s', h1, rfl, h2⟩ : wp m (fun v' S' => v' = v ∧ S' = S) S := by rw [h]; exact ⟨rfl, rfl⟩
  obtain ⟨w1, D, w2, w3, w4⟩ := hm (fun _ => False) S.st a s' (fun _ h => h.elim) hW.st h1
  have hD : s'.log = D := by rw [w2]; exact List.append_nil D
  have hn : s'.next = S.next := congrArg Hp.next h2
  have hw : wrs s'.log = [] := by
    have : wrs s'.log ++ S.wl = [] ++ S.wl := congrArg Hp.wl h2
    exact List.append_cancel_right this
  refine ⟨a, s', h1, ?_⟩
  rw [h2]
  exact k _ ⟨rfl, hn, fun x hx => ⟨wrs_nil hw x hx, by
    have := (w4 x (hD ▸ hx)).1
    omega⟩⟩
theorem bdX (n : Nat) (op : AOp) : Bd (X (callN T n) op) := fun z => BdX.exec (BdX.callN T n) .leaf op
/-! ## Numbers -/
theorem P_shl8 {a : Int} (h0 : 0 ≤ a) (h1 : a < 256) : wp (X C (.bin .shl (.const (.int .u16 a)) (.const (.int .u64 8)))) Φ S = Φ (.int .u16 (a * 256)) S := by
  have e : X C (.bin .shl (.const (.int .u16 a)) (.const (.int .u64 8))) = M.pure (.int .u16 (a * 256)) := by
    rw [X_bin]
    have : binV .shl (.int .u16 a) (.int .u64 8) = some (.int .u16 (a * 256)) := by
      simp only [binV]
      have h2 : (2 : Int) ^ (Min.min (8 : Int).toNat IntKind.u16.bits) = 256 := by decide
      rw [h2, if_neg (by omega)]
      have h3 : IntKind.u16.wrap (a * 256) = a * 256 := by
        simp [IntKind.wrap, IntKind.bits, IntKind.signed]
        omega
      rw [h3]
    rw [this]
    rfl
  rw [e, wp_pure]
theorem P_or16 {a b : Int} (h0 : 0 ≤ a) (h1 : a < 256) (h2 : 0 ≤ b) (h3 : b < 256) : wp (X C (.bin .or (.const (.int .u16 (a * 256))) (.const (.int .u16 b)))) Φ S = Φ (.int .u16 (a * 256 + b)) S := by
  have e : X C (.bin .or (.const (.int .u16 (a * 256))) (.const (.int .u16 b))) = M.pure (.int .u16 (a * 256 + b)) := by
    rw [X_bin]
    have : binV .or (.int .u16 (a * 256)) (.int .u16 b) = some (.int .u16 (a * 256 + b)) := by
      obtain ⟨A, rfl⟩ : ∃ A : Nat, a = (A : Int) := ⟨a.toNat, by omega⟩
      obtain ⟨B, rfl⟩ : ∃ B : Nat, b = (B : Int) := ⟨b.toNat, by omega⟩
      have hor : A * 256 ||| B = A * 256 + B := by
        have := Nat.shiftLeft_add_eq_or_of_lt (b := B) (i := 8) (by omega) A
        rw [Nat.shiftLeft_eq] at this
        exact this.symm
      have hn : (BitVec.ofInt 16 ((A : Int) * 256) ||| BitVec.ofInt 16 (B : Int)).toNat = A * 256 + B := by
        rw [BitVec.toNat_or, BitVec.toNat_ofInt, BitVec.toNat_ofInt]
        have e1 : (((A : Int) * 256) % ((2 ^ 16 : Nat) : Int)).toNat = A * 256 := by omega
        have e2 : ((B : Int) % ((2 ^ 16 : Nat) : Int)).toNat = B := by omega
        rw [e1, e2, hor]
      have hb : IntKind.u16.bits = 16 := rfl
      simp only [binV, ne_eq, not_true, if_false]
      rw [hb, hn, wrapU16 (by omega) (by omega)]
      congr 2
    rw [this]
    rfl
  rw [e, wp_pure]
/-- bytes.Clone -/
theorem s22 {n : Nat} {v : Value} {l : List Value} {W : List Nat} (hW : WF S) (h : BS S v l W) (hs : ∃ b o n c, v = .slice (some ⟨b, o, none⟩) n c) (hb : Byt l) (hl : l.length ≤ 100000)
    (k : ∀ S' A y, Fra [] S S' → WF S' → S.next ≤ A → A < S'.next → (y = none ∨ y = some 1) → S'.heap.get A = some (.cells y false l) → Φ (.slice (some ⟨A, 0, none⟩) l.length l.length) S') : wp (callN T (n + 1) (.fn 22) [v]) Φ S := by
  refine c22 g22 ?_
  unfold P22
  obtain ⟨b, o, m, c, rfl⟩ := hs
  simp (disch := first | omega | (simp only [Hp.add_next, Hp.put_next]; done) | (simp only [Hp.add_next, Hp.put_next]; omega) | fail) only [↓P_bslice, ifP_bool, ifB_false, ↓P_eqsl1, optP_some, fillA]
  have h1 := h.fra ((Fra.refl [] S).add (.cells none false [])) (by simp)
  refine app_copy 1 1 5 _ (l := l) (n := l.length) (hW.add _) h1.lenOf (by omega) (add_at _ _) h1.first hb.one (by omega) fun S' A y hF hk hW' h2 h3 h4 h5 => ?_
  refine k S' A y (((Fra.refl [] S).add _).trans hF (by simp) (fun b hb => .inl ?_)) hW' h2 h3 h4 h5
  have : b = S.next := by simpa using hb
  omega
theorem D_bslice (j : Nat) (ts : List (Nat × Wb.Touch)) (t : TypeId) (n : Nat) (z : List Value) (p : List (Nat × Nat × Atom)) (Ψ : Value → List (Nat × Wb.Touch) → Hp → Prop) : optP (fillA .leaf p z) (fun c => Ψ (.slice (some ⟨S.next, 0, none⟩) n n) ((j, ⟨[], S.next, S.next + 1⟩) :: ts) (S.add (.cells none false c))) → dstepP j ts (X C (.bslice t n z p)) Ψ S := by
  intro h
  cases hc : fillA .leaf p z with
  | none => rw [hc] at h; exact h.elim
  | some c =>
    rw [hc] at h
    have hk : keepT j { log := [], lo := S.next, hi := S.next + 1 } ts = (j, ⟨[], S.next, S.next + 1⟩) :: ts := by
      unfold keepT
      have : Nat.beq S.next (S.next + 1) = false := by rw [Bool.eq_false_iff]; intro e; have := Nat.eq_of_beq_eq_true e; omega
      simp only [this]
    refine ⟨.slice (some ⟨S.next, 0, none⟩) n n, { heap := S.heap.set S.next (some (.cells none false c)), next := S.next + 1, log := [] }, ?_, ?_⟩
    · simp only [X, exec, M.bind, M.lift, hc, nw, M.pure, Hp.st]
    · show Ψ _ (keepT j { log := [], lo := S.next, hi := S.next + 1 } ts) _
      rw [hk]; exact h
theorem apt_ra {b n m k : Nat} (h : b < n) : apt ⟨[(b, false)], m, m⟩ ⟨[], n, k⟩ := (apt_new (t := ⟨[(b, false)], m, m⟩) (n := n) (m := k) fun x hx => by
  have : x = (b, false) := by simpa using hx
  subst this; exact h).symm
theorem apt_aa {a b c d : Nat} : apt ⟨[], a, b⟩ ⟨[], c, d⟩ := ⟨rfl, rfl⟩
theorem D_alloc (j : Nat) (ts : List (Nat × Wb.Touch)) (t : TypeId) (z : List Value) (Ψ : Value → List (Nat × Wb.Touch) → Hp → Prop) : Ψ (.pointer (some ⟨S.next, 0, none⟩)) ((j, ⟨[], S.next, S.next + 1⟩) :: ts) (S.add (.cells none false z)) → dstepP j ts (X C (.alloc t z)) Ψ S := by
  intro h
  have hk : keepT j { log := [], lo := S.next, hi := S.next + 1 } ts = (j, ⟨[], S.next, S.next + 1⟩) :: ts := by
    unfold keepT
    have : Nat.beq S.next (S.next + 1) = false := by rw [Bool.eq_false_iff]; intro e; have := Nat.eq_of_beq_eq_true e; omega
    simp only [this]
  refine ⟨.pointer (some ⟨S.next, 0, none⟩), { heap := S.heap.set S.next (some (.cells none false z)), next := S.next + 1, log := [] }, ?_, ?_⟩
  · simp only [X, exec, M.bind, nw, M.pure, Hp.st]
  · rw [hk]
    exact h
theorem D_slc {j b o n c K : Nat} {ts : List (Nat × Wb.Touch)} {m : Nat} {Ψ : Value → List (Nat × Wb.Touch) → Hp → Prop} {cs : List Value} (hW : WF S) (hg : S.heap.get b = some (.ro cs) ∨ ∃ x s, (x = none ∨ x = some 1) ∧ S.heap.get b = some (.cells x s cs)) (hK : K ≤ n) (hc : n ≤ c)
    (k : ∀ t, Quiet t S.next → Ψ (slcR 1 b o 0 K n c) (keepT j t ts) S) : dstepP j ts (X (callN T m) (.slc 1 (.const (.slice (some ⟨b, o, none⟩) n c)) (some (.const (i64 K))) none none)) Ψ S := by
  refine D_q (bdX _ _) hW (fun Φ => ?_) k
  have hcut : ∀ p : Prop, cutP 1 (S.heap.get b) p = p := by
    intro p
    rcases hg with h | ⟨x, s, hx, h⟩
    · rw [h, cutP_ro]
    · rw [h]
      rcases hx with rfl | rfl
      · rw [cutP_none]
      · rw [cutP_some]
  rw [P_slc, bnds_l]
  have hb : (0 : Int) ≤ (K : Nat) ∧ ((K : Nat) : Int) ≤ (n : Nat) := ⟨by omega, by omega⟩
  simp only [hb, and_self, if_true, optP_some]
  rw [condP_of hc, hcut]
  rfl
theorem BS_slcR {b o c : Nat} {cs l : List Value} (h14 : 14 ≤ l.length) (hc : l.length ≤ c) (h3 : b < S.next) (h4 : S.heap.get b = some (.ro cs) ∨ ∃ x s, (x = none ∨ x = some 1) ∧ S.heap.get b = some (.cells x s cs)) (h5 : (cs.drop o).take l.length = l) (h6 : o + l.length ≤ cs.length) :
    BS S (slcR 1 b o 0 14 l.length c) (l.drop 14) [b] ∧ ∃ b' o' n' c', slcR 1 b o 0 14 l.length c = .slice (some ⟨b', o', none⟩) n' c' := by
  obtain ⟨o', e1, e2⟩ := slcR_14 (b := b) (o := o) h14 hc
  rw [e1]
  refine ⟨.inr ⟨b, o', c - 14, cs, rfl, by rw [List.length_drop], by rw [List.length_drop]; omega, h3, h4, ?_, ?_⟩, b, o', _, _, rfl⟩
  · rw [List.length_drop]
    rcases e2 with rfl | ⟨rfl, h0⟩
    · rw [← List.drop_drop, ← List.drop_take, h5]
    · rw [h0, Nat.sub_self, List.take_zero, List.drop_of_length_le (by omega)]
  · rw [List.length_drop]
    rcases e2 with rfl | ⟨rfl, h0⟩ <;> omega
/-- touches that but read are apart -/
def AllQ (n : Nat) (ts : List (Nat × Wb.Touch)) : Prop := ∀ x ∈ ts, Quiet x.2 n
theorem AllQ.nil {n : Nat} : AllQ n [] := fun x hx => by cases hx
theorem AllQ.cons {n j : Nat} {t : Wb.Touch} {ts : List (Nat × Wb.Touch)} (h : Quiet t n) (k : AllQ n ts) : AllQ n ((j, t) :: ts) := fun x hx => by
  rcases List.mem_cons.1 hx with rfl | hx
  · exact h
  · exact k x hx
theorem AllQ.keep {n j : Nat} {t : Wb.Touch} {ts : List (Nat × Wb.Touch)} (h : Quiet t n) (k : AllQ n ts) : AllQ n (keepT j t ts) := by
  rcases keepT_or (j := j) (t := t) (ts := ts) with h' | ⟨h', _⟩
  · rw [h']; exact AllQ.cons h k
  · rw [h']; exact k
theorem one_q {n m : Nat} {t : Wb.Touch} (h : Quiet t n) : ∀ {ts : List (Nat × Wb.Touch)}, AllQ n ts → apartOne m t ts = true
  | [], _ => one_nil
  | (i, u) :: ts, k => one_cons (.inr (h.apt (k (i, u) (List.mem_cons_self ..)))) (one_q h fun x hx => k x (List.mem_cons_of_mem _ hx))
theorem one_newQ {n m a b : Nat} (ha : n ≤ a) : ∀ {ts : List (Nat × Wb.Touch)}, AllQ n ts → apartOne m ⟨[], a, b⟩ ts = true
  | [], _ => one_nil
  | (i, u) :: ts, k => one_cons (.inr ((k (i, u) (List.mem_cons_self ..)).new ha)) (one_newQ ha fun x hx => k x (List.mem_cons_of_mem _ hx))
theorem apart_q {n : Nat} {ms : List Nat} : ∀ {ts : List (Nat × Wb.Touch)}, AllQ n ts → apartAll ms ts = true
  | [], _ => apart_nil
  | (i, u) :: ts, k => apart_cons (one_q (k (i, u) (List.mem_cons_self ..)) fun x hx => k x (List.mem_cons_of_mem _ hx)) (apart_q fun x hx => k x (List.mem_cons_of_mem _ hx))
/-- Read: what stands ahead -/
theorem s11 {n : Nat} {v : Value} {x0 x1 x2 x3 x4 x5 x6 x7 x8 x9 x10 x11 : Value} {a b : Int} {r : List Value} {W : List Nat} (hW : WF S) (h : BS S v (x0 :: x1 :: x2 :: x3 :: x4 :: x5 :: x6 :: x7 :: x8 :: x9 :: x10 :: x11 :: u8 a :: u8 b :: r) W) (hb : Byt (x0 :: x1 :: x2 :: x3 :: x4 :: x5 :: x6 :: x7 :: x8 :: x9 :: x10 :: x11 :: u8 a :: u8 b :: r))
    (ha : 0 ≤ a ∧ a < 256) (hbb : 0 ≤ b ∧ b < 256) (hl : r.length + 14 ≤ 1600)
    (k : ∀ S' A y, Fra [] S S' → WF S' → S.next ≤ A → A < S'.next → (y = none ∨ y = some 1) → S'.heap.get A = some (.cells y false r) → Φ (.tuple ⟨[.agg ⟨[x0, x1, x2, x3, x4, x5, x6, x7, x8, x9, x10, x11, .int .u16 (a * 256 + b)]⟩, .slice (some ⟨A, 0, none⟩) r.length r.length, i64 0]⟩) S') : wp (callN T (n + 1 + 1) (.fn 11) [v]) Φ S := by
  obtain ⟨y0, rfl⟩ := hb x0 (by simp)
  obtain ⟨y1, rfl⟩ := hb x1 (by simp)
  obtain ⟨y2, rfl⟩ := hb x2 (by simp)
  obtain ⟨y3, rfl⟩ := hb x3 (by simp)
  obtain ⟨y4, rfl⟩ := hb x4 (by simp)
  obtain ⟨y5, rfl⟩ := hb x5 (by simp)
  obtain ⟨y6, rfl⟩ := hb x6 (by simp)
  obtain ⟨y7, rfl⟩ := hb x7 (by simp)
  obtain ⟨y8, rfl⟩ := hb x8 (by simp)
  obtain ⟨y9, rfl⟩ := hb x9 (by simp)
  obtain ⟨y10, rfl⟩ := hb x10 (by simp)
  obtain ⟨y11, rfl⟩ := hb x11 (by simp)
  refine c11 g11 ?_
  unfold P11
  have hlen := h.len
  have e1 : decide ((((u8 y0 :: u8 y1 :: u8 y2 :: u8 y3 :: u8 y4 :: u8 y5 :: u8 y6 :: u8 y7 :: u8 y8 :: u8 y9 :: u8 y10 :: u8 y11 :: u8 a :: u8 b :: r).length : Nat) : Int) > 1600) = false := by
    rw [decide_eq_false_iff_not]; simp only [List.length_cons]; omega
  have e2 : decide ((((u8 y0 :: u8 y1 :: u8 y2 :: u8 y3 :: u8 y4 :: u8 y5 :: u8 y6 :: u8 y7 :: u8 y8 :: u8 y9 :: u8 y10 :: u8 y11 :: u8 a :: u8 b :: r).length : Nat) : Int) < 14) = false := by
    rw [decide_eq_false_iff_not]; simp only [List.length_cons]; omega
  have hW1 := hW.add (.cells none false [u8 0, u8 0, u8 0, u8 0, u8 0, u8 0, u8 0, u8 0, u8 0, u8 0, u8 0, u8 0, .int .u16 0])
  have h1 := h.fra ((Fra.refl [] S).add (.cells none false [u8 0, u8 0, u8 0, u8 0, u8 0, u8 0, u8 0, u8 0, u8 0, u8 0, u8 0, u8 0, .int .u16 0])) (by simp)
  have hg1 := add_at S (.cells none false [u8 0, u8 0, u8 0, u8 0, u8 0, u8 0, u8 0, u8 0, u8 0, u8 0, u8 0, u8 0, .int .u16 0])
  simp only [↓P_alloc, ↓hlen, ↓P_gtr, ↓P_lss, e1, e2, ↓ifP_bool, ifB_false]
  have hF1 := (Fra.refl [] S).add (.cells none false [u8 0, u8 0, u8 0, u8 0, u8 0, u8 0, u8 0, u8 0, u8 0, u8 0, u8 0, u8 0, .int .u16 0])
  have n1 : (S.add (.cells none false [u8 0, u8 0, u8 0, u8 0, u8 0, u8 0, u8 0, u8 0, u8 0, u8 0, u8 0, u8 0, .int .u16 0])).next = S.next + 1 := rfl
  generalize S.add (.cells none false [u8 0, u8 0, u8 0, u8 0, u8 0, u8 0, u8 0, u8 0, u8 0, u8 0, u8 0, u8 0, .int .u16 0]) = S1 at hW1 h1 hg1 hF1 n1 ⊢
  clear h e1 e2 hlen
  obtain ⟨L, hL⟩ : ∃ L, L = (u8 y0 :: u8 y1 :: u8 y2 :: u8 y3 :: u8 y4 :: u8 y5 :: u8 y6 :: u8 y7 :: u8 y8 :: u8 y9 :: u8 y10 :: u8 y11 :: u8 a :: u8 b :: r) := ⟨_, rfl⟩
  have hLl : L.length = r.length + 14 := by rw [hL]; simp
  rw [← hL] at h1
  have h1' := h1
  rcases h1 with ⟨hn, _⟩ | ⟨B, o, c, cs, rfl, rfl, hc, hB, hg, ht, hle⟩
  · rw [hn] at hLl; simp at hLl
  have hrd := rd_of hg
  have hd : cs.drop o = L ++ (cs.drop o).drop L.length := by
    conv => lhs; rw [← List.take_append_drop L.length (cs.drop o), ht]
  have t6 : (cs.drop o).take 6 = [u8 y0, u8 y1, u8 y2, u8 y3, u8 y4, u8 y5] := by rw [hd, hL]; rfl
  have t66 : (cs.drop (o + 6)).take 6 = [u8 y6, u8 y7, u8 y8, u8 y9, u8 y10, u8 y11] := by rw [← List.drop_drop, hd, hL]; rfl
  have t12 : cs[o + 12]? = some (u8 a) := by rw [← List.getElem?_drop, hd, hL]; rfl
  have t13 : cs[o + 13]? = some (u8 b) := by rw [← List.getElem?_drop, hd, hL]; rfl
  have c6 : slcR 1 B o 0 6 L.length c = .slice (some ⟨B, o + 6, none⟩) (L.length - 6) (c - 6) := by
    unfold slcR; rw [if_neg (by omega)]
  rw [P_ixA, condP_of (by omega)]
  rw [D_loadN, hrd, condP_of (by omega)]
  simp only [Nat.mul_zero, Nat.add_zero, t6]
  refine D_slc hW1 hg (K := 6) (by omega) hc fun q hq => ?_
  rw [c6, P_ixA, condP_of (by omega)]
  rw [D_loadN, hrd, condP_of (by omega)]
  simp only [Nat.mul_zero, Nat.add_zero, t66]
  rw [P_ixA, condP_of (by omega), D_load1, hrd]
  simp (maxSteps := 100000000) (disch := first | omega | (simp only [Hp.add_next, Hp.put_next]; done) | (simp only [Hp.add_next, Hp.put_next]; omega) | fail) only [↓P_build, ↓P_cellN, ↓D_load1, ↓P_store, ↓P_ixA, ↓P_slc, ↓P_convU16, optP_some, condP_of, bnds_l, List.length_cons, List.length_nil, Nat.zero_add, Nat.reduceAdd, Nat.reduceLeDiff, List.drop_zero, and_self, and_true, if_true, fillA, Atom.ev, setAll, List.set_cons_zero, List.set_cons_succ, List.size_toArray, splice_z, cells_agg, cells_int, Int.reduceToNat, t12, t13, hrd, Nat.mul_one, ↓P_shl8 ha.1 ha.2, ↓P_or16 ha.1 ha.2 hbb.1 hbb.2]
  refine D_alloc _ _ _ _ _ ?_
  have hnew := add_at S1 (.cells none false [u8 0, u8 0, u8 0, u8 0, u8 0, u8 0, u8 0, u8 0, u8 0, u8 0, u8 0, u8 0, .int .u16 0])
  have h2 := h1'.fra ((Fra.refl [] S1).add (.cells none false [u8 0, u8 0, u8 0, u8 0, u8 0, u8 0, u8 0, u8 0, u8 0, u8 0, u8 0, u8 0, .int .u16 0])) (by simp)
  have hF2 := hF1.add (.cells none false [u8 0, u8 0, u8 0, u8 0, u8 0, u8 0, u8 0, u8 0, u8 0, u8 0, u8 0, u8 0, .int .u16 0])
  have hW2 := hW1.add (.cells none false [u8 0, u8 0, u8 0, u8 0, u8 0, u8 0, u8 0, u8 0, u8 0, u8 0, u8 0, u8 0, .int .u16 0])
  have n2 : (S1.add (.cells none false [u8 0, u8 0, u8 0, u8 0, u8 0, u8 0, u8 0, u8 0, u8 0, u8 0, u8 0, u8 0, .int .u16 0])).next = S1.next + 1 := rfl
  have hg2 : (S1.add (.cells none false [u8 0, u8 0, u8 0, u8 0, u8 0, u8 0, u8 0, u8 0, u8 0, u8 0, u8 0, u8 0, .int .u16 0])).heap.get S.next = _ := (add_off (by omega) _).trans hg1
  have hB2 : (S1.add (.cells none false [u8 0, u8 0, u8 0, u8 0, u8 0, u8 0, u8 0, u8 0, u8 0, u8 0, u8 0, u8 0, .int .u16 0])).heap.get B = S1.heap.get B := add_off (by omega) _
  generalize S1.add (.cells none false [u8 0, u8 0, u8 0, u8 0, u8 0, u8 0, u8 0, u8 0, u8 0, u8 0, u8 0, u8 0, .int .u16 0]) = S2 at hnew h2 hF2 hW2 n2 hg2 hB2 ⊢
  simp (maxSteps := 100000000) (disch := first | omega | (simp only [Hp.add_next, Hp.put_next]; done) | (simp only [Hp.add_next, Hp.put_next]; omega) | fail) only [↓D_loadN, ↓P_store, blkP_cells, condP_of, List.length_cons, List.length_nil, Nat.zero_add, Nat.reduceAdd, Nat.reduceLeDiff, List.drop_zero, and_self, List.size_toArray, splice_z, overlay_n, overlay_c, List.all_cons, List.all_nil, one_int, cells_agg, Bool.and_self, hnew]
  have hqs : AllQ S1.next ((14, { log := [(B, false)], lo := S1.next, hi := S1.next }) :: (9, { log := [(B, false)], lo := S1.next, hi := S1.next }) :: (6, { log := [(B, false)], lo := S1.next, hi := S1.next }) :: keepT 4 q [(2, { log := [(B, false)], lo := S1.next, hi := S1.next })]) :=
    .cons (quiet_rd hB) (.cons (quiet_rd hB) (.cons (quiet_rd hB) (.keep hq (.cons (quiet_rd hB) .nil))))
  refine okP_in (apart_cons (one_newQ (Nat.le_refl _) hqs) (apart_q hqs)) ?_
  clear hqs
  have hW3 := hW2.put (b := S1.next) (by omega) (some (Blk.cells none false [u8 y0, u8 y1, u8 y2, u8 y3, u8 y4, u8 y5, u8 y6, u8 y7, u8 y8, u8 y9, u8 y10, u8 y11, .int .u16 (a * 256 + b)]))
  have hF3 := hF2.put (b := S1.next) (.inl (by omega)) (some (Blk.cells none false [u8 y0, u8 y1, u8 y2, u8 y3, u8 y4, u8 y5, u8 y6, u8 y7, u8 y8, u8 y9, u8 y10, u8 y11, .int .u16 (a * 256 + b)]))
  have h3 := h2.fra ((Fra.refl [S1.next] S2).put (b := S1.next) (.inr (by simp)) (some (Blk.cells none false [u8 y0, u8 y1, u8 y2, u8 y3, u8 y4, u8 y5, u8 y6, u8 y7, u8 y8, u8 y9, u8 y10, u8 y11, .int .u16 (a * 256 + b)]))) (by simp; omega)
  have hg3 : (S2.put S1.next (some (Blk.cells none false [u8 y0, u8 y1, u8 y2, u8 y3, u8 y4, u8 y5, u8 y6, u8 y7, u8 y8, u8 y9, u8 y10, u8 y11, .int .u16 (a * 256 + b)]))).heap.get S.next = _ := (put_off (by omega) _ _).trans hg2
  have hn3 := put_at S2 S1.next (some (Blk.cells none false [u8 y0, u8 y1, u8 y2, u8 y3, u8 y4, u8 y5, u8 y6, u8 y7, u8 y8, u8 y9, u8 y10, u8 y11, .int .u16 (a * 256 + b)]))
  have n3 : (S2.put S1.next (some (Blk.cells none false [u8 y0, u8 y1, u8 y2, u8 y3, u8 y4, u8 y5, u8 y6, u8 y7, u8 y8, u8 y9, u8 y10, u8 y11, .int .u16 (a * 256 + b)]))).next = S2.next := rfl
  have hgB : (S2.put S1.next (some (Blk.cells none false [u8 y0, u8 y1, u8 y2, u8 y3, u8 y4, u8 y5, u8 y6, u8 y7, u8 y8, u8 y9, u8 y10, u8 y11, .int .u16 (a * 256 + b)]))).heap.get B = S1.heap.get B := by
    rw [put_off (by omega)]
    exact hB2
  generalize S2.put S1.next (some (Blk.cells none false [u8 y0, u8 y1, u8 y2, u8 y3, u8 y4, u8 y5, u8 y6, u8 y7, u8 y8, u8 y9, u8 y10, u8 y11, .int .u16 (a * 256 + b)])) = S3 at hW3 hF3 h3 hg3 hn3 n3 hgB ⊢
  have hb14 : ((0 : Int) ≤ 14 ∧ (14 : Int) ≤ ((L.length : Nat) : Int)) = True := by simp only [eq_iff_iff, iff_true]; omega
  have hcut : ∀ p : Prop, cutP 1 (S3.heap.get B) p = p := by
    intro p
    rw [hgB]
    rcases hg with h | ⟨x, s, hx, h⟩
    · rw [h, cutP_ro]
    · rw [h]
      rcases hx with rfl | rfl
      · rw [cutP_none]
      · rw [cutP_some]
  simp (maxSteps := 100000000) (disch := first | omega | (simp only [Hp.add_next, Hp.put_next]; done) | (simp only [Hp.add_next, Hp.put_next]; omega) | fail) only [rdP_cells, optP_some, condP_of, List.length_cons, List.length_nil, Nat.zero_add, Nat.reduceAdd, Nat.reduceLeDiff, List.take_succ_cons, List.take_zero, and_true, if_true, List.all_cons, List.all_nil, one_int, Bool.and_self, hn3, hb14, hcut, List.take_succ_cons]
  have hB3 : B < S3.next := by omega
  have hg' : S3.heap.get B = some (.ro cs) ∨ ∃ x s, (x = none ∨ x = some 1) ∧ S3.heap.get B = some (.cells x s cs) := by rw [hgB]; exact hg
  obtain ⟨hbs, hsl⟩ := BS_slcR (S := S3) (by omega) hc hB3 hg' ht hle
  have hdr : L.drop 14 = r := by rw [hL]; rfl
  rw [hdr] at hbs
  rw [D_call 3 _ 22 (vs := [slcR 1 B o 0 14 L.length c]) rfl]
  refine D_specW (BdX.callN _ _ _ _) hW3 (W := []) (Post := fun v S' => ∃ A y, v = .slice (some ⟨A, 0, none⟩) r.length r.length ∧ S3.next ≤ A ∧ A < S'.next ∧ (y = none ∨ y = some 1) ∧ S'.heap.get A = some (.cells y false r))
    (s22 hW3 hbs hsl (fun v hv => hb v (by simp [hv])) (by omega) fun S' A y hF hW' k1 k2 k3 k4 => ⟨hF, A, y, rfl, k1, k2, k3, k4⟩) ?_
  rintro v S4 tt hF4 ⟨A, y, rfl, k1, k2, k3, k4⟩ hW4 u1 u2 u3 u4
  have hg4 := hF4.at_ (by omega) (by simp) hg3
  simp (maxSteps := 100000000) (disch := first | omega | (simp only [Hp.add_next, Hp.put_next]; done) | (simp only [Hp.add_next, Hp.put_next]; omega) | fail) only [blkP_cells, condP_of, List.length_cons, List.length_nil, Nat.zero_add, Nat.reduceAdd, Nat.reduceLeDiff, overlay_n, overlay_c, hg4]
  refine okP_in (apart_keep (one_cons (.inr (apt_read (by omega) fun hb => ?_).symm) one_nil) (apart_cons one_nil apart_nil)) ?_
  · rcases u3 _ hb with hb | hb
    · omega
    · simp at hb
  simp (maxSteps := 100000000) (disch := first | omega | (simp only [Hp.add_next, Hp.put_next]; done) | (simp only [Hp.add_next, Hp.put_next]; omega) | fail) only [rdP_cells, condP_of, put_at, List.length_cons, List.length_nil, Nat.zero_add, Nat.reduceAdd, Nat.reduceLeDiff, List.take_succ_cons, List.take_zero]
  refine k _ A y ((hF3.trans' hF4).put (.inl (Nat.le_refl _)) _) (hW4.put (by have := hF4.next; omega) _) (by omega) k2 k3 ?_
  rw [put_off (by omega)]
  exact k4
end
end Go.Proofs.YtmepokefmpcnnaaDoor.Et
