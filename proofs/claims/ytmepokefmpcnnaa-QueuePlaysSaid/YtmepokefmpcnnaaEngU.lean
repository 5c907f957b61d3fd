/- The engine, part U: frames; regions that draw; appending and copying. -/
import Derived.Test.YtmepokefmpcnnaaEngP
set_option linter.unusedSimpArgs false
set_option linter.unusedVariables false
namespace Go.Wb
variable {α β : Type} {C : Tgt → List Value → M Value} {S : Hp} {Φ : Value → Hp → Prop}

/-! ## Frames -/
/-- but for W, and for what is new, all is as it was -/
structure Fra (W : List Nat) (S S' : Hp) : Prop where
  next : S.next ≤ S'.next
  heap : ∀ b, b < S.next → b ∉ W → S'.heap.get b = S.heap.get b
  wl : ∃ ws, S'.wl = ws ++ S.wl ∧ ∀ b ∈ ws, S.next ≤ b ∨ b ∈ W
theorem Fra.refl (W : List Nat) (S : Hp) : Fra W S S := ⟨Nat.le_refl _, fun _ _ _ => rfl, [], rfl, by simp⟩
theorem Fra.put {W : List Nat} {S S1 : Hp} (h : Fra W S S1) {b : Nat} (hb : S.next ≤ b ∨ b ∈ W) (o : Option Blk) : Fra W S (S1.put b o) := by
  obtain ⟨h1, h2, ws, h3, h4⟩ := h
  refine ⟨h1, fun c hc hn => ?_, b :: ws, by rw [Hp.put_wl, h3]; rfl, fun c hc => ?_⟩
  · rw [put_off (by intro e; subst e; rcases hb with hb | hb; omega; exact hn hb)]
    exact h2 c hc hn
  · rcases List.mem_cons.1 hc with rfl | hc
    · exact hb
    · exact h4 c hc
theorem Fra.add {W : List Nat} {S S1 : Hp} (h : Fra W S S1) (o : Blk) : Fra W S (S1.add o) := by
  obtain ⟨h1, h2, h3⟩ := h
  refine ⟨by rw [Hp.add_next]; omega, fun c hc hn => ?_, h3⟩
  rw [add_off (by omega)]
  exact h2 c hc hn
theorem Fra.trans {W W1 W2 : List Nat} {S S1 S2 : Hp} (h : Fra W1 S S1) (k : Fra W2 S1 S2) (hW1 : ∀ b ∈ W1, S.next ≤ b ∨ b ∈ W) (hW2 : ∀ b ∈ W2, S.next ≤ b ∨ b ∈ W) : Fra W S S2 := by
  obtain ⟨h1, h2, ws, h3, h4⟩ := h
  obtain ⟨k1, k2, vs, k3, k4⟩ := k
  refine ⟨Nat.le_trans h1 k1, fun c hc hn => ?_, vs ++ ws, by rw [k3, h3, List.append_assoc], fun c hc => ?_⟩
  · rw [k2 c (by omega) (fun hm => (hW2 c hm).elim (fun h => by omega) hn), h2 c hc (fun hm => (hW1 c hm).elim (fun h => by omega) hn)]
  · rcases List.mem_append.1 hc with hc | hc
    · rcases k4 c hc with h | h
      · exact .inl (by omega)
      · exact hW2 c h
    · rcases h4 c hc with h | h
      · exact .inl h
      · exact hW1 c h
theorem Fra.mono {W W' : List Nat} {S S' : Hp} (h : Fra W S S') (hW : ∀ b ∈ W, S.next ≤ b ∨ b ∈ W') : Fra W' S S' := h.trans (W2 := []) (Fra.refl _ _) hW (by simp)
theorem Fra.trans' {W : List Nat} {S S1 S2 : Hp} (h : Fra W S S1) (k : Fra W S1 S2) : Fra W S S2 := h.trans k (fun b hb => .inr hb) (fun b hb => .inr hb)
theorem Fra.at_ {W : List Nat} {S S' : Hp} (h : Fra W S S') {b : Nat} (hb : b < S.next) (hn : b ∉ W) {o : Option Blk} (k : S.heap.get b = o) : S'.heap.get b = o := by rw [h.heap b hb hn, k]

/-! ## Regions that draw -/
theorem D_pure (j : Nat) (ts : List (Nat × Touch)) (v : Value) (Ψ : Value → List (Nat × Touch) → Hp → Prop) : dstepP j ts (M.pure v) Ψ S = Ψ v ts S := by
  apply propext
  have e : keepT j { log := [], lo := S.next, hi := S.next } ts = ts := by unfold keepT; simp
  constructor
  · rintro ⟨w, s', h, k⟩
    cases h
    have k' : Ψ v (keepT j { log := [], lo := S.next, hi := S.next } ts) S := k
    rw [e] at k'; exact k'
  · intro k
    refine ⟨v, S.st, rfl, ?_⟩
    show Ψ v (keepT j { log := [], lo := S.next, hi := S.next } ts) S
    rw [e]; exact k
theorem D_ld (j b o : Nat) (ts : List (Nat × Touch)) (Ψ : Value → List (Nat × Touch) → Hp → Prop) : dstepP j ts (ld1 b o) Ψ S = rdP (S.heap.get b) (fun l => optP l[o]? (fun v => Ψ v ((j, ⟨[(b, false)], S.next, S.next⟩) :: ts) S)) := by
  apply propext
  have hb : S.st.heap.get b = S.heap.get b := rfl
  constructor
  · rintro ⟨v, s', h, k⟩
    simp only [ld1, M.bind, rd, hb] at h
    cases hg : S.heap.get b with
    | none => rw [hg] at h; cases h
    | some x =>
      rw [hg] at h
      cases x with
      | loop => cases h
      | map => cases h
      | cells x s l =>
        simp only [M.lift] at h
        cases hl : l[o]? with
        | none => rw [hl] at h; cases h
        | some w => rw [hl] at h; cases h; simp only [rdP, hl, optP]; exact k
      | ro l =>
        simp only [M.lift] at h
        cases hl : l[o]? with
        | none => rw [hl] at h; cases h
        | some w => rw [hl] at h; cases h; simp only [rdP, hl, optP]; exact k
  · intro k
    cases hg : S.heap.get b with
    | none => rw [hg] at k; exact k.elim
    | some x =>
      rw [hg] at k
      cases x with
      | loop => exact k.elim
      | map => exact k.elim
      | cells x s l =>
        cases hl : l[o]? with
        | none => simp only [rdP, hl, optP] at k
        | some w =>
          simp only [rdP, hl, optP] at k
          exact ⟨w, { heap := S.heap, next := S.next, log := [(b, false)] }, by simp only [ld1, M.bind, rd, hb, hg, M.lift, hl]; rfl, k⟩
      | ro l =>
        cases hl : l[o]? with
        | none => simp only [rdP, hl, optP] at k
        | some w =>
          simp only [rdP, hl, optP] at k
          exact ⟨w, { heap := S.heap, next := S.next, log := [(b, false)] }, by simp only [ld1, M.bind, rd, hb, hg, M.lift, hl]; rfl, k⟩
theorem D_lds (j b o n : Nat) (ts : List (Nat × Touch)) (g : List Value → Value) (Ψ : Value → List (Nat × Touch) → Hp → Prop) : dstepP j ts ((ldCells b o n).bind fun c => M.pure (g c)) Ψ S = rdP (S.heap.get b) (fun l => condP (o + n ≤ l.length) (Ψ (g ((l.drop o).take n)) ((j, ⟨[(b, false)], S.next, S.next⟩) :: ts) S)) := by
  apply propext
  have hb : S.st.heap.get b = S.heap.get b := rfl
  constructor
  · rintro ⟨v, s', h, k⟩
    simp only [ldCells, M.bind, rd, hb] at h
    cases hg : S.heap.get b with
    | none => rw [hg] at h; cases h
    | some x =>
      rw [hg] at h
      cases x with
      | loop => cases h
      | map => cases h
      | cells x s l =>
        by_cases hl : o + n ≤ l.length
        · simp only [if_pos hl, M.pure] at h; cases h; exact ⟨hl, k⟩
        · simp only [if_neg hl, M.fail] at h; cases h
      | ro l =>
        by_cases hl : o + n ≤ l.length
        · simp only [if_pos hl, M.pure] at h; cases h; exact ⟨hl, k⟩
        · simp only [if_neg hl, M.fail] at h; cases h
  · intro k
    cases hg : S.heap.get b with
    | none => rw [hg] at k; exact k.elim
    | some x =>
      rw [hg] at k
      cases x with
      | loop => exact k.elim
      | map => exact k.elim
      | cells x s l => exact ⟨g ((l.drop o).take n), { heap := S.heap, next := S.next, log := [(b, false)] }, by simp only [ldCells, M.bind, rd, hb, hg, if_pos k.1, M.pure]; rfl, k.2⟩
      | ro l => exact ⟨g ((l.drop o).take n), { heap := S.heap, next := S.next, log := [(b, false)] }, by simp only [ldCells, M.bind, rd, hb, hg, if_pos k.1, M.pure]; rfl, k.2⟩
theorem D_load1 (j b o : Nat) (x : Option Nat) (ts : List (Nat × Touch)) (Ψ : Value → List (Nat × Touch) → Hp → Prop) : dstepP j ts (X C (.load .one (.const (.pointer (some ⟨b, o, x⟩))))) Ψ S = rdP (S.heap.get b) (fun l => optP l[o]? (fun v => Ψ v ((j, ⟨[(b, false)], S.next, S.next⟩) :: ts) S)) := by
  rw [X_load1, D_ld]
theorem D_loadN (j n b o : Nat) (x : Option Nat) (ts : List (Nat × Touch)) (Ψ : Value → List (Nat × Touch) → Hp → Prop) : dstepP j ts (X C (.load (.agg n) (.const (.pointer (some ⟨b, o, x⟩))))) Ψ S = rdP (S.heap.get b) (fun l => condP (o + n ≤ l.length) (Ψ (.agg ⟨(l.drop o).take n⟩) ((j, ⟨[(b, false)], S.next, S.next⟩) :: ts) S)) := by
  rw [X_loadN]
  exact D_lds j b o n ts (fun c => .agg ⟨c⟩) Ψ
theorem dstepP_of_eq {j : Nat} {ts : List (Nat × Touch)} {m m' : M Value} (h : m = m') (Ψ : Value → List (Nat × Touch) → Hp → Prop) : dstepP j ts m Ψ S = dstepP j ts m' Ψ S := by rw [h]
theorem D_call (j : Nat) (ts : List (Nat × Touch)) (f : FuncId) {args : List Atom} {vs : List Value} (h : evs .leaf args = some vs) (Ψ : Value → List (Nat × Touch) → Hp → Prop) : dstepP j ts (X C (.call (.const (.func (.func f) ⟨[]⟩ ⟨[]⟩)) args)) Ψ S = dstepP j ts (C (.fn f) vs) Ψ S := by rw [X_call f args vs h]
theorem D_callF (j : Nat) (ts : List (Nat × Touch)) (f : FuncId) (a c : List Value) {args : List Atom} {vs : List Value} (h : evs .leaf args = some vs) (Ψ : Value → List (Nat × Touch) → Hp → Prop) : dstepP j ts (X C (.call (.const (.func (.func f) ⟨a⟩ ⟨c⟩)) args)) Ψ S = dstepP j ts (C (.fn f) (a ++ vs ++ c)) Ψ S := by rw [X_callF f a c args vs h]
/-- something that is known by what it brings, and by its frame -/
theorem D_spec {j : Nat} {ts : List (Nat × Touch)} {m : M Value} {W : List Nat} {Post : Value → Hp → Prop} {Ψ : Value → List (Nat × Touch) → Hp → Prop} (h : wp m (fun v S' => Fra W S S' ∧ Post v S') S)
    (k : ∀ v S' t, Fra W S S' → Post v S' → t.lo = S.next → t.hi = S'.next → (∀ b, (b, true) ∈ t.log → S.next ≤ b ∨ b ∈ W) → Ψ v (keepT j t ts) S') : dstepP j ts m Ψ S := by
  obtain ⟨v, s', h1, h2, h3⟩ := h
  refine ⟨v, s', h1, k v _ _ h2 h3 rfl rfl fun b hb => ?_⟩
  obtain ⟨ws, h4, h5⟩ := h2.wl
  have : wrs s'.log = ws := List.append_cancel_right h4
  exact h5 b (this ▸ wrs_mem hb)
theorem okP_in {b : Bool} {x : Hp → Prop} (h : b = true) (k : x S) : okP b x S := by subst h; exact k
theorem apart_keep {ms : List Nat} {j : Nat} {t : Touch} {ts : List (Nat × Touch)} (h1 : apartOne (ms.getD j 0) t ts = true) (h2 : apartAll ms ts = true) : apartAll ms (keepT j t ts) = true := by
  rcases keepT_or (j := j) (t := t) (ts := ts) with h | ⟨h, _⟩
  · rw [h]; simp only [apartAll, h1, h2, Bool.and_self]
  · rw [h]; exact h2
theorem apart_cons {ms : List Nat} {j : Nat} {t : Touch} {ts : List (Nat × Touch)} (h1 : apartOne (ms.getD j 0) t ts = true) (h2 : apartAll ms ts = true) : apartAll ms ((j, t) :: ts) = true := by
  simp only [apartAll, h1, h2, Bool.and_self]
theorem apart_nil {ms : List Nat} : apartAll ms [] = true := id rfl
theorem one_nil {m : Nat} {t : Touch} : apartOne m t [] = true := id rfl
def apt (a b : Touch) : Prop := hits a b = false ∧ hits b a = false
theorem one_cons {m i : Nat} {t u : Touch} {ts : List (Nat × Touch)} (h1 : m.testBit i = true ∨ apt t u) (h2 : apartOne m t ts = true) : apartOne m t ((i, u) :: ts) = true := by
  simp only [apartOne, h2, Bool.and_true, Bool.or_eq_true, Bool.and_eq_true, Bool.not_eq_true']
  exact h1
theorem one_keep {m i : Nat} {t u : Touch} {ts : List (Nat × Touch)} (h1 : m.testBit i = true ∨ apt t u) (h2 : apartOne m t ts = true) : apartOne m t (keepT i u ts) = true := by
  rcases keepT_or (j := i) (t := u) (ts := ts) with h | ⟨h, _⟩
  · rw [h]; exact one_cons h1 h2
  · rw [h]; exact h2
theorem apt.symm {a b : Touch} (h : apt a b) : apt b a := ⟨h.2, h.1⟩
/-- a read, and something that does not write there -/
theorem apt_read {b n : Nat} {t : Touch} (hb : b < t.lo) (hw : (b, true) ∉ t.log) : apt ⟨[(b, false)], n, n⟩ t := by
  constructor
  · unfold hits
    simp only [List.any_cons, List.any_nil, Bool.or_false]
    have h1 : Nat.ble t.lo b = false := by rw [Bool.eq_false_iff]; intro c; have := Nat.le_of_ble_eq_true c; omega
    rw [h1, Bool.false_and, Bool.false_or, List.any_eq_false]
    rintro ⟨x, c⟩ hy
    cases c with
    | false => simp
    | true => simp only [Bool.or_true, Bool.and_true, Bool.not_eq_true]; rw [Bool.eq_false_iff]; intro h2; have := Nat.eq_of_beq_eq_true h2; subst this; exact hw hy
  · unfold hits
    rw [List.any_eq_false]
    rintro ⟨x, c⟩ hx
    have h1 : (Nat.ble n x && Nat.blt x n) = false := by
      cases h : Nat.ble n x with
      | false => rfl
      | true =>
        cases h2 : Nat.blt x n with
        | false => rfl
        | true => have := Nat.le_of_ble_eq_true h; have h3 : x + 1 ≤ n := Nat.le_of_ble_eq_true h2; omega
    simp only [h1, Bool.false_or, List.any_cons, List.any_nil, Bool.or_false, Bool.not_eq_true]
    cases c with
    | false => simp
    | true => rw [Bool.and_true, Bool.eq_false_iff]; intro h2; have := Nat.eq_of_beq_eq_true h2; subst this; exact hw hx
theorem apt_reads {b c n m : Nat} : apt ⟨[(b, false)], n, n⟩ ⟨[(c, false)], m, m⟩ := ⟨hits_quiet ⟨rfl, by simp⟩ ⟨rfl, by simp⟩, hits_quiet ⟨rfl, by simp⟩ ⟨rfl, by simp⟩⟩

/-! ## Copying and appending -/
theorem W_firstN (size n b o : Nat) (x : Option Nat) (l c : Nat) (Ψ : List Value → Hp → Prop) : wp (firstN size n (.slice (some ⟨b, o, x⟩) l c)) Ψ S = rdP (S.heap.get b) (fun q => condP (o + n * size ≤ q.length) (Ψ ((q.drop o).take (n * size)) S)) := wp_ldCells b o (n * size) Ψ
theorem W_firstN0 (size n l c : Nat) (Ψ : List Value → Hp → Prop) : wp (firstN size n (.slice none l c)) Ψ S = Ψ [] S := wp_pure [] Ψ S
theorem W_firstNE (size : Nat) (Ψ : List Value → Hp → Prop) : wp (firstN size 0 (.chan none)) Ψ S = Ψ [] S := by
  have : firstN size 0 (.chan none) = M.pure [] := by simp [firstN]
  rw [this, wp_pure]
theorem W_firstNS (n : Nat) (s : ByteArray) (Ψ : List Value → Hp → Prop) : wp (firstN 1 n (.string s)) Ψ S = Ψ ((s.data.toList.take n).map fun b => .int .u8 b.toNat) S := by
  have : firstN 1 n (.string s) = M.pure ((s.data.toList.take n).map fun b => .int .u8 b.toNat) := by simp [firstN]
  rw [this, wp_pure]
theorem lg_copy (size n b o : Nat) (s : Value) (dl : Nat) : Lg ((firstN size n s).bind fun cs => (stCells b o cs).bind fun _ => M.pure (.int .i64 (dl : Nat) : Value)) := Lg.bind (Lg.firstN _ _ _) fun _ => Lg.bind (Lg.stCells _ _ _) fun _ => Lg.pure _
theorem P_copy (size b o : Nat) (dl dc : Nat) {s : Value} {sl : Nat} (hs : lenOf s = some sl) : wp (X C (.copy size (.const (.slice (some ⟨b, o, none⟩) dl dc)) (.const s))) Φ S =
    wp (firstN size (Min.min sl dl) s) (fun cs S => wp (stCells b o cs) (fun _ S => Φ (.int .i64 (Min.min sl dl : Nat)) S) S) S := by
  have e : X C (.copy size (.const (.slice (some ⟨b, o, none⟩) dl dc)) (.const s)) = (firstN size (Min.min sl dl) s).bind fun cs => (stCells b o cs).bind fun _ => M.pure (.int .i64 (Min.min sl dl : Nat)) := by
    funext S
    simp only [X, exec, M.bind, M.lift, Atom.ev, hs]
  rw [e, wp_bind (Lg.firstN _ _ _) (fun _ => Lg.bind (Lg.stCells _ _ _) fun _ => Lg.pure _)]
  congr 1
  funext cs S
  rw [wp_bind (Lg.stCells _ _ _) (fun _ => Lg.pure _)]
  simp only [wp_pure]
theorem X_app (size bytes : Nat) (t : TypeId) (s x : Value) : X C (.app size bytes t (.const s) (.const x)) = appendA size bytes s x := by
  funext S
  simp only [X, exec, M.bind, M.lift, Atom.ev]
  cases appendA size bytes s x S <;> rfl
theorem P_app_fit (size bytes : Nat) (t : TypeId) (b o sl sc : Nat) {x : Value} {n : Nat} (hx : lenOf x = some n) (h : sl + n ≤ sc) : wp (X C (.app size bytes t (.const (.slice (some ⟨b, o, none⟩) sl sc)) (.const x))) Φ S =
    wp (firstN size n x) (fun new S => wp (stCells b (o + sl * size) new) (fun _ S => Φ (.slice (some ⟨b, o, none⟩) (sl + n) sc) S) S) S := by
  have e : appendA size bytes (.slice (some ⟨b, o, none⟩) sl sc) x = (firstN size n x).bind fun new => (stCells b (o + sl * size) new).bind fun _ => M.pure (.slice (some ⟨b, o, none⟩) (sl + n) sc) := by
    funext S
    simp only [appendA, hx, M.bind, M.lift, if_pos h, putA]
  rw [X_app, e, wp_bind (Lg.firstN _ _ _) (fun _ => Lg.bind (Lg.stCells _ _ _) fun _ => Lg.pure _)]
  congr 1
  funext cs S
  rw [wp_bind (Lg.stCells _ _ _) (fun _ => Lg.pure _)]
  simp only [wp_pure]
theorem P_app_nil0 (size bytes : Nat) (t : TypeId) {x : Value} (hx : lenOf x = some 0) : wp (X C (.app size bytes t (.const (.slice none 0 0)) (.const x))) Φ S = wp (firstN size 0 x) (fun _ S => Φ (.slice none 0 0) S) S := by
  have e : appendA size bytes (.slice none 0 0) x = (firstN size 0 x).bind fun _ => M.pure (.slice none 0 0) := by
    funext S
    simp only [appendA, hx, M.bind, M.lift, putA, Nat.add_zero, Nat.le_refl, if_true]
  rw [X_app, e, wp_bind (Lg.firstN _ _ _) (fun _ => Lg.pure _)]
  simp only [wp_pure]
/-- a new block for what grows -/
theorem P_app_nil (size bytes : Nat) (t : TypeId) {x : Value} {n : Nat} (hx : lenOf x = some n) (hn : 0 < n) (hok : 2 * (n * bytes) ≤ 281474976710656 ∧ bytes ≠ 0 ∧ size ≠ 0) : wp (X C (.app size bytes t (.const (.slice none 0 0)) (.const x))) Φ S =
    wp (firstN size n x) (fun new S => condP (new.all (·.oneCell') = true) (Φ (.slice (some ⟨S.next, 0, none⟩) n n) (S.add (.cells (some size) false new)))) S := by
  have e : appendA size bytes (.slice none 0 0) x = (firstN size n x).bind fun new => if new.all (·.oneCell') = true then (nw (.cells (some size) false new)).bind fun nb => M.pure (.slice (some ⟨nb, 0, none⟩) n n) else M.fail := by
    funext S
    have h1 : ¬ 0 + n ≤ 0 := by omega
    have h2 : 2 * ((0 + n) * bytes) ≤ 281474976710656 ∧ bytes ≠ 0 ∧ size ≠ 0 := by rw [Nat.zero_add]; exact hok
    simp only [appendA, hx, M.bind, M.lift, if_neg h1, growA, if_pos h2, and_self, if_true]
  have lg : ∀ new : List Value, Lg (if new.all (·.oneCell') = true then (nw (.cells (some size) false new)).bind fun nb => M.pure (.slice (some ⟨nb, 0, none⟩) n n : Value) else M.fail) := fun new => Lg.ite (Lg.bind (Lg.nw _) fun _ => Lg.pure _) Lg.fail
  rw [X_app, e, wp_bind (Lg.firstN _ _ _) lg]
  congr 1
  funext new S
  by_cases h : new.all (·.oneCell') = true
  · rw [if_pos h, wp_nwp]; simp only [condP, h, true_and]
  · rw [if_neg h, wp_fail]; exact propext ⟨False.elim, fun k => h k.1⟩
theorem P_app_own (size bytes : Nat) (t : TypeId) (b o sl sc : Nat) {x : Value} {n : Nat} (hx : lenOf x = some n) (hn : sc < sl + n) (hok : 2 * ((sl + n) * bytes) ≤ 281474976710656 ∧ bytes ≠ 0 ∧ size ≠ 0) {s : Bool} {c : List Value} (hb : S.heap.get b = some (.cells none s c)) (hc : o + sl * size ≤ c.length)
    {new : List Value} (hf : ∀ Ψ : List Value → Hp → Prop, wp (firstN size n x) Ψ S = Ψ new S) (hnew : new.all (·.oneCell') = true) : wp (X C (.app size bytes t (.const (.slice (some ⟨b, o, none⟩) sl sc)) (.const x))) Φ S =
    Φ (.slice (some ⟨S.next, 0, none⟩) (sl + n) (sl + n)) (S.add (.cells (some size) false ((c.drop o).take (sl * size) ++ new))) := by
  have h1 : ¬ sl + n ≤ sc := by omega
  have e : appendA size bytes (.slice (some ⟨b, o, none⟩) sl sc) x = growA size bytes (some ⟨b, o, none⟩) sl sc n (firstN size n x) := by
    funext S
    simp only [appendA, hx, M.bind, M.lift, if_neg h1]
  rw [X_app, e]
  unfold growA
  rw [if_pos hok, wp_bind (Lg.firstN _ _ _) (fun new => Lg.ite (by
    refine Lg.bind (Lg.rd _) fun o => ?_
    cases o with
    | loop => exact Lg.fail
    | map => exact Lg.fail
    | ro => exact Lg.fail
    | cells x t c =>
      refine Lg.ite ?_ Lg.fail
      cases x with
      | none => exact Lg.bind (Lg.nw _) fun _ => Lg.pure _
      | some z => exact Lg.ite (Lg.bind (Lg.wr _ _) fun _ => Lg.bind (Lg.nw _) fun _ => Lg.pure _) Lg.fail) Lg.fail), hf, if_pos hnew]
  dsimp only
  rw [wp_bind (Lg.rd _) (fun o => by
    cases o with
    | loop => exact Lg.fail
    | map => exact Lg.fail
    | ro => exact Lg.fail
    | cells x t c =>
      refine Lg.ite ?_ Lg.fail
      cases x with
      | none => exact Lg.bind (Lg.nw _) fun _ => Lg.pure _
      | some z => exact Lg.ite (Lg.bind (Lg.wr _ _) fun _ => Lg.bind (Lg.nw _) fun _ => Lg.pure _) Lg.fail), wp_rd, hb, optP_some]
  dsimp only
  rw [if_pos hc, wp_nwp]
theorem P_app_ext (size bytes : Nat) (t : TypeId) (b o sl sc : Nat) {x : Value} {n : Nat} (hx : lenOf x = some n) (hn : sc < sl + n) (hok : 2 * ((sl + n) * bytes) ≤ 281474976710656 ∧ bytes ≠ 0 ∧ size ≠ 0) {s : Bool} {c : List Value} (hb : S.heap.get b = some (.cells (some size) s c)) (hc : o + sl * size ≤ c.length)
    {new : List Value} (hf : ∀ Ψ : List Value → Hp → Prop, wp (firstN size n x) Ψ S = Ψ new S) (hnew : new.all (·.oneCell') = true) : wp (X C (.app size bytes t (.const (.slice (some ⟨b, o, none⟩) sl sc)) (.const x))) Φ S =
    Φ (.slice (some ⟨S.next, 0, none⟩) (sl + n) (sl + n)) ((S.put b none).add (.cells (some size) s ((c.drop o).take (sl * size) ++ new))) := by
  have h1 : ¬ sl + n ≤ sc := by omega
  have e : appendA size bytes (.slice (some ⟨b, o, none⟩) sl sc) x = growA size bytes (some ⟨b, o, none⟩) sl sc n (firstN size n x) := by
    funext S
    simp only [appendA, hx, M.bind, M.lift, if_neg h1]
  rw [X_app, e]
  unfold growA
  rw [if_pos hok, wp_bind (Lg.firstN _ _ _) (fun new => Lg.ite (by
    refine Lg.bind (Lg.rd _) fun o => ?_
    cases o with
    | loop => exact Lg.fail
    | map => exact Lg.fail
    | ro => exact Lg.fail
    | cells x t c =>
      refine Lg.ite ?_ Lg.fail
      cases x with
      | none => exact Lg.bind (Lg.nw _) fun _ => Lg.pure _
      | some z => exact Lg.ite (Lg.bind (Lg.wr _ _) fun _ => Lg.bind (Lg.nw _) fun _ => Lg.pure _) Lg.fail) Lg.fail), hf, if_pos hnew]
  dsimp only
  rw [wp_bind (Lg.rd _) (fun o => by
    cases o with
    | loop => exact Lg.fail
    | map => exact Lg.fail
    | ro => exact Lg.fail
    | cells x t c =>
      refine Lg.ite ?_ Lg.fail
      cases x with
      | none => exact Lg.bind (Lg.nw _) fun _ => Lg.pure _
      | some z => exact Lg.ite (Lg.bind (Lg.wr _ _) fun _ => Lg.bind (Lg.nw _) fun _ => Lg.pure _) Lg.fail), wp_rd, hb, optP_some]
  dsimp only
  rw [if_pos hc, if_pos rfl, wp_bind (Lg.wr _ _) (fun _ => Lg.bind (Lg.nw _) fun _ => Lg.pure _), wp_wr, wp_nwp]
  rfl

/-! ## Ranges over functions -/
theorem R_range (ps : List Nat) (as bd : ACode) (f : FuncId) (a c : List Value) (env : Env) (kN : Hp → Prop) (kX : Ext → Hp → Prop) : rangeP C ps as bd (some (.func (.func f) ⟨a⟩ ⟨c⟩)) env kN kX S =
    ∀ e', Le env e' → wp (C (.fn f) (a ++ [.func (.yield S.next) #[] #[]] ++ c)) (fun _ S2 => ∃ ps' as' bd' e2 p, S2.heap.get S.next = some (.loop ps' as' bd' e2 p) ∧ (match p with | none => kN (S2.put S.next none) | some x => kX x (S2.put S.next none))) (S.add (.loop ps as bd e' none)) := id rfl
end Go.Wb
