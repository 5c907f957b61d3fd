/- The engine, part Q4: the quick evaluator's memory. -/
import Derived.Test.YtmepokefmpcnnaaEngQ3
set_option linter.unusedSimpArgs false
set_option linter.unusedVariables false
set_option autoImplicit false
namespace Go.Wb.Q

/-! ## What stands for what -/
inductive BRel : QB → Blk → Prop
  | cells {x : Option Nat} {s : Bool} {len : Nat} {t : Tr Value} {c : List Value} : len = c.length → (∀ i, i < len → t.get i = c[i]?) → BRel (.cells x s len t) (.cells x s c)
  | loop {ps : List Nat} {as bd : ACode} {e : QE} {e' : Env} {p : Option Ext} : ERel e e' → BRel (.loop ps as bd e p) (.loop ps as bd e' p)
  | map {es : List MEnt} {cl : Nat} : BRel (.map es cl) (.map es cl)
structure SRel (q : QS) (S : St) : Prop where
  heap : ∀ b o, q.h.get b = some o → ∃ o', S.heap.get b = some o' ∧ BRel o o'
  next : q.n = S.next
  log : q.lg = S.log
/-- a computation with what comes behind: if it comes to true, so the evaluator's one succeeds -/
def Ok {α : Type} (q : (α → QS → Bool) → Bool) (m : M α) (S : St) : Prop := ∀ c, q c = true → ∃ a S' S2, m S = some (a, S') ∧ SRel S2 S' ∧ c a S2 = true

theorem Ok.bind {α β : Type} {q : (α → QS → Bool) → Bool} {m : M α} {S : St} {f : α → M β} {g : α → QS → (β → QS → Bool) → Bool} (h : Ok q m S) (k : ∀ a S1 S2, m S = some (a, S1) → SRel S2 S1 → Ok (g a S2) (f a) S1) :
    Ok (fun c => q fun a S2 => g a S2 c) (m.bind f) S := by
  intro c hc
  obtain ⟨a, S1, S2, h1, h2, h3⟩ := h _ hc
  obtain ⟨b, S3, S4, k1, k2, k3⟩ := k a S1 S2 h1 h2 c h3
  exact ⟨b, S3, S4, by simp [M.bind, h1, k1], k2, k3⟩
theorem Ok.mono {α : Type} {q q' : (α → QS → Bool) → Bool} {m : M α} {S : St} (h : Ok q m S) (k : ∀ c, q' c = true → q c = true) : Ok q' m S := fun c hc => h c (k c hc)
theorem Ok.val {α : Type} {m : M α} {S S' : St} {S2 : QS} {a : α} {q : (α → QS → Bool) → Bool} (h : m S = some (a, S')) (hr : SRel S2 S') (hq : ∀ c, q c = true → c a S2 = true) : Ok q m S := fun c hc => ⟨a, S', S2, h, hr, hq c hc⟩

/-! ## The small parts -/
theorem bB_true {x : OV} {f : Value → Bool} : bB x f = true ↔ ∃ v, x = some v ∧ f v = true := by cases x <;> simp [bB]
theorem bLB_true {x : Option (List Value)} {f : List Value → Bool} : bLB x f = true ↔ ∃ v, x = some v ∧ f v = true := by cases x <;> simp [bLB]
theorem bQ_true {x : Option QB} {f : QB → Bool} : bQ x f = true ↔ ∃ v, x = some v ∧ f v = true := by cases x <;> simp [bQ]
theorem bO_some {x : OV} {f : Value → OV} {w : Value} : bO x f = some w ↔ ∃ v, x = some v ∧ f v = some w := by cases x <;> simp [bO]
theorem bL_some {x : Option (List Value)} {f : List Value → OV} {w : Value} : bL x f = some w ↔ ∃ v, x = some v ∧ f v = some w := by cases x <;> simp [bL]
theorem thenB_true {b x : Bool} : thenB b x = true ↔ b = true ∧ x = true := by cases b <;> simp [thenB]
theorem thenO_some {b : Bool} {x : OV} {v : Value} : thenO b x = some v ↔ b = true ∧ x = some v := by cases b <;> simp [thenO]
theorem ifB_eq (b x y : Bool) : ifB b x y = if b then x else y := by cases b <;> rfl
theorem ifO_eq (b : Bool) (x y : OV) : ifO b x y = if b then x else y := by cases b <;> rfl
theorem fin_true {S : QS} {c : KV} {r : OV} : fin S c r = true ↔ ∃ v, r = some v ∧ c v S = true := by unfold fin; exact bB_true
theorem eS_eq (f : HP → Nat → LG → Bool) (S : QS) : eS f S = f S.h S.n S.lg := by cases S; rfl
theorem eCells_true {o : QB} {f : KC} : eCells o f = true ↔ ∃ x s n t, o = .cells x s n t ∧ f x s n t = true := by
  cases o with
  | cells x s n t => exact ⟨fun h => ⟨x, s, n, t, rfl, h⟩, fun ⟨_, _, _, _, e, h⟩ => by cases e; exact h⟩
  | loop => exact ⟨fun h => (by cases h), fun ⟨_, _, _, _, e, _⟩ => by cases e⟩
  | map => exact ⟨fun h => (by cases h), fun ⟨_, _, _, _, e, _⟩ => by cases e⟩
theorem atC_true {h : HP} {b : Nat} {f : KC} : atC h b f = true ↔ ∃ x s n t, h.get b = some (.cells x s n t) ∧ f x s n t = true := by
  unfold atC
  rw [bQ_true, getQ_eq]
  constructor
  · rintro ⟨o, h1, h2⟩
    obtain ⟨x, s, n, t, rfl, h3⟩ := eCells_true.1 h2
    exact ⟨x, s, n, t, h1, h3⟩
  · rintro ⟨x, s, n, t, h1, h3⟩
    exact ⟨_, h1, h3⟩
theorem eBoolB_true {v : Value} {f : Bool → Bool} : eBoolB v f = true ↔ ∃ b, v = .bool b ∧ f b = true := by cases v <;> simp [eBoolB]
theorem eStrB_true {v : Value} {f : ByteArray → Bool} : eStrB v f = true ↔ ∃ b, v = .string b ∧ f b = true := by cases v <;> simp [eStrB]
theorem eIntB_true {v : Value} {f : IntKind → Int → Bool} : eIntB v f = true ↔ ∃ k n, v = .int k n ∧ f k n = true := by
  cases v with
  | int x0 x1 => exact ⟨fun h => ⟨x0, x1, rfl, h⟩, fun ⟨_, _, e, h⟩ => by cases e; exact h⟩
  | _ => exact ⟨fun h => (by cases h), fun ⟨_, _, e, _⟩ => by cases e⟩
theorem eSlB_true {v : Value} {f : Option Addr → Nat → Nat → Bool} : eSlB v f = true ↔ ∃ a l c, v = .slice a l c ∧ f a l c = true := by
  cases v with
  | slice x0 x1 x2 => exact ⟨fun h => ⟨x0, x1, x2, rfl, h⟩, fun ⟨_, _, _, e, h⟩ => by cases e; exact h⟩
  | _ => exact ⟨fun h => (by cases h), fun ⟨_, _, _, e, _⟩ => by cases e⟩
theorem eFuncB_true {v : Value} {f : Fn → Array Value → Array Value → Bool} : eFuncB v f = true ↔ ∃ a l c, v = .func a l c ∧ f a l c = true := by
  cases v with
  | func x0 x1 x2 => exact ⟨fun h => ⟨x0, x1, x2, rfl, h⟩, fun ⟨_, _, _, e, h⟩ => by cases e; exact h⟩
  | _ => exact ⟨fun h => (by cases h), fun ⟨_, _, _, e, _⟩ => by cases e⟩
theorem ePtrB_true {v : Value} {f : Option Addr → Bool} : ePtrB v f = true ↔ ∃ a, v = .pointer a ∧ f a = true := by cases v <;> simp [ePtrB]
theorem ptrB_true {v : Value} {f : Addr → Bool} : ptrB v f = true ↔ ∃ a, v = .pointer (some a) ∧ f a = true := by
  unfold ptrB
  rw [ePtrB_true]
  constructor
  · rintro ⟨a, rfl, h⟩
    cases a with
    | none => cases h
    | some a => exact ⟨a, rfl, h⟩
  · rintro ⟨a, rfl, h⟩; exact ⟨_, rfl, h⟩
theorem natB_true {v : Value} {f : Nat → Bool} : natB v f = true ↔ ∃ k n, v = .int k (.ofNat n) ∧ f n = true := by
  unfold natB
  rw [eIntB_true]
  constructor
  · rintro ⟨k, n, rfl, h⟩
    cases n with
    | ofNat n => exact ⟨k, n, rfl, h⟩
    | negSucc n => cases h
  · rintro ⟨k, n, rfl, h⟩; exact ⟨_, _, rfl, h⟩
theorem eBoolO_some {v w : Value} {f : Bool → OV} : eBoolO v f = some w ↔ ∃ b, v = .bool b ∧ f b = some w := by cases v <;> simp [eBoolO]
theorem eIntO_some {v w : Value} {f : IntKind → Int → OV} : eIntO v f = some w ↔ ∃ k n, v = .int k n ∧ f k n = some w := by
  cases v with
  | int x0 x1 => exact ⟨fun h => ⟨x0, x1, rfl, h⟩, fun ⟨_, _, e, h⟩ => by cases e; exact h⟩
  | _ => exact ⟨fun h => (by cases h), fun ⟨_, _, e, _⟩ => by cases e⟩
theorem eStrO_some {v w : Value} {f : ByteArray → OV} : eStrO v f = some w ↔ ∃ b, v = .string b ∧ f b = some w := by cases v <;> simp [eStrO]
theorem eAggO_some {v w : Value} {f : Array Value → OV} : eAggO v f = some w ↔ ∃ b, v = .agg b ∧ f b = some w := by cases v <;> simp [eAggO]
theorem eTupO_some {v w : Value} {f : Array Value → OV} : eTupO v f = some w ↔ ∃ b, v = .tuple b ∧ f b = some w := by cases v <;> simp [eTupO]
theorem eSlO_some {v w : Value} {f : Option Addr → Nat → Nat → OV} : eSlO v f = some w ↔ ∃ a l c, v = .slice a l c ∧ f a l c = some w := by
  cases v with
  | slice x0 x1 x2 => exact ⟨fun h => ⟨x0, x1, x2, rfl, h⟩, fun ⟨_, _, _, e, h⟩ => by cases e; exact h⟩
  | _ => exact ⟨fun h => (by cases h), fun ⟨_, _, _, e, _⟩ => by cases e⟩
theorem ePtrO_some {v w : Value} {f : Option Addr → OV} : ePtrO v f = some w ↔ ∃ b, v = .pointer b ∧ f b = some w := by cases v <;> simp [ePtrO]
theorem ptrO_some {v w : Value} {f : Addr → OV} : ptrO v f = some w ↔ ∃ a, v = .pointer (some a) ∧ f a = some w := by
  unfold ptrO
  rw [ePtrO_some]
  constructor
  · rintro ⟨a, rfl, h⟩
    cases a with
    | none => cases h
    | some a => exact ⟨a, rfl, h⟩
  · rintro ⟨a, rfl, h⟩; exact ⟨_, rfl, h⟩
theorem natO_some {v w : Value} {f : Nat → OV} : natO v f = some w ↔ ∃ k n, v = .int k (.ofNat n) ∧ f n = some w := by
  unfold natO
  rw [eIntO_some]
  constructor
  · rintro ⟨k, n, rfl, h⟩
    cases n with
    | ofNat n => exact ⟨k, n, rfl, h⟩
    | negSucc n => cases h
  · rintro ⟨k, n, rfl, h⟩; exact ⟨_, _, rfl, h⟩
theorem lenL_eq (l : List Value) : lenL l = l.length := by
  induction l with
  | nil => rfl
  | cons a l ih => show Nat.succ (lenL l) = _; rw [ih]; rfl
theorem lenIs_true : ∀ (n : Nat) (l : List Value), lenIs n l = true ↔ l.length = n
  | 0, [] => ⟨fun _ => rfl, fun _ => rfl⟩
  | 0, a :: l => ⟨fun h => (by cases h), fun h => (by cases h)⟩
  | n + 1, [] => ⟨fun h => (by cases h), fun h => (by cases h)⟩
  | n + 1, a :: l => by
    show lenIs n l = true ↔ _
    rw [lenIs_true n l]; simp
theorem allQ_eq (l : List Value) : allQ l = l.all (·.oneCell') := by
  induction l with
  | nil => rfl
  | cons a l ih =>
    show thenB (oneC a) (allQ l) = _
    rw [ih, List.all_cons]
    cases a <;> rfl
theorem repQ_eq (z : List Value) : ∀ n, repQ z n = rep n z
  | 0 => rfl
  | n + 1 => by show z ++ repQ z n = _; rw [repQ_eq z n]; rfl
theorem u8L_eq (l : List UInt8) : u8L l = l.map fun b => .int .u8 b.toNat := by
  induction l with
  | nil => rfl
  | cons a l ih => show _ :: u8L l = _; rw [ih]; rfl

/-! ## Cells -/
theorem fillC_get : ∀ (vs : List Value) (i : Nat) (t : Tr Value) (j : Nat), (fillC vs i t).get j = if i ≤ j ∧ j < i + vs.length then vs[j - i]? else t.get j
  | [], i, t, j => by
    show t.get j = _
    rw [if_neg (by simp)]
  | v :: vs, i, t, j => by
    show (fillC vs (i + 1) (setV (Nat.succ i) t i (some v))).get j = _
    rw [fillC_get vs, setV_eq _ _ _ _ Nat.lt_two_pow_self]
    simp only [List.length_cons]
    by_cases h1 : i + 1 ≤ j ∧ j < i + 1 + vs.length
    · rw [if_pos h1, if_pos (by omega)]
      obtain ⟨k, hk⟩ : ∃ k, j - i = k + 1 := ⟨j - i - 1, by omega⟩
      rw [hk, List.getElem?_cons_succ]
      congr 1; omega
    · rw [if_neg h1]
      by_cases h2 : j = i
      · subst h2; simp
      · rw [if_neg h2, if_neg (by omega)]
theorem setAll_get : ∀ (vs c : List Value) (off j : Nat), off + vs.length ≤ c.length → (setAll c off vs)[j]? = if off ≤ j ∧ j < off + vs.length then vs[j - off]? else c[j]?
  | [], c, off, j, _ => by rw [if_neg (by simp)]; rfl
  | v :: vs, c, off, j, h => by
    simp only [List.length_cons] at h ⊢
    simp only [setAll]
    rw [setAll_get vs _ _ _ (by simp; omega), List.getElem?_set]
    by_cases h1 : off + 1 ≤ j ∧ j < off + 1 + vs.length
    · rw [if_pos h1, if_pos (by omega)]
      obtain ⟨k, hk⟩ : ∃ k, j - off = k + 1 := ⟨j - off - 1, by omega⟩
      rw [hk, List.getElem?_cons_succ]
      congr 1; omega
    · rw [if_neg h1]
      by_cases h2 : off = j
      · subst h2; simp; omega
      · rw [if_neg h2, if_neg (by omega)]
theorem setAll_len : ∀ (vs c : List Value) (off : Nat), (setAll c off vs).length = c.length
  | [], c, off => rfl
  | v :: vs, c, off => by simp only [setAll]; rw [setAll_len vs]; simp
theorem takeQ_ok (t : Tr Value) (c : List Value) (off : Nat) : ∀ (n : Nat) (acc l : List Value), (∀ i, i < n → t.get (off + i) = c[off + i]?) → takeQ t off n acc = some l → l = (c.drop off).take n ++ acc
  | 0, acc, l, _, h => by
    simp only [List.take_zero, List.nil_append]
    have h : some acc = some l := h
    cases h; rfl
  | n + 1, acc, l, hc, h => by
    have h : (@Option.rec Value (fun _ => Option (List Value)) none (fun v => takeQ t off n (v :: acc)) (getV t (off + n))) = some l := h
    rw [getV_eq, hc n (by omega)] at h
    cases hv : c[off + n]? with
    | none => rw [hv] at h; cases h
    | some v =>
      rw [hv] at h
      have h2 := takeQ_ok t c off n (v :: acc) l (fun i hi => hc i (by omega)) h
      rw [h2, List.take_add_one]
      simp [hv]
theorem BRel.store {x : Option Nat} {s : Bool} {len : Nat} {t : Tr Value} {c vs : List Value} {off : Nat} (h : BRel (.cells x s len t) (.cells x s c)) (hl : off + vs.length ≤ c.length) : BRel (.cells x s len (fillC vs off t)) (.cells x s (splice c off vs)) := by
  cases h with
  | cells h1 h2 =>
    rw [splice_eq _ _ _ hl]
    refine .cells (by rw [setAll_len]; exact h1) fun i hi => ?_
    rw [fillC_get, setAll_get _ _ _ _ hl, h2 i hi]
theorem BRel.new (x : Option Nat) (s : Bool) (vs : List Value) : BRel (.cells x s (lenL vs) (fillC vs 0 .leaf)) (.cells x s vs) := by
  refine .cells (lenL_eq _) fun i hi => ?_
  rw [lenL_eq] at hi
  rw [fillC_get, if_pos (by omega)]
  rfl
theorem BRel.grow {x y : Option Nat} {s s' : Bool} {len : Nat} {t : Tr Value} {c : List Value} (vs : List Value) (h : BRel (.cells x s len t) (.cells x s c)) : BRel (.cells y s' (len + lenL vs) (fillC vs len t)) (.cells y s' (c ++ vs)) := by
  cases h with
  | cells h1 h2 =>
    refine .cells (by rw [lenL_eq, List.length_append, h1]) fun i hi => ?_
    rw [lenL_eq] at hi
    rw [fillC_get]
    by_cases h3 : len ≤ i
    · rw [if_pos (by omega), List.getElem?_append_right (by omega), h1]
    · rw [if_neg (by omega), List.getElem?_append_left (by omega), h2 i (by omega)]

/-! ## The state -/
variable {q : QS} {S : St}
theorem SRel.cells (h : SRel q S) {b : Nat} {x : Option Nat} {s : Bool} {n : Nat} {t : Tr Value} (k : q.h.get b = some (.cells x s n t)) : ∃ c, S.heap.get b = some (.cells x s c) ∧ BRel (.cells x s n t) (.cells x s c) := by
  obtain ⟨o', h1, h2⟩ := h.heap _ _ k
  cases h2 with
  | cells e1 e2 => exact ⟨_, h1, .cells e1 e2⟩
theorem SRel.saw (h : SRel q S) (b : Nat) : SRel (.mk q.h q.n ((b, false) :: q.lg)) { heap := S.heap, next := S.next, log := (b, false) :: S.log } :=
  ⟨h.heap, h.next, by simp only [h.log]⟩
theorem heap_set {hp : HP} {Sh : Tr Blk} (h : ∀ b o, hp.get b = some o → ∃ o', Sh.get b = some o' ∧ BRel o o') {b : Nat} {o : Option QB} {o' : Option Blk} (ho : ∀ x, o = some x → ∃ x', o' = some x' ∧ BRel x x') :
    ∀ b1 o1, (setQ (Nat.succ b) hp b o).get b1 = some o1 → ∃ o2, (Sh.set b o').get b1 = some o2 ∧ BRel o1 o2 := by
  intro b1 o1 h1
  rw [setQ_eq _ _ _ _ Nat.lt_two_pow_self] at h1
  rw [Tr.get_set]
  by_cases e : b1 = b
  · rw [if_pos e] at h1 ⊢; exact ho _ h1
  · rw [if_neg e] at h1 ⊢; exact h _ _ h1
theorem SRel.set (h : SRel q S) {b : Nat} {o : Option QB} {o' : Option Blk} (ho : ∀ x, o = some x → ∃ x', o' = some x' ∧ BRel x x') {lg : LG} {log : List (Nat × Bool)} (hl : lg = log) :
    SRel (mkS q.h b o q.n lg) { heap := S.heap.set b o', next := S.next, log := log } :=
  ⟨heap_set h.heap ho, h.next, hl⟩
theorem SRel.put (h : SRel q S) {b : Nat} {o : QB} {o' : Blk} (ho : BRel o o') {lg : LG} {log : List (Nat × Bool)} (hl : lg = log) :
    SRel (mkS q.h b (some o) q.n lg) { heap := S.heap.set b (some o'), next := S.next, log := log } :=
  h.set (fun x hx => ⟨o', rfl, by cases hx; exact ho⟩) hl
theorem SRel.kill (h : SRel q S) {b : Nat} {lg : LG} {log : List (Nat × Bool)} (hl : lg = log) :
    SRel (mkS q.h b none q.n lg) { heap := S.heap.set b none, next := S.next, log := log } :=
  h.set (fun x hx => by cases hx) hl

theorem ld1Q_ok (h : SRel q S) (b off : Nat) : Ok (ld1Q b off q) (ld1 b off) S := by
  intro c hc
  unfold ld1Q at hc
  rw [eS_eq] at hc
  unfold ld1R at hc
  obtain ⟨x, s, n, t, h1, h2⟩ := atC_true.1 hc
  obtain ⟨h3, h4⟩ := thenB_true.1 h2
  obtain ⟨v, h5, h6⟩ := fin_true.1 h4
  obtain ⟨cs, k1, k2⟩ := h.cells h1
  cases k2 with
  | cells e1 e2 =>
    have hlt : off < n := by simpa [Nat.blt_eq] using h3
    rw [getV_eq, e2 _ hlt] at h5
    exact ⟨v, _, _, by simp [ld1, M.bind, rd, k1, M.lift, h5], h.saw b, h6⟩
theorem ldCQ_ok (h : SRel q S) (b off m : Nat) : Ok (ldCQ b off m q) (ldCells b off m) S := by
  intro c hc
  unfold ldCQ at hc
  rw [eS_eq] at hc
  unfold ldCR at hc
  obtain ⟨x, s, n, t, h1, h2⟩ := atC_true.1 hc
  obtain ⟨h3, h4⟩ := thenB_true.1 h2
  obtain ⟨l, h5, h6⟩ := bLB_true.1 h4
  obtain ⟨cs, k1, k2⟩ := h.cells h1
  cases k2 with
  | cells e1 e2 =>
    have hle : off + m ≤ n := Nat.le_of_ble_eq_true h3
    have := takeQ_ok t cs off m [] l (fun i hi => e2 _ (by omega)) h5
    subst this
    rw [List.append_nil] at h6
    exact ⟨_, _, _, by simp [ldCells, M.bind, rd, k1, M.pure, show off + m ≤ cs.length by omega], h.saw b, h6⟩
theorem stCQ_ok (h : SRel q S) (b off : Nat) (vs : List Value) : Ok (fun c => stCQ b off vs q (c ())) (stCells b off vs) S := by
  intro c hc
  simp only [stCQ, eS_eq, stCR] at hc
  obtain ⟨x, s, n, t, h1, h2⟩ := atC_true.1 hc
  obtain ⟨h3, h4⟩ := thenB_true.1 h2
  obtain ⟨h5, h6⟩ := thenB_true.1 h4
  obtain ⟨cs, k1, k2⟩ := h.cells h1
  have hlen : off + vs.length ≤ cs.length := by
    cases k2 with
    | cells e1 e2 =>
      have := Nat.le_of_ble_eq_true h3
      rw [lenL_eq] at this
      omega
  rw [allQ_eq] at h5
  refine ⟨(), _, _, ?_, h.put (b := b) (k2.store hlen) (log := (b, true) :: (b, false) :: S.log) (by rw [h.log]), h6⟩
  simp [stCells, M.bind, rd, k1, wr, hlen, h5]
theorem nwQ_ok (h : SRel q S) {o : QB} {o' : Blk} (ho : BRel o o') : Ok (nwQ o q) (nw o') S := by
  intro c hc
  simp only [nwQ, eS_eq] at hc
  have key : c q.n (mkS q.h q.n (some o) (q.n + 1) q.lg) = true := by
    unfold nwR at hc
    cases hn : q.n with
    | zero => rw [hn] at hc; exact hc
    | succ m => rw [hn] at hc; exact hc
  have e : nw o' S = some (q.n, { heap := S.heap.set q.n (some o'), next := q.n + 1, log := S.log }) := by rw [h.next]; rfl
  refine ⟨q.n, _, _, e, ?_, key⟩
  · exact ⟨heap_set h.heap (fun x hx => ⟨o', rfl, by cases hx; exact ho⟩), rfl, h.log⟩
theorem newQ_ok (h : SRel q S) (x : Option Nat) (s : Bool) (vs : List Value) : Ok (newQ x s vs q) (nw (.cells x s vs)) S := nwQ_ok h (BRel.new x s vs)
theorem lookQ_ok (h : SRel q S) (b : Nat) {c : Option Nat → QS → Bool} (hc : lookQ b q c = true) : ∃ x s cs, S.heap.get b = some (.cells x s cs) ∧ c x (.mk q.h q.n ((b, false) :: q.lg)) = true := by
  simp only [lookQ, eS_eq, lookR] at hc
  obtain ⟨x, s, n, t, h1, h2⟩ := atC_true.1 hc
  obtain ⟨cs, k1, k2⟩ := h.cells h1
  exact ⟨x, s, cs, k1, h2⟩
end Go.Wb.Q
