/- The engine, part M5: a region that draws its order comes to one end, whatever the order. -/
import Derived.Test.YtmepokefmpcnnaaEngM4
set_option linter.unusedSimpArgs false
set_option linter.unusedVariables false
namespace Go.Wb
variable {P : Program}

/-- the run in the text's order, place by place -/
structure Trace (call : Tgt → List Value → M Value) (l : List AInstr) (E : Nat → Env) (H : Nat → St) (T : Nat → Touch) : Prop where
  step : ∀ k i, l[k]? = some i → instr call i (E k) { heap := (H k).heap, next := (H k).next, log := [] } = some (E (k + 1), { heap := (H (k + 1)).heap, next := (H (k + 1)).next, log := (T k).log })
  lo : ∀ k, k < l.length → (T k).lo = (H k).next ∧ (T k).hi = (H (k + 1)).next

def active (t : Touch) : Prop := t.log ≠ [] ∨ t.lo ≠ t.hi
theorem keepT_mem {i : Nat} {t : Touch} {ts : List (Nat × Touch)} {p : Nat × Touch} (h : p ∈ ts) : p ∈ keepT i t ts := by
  unfold keepT
  split
  · exact h
  · exact List.mem_cons_of_mem _ h
theorem keepT_self {i : Nat} {t : Touch} {ts : List (Nat × Touch)} (h : active t) : (i, t) ∈ keepT i t ts := by
  unfold keepT
  split
  · rename_i h1 h2
    rcases h with h | h
    · exact absurd h1 h
    · exact absurd (Nat.eq_of_beq_eq_true h2) h
  · simp
theorem keepT_inv {i : Nat} {t : Touch} {ts : List (Nat × Touch)} {p : Nat × Touch} (h : p ∈ keepT i t ts) : p = (i, t) ∨ p ∈ ts := by
  unfold keepT at h
  split at h
  · exact .inr h
  · simpa using h
theorem keepT_sorted {i : Nat} {t : Touch} {ts : List (Nat × Touch)} (h : ts.Pairwise (fun a b => b.1 < a.1)) (hb : ∀ p ∈ ts, p.1 < i) : (keepT i t ts).Pairwise (fun a b => b.1 < a.1) := by
  unfold keepT
  split
  · exact h
  · exact List.pairwise_cons.2 ⟨fun p hp => hb p hp, h⟩

theorem drawn_trace {call : Tgt → List Value → M Value} : ∀ (l : List AInstr) (n : Nat) (e e' : Env) (ts ts' : List (Nat × Touch)) (S S' : St), drawnGo call l n e ts S = some ((e', ts'), S') →
    ts.Pairwise (fun a b => b.1 < a.1) → (∀ p ∈ ts, p.1 < n) →
    ∃ (E : Nat → Env) (H : Nat → St) (T : Nat → Touch), Trace call l E H T ∧ E 0 = e ∧ (H 0).heap = S.heap ∧ (H 0).next = S.next ∧ E l.length = e' ∧ (H l.length).heap = S'.heap ∧ (H l.length).next = S'.next ∧
      (∀ k, k < l.length → active (T k) → (n + k, T k) ∈ ts') ∧ (∀ p ∈ ts, p ∈ ts') ∧ ts'.Pairwise (fun a b => b.1 < a.1) ∧ ∃ D, S'.log = D ++ S.log ∧ (∀ x, x ∈ D → ∃ k, k < l.length ∧ x ∈ (T k).log) ∧ (∀ k, k < l.length → ∀ x, x ∈ (T k).log → x ∈ D)
  | [], n, e, e', ts, ts', S, S', h, hs, hb => by
    obtain ⟨h1, rfl⟩ := M.pure_some.1 h
    obtain ⟨rfl, rfl⟩ : e' = e ∧ ts' = ts := by simpa using h1
    exact ⟨fun _ => e', fun _ => S', fun _ => ⟨[], 0, 0⟩, ⟨fun k i hk => by simp at hk, fun k hk => by simp at hk⟩, rfl, rfl, rfl, rfl, rfl, rfl, fun k hk => by simp at hk, fun p hp => hp, hs, [], rfl, by simp, fun k hk => by simp at hk⟩
  | i :: l, n, e, e', ts, ts', S, S', h, hs, hb => by
    simp only [drawnGo] at h
    cases h1 : instr call i e { heap := S.heap, next := S.next, log := [] } with
    | none => simp [h1] at h
    | some p =>
      obtain ⟨e1, s1⟩ := p
      simp only [h1] at h
      obtain ⟨E, H, T, hT, a1, a2, a3, a4, a5, a6, a7, a8, a9, D, a10, a11, a12⟩ := drawn_trace l (n + 1) e1 e' _ ts' _ S' h (keepT_sorted hs hb) (fun p hp => by
        rcases keepT_inv hp with rfl | hp
        · simp
        · have := hb p hp; omega)
      refine ⟨fun k => match k with | 0 => e | k + 1 => E k, fun k => match k with | 0 => S | k + 1 => H k, fun k => match k with | 0 => { log := s1.log, lo := S.next, hi := s1.next } | k + 1 => T k, ⟨?_, ?_⟩, rfl, rfl, rfl, by simpa using a4, by simpa using a5, by simpa using a6, ?_, ?_, a9, D ++ s1.log, by rw [a10]; simp, ?_, ?_⟩
      · intro k x hk
        cases k with
        | zero =>
          simp at hk; subst hk
          simp only [h1, a1, a2, a3]
        | succ k => exact hT.step k x (by simpa using hk)
      · intro k hk
        cases k with
        | zero => exact ⟨rfl, by simp [a3]⟩
        | succ k => exact hT.lo k (by simpa using hk)
      · intro k hk hact
        cases k with
        | zero => exact a8 _ (keepT_self hact)
        | succ k => have := a7 k (by simpa using hk) hact; rwa [show n + (k + 1) = n + 1 + k by omega]
      · intro p hp; exact a8 p (keepT_mem hp)
      · intro x hx
        rcases List.mem_append.1 hx with hx | hx
        · obtain ⟨k, hk, hx⟩ := a11 x hx
          exact ⟨k + 1, by simpa using hk, hx⟩
        · exact ⟨0, by simp, hx⟩
      · intro k hk x hx
        cases k with
        | zero => exact List.mem_append.2 (.inr hx)
        | succ k => exact List.mem_append.2 (.inl (a12 k (by simpa using hk) x hx))

theorem apartOne_ok {m : Nat} {t : Touch} : ∀ {l : List (Nat × Touch)}, apartOne m t l = true → ∀ p ∈ l, m.testBit p.1 = true ∨ (hits t p.2 = false ∧ hits p.2 t = false)
  | [], _, p, hp => by simp at hp
  | (i, u) :: l, h, p, hp => by
    simp only [apartOne, Bool.and_eq_true, Bool.or_eq_true, Bool.not_eq_true'] at h
    rcases List.mem_cons.1 hp with rfl | hp
    · exact h.1
    · exact apartOne_ok h.2 p hp
theorem apartAll_ok {ms : List Nat} : ∀ {l : List (Nat × Touch)}, apartAll ms l = true → l.Pairwise (fun a b => b.1 < a.1) → ∀ p ∈ l, ∀ q ∈ l, q.1 < p.1 → (ms.getD p.1 0).testBit q.1 = true ∨ (hits p.2 q.2 = false ∧ hits q.2 p.2 = false)
  | [], _, _, p, hp, _, _, _ => by simp at hp
  | (j, t) :: l, h, hs, p, hp, q, hq, hlt => by
    simp only [apartAll, Bool.and_eq_true] at h
    have hs' := List.pairwise_cons.1 hs
    rcases List.mem_cons.1 hp with rfl | hp
    · rcases List.mem_cons.1 hq with rfl | hq
      · omega
      · exact apartOne_ok h.1 q hq
    · rcases List.mem_cons.1 hq with rfl | hq
      · have := hs'.1 p hp; simp only at this hlt; omega
      · exact apartAll_ok h.2 hs'.2 p hp q hq hlt

/-- an id that an operation writes or makes -/
def owner (t : Touch) (id : Nat) : Prop := (id, true) ∈ t.log ∨ (t.lo ≤ id ∧ id < t.hi)
theorem hits_of {a b : Touch} {id : Nat} {x : Bool} (h : (id, x) ∈ a.log) (ho : owner b id) : hits a b = true := by
  unfold hits
  rw [List.any_eq_true]
  refine ⟨(id, x), h, ?_⟩
  rcases ho with ho | ho
  · simp only [Bool.or_eq_true, List.any_eq_true, Bool.and_eq_true]
    exact .inr ⟨(id, true), ho, by simp, by simp⟩
  · simp only [Bool.or_eq_true, Bool.and_eq_true]
    exact .inl ⟨by simpa using ho.1, by simpa using ho.2⟩

/-! ### what 'before' says -/
theorem fold_bits {f : Edge → Nat} : ∀ (l : List Edge) (s i : Nat), (l.foldl (fun s e => if Region.binds .any e then s ||| 2 ^ e.on ||| f e else s) s).testBit i = true →
    s.testBit i = true ∨ ∃ e ∈ l, Region.binds .any e = true ∧ (e.on = i ∨ (f e).testBit i = true)
  | [], s, i, h => .inl h
  | e :: l, s, i, h => by
    simp only [List.foldl_cons] at h
    rcases fold_bits l _ i h with h | ⟨e', he', h⟩
    · split at h
      · rename_i hb
        rw [Nat.testBit_or, Nat.testBit_or, Bool.or_eq_true, Bool.or_eq_true, Nat.testBit_two_pow] at h
        rcases h with (h | h) | h
        · exact .inl h
        · exact .inr ⟨e, by simp, hb, .inl (by simpa using h)⟩
        · exact .inr ⟨e, by simp, hb, .inr h⟩
      · exact .inl h
    · exact .inr ⟨e', by simp [he'], h⟩

structure OrderOk (ops : Array Oper) : Prop where
  back : ∀ j o, ops[j]? = some o → ∀ e ∈ o.after.toList, Region.binds .any e = true → e.on < j
  bits : ∀ j o, ops[j]? = some o → ∀ i, ((Region.before ops).getD j 0).testBit i = true → ∃ e ∈ o.after.toList, Region.binds .any e = true ∧ (e.on = i ∨ ((Region.before ops).getD e.on 0).testBit i = true)
  free : ∀ j oj i oi, ops[j]? = some oj → ops[i]? = some oi → i < j → ((Region.before ops).getD j 0).testBit i = true ∨
    ((∀ d, oi.dst = some d → d ∉ namesOf ops oj ∧ oj.dst ≠ some d) ∧ (∀ d, oj.dst = some d → d ∉ namesOf ops oi))
theorem orderOk_ok {ops : Array Oper} (h : orderOk ops = true) : OrderOk ops := by
  unfold orderOk at h
  simp only [List.all_eq_true, List.mem_range] at h
  have A : ∀ j oj, ops[j]? = some oj → j < ops.size := fun j oj hj => (Array.getElem?_eq_some_iff.1 hj).1
  refine ⟨?_, ?_, ?_⟩
  · intro j o hj e he hb
    have := h j (A j o hj)
    simp only [hj, Bool.and_eq_true, List.all_eq_true] at this
    have := this.1.1 e he
    simpa [hb] using this
  · intro j o hj i hi
    have := h j (A j o hj)
    simp only [hj, Bool.and_eq_true] at this
    have := Nat.eq_of_beq_eq_true this.1.2
    rw [this] at hi
    rcases fold_bits _ _ _ hi with hi | hi
    · simp at hi
    · exact hi
  · intro j oj i oi hj hi hlt
    have := h j (A j oj hj)
    simp only [hj, Bool.and_eq_true, List.all_eq_true, List.mem_range] at this
    have := this.2 i hlt
    simp only [hi, Bool.or_eq_true, Bool.and_eq_true] at this
    rcases this with this | ⟨k1, k2⟩
    · exact .inl this
    · refine .inr ⟨?_, ?_⟩
      · intro d hd
        simp only [hd, Bool.and_eq_true, Bool.not_eq_true', bne_iff_ne] at k1
        exact ⟨by simpa using k1.1, k1.2⟩
      · intro d hd
        simp only [hd, Bool.not_eq_true'] at k2
        simpa using k2
end Go.Wb
