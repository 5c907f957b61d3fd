/- The engine, part M6: the orders of a region. -/
import Derived.Test.YtmepokefmpcnnaaEngM5
import Derived.Orders
set_option linter.unusedSimpArgs false
set_option linter.unusedVariables false
namespace Go.Wb
variable {P : Program}

theorem filter_lt {α : Type} {p q : α → Bool} {a : α} : ∀ {l : List α}, a ∈ l → (∀ x, q x = true → p x = true) → p a = true → q a = false → (l.filter q).length < (l.filter p).length
  | [], h, _, _, _ => by simp at h
  | b :: l, h, hqp, hp, hq => by
    have hle : ∀ l : List α, (l.filter q).length ≤ (l.filter p).length := by
      intro l
      induction l with
      | nil => simp
      | cons c l ih =>
        simp only [List.filter_cons]
        by_cases hc : q c = true
        · rw [if_pos hc, if_pos (hqp c hc)]; simpa using ih
        · rw [if_neg hc]
          split
          · simp; omega
          · exact ih
    rcases List.mem_cons.1 h with rfl | h
    · simp only [List.filter_cons, hp, hq, if_true, Bool.false_eq_true, if_false, List.length_cons]
      have := hle l; omega
    · have := filter_lt (l := l) h hqp hp hq
      simp only [List.filter_cons]
      by_cases hc : q b = true
      · rw [if_pos hc, if_pos (hqp b hc)]; simpa using this
      · rw [if_neg hc]
        split
        · simp; omega
        · exact this

section
variable {call : Tgt → List Value → M Value} {n : Nat} {ops : Array Oper} {l : List AInstr} {E : Nat → Env} {H : Nat → St} {T : Nat → Touch}

/-- what is known of a region and of its run in the text's order -/
structure Known (P : Program) (call : Tgt → List Value → M Value) (n : Nat) (ops : Array Oper) (l : List AInstr) (E : Nat → Env) (H : Nat → St) (T : Nat → Touch) : Prop where
  hcall : CallOk P call
  framed : ∀ t a, Framed (call t a)
  len : l.length = ops.size
  comp : ∀ (i : Nat) (o : Oper), ops[i]? = some o → ∃ ai : AInstr, l[i]? = some ai ∧ compInstr P n ops o = some ai
  trace : Trace call l E H T
  order : OrderOk ops
  apart : ∀ i k : Nat, k < i → i < ops.size → ((Region.before ops).getD i 0).testBit k = true ∨ ((∀ id x, (id, x) ∈ (T i).log → ¬ owner (T k) id) ∧ (∀ id x, (id, x) ∈ (T k).log → ¬ owner (T i) id))

variable (K : Known P call n ops l E H T)
include K

theorem Known.stepAt {k : Nat} (hk : k < ops.size) : ∃ o ai, ops[k]? = some o ∧ l[k]? = some ai ∧ compInstr P n ops o = some ai ∧
    instr call ai (E k) { heap := (H k).heap, next := (H k).next, log := [] } = some (E (k + 1), { heap := (H (k + 1)).heap, next := (H (k + 1)).next, log := (T k).log }) := by
  obtain ⟨ai, h1, h2⟩ := K.comp k ops[k] (by simp [hk])
  exact ⟨ops[k], ai, by simp [hk], h1, h2, K.trace.step k ai h1⟩
theorem Known.next_le {k : Nat} (hk : k < ops.size) : (H k).next ≤ (H (k + 1)).next := by
  obtain ⟨o, ai, _, _, _, h⟩ := K.stepAt hk
  have := Framed.next (Framed.instr K.framed ai (E k)) h
  exact this
theorem Known.next_mono {a b : Nat} (hab : a ≤ b) (hb : b ≤ ops.size) : (H a).next ≤ (H b).next := by
  induction b with
  | zero => have : a = 0 := by omega
            subst this; exact Nat.le_refl _
  | succ b ih =>
    by_cases e : a = b + 1
    · subst e; exact Nat.le_refl _
    · exact Nat.le_trans (ih (by omega) (by omega)) (K.next_le (by omega))
theorem Known.range {k : Nat} (hk : k < ops.size) : (T k).lo = (H k).next ∧ (T k).hi = (H (k + 1)).next := K.trace.lo k (by rw [K.len]; exact hk)
theorem Known.heap_step {k : Nat} (hk : k < ops.size) {id : Nat} (ho : ¬ owner (T k) id) : (H (k + 1)).heap.get id = (H k).heap.get id := by
  obtain ⟨o, ai, _, _, _, h⟩ := K.stepAt hk
  obtain ⟨_, D, h1, h2, _⟩ := Framed.instr K.framed ai (E k) _ _ _ h
  simp only [List.append_nil] at h1
  obtain ⟨r1, r2⟩ := K.range hk
  refine h2 id (fun c => ho (.inl (by rw [h1]; exact c))) (fun c => ho (.inr (by rw [r1, r2]; exact c)))
theorem Known.env_step {k : Nat} {o : Oper} (hk : k < ops.size) (ho : ops[k]? = some o) : ∃ v, E (k + 1) = putD (E k) o.dst v := by
  obtain ⟨o', ai, ho', _, hc, h⟩ := K.stepAt hk
  obtain rfl : o = o' := by rw [ho] at ho'; simpa using ho'
  obtain ⟨v, hv, _⟩ := instr_congr call hc (e := E k) (e' := E k) (fun _ _ => rfl) h
  exact ⟨v, hv⟩
theorem Known.env_other {k : Nat} {o : Oper} (hk : k < ops.size) (ho : ops[k]? = some o) {t : Nat} (ht : o.dst ≠ some t) : (E (k + 1)).get t = (E k).get t := by
  obtain ⟨v, hv⟩ := K.env_step hk ho
  rw [hv]
  cases hd : o.dst with
  | none => rfl
  | some d => simp only [putD]; rw [Tr.get_set, if_neg (fun c : t = d => ht (by rw [hd, c]))]

theorem Known.lastHeap (id : Nat) : ∀ m, m ≤ ops.size → ((∀ k, k < m → ¬ owner (T k) id) ∧ (H m).heap.get id = (H 0).heap.get id) ∨
    ∃ k, k < m ∧ owner (T k) id ∧ (∀ j, j < m → owner (T j) id → j ≤ k) ∧ (H m).heap.get id = (H (k + 1)).heap.get id := by
  intro m
  induction m with
  | zero => intro _; exact .inl ⟨fun k hk => by omega, rfl⟩
  | succ m ih =>
    intro hm
    by_cases ho : owner (T m) id
    · exact .inr ⟨m, by omega, ho, fun j hj _ => by omega, rfl⟩
    · have hs := K.heap_step (k := m) (by omega) ho
      rcases ih (by omega) with ⟨h1, h2⟩ | ⟨k, h1, h2, h3, h4⟩
      · refine .inl ⟨fun k hk => ?_, by rw [hs, h2]⟩
        by_cases e : k = m
        · subst e; exact ho
        · exact h1 k (by omega)
      · refine .inr ⟨k, by omega, h2, fun j hj hjo => ?_, by rw [hs, h4]⟩
        by_cases e : j = m
        · subst e; exact absurd hjo ho
        · exact h3 j (by omega) hjo
theorem Known.lastEnv (t : Nat) : ∀ m, m ≤ ops.size → ((∀ k o, k < m → ops[k]? = some o → o.dst ≠ some t) ∧ (E m).get t = (E 0).get t) ∨
    ∃ k o, k < m ∧ ops[k]? = some o ∧ o.dst = some t ∧ (∀ j o', j < m → ops[j]? = some o' → o'.dst = some t → j ≤ k) ∧ (E m).get t = (E (k + 1)).get t := by
  intro m
  induction m with
  | zero => intro _; exact .inl ⟨fun k _ hk => by omega, rfl⟩
  | succ m ih =>
    intro hm
    have hop : ops[m]? = some ops[m] := by simp
    by_cases ho : ops[m].dst = some t
    · exact .inr ⟨m, _, by omega, hop, ho, fun j _ hj _ _ => by omega, rfl⟩
    · have hs := K.env_other (k := m) (by omega) hop ho
      rcases ih (by omega) with ⟨h1, h2⟩ | ⟨k, o, h1, h2, h3, h4, h5⟩
      · refine .inl ⟨fun k o hk hko => ?_, by rw [hs, h2]⟩
        by_cases e : k = m
        · subst e; rw [hop] at hko; simp at hko; subst hko; exact ho
        · exact h1 k o (by omega) hko
      · refine .inr ⟨k, o, by omega, h2, h3, fun j o' hj hjo hjd => ?_, by rw [hs, h5]⟩
        by_cases e : j = m
        · subst e; rw [hop] at hjo; simp at hjo; subst hjo; exact absurd hjd ho
        · exact h4 j o' (by omega) hjo hjd
omit K

/-- in the midst of a region: the operations of X have been carried out -/
structure Mid (P : Program) (ops : Array Oper) (E : Nat → Env) (H : Nat → St) (T : Nat → Touch) (r0 : Ren) (S0 : St) (w0 : World) (m0 : Nat) (X : Nat → Prop) (r : Ren) (w : World) (tmps : Array Value) (SX : St) (eX : Env) : Prop where
  inX : ∀ i, X i → i < ops.size
  closed : ∀ i o, X i → ops[i]? = some o → ∀ e ∈ o.after.toList, Region.binds .any e = true → X e.on
  rel : Rel P r SX w
  env : EnvRel r eX tmps
  msize : tmps.size = m0
  le : r0.le r
  dom : ∀ id, r.dom id ↔ r0.dom id ∨ ∃ i, X i ∧ (T i).lo ≤ id ∧ id < (T i).hi
  hsize : w0.heap.size ≤ w.heap.size
  os : w.os = w0.os
  tape : w.tape = w0.tape
  output : w.output = w0.output
  frame : ∀ k, k < w0.heap.size → ¬ Live r0 S0 k → w.heap[k]? = w0.heap[k]?
  kept : ∀ id b, S0.heap.get id = some b → (∀ i, X i → (id, true) ∉ (T i).log) → w.heap[r0.to id]? = w0.heap[r0.to id]?
  live : ∀ k, k < w0.heap.size → Live r SX k → Live r0 S0 k
  heap1 : ∀ id i, X i → owner (T i) id → (∀ k, X k → owner (T k) id → k ≤ i) → SX.heap.get id = (H (i + 1)).heap.get id
  heap0 : ∀ id, (∀ i, X i → ¬ owner (T i) id) → SX.heap.get id = (H 0).heap.get id
  env1 : ∀ t i o, X i → ops[i]? = some o → o.dst = some t → (∀ k o', X k → ops[k]? = some o' → o'.dst = some t → k ≤ i) → eX.get t = (E (i + 1)).get t
  env0 : ∀ t, (∀ i o, X i → ops[i]? = some o → o.dst ≠ some t) → eX.get t = (E 0).get t

include K
/-- all that is ahead of an operation by the edges has been carried out -/
theorem Known.preds {X : Nat → Prop} (hcl : ∀ i o, X i → ops[i]? = some o → ∀ e ∈ o.after.toList, Region.binds .any e = true → X e.on) :
    ∀ (j : Nat) (o : Oper), ops[j]? = some o → (∀ e ∈ o.after.toList, Region.binds .any e = true → X e.on) → ∀ i, ((Region.before ops).getD j 0).testBit i = true → X i := by
  intro j
  induction j using Nat.strongRecOn with
  | _ j ih =>
    intro o ho hX i hi
    obtain ⟨e, he, hb, h⟩ := K.order.bits j o ho i hi
    have hon := hX e he hb
    rcases h with rfl | h
    · exact hon
    · have hlt := K.order.back j o ho e he hb
      have hj : j < ops.size := (Array.getElem?_eq_some_iff.1 ho).1
      have hop : ops[e.on]? = some ops[e.on] := by simp
      exact ih e.on hlt ops[e.on] hop (fun e' he' hb' => hcl e.on _ hon hop e' he' hb') i h

theorem Known.step {r0 : Ren} {S0 : St} {w0 : World} {m0 : Nat} {X : Nat → Prop} {r : Ren} {w : World} {tmps : Array Value} {SX : St} {eX : Env} (hm0 : n ≤ m0) (h0 : Rel P r0 S0 w0) (hH0 : (H 0).heap = S0.heap) (hf0 : ∀ id, (H 0).next ≤ id → id < (H ops.size).next → ¬ r0.dom id)
    (M : Mid P ops E H T r0 S0 w0 m0 X r w tmps SX eX) {i : Nat} {o : Oper} (hi : ¬ X i) (ho : ops[i]? = some o) (hpre : ∀ e ∈ o.after.toList, Region.binds .any e = true → X e.on) :
    ∃ r' w' tmps' SX' eX', Mid P ops E H T r0 S0 w0 m0 (fun k => X k ∨ k = i) r' w' tmps' SX' eX' ∧
      ∀ fn ro ds rest k cs, Steps P (lone (Fr fn ro tmps ds (.inRegion ops (i :: rest) :: k)) cs w) (lone (Fr fn ro tmps' ds (.inRegion ops rest :: k)) cs w') := by
  have hin : i < ops.size := (Array.getElem?_eq_some_iff.1 ho).1
  have hbits := K.preds M.closed i o ho hpre
  -- operations that no edge orders against i
  have unord : ∀ k, k < ops.size → ((k < i ∧ ¬ X k) ∨ (i < k ∧ X k)) → (k < i ∧ ¬ ((Region.before ops).getD i 0).testBit k = true) ∨ (i < k ∧ ¬ ((Region.before ops).getD k 0).testBit i = true) := by
    intro k hk h
    rcases h with ⟨h1, h2⟩ | ⟨h1, h2⟩
    · exact .inl ⟨h1, fun c => h2 (hbits k c)⟩
    · refine .inr ⟨h1, fun c => hi ?_⟩
      have hop : ops[k]? = some ops[k] := by simp [hk]
      exact K.preds M.closed k _ hop (fun e he hb => M.closed k _ h2 hop e he hb) i c
  have sep : ∀ k, k < ops.size → ((k < i ∧ ¬ X k) ∨ (i < k ∧ X k)) → (∀ id x, (id, x) ∈ (T i).log → ¬ owner (T k) id) ∧ (∀ id x, (id, x) ∈ (T k).log → ¬ owner (T i) id) := by
    intro k hk h
    rcases unord k hk h with ⟨h1, h2⟩ | ⟨h1, h2⟩
    · exact (K.apart i k h1 hin).resolve_left h2
    · have := (K.apart k i h1 hk).resolve_left h2
      exact ⟨this.2, this.1⟩
  have free : ∀ k ok, ops[k]? = some ok → ((k < i ∧ ¬ X k) ∨ (i < k ∧ X k)) → ∀ d, ok.dst = some d → d ∉ namesOf ops o ∧ o.dst ≠ some d := by
    intro k ok hok h d hd
    have hk : k < ops.size := (Array.getElem?_eq_some_iff.1 hok).1
    rcases unord k hk h with ⟨h1, h2⟩ | ⟨h1, h2⟩
    · exact ((K.order.free i o k ok ho hok h1).resolve_left h2).1 d hd
    · have := (K.order.free k ok i o hok ho h1).resolve_left h2
      exact ⟨this.2 d hd, fun c => (this.1 d c).2 hd⟩
  have both : ∀ k, k < ops.size → k ≠ i → ((k < i ∧ ¬ X k) ∨ (i < k ∧ X k)) → ∀ id, owner (T i) id → ¬ owner (T k) id := by
    intro k hk hne h id h1 h2
    obtain ⟨s1, s2⟩ := sep k hk h
    rcases h1 with h1 | h1
    · exact s1 id true h1 h2
    · rcases h2 with h2 | h2
      · exact s2 id true h2 (.inr h1)
      · obtain ⟨a1, a2⟩ := K.range hin
        obtain ⟨b1, b2⟩ := K.range hk
        rcases Nat.lt_or_gt_of_ne hne with hlt | hlt
        · have := K.next_mono (a := k + 1) (b := i) (by omega) (by omega); omega
        · have := K.next_mono (a := i + 1) (b := k) (by omega) (by omega); omega
  -- the environment is as in the text's order where i looks
  have henv : ∀ t, t ∈ namesOf ops o → (E i).get t = eX.get t := by
    intro t ht
    rcases K.lastEnv t i (by omega) with ⟨h1, h2⟩ | ⟨k, ok, h1, h2, h3, h4, h5⟩
    · rw [h2]
      symm
      refine M.env0 t fun k ok hk hok hd => ?_
      rcases Nat.lt_or_ge k i with hlt | hge
      · exact h1 k ok hlt hok hd
      · have hne : k ≠ i := fun c => hi (c ▸ hk)
        exact (free k ok hok (.inr ⟨by omega, hk⟩) t hd).1 ht
    · have hXk : X k := by
        refine Classical.byContradiction fun c => ?_
        exact (free k ok h2 (.inl ⟨h1, c⟩) t h3).1 ht
      rw [h5]
      symm
      refine M.env1 t k ok hXk h2 h3 fun j oj hj hoj hdj => ?_
      rcases Nat.lt_or_ge j i with hlt | hge
      · exact h4 j oj hlt hoj hdj
      · have hne : j ≠ i := fun c => hi (c ▸ hj)
        exact absurd ht (free j oj hoj (.inr ⟨by omega, hj⟩) t hdj).1
  -- so is memory where i touches it
  have hheap : ∀ id x, (id, x) ∈ (T i).log → SX.heap.get id = (H i).heap.get id := by
    intro id x hx
    rcases K.lastHeap id i (by omega) with ⟨h1, h2⟩ | ⟨k, h1, h2, h3, h4⟩
    · rw [h2]
      refine M.heap0 id fun k hk ho' => ?_
      rcases Nat.lt_or_ge k i with hlt | hge
      · exact h1 k hlt ho'
      · have hne : k ≠ i := fun c => hi (c ▸ hk)
        exact (sep k (M.inX k hk) (.inr ⟨by omega, hk⟩)).1 id x hx ho'
    · have hXk : X k := by
        refine Classical.byContradiction fun c => ?_
        exact (sep k (by omega) (.inl ⟨h1, c⟩)).1 id x hx h2
      rw [h4]
      refine M.heap1 id k hXk h2 fun j hj hoj => ?_
      rcases Nat.lt_or_ge j i with hlt | hge
      · exact h3 j hlt hoj
      · have hne : j ≠ i := fun c => hi (c ▸ hj)
        exact absurd hoj ((sep j (M.inX j hj) (.inr ⟨by omega, hj⟩)).1 id x hx)
  obtain ⟨o', ai, ho', hl, hc, hrun⟩ := K.stepAt hin
  obtain rfl : o = o' := by rw [ho] at ho'; simpa using ho'
  obtain ⟨v, hv, hrun2⟩ := instr_congr call hc henv hrun
  obtain ⟨_, D, hD, hsame, hext⟩ := Framed.instr K.framed ai eX _ _ _ hrun2
  simp only [List.append_nil] at hD
  obtain ⟨S2, g1, g2, g3, g4, g5⟩ := hext { heap := SX.heap, next := (H i).next, log := [] } rfl fun id b hb => hheap id b (by rw [hD]; exact hb)
  simp only at g2 g3 g4 g5
  obtain ⟨ra, rb⟩ := K.range hin
  have relX : Rel P r { heap := SX.heap, next := (H i).next, log := [] } w := ⟨M.rel.at_, M.rel.inj'⟩
  have hfresh : Fresh r { heap := SX.heap, next := (H i).next, log := [] } S2 := by
    intro id a b c
    simp only at a
    rw [g2] at b
    rcases (M.dom id).1 c with c | ⟨k, hk, c1, c2⟩
    · exact hf0 id (Nat.le_trans (K.next_mono (Nat.zero_le i) (by omega)) a) (Nat.lt_of_lt_of_le b (K.next_mono (by omega) (Nat.le_refl _))) c
    · have hkn := M.inX k hk
      obtain ⟨b1, b2⟩ := K.range hkn
      have hne : k ≠ i := fun c => hi (c ▸ hk)
      rcases Nat.lt_or_gt_of_ne hne with hlt | hlt
      · have := K.next_mono (a := k + 1) (b := i) (by omega) (by omega); omega
      · have := K.next_mono (a := i + 1) (b := k) (by omega) (by omega); omega
  obtain ⟨v2, D2, r', w', v', k1, k2, k3, k4⟩ := instr_ok (tmps := tmps) (w := w) (r := r) K.hcall ho hc g1 relX M.env hfresh
  have hD2 : D2 = (T i).log := by
    have := k2.log
    simp only [List.append_nil] at this
    rw [g3] at this
    simp only [List.append_nil] at this
    rw [← this, hD]
  subst hD2
  have hown : ∀ id, owner (T i) id ↔ ((id, true) ∈ (T i).log ∨ ((H i).next ≤ id ∧ id < (H (i + 1)).next)) := by
    intro id; unfold owner; rw [ra, rb]
  refine ⟨r', w', putT tmps o.dst v', S2, putD eX o.dst v, ⟨?_, ?_, k2.rel, ?_, by rw [putT_size]; exact M.msize, M.le.trans k2.le, ?_, Nat.le_trans M.hsize k2.size, k2.os.trans M.os, k2.tape.trans M.tape, k2.output.trans M.output, ?_, ?_, ?_, ?_, ?_, ?_, ?_⟩, k4⟩
  · rintro k (hk | rfl)
    · exact M.inX k hk
    · exact hin
  · rintro k ok (hk | rfl) hok e he hb
    · exact .inl (M.closed k ok hk hok e he hb)
    · rw [ho] at hok; simp at hok; subst hok; exact .inl (hpre e he hb)
  · have hdst := (compInstr_some hc).2.2.1
    have hvv : putD eX o.dst v = putD eX o.dst v2 := k1
    rw [hvv]
    exact (M.env.mono k2.le).putT (fun x hx => Nat.lt_of_lt_of_le (hdst x hx) (by rw [M.msize]; exact hm0)) k3
  · intro id
    rw [k2.dom id, M.dom id]
    simp only
    rw [g2]
    constructor
    · rintro ((h | ⟨k, hk, h⟩) | h)
      · exact .inl h
      · exact .inr ⟨k, .inl hk, h⟩
      · exact .inr ⟨i, .inr rfl, by rw [ra, rb]; exact h⟩
    · rintro (h | ⟨k, hk | rfl, h⟩)
      · exact .inl (.inl h)
      · exact .inl (.inr ⟨k, hk, h⟩)
      · exact .inr (by rw [ra, rb] at h; exact h)
  · intro k hk hnl
    rw [k2.frame k (Nat.lt_of_lt_of_le hk M.hsize) (fun c => hnl (M.live k hk (by obtain ⟨a, b, c1, c2⟩ := c; exact ⟨a, b, c1, c2⟩)))]
    exact M.frame k hk hnl
  · intro id b hb hn
    have hd0 := (h0.at_ id b hb).1
    have hkeep := M.kept id b hb fun k hk => hn k (.inl hk)
    have hno : ∀ k, X k → ¬ owner (T k) id := by
      intro k hk ho'
      rcases ho' with h | h
      · exact hn k (.inl hk) h
      · obtain ⟨b1, b2⟩ := K.range (M.inX k hk)
        exact hf0 id (by have := K.next_mono (a := 0) (b := k) (by omega) (by have := M.inX k hk; omega); omega) (by have := K.next_mono (a := k + 1) (b := ops.size) (by have := M.inX k hk; omega) (Nat.le_refl _); omega) hd0
    have hSX : SX.heap.get id = some b := by rw [M.heap0 id hno, hH0]; exact hb
    have := k2.kept id b hSX (hn i (.inr rfl))
    rw [M.le.to _ hd0] at this
    rw [this]; exact hkeep
  · intro k hk hlv
    have := k2.live k (Nat.lt_of_lt_of_le hk M.hsize) hlv
    exact M.live k hk (by obtain ⟨a, b, c1, c2⟩ := this; exact ⟨a, b, c1, c2⟩)
  · rintro id j hj hoj hmax
    by_cases hoi : owner (T i) id
    · have hij : j = i := by
        rcases hj with hj | hj
        · by_cases e : j = i
          · exact e
          · have := hmax i (.inr rfl) hoi
            exact absurd hoj (both j (M.inX j hj) e (.inr ⟨by omega, hj⟩) id hoi)
        · exact hj
      subst hij
      exact g4 id (by rw [← hD]; exact (hown id).1 hoi)
    · rcases hj with hj | rfl
      · have hoi' := fun c => hoi ((hown id).2 c)
        rw [g5 id (fun c => hoi' (.inl (by rw [hD]; exact c))) (fun c => hoi' (.inr c))]
        exact M.heap1 id j hj hoj fun k hk hok => hmax k (.inl hk) hok
      · exact absurd hoj hoi
  · intro id hno
    have hoi' := fun c => hno i (.inr rfl) ((hown id).2 c)
    rw [g5 id (fun c => hoi' (.inl (by rw [hD]; exact c))) (fun c => hoi' (.inr c))]
    exact M.heap0 id fun k hk => hno k (.inl hk)
  · rintro t j oj hj hoj hdj hmax
    by_cases hd : o.dst = some t
    · have hij : j = i := by
        rcases hj with hj | hj
        · by_cases e : j = i
          · exact e
          · have := hmax i o (.inr rfl) ho hd
            exact absurd hd (free j oj hoj (.inr ⟨by omega, hj⟩) t hdj).2
        · exact hj
      subst hij
      rw [hv, hd]
      simp only [putD, Tr.get_set_same]
    · rcases hj with hj | rfl
      · have e1 : (putD eX o.dst v).get t = eX.get t := by
          cases hdd : o.dst with
          | none => rfl
          | some d => simp only [putD]; rw [Tr.get_set, if_neg (fun c : t = d => hd (by rw [hdd, c]))]
        rw [e1]
        exact M.env1 t j oj hj hoj hdj fun k ok hk hok hdk => hmax k ok (.inl hk) hok hdk
      · rw [ho] at hoj; simp at hoj; subst hoj; exact absurd hdj hd
  · intro t hno
    have hd : o.dst ≠ some t := hno i o (.inr rfl) ho
    have e1 : (putD eX o.dst v).get t = eX.get t := by
      cases hdd : o.dst with
      | none => rfl
      | some d => simp only [putD]; rw [Tr.get_set, if_neg (fun c : t = d => hd (by rw [hdd, c]))]
    rw [e1]
    exact M.env0 t fun k ok hk hok => hno k ok (.inl hk) hok

/-- all orders that the model may draw -/
theorem Known.go {r0 : Ren} {S0 : St} {w0 : World} {m0 : Nat} (hm0 : n ≤ m0) (h0 : Rel P r0 S0 w0) (hH0 : (H 0).heap = S0.heap) (hf0 : ∀ id, (H 0).next ≤ id → id < (H ops.size).next → ¬ r0.dom id) :
    ∀ (fuel t : Nat) (listed : Array Bool) (r : Ren) (w : World) (tmps : Array Value) (SX : St) (eX : Env), listed.size = ops.size →
      ((List.range ops.size).filter fun i => listed[i]? ≠ some true).length ≤ fuel →
      Mid P ops E H T r0 S0 w0 m0 (fun i => listed[i]? = some true) r w tmps SX eX →
      ∃ r' w' tmps' SX' eX', Mid P ops E H T r0 S0 w0 m0 (fun i => i < ops.size) r' w' tmps' SX' eX' ∧
        ∀ fn ro ds k cs, Steps P (lone (Fr fn ro tmps ds (.inRegion ops (Region.linearise.go .any ops fuel t listed []) :: k)) cs w) (lone (Fr fn ro tmps' ds k) cs w') := by
  intro fuel
  -- where all are listed
  have done : ∀ (listed : Array Bool) (r : Ren) (w : World) (tmps : Array Value) (SX : St) (eX : Env), listed.size = ops.size → (∀ i, i < ops.size → listed[i]? = some true) →
      Mid P ops E H T r0 S0 w0 m0 (fun i => listed[i]? = some true) r w tmps SX eX → Mid P ops E H T r0 S0 w0 m0 (fun i => i < ops.size) r w tmps SX eX := by
    intro listed r w tmps SX eX hs hall M
    have : (fun i => listed[i]? = some true) = (fun i => i < ops.size) := by
      funext i; exact propext ⟨fun h => M.inX i h, fun h => hall i h⟩
    rw [← this]; exact M
  induction fuel with
  | zero =>
    intro t listed r w tmps SX eX hs hle M
    have hall : ∀ i, i < ops.size → listed[i]? = some true := by
      intro i hi
      refine Classical.byContradiction fun c => ?_
      have : i ∈ (List.range ops.size).filter fun i => listed[i]? ≠ some true := by simp [hi]; exact fun h => c h
      have := List.length_pos_of_mem this
      omega
    exact ⟨r, w, tmps, SX, eX, done listed r w tmps SX eX hs hall M, fun fn ro ds k cs => by simp only [Region.linearise.go, List.reverse_nil]; exact .one st_regionEnd⟩
  | succ fuel ih =>
    intro t listed r w tmps SX eX hs hle M
    simp only [Region.linearise.go]
    generalize hrs : (List.range ops.size).filter (fun i => !listed.getD i true && ((ops[i]?).map (·.after.all fun e => !Region.binds .any e || listed.getD e.on false)).getD false) = rs
    have hmem : ∀ i, i ∈ rs → i < ops.size ∧ listed[i]? = some false ∧ ∃ o, ops[i]? = some o ∧ ∀ e ∈ o.after.toList, Region.binds .any e = true → listed[e.on]? = some true := by
      intro i hi
      rw [← hrs, List.mem_filter] at hi
      obtain ⟨h1, h2⟩ := hi
      have h1 : i < ops.size := List.mem_range.1 h1
      simp only [Bool.and_eq_true, Bool.not_eq_true'] at h2
      obtain ⟨h2, h3⟩ := h2
      have hop : ops[i]? = some ops[i] := by simp
      refine ⟨h1, ?_, ops[i], hop, ?_⟩
      · have hls : listed[i]? = some listed[i] := by simp [hs, h1]
        rw [Array.getD_eq_getD_getElem?, hls] at h2
        rw [hls]; simpa using h2
      · intro e he hb
        rw [hop] at h3
        simp only [Option.map_some, Option.getD_some, Array.all_eq_true_iff_forall_mem] at h3
        have := h3 e (Array.mem_toList_iff.1 he)
        simp only [hb, Bool.not_true, Bool.false_or] at this
        rw [Array.getD_eq_getD_getElem?] at this
        cases hl : listed[e.on]? with
        | none => simp [hl] at this
        | some b => simp [hl] at this; rw [this]
    by_cases hempty : rs = []
    · -- then all are listed
      have hall : ∀ i, i < ops.size → listed[i]? = some true := by
        intro i
        induction i using Nat.strongRecOn with
        | _ i ih2 =>
          intro hi
          have hop : ops[i]? = some ops[i] := by simp
          have hls : listed[i]? = some listed[i] := by simp [hs, hi]
          cases hb : listed[i] with
          | true => rw [hls, hb]
          | false =>
            exfalso
            have : i ∈ rs := by
              rw [← hrs, List.mem_filter]
              refine ⟨List.mem_range.2 hi, ?_⟩
              rw [Array.getD_eq_getD_getElem?, hls, hb, hop]
              simp only [Option.getD_some, Bool.not_false, Bool.true_and, Option.map_some, Array.all_eq_true_iff_forall_mem]
              intro e he
              by_cases hbd : Region.binds .any e = true
              · have hlt := K.order.back i _ hop e (Array.mem_toList_iff.2 he) hbd
                have := ih2 e.on hlt (by omega)
                rw [Array.getD_eq_getD_getElem?, this]; simp
              · simp [hbd]
            rw [hempty] at this; simp at this
      rw [hempty]
      simp only [List.length_nil, List.getElem?_nil, List.reverse_nil]
      exact ⟨r, w, tmps, SX, eX, done listed r w tmps SX eX hs hall M, fun fn ro ds k cs => .one st_regionEnd⟩
    · have hpos : 0 < rs.length := List.length_pos_iff.2 hempty
      have hlt : t % rs.length < rs.length := Nat.mod_lt _ hpos
      obtain ⟨i, hi⟩ : ∃ i, rs[t % rs.length]? = some i := ⟨rs[t % rs.length], by simp [hlt]⟩
      rw [hi]
      simp only
      obtain ⟨hin, hli, o, ho, hpre⟩ := hmem i (List.mem_of_getElem? hi)
      obtain ⟨r1, w1, tmps1, S1, e1, M1, st1⟩ := K.step hm0 h0 hH0 hf0 M (i := i) (by rw [hli]; simp) ho hpre
      have hX : (fun k => listed[k]? = some true ∨ k = i) = (fun k => (listed.setIfInBounds i true)[k]? = some true) := by
        funext k
        apply propext
        rw [Array.getElem?_setIfInBounds]
        by_cases e : i = k
        · subst e; simp [hs, hin]
        · rw [if_neg e]; exact ⟨fun h => h.resolve_right (fun c => e c.symm), .inl⟩
      rw [hX] at M1
      have hcount : ((List.range ops.size).filter fun k => (listed.setIfInBounds i true)[k]? ≠ some true).length ≤ fuel := by
        have hsub : ((List.range ops.size).filter fun k => (listed.setIfInBounds i true)[k]? ≠ some true).length < ((List.range ops.size).filter fun k => listed[k]? ≠ some true).length := by
          refine filter_lt (a := i) (List.mem_range.2 hin) ?_ ?_ ?_
          · intro k hk
            simp only [ne_eq, decide_not, Bool.not_eq_true', decide_eq_false_iff_not] at hk ⊢
            intro c
            rw [Array.getElem?_setIfInBounds] at hk
            split at hk
            · rename_i e; subst e; rw [if_pos (by omega)] at hk; exact hk rfl
            · exact hk c
          · simp [hli]
          · simp [hs, hin]
        omega
      obtain ⟨r2, w2, tmps2, S2, e2, M2, st2⟩ := ih (t / rs.length) (listed.setIfInBounds i true) r1 w1 tmps1 S1 e1 (by simp [hs]) hcount M1
      refine ⟨r2, w2, tmps2, S2, e2, M2, fun fn ro ds k cs => ?_⟩
      rw [linearise_go_acc, List.reverse_singleton, List.singleton_append]
      exact (st1 fn ro ds _ k cs).trans (st2 fn ro ds k cs)
end
end Go.Wb
