/- The engine, part F: a computation looks at what it has touched, and at nothing else. -/
import Derived.Test.YtmepokefmpcnnaaEngA
set_option linter.unusedSimpArgs false
set_option linter.unusedVariables false
namespace Go.Wb

def Framed {α : Type} (m : M α) : Prop := ∀ S a S', m S = some (a, S') → S.next ≤ S'.next ∧ ∃ D, S'.log = D ++ S.log ∧
  (∀ id, (id, true) ∉ D → ¬ (S.next ≤ id ∧ id < S'.next) → S'.heap.get id = S.heap.get id) ∧
  ∀ S2 : St, S2.next = S.next → (∀ id b, (id, b) ∈ D → S2.heap.get id = S.heap.get id) →
    ∃ S2', m S2 = some (a, S2') ∧ S2'.next = S'.next ∧ S2'.log = D ++ S2.log ∧
      (∀ id, ((id, true) ∈ D ∨ (S.next ≤ id ∧ id < S'.next)) → S2'.heap.get id = S'.heap.get id) ∧
      (∀ id, (id, true) ∉ D → ¬ (S.next ≤ id ∧ id < S'.next) → S2'.heap.get id = S2.heap.get id)

theorem Framed.pure {α : Type} (a : α) : Framed (M.pure a) := by
  intro S b S' h
  simp only [M.pure, Option.some.injEq, Prod.mk.injEq] at h
  obtain ⟨rfl, rfl⟩ := h
  refine ⟨Nat.le_refl _, [], rfl, fun _ _ _ => rfl, fun S2 h1 _ => ⟨S2, rfl, h1, rfl, ?_, fun _ _ _ => rfl⟩⟩
  rintro id (h | h)
  · simp at h
  · omega
theorem Framed.fail {α : Type} : Framed (M.fail : M α) := by intro S b S' h; simp [M.fail] at h
theorem Framed.lift {α : Type} (o : Option α) : Framed (M.lift o) := by
  cases o with
  | none => intro S b S' h; simp [M.lift] at h
  | some a => exact Framed.pure a
theorem Framed.rd (b : Nat) : Framed (rd b) := by
  intro S o S' h
  unfold Wb.rd at h
  cases hb : S.heap.get b with
  | none => simp [hb] at h
  | some p =>
    simp only [hb, Option.some.injEq, Prod.mk.injEq] at h
    obtain ⟨rfl, rfl⟩ := h
    refine ⟨Nat.le_refl _, [(b, false)], rfl, fun _ _ _ => rfl, fun S2 h1 h2 => ⟨{ heap := S2.heap, next := S2.next, log := (b, false) :: S2.log }, ?_, h1, rfl, ?_, fun _ _ _ => rfl⟩⟩
    · unfold Wb.rd
      rw [h2 b false (by simp), hb]
    · rintro id (h | h)
      · simp at h
      · simp only at h; omega
theorem Framed.wr (b : Nat) (o : Option Blk) : Framed (wr b o) := by
  intro S u S' h
  simp only [Wb.wr, Option.some.injEq, Prod.mk.injEq] at h
  obtain ⟨_, rfl⟩ := h
  refine ⟨Nat.le_refl _, [(b, true)], rfl, ?_, fun S2 h1 h2 => ⟨{ heap := S2.heap.set b o, next := S2.next, log := (b, true) :: S2.log }, rfl, h1, rfl, ?_, ?_⟩⟩
  · intro id h _
    simp only
    rw [Tr.get_set, if_neg (by intro e; subst e; simp at h)]
  · rintro id (h | h)
    · simp at h; subst h; simp [Tr.get_set]
    · simp only at h; omega
  · intro id h _
    simp only
    rw [Tr.get_set, if_neg (by intro e; subst e; simp at h)]
theorem Framed.nw (o : Blk) : Framed (nw o) := by
  intro S n S' h
  simp only [Wb.nw, Option.some.injEq, Prod.mk.injEq] at h
  obtain ⟨rfl, rfl⟩ := h
  refine ⟨by simp, [], rfl, ?_, fun S2 h1 h2 => ⟨{ heap := S2.heap.set S2.next (some o), next := S2.next + 1, log := S2.log }, by simp [Wb.nw, h1], by simp [h1], rfl, ?_, ?_⟩⟩
  · intro id _ h
    simp only at h ⊢
    rw [Tr.get_set, if_neg (by omega)]
  · rintro id (h | h)
    · simp at h
    · simp only at h ⊢
      have : id = S.next := by omega
      subst this
      rw [h1, Tr.get_set_same, Tr.get_set_same]
  · intro id _ h
    simp only at h ⊢
    rw [Tr.get_set, if_neg (by omega)]

theorem Framed.bind {α β : Type} {m : M α} {f : α → M β} (hm : Framed m) (hf : ∀ a, Framed (f a)) : Framed (m.bind f) := by
  intro S b S' h
  unfold M.bind at h
  cases h1 : m S with
  | none => simp [h1] at h
  | some p =>
    obtain ⟨a, S1⟩ := p
    simp only [h1] at h
    obtain ⟨n1, D1, l1, s1, k1⟩ := hm S a S1 h1
    obtain ⟨n2, D2, l2, s2, k2⟩ := hf a S1 b S' h
    refine ⟨Nat.le_trans n1 n2, D2 ++ D1, by rw [l2, l1, List.append_assoc], ?_, ?_⟩
    · intro id hn hx
      rw [s2 id (fun c => hn (by simp [c])) (by omega), s1 id (fun c => hn (by simp [c])) (by omega)]
    · intro S2 hn hag
      obtain ⟨T1, t1, t2, t3, t4, t5⟩ := k1 S2 hn fun id b hb => hag id b (by simp [hb])
      obtain ⟨T2, u1, u2, u3, u4, u5⟩ := k2 T1 t2 fun id b hb => by
        by_cases c : (id, true) ∈ D1 ∨ (S.next ≤ id ∧ id < S1.next)
        · exact t4 id c
        · have c1 : (id, true) ∉ D1 := fun h => c (.inl h)
          have c2 : ¬ (S.next ≤ id ∧ id < S1.next) := fun h => c (.inr h)
          rw [t5 id c1 c2, s1 id c1 c2]
          exact hag id b (by simp [hb])
      refine ⟨T2, by simp [M.bind, t1, u1], u2, by rw [u3, t3, List.append_assoc], ?_, ?_⟩
      · intro id hid
        by_cases c : (id, true) ∈ D2 ∨ (S1.next ≤ id ∧ id < S'.next)
        · exact u4 id c
        · have c1 : (id, true) ∉ D2 := fun h => c (.inl h)
          have c2 : ¬ (S1.next ≤ id ∧ id < S'.next) := fun h => c (.inr h)
          rw [u5 id c1 c2, s2 id c1 c2]
          refine t4 id ?_
          rcases hid with hid | hid
          · rcases List.mem_append.1 hid with h | h
            · exact absurd h c1
            · exact .inl h
          · exact .inr (by omega)
      · intro id hn hx
        rw [u5 id (fun c => hn (by simp [c])) (by omega), t5 id (fun c => hn (by simp [c])) (by omega)]
theorem Framed.ite {α : Type} {c : Prop} [Decidable c] {a b : M α} (ha : Framed a) (hb : Framed b) : Framed (if c then a else b) := by split <;> assumption

theorem Framed.ldCells (b off n : Nat) : Framed (ldCells b off n) := .bind (.rd b) fun o => by
  cases o with
  | cells x t c => exact .ite (.pure _) .fail
  | loop => exact .fail
  | map => exact .fail
  | ro c => exact .ite (.pure _) .fail
theorem Framed.ld1 (b off : Nat) : Framed (ld1 b off) := .bind (.rd b) fun o => by
  cases o with
  | cells x t c => exact .lift _
  | loop => exact .fail
  | map => exact .fail
  | ro c => exact .lift _
theorem Framed.stCells (b off : Nat) (vs : List Value) : Framed (stCells b off vs) := .bind (.rd b) fun o => by
  cases o with
  | cells x t c => exact .ite (.wr _ _) .fail
  | loop => exact .fail
  | map => exact .fail
  | ro => exact .fail
theorem Framed.firstN (size n : Nat) (v : Value) : Framed (firstN size n v) := by
  unfold Wb.firstN
  split
  · exact .ldCells _ _ _
  · exact .pure _
  · exact .ite (.pure _) .fail
  · exact .ite (.pure _) .fail
  · exact .fail
theorem Framed.putA (size : Nat) (base : Option Addr) (sLen sCap n : Nat) {news : M (List Value)} (h : Framed news) : Framed (putA size base sLen sCap n news) := by
  refine .bind h fun new => ?_
  cases base with
  | none => exact .ite (.pure _) .fail
  | some a => exact .bind (.stCells _ _ _) fun _ => .pure _
theorem Framed.growA (size bytes : Nat) (base : Option Addr) (sLen sCap n : Nat) {news : M (List Value)} (h : Framed news) : Framed (growA size bytes base sLen sCap n news) := by
  refine .ite (.bind h fun new => .ite ?_ .fail) .fail
  cases base with
  | none => exact .ite (.bind (.nw _) fun _ => .pure _) .fail
  | some a =>
    refine .bind (.rd _) fun o => ?_
    cases o with
    | loop => exact .fail
    | map => exact .fail
    | ro => exact .fail
    | cells x t c =>
      refine .ite ?_ .fail
      cases x with
      | none => exact .bind (.nw _) fun _ => .pure _
      | some z => exact .ite (.bind (.wr _ _) fun _ => .bind (.nw _) fun _ => .pure _) .fail
theorem Framed.appendA (size bytes : Nat) (s x : Value) : Framed (appendA size bytes s x) := by
  unfold Wb.appendA
  split
  · exact .bind (.lift _) fun n => .ite (.putA _ _ _ _ _ (.firstN _ _ _)) (.growA _ _ _ _ _ _ (.firstN _ _ _))
  · exact .fail
theorem Framed.appendZ (size bytes : Nat) (z : List Value) (s x : Value) : Framed (appendZ size bytes z s x) := by
  unfold Wb.appendZ
  split
  · exact .ite (.ite (.putA _ _ _ _ _ (.pure _)) (.growA _ _ _ _ _ _ (.pure _))) .fail
  · exact .fail

section
variable {call : Tgt → List Value → M Value} (hcall : ∀ t a, Framed (call t a))
include hcall
theorem Framed.exec (e : Env) (op : AOp) : Framed (exec call e op) := by
  cases op <;> unfold Wb.exec
  case call f args => exact .bind (.lift _) fun g => .bind (.lift _) fun l => .bind (.lift _) fun t => .bind (hcall _ _) fun v => .pure _
  case app => exact .bind (.lift _) fun s => .bind (.lift _) fun x => .bind (.appendA _ _ _ _) fun v => .pure _
  case appZ => exact .bind (.lift _) fun s => .bind (.lift _) fun x => .bind (.appendZ _ _ _ _ _) fun v => .pure _
  case panic => exact .fail
  case len =>
    refine .bind (.lift _) fun x => ?_
    split
    · refine .bind (.rd _) fun o => ?_
      split
      · exact .pure _
      · exact .fail
    · exact .bind (.lift _) fun _ => .pure _
  case mget =>
    refine .bind (.lift _) fun x => .bind (.lift _) fun y => ?_
    split
    · exact .pure _
    · refine .bind (.rd _) fun o => ?_
      split
      · exact .bind (.lift _) fun _ => .pure _
      · exact .fail
    · exact .fail
  case mset =>
    refine .bind (.lift _) fun x => .bind (.lift _) fun y => .bind (.lift _) fun z => ?_
    split
    · refine .bind (.rd _) fun o => ?_
      split
      · exact .ite (.bind (.lift _) fun _ => .bind (.wr _ _) fun _ => .pure _) .fail
      · exact .fail
    · exact .fail
  case ment =>
    refine .bind (.lift _) fun x => .bind (.lift _) fun y => ?_
    split
    · refine .bind (.rd _) fun o => ?_
      split
      · exact .ite (.bind (.lift _) fun _ => .bind (.wr _ _) fun _ => .pure _) .fail
      · exact .fail
    · exact .fail
  case mfill =>
    refine .bind (.lift _) fun x => .bind (.lift _) fun t => .bind (.lift _) fun z => ?_
    split
    · refine .bind (.rd _) fun o => ?_
      split
      · exact .bind (.lift _) fun _ => .bind (.wr _ _) fun _ => .pure _
      · exact .fail
    · exact .fail
  case mdel =>
    refine .bind (.lift _) fun x => .bind (.lift _) fun y => ?_
    split
    · exact .pure _
    · refine .bind (.rd _) fun o => ?_
      split
      · exact .bind (.lift _) fun _ => .bind (.wr _ _) fun _ => .pure _
      · exact .fail
    · exact .fail
  case conv k a =>
    refine .bind (.lift _) fun x => ?_
    split
    · exact .pure _
    · exact .bind (.nw _) fun _ => .pure _
    · exact .pure _
    · exact .bind (.ldCells _ _ _) fun _ => .bind (.lift _) fun _ => .pure _
    · exact .pure _
    · refine .bind (.rd _) fun o => ?_
      cases o with
      | cells x t c => exact .bind (.wr _ _) fun _ => .pure _
      | loop => exact .fail
      | map => exact .fail
      | ro => exact .fail
    · exact .fail
  case slc =>
    refine .bind (.lift _) fun v => ?_
    split
    · exact .bind (.lift _) fun _ => .pure _
    · refine .bind (.lift _) fun b => .bind (.rd _) fun o => ?_
      cases o with
      | cells x t c => exact .ite (.pure _) .fail
      | loop => exact .fail
      | map => exact .fail
      | ro c => exact .ite (.pure _) .fail
    · exact .fail
  case slcA =>
    refine .bind (.lift _) fun v => ?_
    split
    · refine .bind (.lift _) fun b => .bind (.rd _) fun o => ?_
      split
      · exact .pure _
      · exact .fail
    · exact .fail
  case cap =>
    refine .bind (.lift _) fun v => ?_
    split
    · exact .pure _
    · refine .bind (.rd _) fun o => ?_
      split
      · exact .pure _
      · exact .pure _
      · exact .fail
    · exact .fail
  case copy =>
    refine .bind (.lift _) fun d => .bind (.lift _) fun s => ?_
    split
    · refine .bind (.lift _) fun sl => .bind (.firstN _ _ _) fun cs => ?_
      split
      · exact .bind (.stCells _ _ _) fun _ => .pure _
      · exact .pure _
    · exact .fail
  case load =>
    refine .bind (.lift _) fun x => ?_
    split
    · split
      · exact .bind (.ld1 _ _) fun _ => .pure _
      · exact .bind (.ldCells _ _ _) fun _ => .pure _
    · exact .fail
  case store =>
    refine .bind (.lift _) fun x => .bind (.lift _) fun y => ?_
    split
    · exact .ite (.bind (.stCells _ _ _) fun _ => .pure _) .fail
    · exact .fail
  case clear =>
    refine .bind (.lift _) fun x => ?_
    split
    · exact .pure _
    · exact .bind (.stCells _ _ _) fun _ => .pure _
    · exact .fail
  all_goals
    repeat' first
      | exact Framed.pure _
      | exact Framed.lift _
      | exact Framed.fail
      | exact Framed.nw _
      | refine Framed.bind ?_ fun _ => ?_
      | refine Framed.ite ?_ ?_
      | split
theorem Framed.instr (i : AInstr) (e : Env) : Framed (instr call i e) := by
  unfold Wb.instr
  split
  · exact .bind (.exec hcall _ _) fun _ => .pure _
  · exact .bind (.lift _) fun b => .ite (.bind (.exec hcall _ _) fun _ => .pure _) (.pure _)
theorem Framed.instrs : ∀ (l : List AInstr) (e : Env), Framed (instrs call l e)
  | [], e => .pure _
  | i :: r, e => .bind (.instr hcall i e) fun e' => Framed.instrs r e'
theorem Framed.drawnGo : ∀ (l : List AInstr) (n : Nat) (e : Env) (ts : List (Nat × Touch)), Framed (drawnGo call l n e ts)
  | [], n, e, ts => .pure _
  | i :: r, n, e, ts => by
    -- as a bind over a computation that logs what it touched
    have key : Framed (fun S : St => match Wb.instr call i e { heap := S.heap, next := S.next, log := [] } with
        | none => none
        | some (e', s') => some ((e', ({ log := s'.log, lo := S.next, hi := s'.next } : Touch)), { heap := s'.heap, next := s'.next, log := s'.log ++ S.log }) : M (Env × Touch)) := by
      intro S a S' h
      cases h1 : Wb.instr call i e { heap := S.heap, next := S.next, log := [] } with
      | none => simp [h1] at h
      | some p =>
        obtain ⟨e', s'⟩ := p
        simp only [h1, Option.some.injEq, Prod.mk.injEq] at h
        obtain ⟨rfl, rfl⟩ := h
        obtain ⟨n1, D, l1, s1, k1⟩ := Framed.instr hcall i e _ _ _ h1
        simp only [List.append_nil] at l1
        refine ⟨n1, D, by simp [l1], s1, ?_⟩
        intro S2 hn hag
        obtain ⟨T, t1, t2, t3, t4, t5⟩ := k1 { heap := S2.heap, next := S2.next, log := [] } hn hag
        simp only [List.append_nil] at t3
        refine ⟨{ heap := T.heap, next := T.next, log := T.log ++ S2.log }, by dsimp only; rw [t1]; simp [t3, l1, t2, hn], t2, by simp [t3], t4, t5⟩
    have := Framed.bind key fun p => Framed.drawnGo r (n + 1) p.1 (keepT n p.2 ts)
    have e : Wb.drawnGo call (i :: r) n e ts = M.bind (fun S : St => match Wb.instr call i e { heap := S.heap, next := S.next, log := [] } with
        | none => none
        | some (e', s') => some ((e', ({ log := s'.log, lo := S.next, hi := s'.next } : Touch)), { heap := s'.heap, next := s'.next, log := s'.log ++ S.log })) fun p => Wb.drawnGo call r (n + 1) p.1 (keepT n p.2 ts) := by
      funext S
      simp only [Wb.drawnGo, M.bind]
      cases Wb.instr call i e { heap := S.heap, next := S.next, log := [] } with
      | none => rfl
      | some p => rfl
    rw [e]; exact this
theorem Framed.drawnA (l : List AInstr) (ps : List Nat) (e : Env) : Framed (drawnA call l ps e) := .bind (.drawnGo hcall l 0 e []) fun r => .ite (.pure _) .fail
omit hcall in
theorem Framed.iter {body : Env → M (Ext × Env)} (h : ∀ e, Framed (body e)) : ∀ (n : Nat) (e : Env), Framed (iter body n e)
  | 0, e => .fail
  | n + 1, e => .bind (h e) fun r => by
    split
    · exact Framed.iter h n _
    · exact .pure _
theorem Framed.run (fuel : Nat) : ∀ (c : ACode) (e : Env), Framed (run call fuel c e)
  | .skip, e => .pure _
  | .ops l, e => .bind (.instrs hcall l e) fun _ => .pure _
  | .drawn l ps, e => .bind (.drawnA hcall l ps e) fun _ => .pure _
  | .seq a b, e => .bind (Framed.run fuel a e) fun r => by
    split
    · exact Framed.run fuel b _
    · exact .pure _
  | .cond c a b, e => .bind (.lift _) fun t => by
    split
    · exact Framed.run fuel a e
    · exact Framed.run fuel b e
  | .block id a, e => .bind (Framed.run fuel a e) fun r => by
    split
    · exact .ite (.pure _) (.pure _)
    · exact .pure _
  | .loop a, e => .iter (fun e => Framed.run fuel a e) fuel e
  | .range f ps a b, e => .bind (.lift _) fun g => .bind (.nw _) fun l => .bind (.lift _) fun t => .bind (hcall _ _) fun _ => .bind (.rd _) fun o => by
    split
    · refine .bind (.wr _ _) fun _ => ?_
      split
      · exact .pure _
      · exact .pure _
    · exact .fail
  | .exit id, e => .pure _
  | .ret, e => .pure _
end
theorem Framed.resV (e : Env) (a : ARes) : Framed (resV e a) := by
  cases a with
  | tmp t => exact .lift _
  | cell t sh =>
    refine .bind (.lift _) fun x => ?_
    split
    · split
      · exact .ld1 _ _
      · exact .bind (.ldCells _ _ _) fun _ => .pure _
    · exact .fail
theorem Framed.resAll (e : Env) : ∀ l : List ARes, Framed (resAll e l)
  | [] => .pure _
  | r :: rs => .bind (.resV e r) fun v => .bind (Framed.resAll e rs) fun l => .pure _
theorem Framed.extA (k : XK) (args : List Value) : Framed (extA k args) := by
  unfold Wb.extA
  split
  · exact .pure _
  · split
    · refine .ite (.pure _) (.bind (.rd _) fun x => .bind (.rd _) fun y => ?_)
      split
      · exact .pure _
      · exact .fail
    · exact .pure _
  · exact .fail
theorem Framed.callN (F : Nat → Option AFn) : ∀ (n : Nat) (t : Tgt) (args : List Value), Framed (callN F n t args)
  | 0, t, args => by unfold Wb.callN; exact .fail
  | n + 1, .fn f, args => by
    unfold Wb.callN
    split
    · exact .fail
    · exact .extA _ _
    · exact .lift _
    · refine .ite (.bind (.run (Framed.callN F n) _ _ _) fun r => ?_) .fail
      split
      · exact .fail
      · refine .bind (.resAll _ _) fun vs => ?_
        split <;> exact .pure _
  | n + 1, .yield l, args => by
    unfold Wb.callN
    refine .bind (.rd _) fun o => ?_
    split
    · refine .ite (.bind (.wr _ _) fun _ => .bind (.run (Framed.callN F n) _ _ _) fun r => ?_) .fail
      split
      · refine .bind (.run (Framed.callN F n) _ _ _) fun r => ?_
        split
        · exact .bind (.wr _ _) fun _ => .pure _
        · exact .bind (.wr _ _) fun _ => .pure _
      · exact .fail
    · exact .fail

theorem Framed.next {α : Type} {m : M α} (h : Framed m) {S S' : St} {a : α} (k : m S = some (a, S')) : S.next ≤ S'.next := (h S a S' k).1
end Go.Wb
