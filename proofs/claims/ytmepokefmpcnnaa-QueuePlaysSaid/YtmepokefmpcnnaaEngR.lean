/- The engine, part R: what may only be read stays; arguments that lie in memory. -/
import Derived.Test.YtmepokefmpcnnaaEngL
import Derived.Test.YtmepokefmpcnnaaEngO
set_option linter.unusedSimpArgs false
set_option linter.unusedVariables false
set_option linter.unusedSectionVars false
namespace Go.Wb
open Go.RowKit Go.ChangeShapes
variable {α β : Type}

/-- what may only be read is not written, but for block b -/
def NrX (q : Nat → Prop) (m : M α) : Prop := ∀ S a S', m S = some (a, S') → ∃ D : List (Nat × Bool), S'.log = D ++ S.log ∧ S.next ≤ S'.next ∧ ∀ id c, id < S.next → ¬ q id → S.heap.get id = some (.ro c) → (id, true) ∉ D ∧ S'.heap.get id = some (.ro c)
def Nr (m : M α) : Prop := NrX (fun _ => False) m
variable {q : Nat → Prop}
theorem Nr.toX {m : M α} (h : Nr m) : NrX q m := by
  intro S a S' k
  obtain ⟨D, h1, h2, h3⟩ := h S a S' k
  exact ⟨D, h1, h2, fun id c hi _ hc => h3 id c hi (fun h => h) hc⟩
theorem NrX.pure (a : α) : NrX q (M.pure a) := by intro S b S' h; cases h; exact ⟨[], rfl, Nat.le_refl _, fun id c _ _ h => ⟨by simp, h⟩⟩
theorem NrX.fail : NrX q (M.fail : M α) := by intro S b S' h; cases h
theorem NrX.lift (o : Option α) : NrX q (M.lift o) := by cases o with | none => exact NrX.fail | some a => exact NrX.pure a
theorem NrX.rd (b : Nat) : NrX q (rd b) := by
  intro S o S' h
  unfold Wb.rd at h
  cases hb : S.heap.get b with
  | none => rw [hb] at h; cases h
  | some p => rw [hb] at h; cases h; exact ⟨[(b, false)], rfl, Nat.le_refl _, fun id c _ _ h => ⟨by simp, h⟩⟩
theorem NrX.wr {b : Nat} (hb : q b) (o : Option Blk) : NrX q (wr b o) := by
  intro S u S' h
  cases h
  refine ⟨[(b, true)], rfl, Nat.le_refl _, fun id c _ hn h => ?_⟩
  have : id ≠ b := fun e => hn (e ▸ hb)
  exact ⟨by simp [this], by simp only [Tr.get_set, if_neg this]; exact h⟩
theorem NrX.nw (o : Blk) : NrX q (nw o) := by
  intro S u S' h
  cases h
  exact ⟨[], rfl, Nat.le_succ _, fun id c hi _ h => ⟨by simp, by simp only [Tr.get_set, if_neg (Nat.ne_of_lt hi)]; exact h⟩⟩
theorem NrX.bind {m : M α} {f : α → M β} (hm : NrX q m) (hf : ∀ a, NrX q (f a)) : NrX q (m.bind f) := by
  intro S b S' h
  simp only [M.bind] at h
  cases hx : m S with
  | none => rw [hx] at h; cases h
  | some p =>
    obtain ⟨a, S1⟩ := p
    rw [hx] at h
    obtain ⟨D1, a1, a2, a3⟩ := hm S a S1 hx
    obtain ⟨D2, b1, b2, b3⟩ := hf a _ b S' h
    refine ⟨D2 ++ D1, by rw [b1, a1, List.append_assoc], Nat.le_trans a2 b2, fun id c hi hn hc => ?_⟩
    obtain ⟨c1, c2⟩ := a3 id c hi hn hc
    obtain ⟨d1, d2⟩ := b3 id c (by omega) hn c2
    exact ⟨by simp [c1, d1], d2⟩
theorem NrX.ite {c : Prop} [Decidable c] {a b : M α} (ha : NrX q a) (hb : NrX q b) : NrX q (if c then a else b) := by split <;> assumption
/-- a block that is looked at, and then written: it was none that may only be read -/
theorem NrX.rdb {b : Nat} {f : Blk → M α} (h1 : ∀ o, o.isRo = false → NrX (fun i => q i ∨ i = b) (f o)) (h2 : ∀ c, NrX q (f (.ro c))) : NrX q ((Wb.rd b).bind f) := by
  intro S a S' h
  simp only [M.bind, Wb.rd] at h
  cases hb : S.heap.get b with
  | none => rw [hb] at h; cases h
  | some o =>
    rw [hb] at h
    simp only at h
    by_cases ho : o.isRo = true
    · cases o with
      | cells => cases ho
      | loop => cases ho
      | map => cases ho
      | ro c0 =>
        obtain ⟨D, a1, a2, a3⟩ := h2 _ _ _ _ h
        refine ⟨D ++ [(b, false)], by rw [a1]; simp, a2, fun id c hi hn hc => ?_⟩
        obtain ⟨c1, c2⟩ := a3 id c hi hn hc
        exact ⟨by simp [c1], c2⟩
    · obtain ⟨D, a1, a2, a3⟩ := h1 o (by simpa using ho) _ _ _ h
      refine ⟨D ++ [(b, false)], by rw [a1]; simp, a2, fun id c hi hn hc => ?_⟩
      have hne : id ≠ b := by
        intro e
        subst e
        have : some o = some (.ro c) := hb.symm.trans hc
        cases this
        exact ho rfl
      obtain ⟨c1, c2⟩ := a3 id c hi (fun h => h.elim hn hne) hc
      exact ⟨by simp [c1], c2⟩
theorem NrX.ldCells (b off n : Nat) : NrX q (ldCells b off n) := .bind (.rd b) fun o => by
  cases o <;> first | exact .fail | exact .ite (.pure _) .fail
theorem NrX.ld1 (b off : Nat) : NrX q (ld1 b off) := .bind (.rd b) fun o => by
  cases o <;> first | exact .fail | exact .lift _
theorem NrX.stCells (b off : Nat) (vs : List Value) : NrX q (stCells b off vs) := .rdb (fun o ho => by
  cases o <;> first | exact .fail | exact .ite (.wr (.inr rfl) _) .fail) fun c => .fail
theorem NrX.firstN (size n : Nat) (v : Value) : NrX q (firstN size n v) := by
  unfold Wb.firstN
  split
  · exact .ldCells _ _ _
  · exact .pure _
  · exact .ite (.pure _) .fail
  · exact .ite (.pure _) .fail
  · exact .fail
theorem NrX.putA (size : Nat) (base : Option Addr) (sLen sCap n : Nat) {news : M (List Value)} (h : NrX q news) : NrX q (putA size base sLen sCap n news) := by
  refine .bind h fun new => ?_
  cases base with
  | none => exact .ite (.pure _) .fail
  | some a => exact .bind (.stCells _ _ _) fun _ => .pure _
theorem NrX.growA (size bytes : Nat) (base : Option Addr) (sLen sCap n : Nat) {news : M (List Value)} (h : NrX q news) : NrX q (growA size bytes base sLen sCap n news) := by
  refine .ite (.bind h fun new => .ite ?_ .fail) .fail
  cases base with
  | none => exact .ite (.bind (.nw _) fun _ => .pure _) .fail
  | some a =>
    refine .rdb (fun o ho => ?_) fun c => .fail
    cases o <;> try exact .fail
    refine .ite ?_ .fail
    rename_i x t c
    cases x with
    | none => exact .bind (.nw _) fun _ => .pure _
    | some z => exact .ite (.bind (.wr (.inr rfl) _) fun _ => .bind (.nw _) fun _ => .pure _) .fail
theorem NrX.appendA (size bytes : Nat) (s x : Value) : NrX q (appendA size bytes s x) := by
  unfold Wb.appendA
  split
  · exact .bind (.lift _) fun n => .ite (.putA _ _ _ _ _ (.firstN _ _ _)) (.growA _ _ _ _ _ _ (.firstN _ _ _))
  · exact .fail
theorem NrX.appendZ (size bytes : Nat) (z : List Value) (s x : Value) : NrX q (appendZ size bytes z s x) := by
  unfold Wb.appendZ
  split
  · exact .ite (.ite (.putA _ _ _ _ _ (.pure _)) (.growA _ _ _ _ _ _ (.pure _))) .fail
  · exact .fail
section
variable {call : Tgt → List Value → M Value} (hcall : ∀ t a, Nr (call t a))
include hcall
theorem NrX.exec (e : Env) (op : AOp) : NrX q (exec call e op) := by
  cases op
  all_goals unfold Wb.exec
  all_goals repeat' (first
    | exact NrX.pure _
    | exact NrX.fail
    | exact NrX.lift _
    | exact NrX.nw _
    | exact NrX.ldCells _ _ _
    | exact NrX.ld1 _ _
    | exact NrX.stCells _ _ _
    | exact NrX.firstN _ _ _
    | exact NrX.appendA _ _ _ _
    | exact NrX.appendZ _ _ _ _ _
    | exact (hcall _ _).toX
    | exact NrX.wr (.inr rfl) _
    | refine NrX.rdb (fun o ho => ?_) (fun c => ?_)
    | refine NrX.bind ?_ (fun _ => ?_)
    | refine NrX.ite ?_ ?_
    | split
    | (rename_i o ho; cases o))
theorem NrX.instr (i : AInstr) (e : Env) : NrX q (instr call i e) := by
  unfold Wb.instr
  split
  · exact .bind (.exec hcall _ _) fun _ => .pure _
  · exact .bind (.lift _) fun b => .ite (.bind (.exec hcall _ _) fun _ => .pure _) (.pure _)
theorem NrX.instrs : ∀ (l : List AInstr) (e : Env), NrX q (instrs call l e)
  | [], e => .pure _
  | i :: r, e => .bind (.instr hcall i e) fun e' => NrX.instrs r e'
theorem NrX.drawnGo : ∀ (l : List AInstr) (n : Nat) (e : Env) (ts : List (Nat × Touch)), NrX q (drawnGo call l n e ts)
  | [], n, e, ts => .pure _
  | i :: r, n, e, ts => by
    intro S a S' h
    simp only [Wb.drawnGo] at h
    cases h1 : Wb.instr call i e { heap := S.heap, next := S.next, log := [] } with
    | none => simp [h1] at h
    | some p =>
      obtain ⟨e', s'⟩ := p
      rw [h1] at h
      obtain ⟨D1, a1, a2, a3⟩ := NrX.instr (q := q) hcall i e _ _ _ h1
      obtain ⟨D2, b1, b2, b3⟩ := NrX.drawnGo r _ _ _ _ _ _ h
      simp only [List.append_nil] at a1
      refine ⟨D2 ++ D1, by rw [b1, a1, List.append_assoc], Nat.le_trans a2 b2, fun id c hi hn hc => ?_⟩
      obtain ⟨c1, c2⟩ := a3 id c hi hn hc
      have hi2 : id < s'.next := Nat.lt_of_lt_of_le hi a2
      obtain ⟨d1, d2⟩ := b3 id c hi2 hn c2
      exact ⟨by simp [c1, d1], d2⟩
theorem NrX.drawnA (l : List AInstr) (ps : List Nat) (e : Env) : NrX q (drawnA call l ps e) := .bind (.drawnGo hcall l 0 e []) fun r => .ite (.pure _) .fail
omit hcall in
theorem NrX.iter {body : Env → M (Ext × Env)} (h : ∀ e, NrX q (body e)) : ∀ (n : Nat) (e : Env), NrX q (iter body n e)
  | 0, e => .fail
  | n + 1, e => .bind (h e) fun r => by
    split
    · exact NrX.iter h n _
    · exact .pure _
theorem NrX.run (fuel : Nat) : ∀ (c : ACode) (e : Env), NrX q (run call fuel c e)
  | .skip, e => .pure _
  | .ops l, e => .bind (.instrs hcall l e) fun _ => .pure _
  | .drawn l ps, e => .bind (.drawnA hcall l ps e) fun _ => .pure _
  | .seq a b, e => .bind (NrX.run fuel a e) fun r => by
    split
    · exact NrX.run fuel b _
    · exact .pure _
  | .cond c a b, e => .bind (.lift _) fun t => by
    split
    · exact NrX.run fuel a e
    · exact NrX.run fuel b e
  | .block id a, e => .bind (NrX.run fuel a e) fun r => by
    split
    · exact .ite (.pure _) (.pure _)
    · exact .pure _
  | .loop a, e => .iter (fun e => NrX.run fuel a e) fuel e
  | .range f ps a b, e => .bind (.lift _) fun g => .bind (.nw _) fun l => .bind (.lift _) fun t => .bind (hcall _ _).toX fun _ => .rdb (fun o ho => by
    split
    · refine .bind (.wr (.inr rfl) _) fun _ => ?_
      split
      · exact .pure _
      · exact .pure _
    · exact .fail) fun c => .fail
  | .exit id, e => .pure _
  | .ret, e => .pure _
end
theorem NrX.resV (e : Env) (a : ARes) : NrX q (resV e a) := by
  cases a with
  | tmp t => exact .lift _
  | cell t sh =>
    refine .bind (.lift _) fun x => ?_
    split
    · split
      · exact .ld1 _ _
      · exact .bind (.ldCells _ _ _) fun _ => .pure _
    · exact .fail
theorem NrX.resAll (e : Env) : ∀ l : List ARes, NrX q (resAll e l)
  | [] => .pure _
  | r :: rs => .bind (.resV e r) fun v => .bind (NrX.resAll e rs) fun l => .pure _
theorem NrX.extA (k : XK) (args : List Value) : NrX q (extA k args) := by
  unfold Wb.extA
  split
  · exact .pure _
  · split
    · refine .ite (.pure _) (.bind (.rd _) fun x => .bind (.rd _) fun y => ?_)
      split
      · exact .pure _
      · exact .fail
    · exact .pure _
  · exact .fail
theorem NrX.callN (F : Nat → Option AFn) : ∀ (n : Nat) (t : Tgt) (args : List Value), Nr (callN F n t args)
  | 0, t, args => by unfold Wb.callN; exact NrX.fail
  | n + 1, .fn f, args => by
    unfold Wb.callN
    split
    · exact NrX.fail
    · exact NrX.extA _ _
    · exact NrX.lift _
    · refine NrX.ite (NrX.bind (NrX.run (NrX.callN F n) _ _ _) fun r => ?_) NrX.fail
      split
      · exact NrX.fail
      · refine NrX.bind (NrX.resAll _ _) fun vs => ?_
        split <;> exact NrX.pure _
  | n + 1, .yield l, args => by
    unfold Wb.callN
    refine NrX.rdb (fun o ho => ?_) fun c => NrX.fail
    split
    · refine NrX.ite (NrX.bind (NrX.wr (.inr rfl) _) fun _ => NrX.bind (NrX.run (NrX.callN F n) _ _ _) fun r => ?_) NrX.fail
      split
      · refine NrX.bind (NrX.run (NrX.callN F n) _ _ _) fun r => ?_
        split
        · exact NrX.bind (NrX.wr (.inr rfl) _) fun _ => NrX.pure _
        · exact NrX.bind (NrX.wr (.inr rfl) _) fun _ => NrX.pure _
      · exact NrX.fail
    · exact NrX.fail
end Go.Wb
