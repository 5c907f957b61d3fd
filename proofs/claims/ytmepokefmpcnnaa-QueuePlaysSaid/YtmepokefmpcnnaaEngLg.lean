/- The engine, part Lg: a computation does not look at its log. -/
import Derived.Test.YtmepokefmpcnnaaEngF
set_option linter.unusedSimpArgs false
set_option linter.unusedVariables false
set_option linter.unusedSectionVars false
namespace Go.Wb
def Lg {α : Type} (m : M α) : Prop := ∀ S a S', m S = some (a, S') → ∃ D : List (Nat × Bool), S'.log = D ++ S.log ∧ ∀ L, m { heap := S.heap, next := S.next, log := L } = some (a, { heap := S'.heap, next := S'.next, log := D ++ L })
theorem Lg.pure {α : Type} (a : α) : Lg (M.pure a) := by intro S b S' h; cases h; exact ⟨[], rfl, fun L => rfl⟩
theorem Lg.fail {α : Type} : Lg (M.fail : M α) := by intro S b S' h; cases h
theorem Lg.lift {α : Type} (o : Option α) : Lg (M.lift o) := by cases o with | none => exact Lg.fail | some a => exact Lg.pure a
theorem Lg.rd (b : Nat) : Lg (rd b) := by
  intro S o S' h
  unfold Wb.rd at h
  cases hb : S.heap.get b with
  | none => rw [hb] at h; cases h
  | some p => rw [hb] at h; cases h; exact ⟨[(b, false)], rfl, fun L => by simp only [Wb.rd, hb]; rfl⟩
theorem Lg.wr (b : Nat) (o : Option Blk) : Lg (wr b o) := by intro S u S' h; cases h; exact ⟨[(b, true)], rfl, fun L => rfl⟩
theorem Lg.nw (o : Blk) : Lg (nw o) := by intro S u S' h; cases h; exact ⟨[], rfl, fun L => rfl⟩
theorem Lg.bind {α β : Type} {m : M α} {f : α → M β} (hm : Lg m) (hf : ∀ a, Lg (f a)) : Lg (m.bind f) := by
  intro S b S' h
  simp only [M.bind] at h
  cases hx : m S with
  | none => rw [hx] at h; cases h
  | some p =>
    obtain ⟨a, S1⟩ := p
    rw [hx] at h
    obtain ⟨D1, q1, h1⟩ := hm S a S1 hx
    obtain ⟨D2, q2, h2⟩ := hf a _ b S' h
    exact ⟨D2 ++ D1, by rw [q2, q1, List.append_assoc], fun L => by simp only [M.bind, h1 L, h2 (D1 ++ L), List.append_assoc]⟩
theorem Lg.ite {α : Type} {c : Prop} [Decidable c] {a b : M α} (ha : Lg a) (hb : Lg b) : Lg (if c then a else b) := by split <;> assumption

theorem Lg.ldCells (b off n : Nat) : Lg (ldCells b off n) := .bind (.rd b) fun o => by
  cases o with
  | cells x t c => exact .ite (.pure _) .fail
  | loop => exact .fail
  | map => exact .fail
  | ro c => exact .ite (.pure _) .fail
theorem Lg.ld1 (b off : Nat) : Lg (ld1 b off) := .bind (.rd b) fun o => by
  cases o with
  | cells x t c => exact .lift _
  | loop => exact .fail
  | map => exact .fail
  | ro c => exact .lift _
theorem Lg.stCells (b off : Nat) (vs : List Value) : Lg (stCells b off vs) := .bind (.rd b) fun o => by
  cases o with
  | cells x t c => exact .ite (.wr _ _) .fail
  | loop => exact .fail
  | map => exact .fail
  | ro => exact .fail
theorem Lg.firstN (size n : Nat) (v : Value) : Lg (firstN size n v) := by
  unfold Wb.firstN
  split
  · exact .ldCells _ _ _
  · exact .pure _
  · exact .ite (.pure _) .fail
  · exact .ite (.pure _) .fail
  · exact .fail
theorem Lg.putA (size : Nat) (base : Option Addr) (sLen sCap n : Nat) {news : M (List Value)} (h : Lg news) : Lg (putA size base sLen sCap n news) := by
  refine .bind h fun new => ?_
  cases base with
  | none => exact .ite (.pure _) .fail
  | some a => exact .bind (.stCells _ _ _) fun _ => .pure _
theorem Lg.growA (size bytes : Nat) (base : Option Addr) (sLen sCap n : Nat) {news : M (List Value)} (h : Lg news) : Lg (growA size bytes base sLen sCap n news) := by
  refine .ite (.bind h fun new => .ite ?_ .fail) .fail
  cases base with
  | none => exact .ite (.bind (.nw _) fun _ => .pure _) .fail
  | some a =>
    refine .bind (.rd _) fun o => ?_
    cases o with
    | loop => exact .fail
    | map => exact .fail
    | ro => exact .fail
    | cells x t c =>
      refine .ite ?_ .fail
      cases x with
      | none => exact .bind (.nw _) fun _ => .pure _
      | some z => exact .ite (.bind (.wr _ _) fun _ => .bind (.nw _) fun _ => .pure _) .fail
theorem Lg.appendA (size bytes : Nat) (s x : Value) : Lg (appendA size bytes s x) := by
  unfold Wb.appendA
  split
  · exact .bind (.lift _) fun n => .ite (.putA _ _ _ _ _ (.firstN _ _ _)) (.growA _ _ _ _ _ _ (.firstN _ _ _))
  · exact .fail
theorem Lg.appendZ (size bytes : Nat) (z : List Value) (s x : Value) : Lg (appendZ size bytes z s x) := by
  unfold Wb.appendZ
  split
  · exact .ite (.ite (.putA _ _ _ _ _ (.pure _)) (.growA _ _ _ _ _ _ (.pure _))) .fail
  · exact .fail

section
variable {call : Tgt → List Value → M Value} (hcall : ∀ t a, Lg (call t a))
include hcall
theorem Lg.exec (e : Env) (op : AOp) : Lg (exec call e op) := by
  cases op <;> unfold Wb.exec
  case call f args => exact .bind (.lift _) fun g => .bind (.lift _) fun l => .bind (.lift _) fun t => .bind (hcall _ _) fun v => .pure _
  case app => exact .bind (.lift _) fun s => .bind (.lift _) fun x => .bind (.appendA _ _ _ _) fun v => .pure _
  case appZ => exact .bind (.lift _) fun s => .bind (.lift _) fun x => .bind (.appendZ _ _ _ _ _) fun v => .pure _
  case panic => exact .fail
  case len =>
    refine .bind (.lift _) fun x => ?_
    split
    · refine .bind (.rd _) fun o => ?_
      split
      · exact .pure _
      · exact .fail
    · exact .bind (.lift _) fun _ => .pure _
  case mget =>
    refine .bind (.lift _) fun x => .bind (.lift _) fun y => ?_
    split
    · exact .pure _
    · refine .bind (.rd _) fun o => ?_
      split
      · exact .bind (.lift _) fun _ => .pure _
      · exact .fail
    · exact .fail
  case mset =>
    refine .bind (.lift _) fun x => .bind (.lift _) fun y => .bind (.lift _) fun z => ?_
    split
    · refine .bind (.rd _) fun o => ?_
      split
      · exact .ite (.bind (.lift _) fun _ => .bind (.wr _ _) fun _ => .pure _) .fail
      · exact .fail
    · exact .fail
  case ment =>
    refine .bind (.lift _) fun x => .bind (.lift _) fun y => ?_
    split
    · refine .bind (.rd _) fun o => ?_
      split
      · exact .ite (.bind (.lift _) fun _ => .bind (.wr _ _) fun _ => .pure _) .fail
      · exact .fail
    · exact .fail
  case mfill =>
    refine .bind (.lift _) fun x => .bind (.lift _) fun t => .bind (.lift _) fun z => ?_
    split
    · refine .bind (.rd _) fun o => ?_
      split
      · exact .bind (.lift _) fun _ => .bind (.wr _ _) fun _ => .pure _
      · exact .fail
    · exact .fail
  case mdel =>
    refine .bind (.lift _) fun x => .bind (.lift _) fun y => ?_
    split
    · exact .pure _
    · refine .bind (.rd _) fun o => ?_
      split
      · exact .bind (.lift _) fun _ => .bind (.wr _ _) fun _ => .pure _
      · exact .fail
    · exact .fail
  case conv k a =>
    refine .bind (.lift _) fun x => ?_
    split
    · exact .pure _
    · exact .bind (.nw _) fun _ => .pure _
    · exact .pure _
    · exact .bind (.ldCells _ _ _) fun _ => .bind (.lift _) fun _ => .pure _
    · exact .pure _
    · refine .bind (.rd _) fun o => ?_
      cases o with
      | cells x t c => exact .bind (.wr _ _) fun _ => .pure _
      | loop => exact .fail
      | map => exact .fail
      | ro => exact .fail
    · exact .fail
  case slc =>
    refine .bind (.lift _) fun v => ?_
    split
    · exact .bind (.lift _) fun _ => .pure _
    · refine .bind (.lift _) fun b => .bind (.rd _) fun o => ?_
      cases o with
      | cells x t c => exact .ite (.pure _) .fail
      | loop => exact .fail
      | map => exact .fail
      | ro c => exact .ite (.pure _) .fail
    · exact .fail
  case slcA =>
    refine .bind (.lift _) fun v => ?_
    split
    · refine .bind (.lift _) fun b => .bind (.rd _) fun o => ?_
      split
      · exact .pure _
      · exact .fail
    · exact .fail
  case cap =>
    refine .bind (.lift _) fun v => ?_
    split
    · exact .pure _
    · refine .bind (.rd _) fun o => ?_
      split
      · exact .pure _
      · exact .pure _
      · exact .fail
    · exact .fail
  case copy =>
    refine .bind (.lift _) fun d => .bind (.lift _) fun s => ?_
    split
    · refine .bind (.lift _) fun sl => .bind (.firstN _ _ _) fun cs => ?_
      split
      · exact .bind (.stCells _ _ _) fun _ => .pure _
      · exact .pure _
    · exact .fail
  case load =>
    refine .bind (.lift _) fun x => ?_
    split
    · split
      · exact .bind (.ld1 _ _) fun _ => .pure _
      · exact .bind (.ldCells _ _ _) fun _ => .pure _
    · exact .fail
  case store =>
    refine .bind (.lift _) fun x => .bind (.lift _) fun y => ?_
    split
    · exact .ite (.bind (.stCells _ _ _) fun _ => .pure _) .fail
    · exact .fail
  case clear =>
    refine .bind (.lift _) fun x => ?_
    split
    · exact .pure _
    · exact .bind (.stCells _ _ _) fun _ => .pure _
    · exact .fail
  all_goals
    repeat' first
      | exact Lg.pure _
      | exact Lg.lift _
      | exact Lg.fail
      | exact Lg.nw _
      | refine Lg.bind ?_ fun _ => ?_
      | refine Lg.ite ?_ ?_
      | split
theorem Lg.instr (i : AInstr) (e : Env) : Lg (instr call i e) := by
  unfold Wb.instr
  split
  · exact .bind (.exec hcall _ _) fun _ => .pure _
  · exact .bind (.lift _) fun b => .ite (.bind (.exec hcall _ _) fun _ => .pure _) (.pure _)
theorem Lg.instrs : ∀ (l : List AInstr) (e : Env), Lg (instrs call l e)
  | [], e => .pure _
  | i :: r, e => .bind (.instr hcall i e) fun e' => Lg.instrs r e'
theorem Lg.drawnGo : ∀ (l : List AInstr) (n : Nat) (e : Env) (ts : List (Nat × Touch)), Lg (drawnGo call l n e ts)
  | [], n, e, ts => .pure _
  | i :: r, n, e, ts => by
    have key : Lg (fun S : St => match Wb.instr call i e { heap := S.heap, next := S.next, log := [] } with
        | none => none
        | some (e', s') => some ((e', ({ log := s'.log, lo := S.next, hi := s'.next } : Touch)), { heap := s'.heap, next := s'.next, log := s'.log ++ S.log }) : M (Env × Touch)) := by
      intro S a S' h
      cases h1 : Wb.instr call i e { heap := S.heap, next := S.next, log := [] } with
      | none => simp [h1] at h
      | some p =>
        obtain ⟨e', s'⟩ := p
        simp only [h1, Option.some.injEq, Prod.mk.injEq] at h
        obtain ⟨rfl, rfl⟩ := h
        exact ⟨s'.log, rfl, fun L => by simp only [h1]⟩
    have := Lg.bind key fun p => Lg.drawnGo r (n + 1) p.1 (keepT n p.2 ts)
    have e : Wb.drawnGo call (i :: r) n e ts = M.bind (fun S : St => match Wb.instr call i e { heap := S.heap, next := S.next, log := [] } with
        | none => none
        | some (e', s') => some ((e', ({ log := s'.log, lo := S.next, hi := s'.next } : Touch)), { heap := s'.heap, next := s'.next, log := s'.log ++ S.log })) fun p => Wb.drawnGo call r (n + 1) p.1 (keepT n p.2 ts) := by
      funext S
      simp only [Wb.drawnGo, M.bind]
      cases Wb.instr call i e { heap := S.heap, next := S.next, log := [] } with
      | none => rfl
      | some p => rfl
    rw [e]; exact this
theorem Lg.drawnA (l : List AInstr) (ps : List Nat) (e : Env) : Lg (drawnA call l ps e) := .bind (.drawnGo hcall l 0 e []) fun r => .ite (.pure _) .fail
omit hcall in
theorem Lg.iter {body : Env → M (Ext × Env)} (h : ∀ e, Lg (body e)) : ∀ (n : Nat) (e : Env), Lg (iter body n e)
  | 0, e => .fail
  | n + 1, e => .bind (h e) fun r => by
    split
    · exact Lg.iter h n _
    · exact .pure _
theorem Lg.run (fuel : Nat) : ∀ (c : ACode) (e : Env), Lg (run call fuel c e)
  | .skip, e => .pure _
  | .ops l, e => .bind (.instrs hcall l e) fun _ => .pure _
  | .drawn l ps, e => .bind (.drawnA hcall l ps e) fun _ => .pure _
  | .seq a b, e => .bind (Lg.run fuel a e) fun r => by
    split
    · exact Lg.run fuel b _
    · exact .pure _
  | .cond c a b, e => .bind (.lift _) fun t => by
    split
    · exact Lg.run fuel a e
    · exact Lg.run fuel b e
  | .block id a, e => .bind (Lg.run fuel a e) fun r => by
    split
    · exact .ite (.pure _) (.pure _)
    · exact .pure _
  | .loop a, e => .iter (fun e => Lg.run fuel a e) fuel e
  | .range f ps a b, e => .bind (.lift _) fun g => .bind (.nw _) fun l => .bind (.lift _) fun t => .bind (hcall _ _) fun _ => .bind (.rd _) fun o => by
    split
    · refine .bind (.wr _ _) fun _ => ?_
      split
      · exact .pure _
      · exact .pure _
    · exact .fail
  | .exit id, e => .pure _
  | .ret, e => .pure _
end
theorem Lg.resV (e : Env) (a : ARes) : Lg (resV e a) := by
  cases a with
  | tmp t => exact .lift _
  | cell t sh =>
    refine .bind (.lift _) fun x => ?_
    split
    · split
      · exact .ld1 _ _
      · exact .bind (.ldCells _ _ _) fun _ => .pure _
    · exact .fail
theorem Lg.resAll (e : Env) : ∀ l : List ARes, Lg (resAll e l)
  | [] => .pure _
  | r :: rs => .bind (.resV e r) fun v => .bind (Lg.resAll e rs) fun l => .pure _
theorem Lg.extA (k : XK) (args : List Value) : Lg (extA k args) := by
  unfold Wb.extA
  split
  · exact .pure _
  · split
    · refine .ite (.pure _) (.bind (.rd _) fun x => .bind (.rd _) fun y => ?_)
      split
      · exact .pure _
      · exact .fail
    · exact .pure _
  · exact .fail
theorem Lg.callN (F : Nat → Option AFn) : ∀ (n : Nat) (t : Tgt) (args : List Value), Lg (callN F n t args)
  | 0, t, args => by unfold Wb.callN; exact .fail
  | n + 1, .fn f, args => by
    unfold Wb.callN
    split
    · exact .fail
    · exact .extA _ _
    · exact .lift _
    · refine .ite (.bind (.run (Lg.callN F n) _ _ _) fun r => ?_) .fail
      split
      · exact .fail
      · refine .bind (.resAll _ _) fun vs => ?_
        split <;> exact .pure _
  | n + 1, .yield l, args => by
    unfold Wb.callN
    refine .bind (.rd _) fun o => ?_
    split
    · refine .ite (.bind (.wr _ _) fun _ => .bind (.run (Lg.callN F n) _ _ _) fun r => ?_) .fail
      split
      · refine .bind (.run (Lg.callN F n) _ _ _) fun r => ?_
        split
        · exact .bind (.wr _ _) fun _ => .pure _
        · exact .bind (.wr _ _) fun _ => .pure _
      · exact .fail
    · exact .fail

end Go.Wb
