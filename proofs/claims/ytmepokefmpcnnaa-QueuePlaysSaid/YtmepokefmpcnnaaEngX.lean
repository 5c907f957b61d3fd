/- The engine, part X: what is touched is there. -/
import Derived.Test.YtmepokefmpcnnaaEngU
set_option linter.unusedSimpArgs false
set_option linter.unusedVariables false
set_option linter.unusedSectionVars false
namespace Go.Wb
variable {α β : Type}
def wfS (S : St) : Prop := ∀ b o, S.heap.get b = some o → b < S.next
/-- what is touched is there; q: blocks that are known to be there -/
def BdX (q : Nat → Prop) (m : M α) : Prop := ∀ S a S', (∀ b, q b → b < S.next) → wfS S → m S = some (a, S') → wfS S' ∧ ∃ D : List (Nat × Bool), S'.log = D ++ S.log ∧ S.next ≤ S'.next ∧ ∀ x ∈ D, x.1 < S'.next
def Bd (m : M α) : Prop := BdX (fun _ => False) m
variable {q : Nat → Prop}
theorem Bd.toX {m : M α} (h : Bd m) : BdX q m := fun S a S' _ hw k => h S a S' (fun _ h => h.elim) hw k
theorem BdX.pure (a : α) : BdX q (M.pure a) := by intro S b S' _ hw h; cases h; exact ⟨hw, [], rfl, Nat.le_refl _, by simp⟩
theorem BdX.fail : BdX q (M.fail : M α) := by intro S b S' _ _ h; cases h
theorem BdX.lift (o : Option α) : BdX q (M.lift o) := by cases o with | none => exact BdX.fail | some a => exact BdX.pure a
theorem BdX.rd (b : Nat) : BdX q (rd b) := by
  intro S o S' hq hw h
  unfold Wb.rd at h
  cases hb : S.heap.get b with
  | none => rw [hb] at h; cases h
  | some p => rw [hb] at h; cases h; exact ⟨hw, [(b, false)], rfl, Nat.le_refl _, fun x hx => by
    have : x = (b, false) := by simpa using hx
    subst this; exact hw b _ hb⟩
theorem BdX.wr {b : Nat} (hb : q b) (o : Option Blk) : BdX q (wr b o) := by
  intro S u S' hq hw h
  cases h
  refine ⟨fun c o' hc => ?_, [(b, true)], rfl, Nat.le_refl _, fun x hx => by
    have : x = (b, true) := by simpa using hx
    subst this; exact hq b hb⟩
  simp only [Tr.get_set] at hc
  split at hc
  · rename_i e; subst e; exact hq _ hb
  · exact hw c o' hc
theorem BdX.nw (o : Blk) : BdX q (nw o) := by
  intro S u S' hq hw h
  cases h
  refine ⟨fun c o' hc => ?_, [], rfl, Nat.le_succ _, by simp⟩
  simp only [Tr.get_set] at hc
  split at hc
  · rename_i e; subst e; exact Nat.lt_succ_self _
  · exact Nat.lt_succ_of_lt (hw c o' hc)
theorem BdX.bind {m : M α} {f : α → M β} (hm : BdX q m) (hf : ∀ a, BdX q (f a)) : BdX q (m.bind f) := by
  intro S b S' hq hw h
  simp only [M.bind] at h
  cases hx : m S with
  | none => rw [hx] at h; cases h
  | some p =>
    obtain ⟨a, S1⟩ := p
    rw [hx] at h
    obtain ⟨a0, D1, a1, a2, a3⟩ := hm S a S1 hq hw hx
    obtain ⟨b0, D2, b1, b2, b3⟩ := hf a _ b S' (fun b hb => Nat.lt_of_lt_of_le (hq b hb) a2) a0 h
    refine ⟨b0, D2 ++ D1, by rw [b1, a1, List.append_assoc], Nat.le_trans a2 b2, fun x hx => ?_⟩
    rcases List.mem_append.1 hx with hx | hx
    · exact b3 x hx
    · exact Nat.lt_of_lt_of_le (a3 x hx) b2
theorem BdX.ite {c : Prop} [Decidable c] {a b : M α} (ha : BdX q a) (hb : BdX q b) : BdX q (if c then a else b) := by split <;> assumption
theorem BdX.rdb {b : Nat} {f : Blk → M α} (h1 : ∀ o, o.isRo = false → BdX (fun i => q i ∨ i = b) (f o)) (h2 : ∀ c, BdX q (f (.ro c))) : BdX q ((Wb.rd b).bind f) := by
  intro S a S' hq hw h
  simp only [M.bind, Wb.rd] at h
  cases hb : S.heap.get b with
  | none => rw [hb] at h; cases h
  | some o =>
    rw [hb] at h
    simp only at h
    have hbn := hw b o hb
    have fin : ∀ q' : Nat → Prop, (∀ c, q' c → c < S.next) → BdX q' (f o) → wfS S' ∧ ∃ D : List (Nat × Bool), S'.log = D ++ S.log ∧ S.next ≤ S'.next ∧ ∀ x ∈ D, x.1 < S'.next := by
      intro q' hq' hf
      obtain ⟨a0, D, a1, a2, a3⟩ := hf ({ heap := S.heap, next := S.next, log := (b, false) :: S.log } : St) a S' hq' hw h
      refine ⟨a0, D ++ [(b, false)], by rw [a1]; simp, a2, fun x hx => ?_⟩
      rcases List.mem_append.1 hx with hx | hx
      · exact a3 x hx
      · have : x = (b, false) := by simpa using hx
        subst this
        exact Nat.lt_of_lt_of_le hbn a2
    by_cases ho : o.isRo = true
    · cases o with
      | cells => cases ho
      | loop => cases ho
      | map => cases ho
      | ro c0 => exact fin q hq (h2 c0)
    · exact fin _ (fun c hc => hc.elim (hq c) (fun e => e ▸ hbn)) (h1 o (by simpa using ho))
theorem BdX.ldCells (b off n : Nat) : BdX q (ldCells b off n) := .bind (.rd b) fun o => by
  cases o <;> first | exact .fail | exact .ite (.pure _) .fail
theorem BdX.ld1 (b off : Nat) : BdX q (ld1 b off) := .bind (.rd b) fun o => by
  cases o <;> first | exact .fail | exact .lift _
theorem BdX.stCells (b off : Nat) (vs : List Value) : BdX q (stCells b off vs) := .rdb (fun o ho => by
  cases o <;> first | exact .fail | exact .ite (.wr (.inr rfl) _) .fail) fun c => .fail
theorem BdX.firstN (size n : Nat) (v : Value) : BdX q (firstN size n v) := by
  unfold Wb.firstN
  split
  · exact .ldCells _ _ _
  · exact .pure _
  · exact .ite (.pure _) .fail
  · exact .ite (.pure _) .fail
  · exact .fail
theorem BdX.putA (size : Nat) (base : Option Addr) (sLen sCap n : Nat) {news : M (List Value)} (h : BdX q news) : BdX q (putA size base sLen sCap n news) := by
  refine .bind h fun new => ?_
  cases base with
  | none => exact .ite (.pure _) .fail
  | some a => exact .bind (.stCells _ _ _) fun _ => .pure _
theorem BdX.growA (size bytes : Nat) (base : Option Addr) (sLen sCap n : Nat) {news : M (List Value)} (h : BdX q news) : BdX q (growA size bytes base sLen sCap n news) := by
  refine .ite (.bind h fun new => .ite ?_ .fail) .fail
  cases base with
  | none => exact .ite (.bind (.nw _) fun _ => .pure _) .fail
  | some a =>
    refine .rdb (fun o ho => ?_) fun c => .fail
    cases o <;> try exact .fail
    refine .ite ?_ .fail
    rename_i x t c
    cases x with
    | none => exact .bind (.nw _) fun _ => .pure _
    | some z => exact .ite (.bind (.wr (.inr rfl) _) fun _ => .bind (.nw _) fun _ => .pure _) .fail
theorem BdX.appendA (size bytes : Nat) (s x : Value) : BdX q (appendA size bytes s x) := by
  unfold Wb.appendA
  split
  · exact .bind (.lift _) fun n => .ite (.putA _ _ _ _ _ (.firstN _ _ _)) (.growA _ _ _ _ _ _ (.firstN _ _ _))
  · exact .fail
theorem BdX.appendZ (size bytes : Nat) (z : List Value) (s x : Value) : BdX q (appendZ size bytes z s x) := by
  unfold Wb.appendZ
  split
  · exact .ite (.ite (.putA _ _ _ _ _ (.pure _)) (.growA _ _ _ _ _ _ (.pure _))) .fail
  · exact .fail
section
variable {call : Tgt → List Value → M Value} (hcall : ∀ t a, Bd (call t a))
include hcall
theorem BdX.exec (e : Env) (op : AOp) : BdX q (exec call e op) := by
  cases op
  all_goals unfold Wb.exec
  all_goals repeat' (first
    | exact BdX.pure _
    | exact BdX.fail
    | exact BdX.lift _
    | exact BdX.nw _
    | exact BdX.ldCells _ _ _
    | exact BdX.ld1 _ _
    | exact BdX.stCells _ _ _
    | exact BdX.firstN _ _ _
    | exact BdX.appendA _ _ _ _
    | exact BdX.appendZ _ _ _ _ _
    | exact (hcall _ _).toX
    | exact BdX.wr (.inr rfl) _
    | refine BdX.rdb (fun o ho => ?_) (fun c => ?_)
    | refine BdX.bind ?_ (fun _ => ?_)
    | refine BdX.ite ?_ ?_
    | split
    | (rename_i o ho; cases o))
theorem BdX.instr (i : AInstr) (e : Env) : BdX q (instr call i e) := by
  unfold Wb.instr
  split
  · exact .bind (.exec hcall _ _) fun _ => .pure _
  · exact .bind (.lift _) fun b => .ite (.bind (.exec hcall _ _) fun _ => .pure _) (.pure _)
theorem BdX.instrs : ∀ (l : List AInstr) (e : Env), BdX q (instrs call l e)
  | [], e => .pure _
  | i :: r, e => .bind (.instr hcall i e) fun e' => BdX.instrs r e'
theorem BdX.drawnGo : ∀ (l : List AInstr) (n : Nat) (e : Env) (ts : List (Nat × Touch)), BdX q (drawnGo call l n e ts)
  | [], n, e, ts => .pure _
  | i :: r, n, e, ts => by
    intro S a S' hq hw h
    simp only [Wb.drawnGo] at h
    cases h1 : Wb.instr call i e { heap := S.heap, next := S.next, log := [] } with
    | none => simp [h1] at h
    | some p =>
      obtain ⟨e', s'⟩ := p
      rw [h1] at h
      obtain ⟨a0, D1, a1, a2, a3⟩ := BdX.instr (q := q) hcall i e ({ heap := S.heap, next := S.next, log := [] } : St) (e') s' hq hw h1
      obtain ⟨b0, D2, b1, b2, b3⟩ := BdX.drawnGo r _ _ _ ({ heap := s'.heap, next := s'.next, log := s'.log ++ S.log } : St) a S' (fun b hb => Nat.lt_of_lt_of_le (hq b hb) a2) a0 h
      simp only [List.append_nil] at a1
      refine ⟨b0, D2 ++ D1, by rw [b1, a1, List.append_assoc], Nat.le_trans a2 b2, fun x hx => ?_⟩
      rcases List.mem_append.1 hx with hx | hx
      · exact b3 x hx
      · exact Nat.lt_of_lt_of_le (a3 x hx) b2
theorem BdX.drawnA (l : List AInstr) (ps : List Nat) (e : Env) : BdX q (drawnA call l ps e) := .bind (.drawnGo hcall l 0 e []) fun r => .ite (.pure _) .fail
omit hcall in
theorem BdX.iter {body : Env → M (Ext × Env)} (h : ∀ e, BdX q (body e)) : ∀ (n : Nat) (e : Env), BdX q (iter body n e)
  | 0, e => .fail
  | n + 1, e => .bind (h e) fun r => by
    split
    · exact BdX.iter h n _
    · exact .pure _
theorem BdX.run (fuel : Nat) : ∀ (c : ACode) (e : Env), BdX q (run call fuel c e)
  | .skip, e => .pure _
  | .ops l, e => .bind (.instrs hcall l e) fun _ => .pure _
  | .drawn l ps, e => .bind (.drawnA hcall l ps e) fun _ => .pure _
  | .seq a b, e => .bind (BdX.run fuel a e) fun r => by
    split
    · exact BdX.run fuel b _
    · exact .pure _
  | .cond c a b, e => .bind (.lift _) fun t => by
    split
    · exact BdX.run fuel a e
    · exact BdX.run fuel b e
  | .block id a, e => .bind (BdX.run fuel a e) fun r => by
    split
    · exact .ite (.pure _) (.pure _)
    · exact .pure _
  | .loop a, e => .iter (fun e => BdX.run fuel a e) fuel e
  | .range f ps a b, e => .bind (.lift _) fun g => .bind (.nw _) fun l => .bind (.lift _) fun t => .bind (hcall _ _).toX fun _ => .rdb (fun o ho => by
    split
    · refine .bind (.wr (.inr rfl) _) fun _ => ?_
      split
      · exact .pure _
      · exact .pure _
    · exact .fail) fun c => .fail
  | .exit id, e => .pure _
  | .ret, e => .pure _
end
theorem BdX.resV (e : Env) (a : ARes) : BdX q (resV e a) := by
  cases a with
  | tmp t => exact .lift _
  | cell t sh =>
    refine .bind (.lift _) fun x => ?_
    split
    · split
      · exact .ld1 _ _
      · exact .bind (.ldCells _ _ _) fun _ => .pure _
    · exact .fail
theorem BdX.resAll (e : Env) : ∀ l : List ARes, BdX q (resAll e l)
  | [] => .pure _
  | r :: rs => .bind (.resV e r) fun v => .bind (BdX.resAll e rs) fun l => .pure _
theorem BdX.extA (k : XK) (args : List Value) : BdX q (extA k args) := by
  unfold Wb.extA
  split
  · exact .pure _
  · split
    · refine .ite (.pure _) (.bind (.rd _) fun x => .bind (.rd _) fun y => ?_)
      split
      · exact .pure _
      · exact .fail
    · exact .pure _
  · exact .fail
theorem BdX.callN (F : Nat → Option AFn) : ∀ (n : Nat) (t : Tgt) (args : List Value), Bd (callN F n t args)
  | 0, t, args => by unfold Wb.callN; exact BdX.fail
  | n + 1, .fn f, args => by
    unfold Wb.callN
    split
    · exact BdX.fail
    · exact BdX.extA _ _
    · exact BdX.lift _
    · refine BdX.ite (BdX.bind (BdX.run (BdX.callN F n) _ _ _) fun r => ?_) BdX.fail
      split
      · exact BdX.fail
      · refine BdX.bind (BdX.resAll _ _) fun vs => ?_
        split <;> exact BdX.pure _
  | n + 1, .yield l, args => by
    unfold Wb.callN
    refine BdX.rdb (fun o ho => ?_) fun c => BdX.fail
    split
    · refine BdX.ite (BdX.bind (BdX.wr (.inr rfl) _) fun _ => BdX.bind (BdX.run (BdX.callN F n) _ _ _) fun r => ?_) BdX.fail
      split
      · refine BdX.bind (BdX.run (BdX.callN F n) _ _ _) fun r => ?_
        split
        · exact BdX.bind (BdX.wr (.inr rfl) _) fun _ => BdX.pure _
        · exact BdX.bind (BdX.wr (.inr rfl) _) fun _ => BdX.pure _
      · exact BdX.fail
    · exact BdX.fail
/-! ## Heaps in which what is there is below -/
def WF (S : Hp) : Prop := ∀ b o, S.heap.get b = some o → b < S.next
theorem WF.put {S : Hp} (h : WF S) {b : Nat} (hb : b < S.next) (o : Option Blk) : WF (S.put b o) := by
  intro c o' hc
  rw [Hp.put_get] at hc
  split at hc
  · rename_i e; subst e; exact hb
  · exact h c o' hc
theorem WF.add {S : Hp} (h : WF S) (o : Blk) : WF (S.add o) := by
  intro c o' hc
  rw [Hp.add_get] at hc
  split at hc
  · rename_i e; subst e; exact Nat.lt_succ_self _
  · exact Nat.lt_succ_of_lt (h c o' hc)
theorem wp_wf {m : M α} (hm : Bd m) {Φ : α → Hp → Prop} {S : Hp} (hW : WF S) (h : wp m (fun v S' => WF S' → Φ v S') S) : wp m Φ S := by
  obtain ⟨a, S', h1, h2⟩ := h
  exact ⟨a, S', h1, h2 (hm S.st a S' (fun _ h => h.elim) hW h1).1⟩
theorem call_wf {F : Nat → Option AFn} {n : Nat} {t : Tgt} {args : List Value} {Φ : Value → Hp → Prop} {S : Hp} (hW : WF S) (h : wp (callN F n t args) (fun v S' => WF S' → Φ v S') S) : wp (callN F n t args) Φ S := wp_wf (BdX.callN F n t args) hW h
/-- D_spec, and what is touched is there -/
theorem D_specW {j : Nat} {ts : List (Nat × Touch)} {m : M Value} (hm : Bd m) {S : Hp} (hW : WF S) {W : List Nat} {Post : Value → Hp → Prop} {Ψ : Value → List (Nat × Touch) → Hp → Prop} (h : wp m (fun v S' => Fra W S S' ∧ Post v S') S)
    (k : ∀ v S' t, Fra W S S' → Post v S' → WF S' → t.lo = S.next → t.hi = S'.next → (∀ b, (b, true) ∈ t.log → S.next ≤ b ∨ b ∈ W) → (∀ x ∈ t.log, x.1 < t.hi) → Ψ v (keepT j t ts) S') : dstepP j ts m Ψ S := by
  obtain ⟨v, s', h1, h2, h3⟩ := h
  obtain ⟨w1, D, w2, w3, w4⟩ := hm S.st v s' (fun _ h => h.elim) hW h1
  have hD : s'.log = D := by rw [w2]; exact List.append_nil D
  refine ⟨v, s', h1, k v _ _ h2 h3 w1 rfl rfl (fun b hb => ?_) (fun x hx => w4 x (hD ▸ hx))⟩
  obtain ⟨ws, h4, h5⟩ := h2.wl
  have : wrs s'.log = ws := List.append_cancel_right h4
  exact h5 b (this ▸ wrs_mem hb)
/-- something that touches what is there, and something that is made behind it -/
theorem apt_new {t : Touch} {n m : Nat} (h : ∀ x ∈ t.log, x.1 < n) : apt ⟨[], n, m⟩ t := by
  refine ⟨rfl, ?_⟩
  unfold hits
  rw [List.any_eq_false]
  intro x hx
  have h1 : Nat.ble n x.1 = false := by rw [Bool.eq_false_iff]; intro c; have := Nat.le_of_ble_eq_true c; have := h x hx; omega
  simp [h1]
/-! ## More steps -/
section
variable {C : Tgt → List Value → M Value} {S : Hp} {Φ : Value → Hp → Prop} {Ψ : Value → List (Nat × Touch) → Hp → Prop}
theorem P_b2strN (n c : Nat) : wp (X C (.conv .b2str (.const (.slice none n c)))) Φ S = Φ (.string .empty) S := wp_Xp (by funext S; rfl)
theorem P_b2str (b o : Nat) (x : Option Nat) (n c : Nat) : wp (X C (.conv .b2str (.const (.slice (some ⟨b, o, x⟩) n c)))) Φ S = rdP (S.heap.get b) (fun q => condP (o + n ≤ q.length) (optP (bytesOf ((q.drop o).take n)) (fun l => Φ (.string ⟨l.toArray⟩) S))) := by
  have e : X C (.conv .b2str (.const (.slice (some ⟨b, o, x⟩) n c))) = (ldCells b o n).bind fun cs => (M.lift (bytesOf cs)).bind fun l => M.pure (.string ⟨l.toArray⟩) := by
    funext S
    simp only [X, exec, M.bind, M.lift, Atom.ev]
  have e2 : ∀ cs : List Value, ((M.lift (bytesOf cs)).bind fun l => (M.pure (.string ⟨l.toArray⟩) : M Value)) = M.lift ((bytesOf cs).map fun l => .string ⟨l.toArray⟩) := by
    intro cs
    cases bytesOf cs <;> rfl
  rw [e]
  simp only [e2]
  rw [wp_bind (Lg.ldCells _ _ _) (fun _ => Lg.lift _), wp_ldCells]
  congr 1
  funext l
  congr 1
  rw [wp_lift]
  cases bytesOf ((l.drop o).take n) <;> rfl
theorem P_max (k : IntKind) (a b : Int) : wp (X C (.max [.const (.int k a), .const (.int k b)])) Φ S = Φ (.int k (if b > a then b else a)) S := wp_Xp (by
  funext S
  simp only [X, exec, M.bind, M.lift, evs, Atom.ev, maxL, maxV, if_true])
theorem P_Gff (m : M Value) : wp (G (wanted false (.bool false)) m) Φ S = wp m Φ S := id rfl
theorem P_Gtt (m : M Value) : wp (G (wanted true (.bool true)) m) Φ S = wp m Φ S := id rfl
theorem P_Gft (m : M Value) : wp (G (wanted false (.bool true)) m) Φ S = Φ undef S := wp_pure undef Φ S
theorem P_Gtf (m : M Value) : wp (G (wanted true (.bool false)) m) Φ S = Φ undef S := wp_pure undef Φ S
theorem D_Gff (j : Nat) (ts : List (Nat × Touch)) (m : M Value) : dstepP j ts (G (wanted false (.bool false)) m) Ψ S = dstepP j ts m Ψ S := id rfl
theorem D_Gtt (j : Nat) (ts : List (Nat × Touch)) (m : M Value) : dstepP j ts (G (wanted true (.bool true)) m) Ψ S = dstepP j ts m Ψ S := id rfl
theorem D_Gft (j : Nat) (ts : List (Nat × Touch)) (m : M Value) : dstepP j ts (G (wanted false (.bool true)) m) Ψ S = Ψ undef ts S := D_pure j ts undef Ψ
theorem D_Gtf (j : Nat) (ts : List (Nat × Touch)) (m : M Value) : dstepP j ts (G (wanted true (.bool false)) m) Ψ S = Ψ undef ts S := D_pure j ts undef Ψ
end
end Go.Wb
