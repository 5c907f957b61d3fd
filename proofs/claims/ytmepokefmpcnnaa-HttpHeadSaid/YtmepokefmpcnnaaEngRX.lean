/- The engine: EngR EngR2 EngT EngU EngX EngSh EngStr. It proves nothing of the program by itself; it has no conditions. -/
import Derived.Test.YtmepokefmpcnnaaEngLO
import Derived.DataReads
import Derived.Test.YtmepokefmpcnnaaEngVP
import Derived.Test.YtmepokefmpcnnaaEngQ
/- The engine, part R: what may only be read stays; arguments that lie in memory. -/
section
set_option linter.unusedSimpArgs false
set_option linter.unusedVariables false
set_option linter.unusedSectionVars false
namespace Go.Wb
open Go.RowKit Go.ChangeShapes
variable {α β : Type}

/-- what may only be read is not written, but for block b -/
def NrX (q : Nat → Prop) (m : M α) : Prop := ∀ S a S', m S = some (a, S') → ∃ D : List (Nat × Bool), S'.log = D ++ S.log ∧ S.next ≤ S'.next ∧ ∀ id c, id < S.next → ¬ q id → S.heap.get id = some (.ro c) → (id, true) ∉ D ∧ S'.heap.get id = some (.ro c)
def Nr (m : M α) : Prop := NrX (fun _ => False) m
variable {q : Nat → Prop}
theorem Nr.toX {m : M α} (h : Nr m) : NrX q m := by
  intro S a S' k
  obtain ⟨D, h1, h2, h3⟩ := h S a S' k
  exact ⟨D, h1, h2, fun id c hi _ hc => h3 id c hi (fun h => h) hc⟩
theorem NrX.pure (a : α) : NrX q (M.pure a) := by intro S b S' h; cases h; exact ⟨[], rfl, Nat.le_refl _, fun id c _ _ h => ⟨by simp, h⟩⟩
theorem NrX.fail : NrX q (M.fail : M α) := by intro S b S' h; cases h
theorem NrX.lift (o : Option α) : NrX q (M.lift o) := by cases o with | none => exact NrX.fail | some a => exact NrX.pure a
theorem NrX.rd (b : Nat) : NrX q (rd b) := by
  intro S o S' h
  unfold Wb.rd at h
  cases hb : S.heap.get b with
  | none => rw [hb] at h; cases h
  | some p => rw [hb] at h; cases h; exact ⟨[(b, false)], rfl, Nat.le_refl _, fun id c _ _ h => ⟨by simp, h⟩⟩
theorem NrX.wr {b : Nat} (hb : q b) (o : Option Blk) : NrX q (wr b o) := by
  intro S u S' h
  cases h
  refine ⟨[(b, true)], rfl, Nat.le_refl _, fun id c _ hn h => ?_⟩
  have : id ≠ b := fun e => hn (e ▸ hb)
  exact ⟨by simp [this], by simp only [Tr.get_set, if_neg this]; exact h⟩
theorem NrX.nw (o : Blk) : NrX q (nw o) := by
  intro S u S' h
  cases h
  exact ⟨[], rfl, Nat.le_succ _, fun id c hi _ h => ⟨by simp, by simp only [Tr.get_set, if_neg (Nat.ne_of_lt hi)]; exact h⟩⟩
theorem NrX.bind {m : M α} {f : α → M β} (hm : NrX q m) (hf : ∀ a, NrX q (f a)) : NrX q (m.bind f) := by
  intro S b S' h
  simp only [M.bind] at h
  cases hx : m S with
  | none => rw [hx] at h; cases h
  | some p =>
    obtain ⟨a, S1⟩ := p
    rw [hx] at h
    obtain ⟨D1, a1, a2, a3⟩ := hm S a S1 hx
    obtain ⟨D2, b1, b2, b3⟩ := hf a _ b S' h
    refine ⟨D2 ++ D1, by rw [b1, a1, List.append_assoc], Nat.le_trans a2 b2, fun id c hi hn hc => ?_⟩
    obtain ⟨c1, c2⟩ := a3 id c hi hn hc
    obtain ⟨d1, d2⟩ := b3 id c (by omega) hn c2
    exact ⟨by simp [c1, d1], d2⟩
theorem NrX.ite {c : Prop} [Decidable c] {a b : M α} (ha : NrX q a) (hb : NrX q b) : NrX q (if c then a else b) := by split <;> assumption
/-- a block that is looked at, and then written: it was none that may only be read -/
theorem NrX.rdb {b : Nat} {f : Blk → M α} (h1 : ∀ o, o.isRo = false → NrX (fun i => q i ∨ i = b) (f o)) (h2 : ∀ c, NrX q (f (.ro c))) : NrX q ((Wb.rd b).bind f) := by
  intro S a S' h
  simp only [M.bind, Wb.rd] at h
  cases hb : S.heap.get b with
  | none => rw [hb] at h; cases h
  | some o =>
    rw [hb] at h
    simp only at h
    by_cases ho : o.isRo = true
    · cases o with
      | cells => cases ho
      | loop => cases ho
      | map => cases ho
      | ro c0 =>
        obtain ⟨D, a1, a2, a3⟩ := h2 _ _ _ _ h
        refine ⟨D ++ [(b, false)], by rw [a1]; simp, a2, fun id c hi hn hc => ?_⟩
        obtain ⟨c1, c2⟩ := a3 id c hi hn hc
        exact ⟨by simp [c1], c2⟩
    · obtain ⟨D, a1, a2, a3⟩ := h1 o (by simpa using ho) _ _ _ h
      refine ⟨D ++ [(b, false)], by rw [a1]; simp, a2, fun id c hi hn hc => ?_⟩
      have hne : id ≠ b := by
        intro e
        subst e
        have : some o = some (.ro c) := hb.symm.trans hc
        cases this
        exact ho rfl
      obtain ⟨c1, c2⟩ := a3 id c hi (fun h => h.elim hn hne) hc
      exact ⟨by simp [c1], c2⟩
theorem NrX.ldCells (b off n : Nat) : NrX q (ldCells b off n) := .bind (.rd b) fun o => by
  cases o <;> first | exact .fail | exact .ite (.pure _) .fail
theorem NrX.ld1 (b off : Nat) : NrX q (ld1 b off) := .bind (.rd b) fun o => by
  cases o <;> first | exact .fail | exact .lift _
theorem NrX.stCells (b off : Nat) (vs : List Value) : NrX q (stCells b off vs) := .rdb (fun o ho => by
  cases o <;> first | exact .fail | exact .ite (.wr (.inr rfl) _) .fail) fun c => .fail
theorem NrX.firstN (size n : Nat) (v : Value) : NrX q (firstN size n v) := by
  unfold Wb.firstN
  split
  · exact .ldCells _ _ _
  · exact .pure _
  · exact .ite (.pure _) .fail
  · exact .ite (.pure _) .fail
  · exact .fail
theorem NrX.putA (size : Nat) (base : Option Addr) (sLen sCap n : Nat) {news : M (List Value)} (h : NrX q news) : NrX q (putA size base sLen sCap n news) := by
  refine .bind h fun new => ?_
  cases base with
  | none => exact .ite (.pure _) .fail
  | some a => exact .bind (.stCells _ _ _) fun _ => .pure _
theorem NrX.growA (size bytes : Nat) (base : Option Addr) (sLen sCap n : Nat) {news : M (List Value)} (h : NrX q news) : NrX q (growA size bytes base sLen sCap n news) := by
  refine .ite (.bind h fun new => .ite ?_ .fail) .fail
  cases base with
  | none => exact .ite (.bind (.nw _) fun _ => .pure _) .fail
  | some a =>
    refine .rdb (fun o ho => ?_) fun c => .fail
    cases o <;> try exact .fail
    refine .ite ?_ .fail
    rename_i x t c
    cases x with
    | none => exact .bind (.nw _) fun _ => .pure _
    | some z => exact .ite (.bind (.wr (.inr rfl) _) fun _ => .bind (.nw _) fun _ => .pure _) .fail
theorem NrX.appendA (size bytes : Nat) (s x : Value) : NrX q (appendA size bytes s x) := by
  unfold Wb.appendA
  split
  · exact .bind (.lift _) fun n => .ite (.putA _ _ _ _ _ (.firstN _ _ _)) (.growA _ _ _ _ _ _ (.firstN _ _ _))
  · exact .fail
theorem NrX.appendZ (size bytes : Nat) (z : List Value) (s x : Value) : NrX q (appendZ size bytes z s x) := by
  unfold Wb.appendZ
  split
  · exact .ite (.ite (.putA _ _ _ _ _ (.pure _)) (.growA _ _ _ _ _ _ (.pure _))) .fail
  · exact .fail
section
variable {call : Tgt → List Value → M Value} (hcall : ∀ t a, Nr (call t a))
include hcall
theorem NrX.exec (e : Env) (op : AOp) : NrX q (exec call e op) := by
  cases op
  all_goals unfold Wb.exec
  all_goals repeat' (first
    | exact NrX.pure _
    | exact NrX.fail
    | exact NrX.lift _
    | exact NrX.nw _
    | exact NrX.ldCells _ _ _
    | exact NrX.ld1 _ _
    | exact NrX.stCells _ _ _
    | exact NrX.firstN _ _ _
    | exact NrX.appendA _ _ _ _
    | exact NrX.appendZ _ _ _ _ _
    | exact (hcall _ _).toX
    | exact NrX.wr (.inr rfl) _
    | refine NrX.rdb (fun o ho => ?_) (fun c => ?_)
    | refine NrX.bind ?_ (fun _ => ?_)
    | refine NrX.ite ?_ ?_
    | split
    | (rename_i o ho; cases o))
theorem NrX.instr (i : AInstr) (e : Env) : NrX q (instr call i e) := by
  unfold Wb.instr
  split
  · exact .bind (.exec hcall _ _) fun _ => .pure _
  · exact .bind (.lift _) fun b => .ite (.bind (.exec hcall _ _) fun _ => .pure _) (.pure _)
theorem NrX.instrs : ∀ (l : List AInstr) (e : Env), NrX q (instrs call l e)
  | [], e => .pure _
  | i :: r, e => .bind (.instr hcall i e) fun e' => NrX.instrs r e'
theorem NrX.drawnGo : ∀ (l : List AInstr) (n : Nat) (e : Env) (ts : List (Nat × Touch)), NrX q (drawnGo call l n e ts)
  | [], n, e, ts => .pure _
  | i :: r, n, e, ts => by
    intro S a S' h
    simp only [Wb.drawnGo] at h
    cases h1 : Wb.instr call i e { heap := S.heap, next := S.next, log := [] } with
    | none => simp [h1] at h
    | some p =>
      obtain ⟨e', s'⟩ := p
      rw [h1] at h
      obtain ⟨D1, a1, a2, a3⟩ := NrX.instr (q := q) hcall i e _ _ _ h1
      obtain ⟨D2, b1, b2, b3⟩ := NrX.drawnGo r _ _ _ _ _ _ h
      simp only [List.append_nil] at a1
      refine ⟨D2 ++ D1, by rw [b1, a1, List.append_assoc], Nat.le_trans a2 b2, fun id c hi hn hc => ?_⟩
      obtain ⟨c1, c2⟩ := a3 id c hi hn hc
      have hi2 : id < s'.next := Nat.lt_of_lt_of_le hi a2
      obtain ⟨d1, d2⟩ := b3 id c hi2 hn c2
      exact ⟨by simp [c1, d1], d2⟩
theorem NrX.drawnA (l : List AInstr) (ps : List Nat) (e : Env) : NrX q (drawnA call l ps e) := .bind (.drawnGo hcall l 0 e []) fun r => .ite (.pure _) .fail
omit hcall in
theorem NrX.iter {body : Env → M (Ext × Env)} (h : ∀ e, NrX q (body e)) : ∀ (n : Nat) (e : Env), NrX q (iter body n e)
  | 0, e => .fail
  | n + 1, e => .bind (h e) fun r => by
    split
    · exact NrX.iter h n _
    · exact .pure _
theorem NrX.run (fuel : Nat) : ∀ (c : ACode) (e : Env), NrX q (run call fuel c e)
  | .skip, e => .pure _
  | .ops l, e => .bind (.instrs hcall l e) fun _ => .pure _
  | .drawn l ps, e => .bind (.drawnA hcall l ps e) fun _ => .pure _
  | .seq a b, e => .bind (NrX.run fuel a e) fun r => by
    split
    · exact NrX.run fuel b _
    · exact .pure _
  | .cond c a b, e => .bind (.lift _) fun t => by
    split
    · exact NrX.run fuel a e
    · exact NrX.run fuel b e
  | .block id a, e => .bind (NrX.run fuel a e) fun r => by
    split
    · exact .ite (.pure _) (.pure _)
    · exact .pure _
  | .loop a, e => .iter (fun e => NrX.run fuel a e) fuel e
  | .range f ps a b, e => .bind (.lift _) fun g => .bind (.nw _) fun l => .bind (.lift _) fun t => .bind (hcall _ _).toX fun _ => .rdb (fun o ho => by
    split
    · refine .bind (.wr (.inr rfl) _) fun _ => ?_
      split
      · exact .pure _
      · exact .pure _
    · exact .fail) fun c => .fail
  | .exit id, e => .pure _
  | .ret, e => .pure _
end
theorem NrX.resV (e : Env) (a : ARes) : NrX q (resV e a) := by
  cases a with
  | tmp t => exact .lift _
  | cell t sh =>
    refine .bind (.lift _) fun x => ?_
    split
    · split
      · exact .ld1 _ _
      · exact .bind (.ldCells _ _ _) fun _ => .pure _
    · exact .fail
theorem NrX.resAll (e : Env) : ∀ l : List ARes, NrX q (resAll e l)
  | [] => .pure _
  | r :: rs => .bind (.resV e r) fun v => .bind (NrX.resAll e rs) fun l => .pure _
theorem NrX.extA (k : XK) (args : List Value) : NrX q (extA k args) := by
  unfold Wb.extA
  split
  · exact .pure _
  · split
    · refine .ite (.pure _) (.bind (.rd _) fun x => .bind (.rd _) fun y => ?_)
      split
      · exact .pure _
      · exact .fail
    · exact .pure _
  · exact .fail
theorem NrX.callN (F : Nat → Option AFn) : ∀ (n : Nat) (t : Tgt) (args : List Value), Nr (callN F n t args)
  | 0, t, args => by unfold Wb.callN; exact NrX.fail
  | n + 1, .fn f, args => by
    unfold Wb.callN
    split
    · exact NrX.fail
    · exact NrX.extA _ _
    · exact NrX.lift _
    · refine NrX.ite (NrX.bind (NrX.run (NrX.callN F n) _ _ _) fun r => ?_) NrX.fail
      split
      · exact NrX.fail
      · refine NrX.bind (NrX.resAll _ _) fun vs => ?_
        split <;> exact NrX.pure _
  | n + 1, .yield l, args => by
    unfold Wb.callN
    refine NrX.rdb (fun o ho => ?_) fun c => NrX.fail
    split
    · refine NrX.ite (NrX.bind (NrX.wr (.inr rfl) _) fun _ => NrX.bind (NrX.run (NrX.callN F n) _ _ _) fun r => ?_) NrX.fail
      split
      · refine NrX.bind (NrX.run (NrX.callN F n) _ _ _) fun r => ?_
        split
        · exact NrX.bind (NrX.wr (.inr rfl) _) fun _ => NrX.pure _
        · exact NrX.bind (NrX.wr (.inr rfl) _) fun _ => NrX.pure _
      · exact NrX.fail
    · exact NrX.fail
end Go.Wb
end
/- The engine, part R2: arguments that lie in memory, as abstract blocks that are only read. -/
section
set_option linter.unusedSimpArgs false
set_option linter.unusedVariables false
namespace Go.Wb
open Go.RowKit Go.ChangeShapes
variable {P : Program} {w : World}

abbrev Locs := List (Nat × Nat)
def Ext' (L : Locs) (r : Ren) : Prop := ∀ (i : Nat) (p : Nat × Nat), L[i]? = some p → r.dom i ∧ r.to i = p.1 ∧ r.base i = p.2 ∧ r.ext i = none
theorem Ext'.left {L M : Locs} {r : Ren} (h : Ext' (L ++ M) r) : Ext' L r := fun i p hp => h i p (by
  rw [List.getElem?_append_left (List.getElem?_eq_some_iff.1 hp).1]; exact hp)
def GoodAt (w : World) (L : Locs) (bs : List (List Value)) : Prop := ∀ (i : Nat) (c : List Value), bs[i]? = some c → ∃ p, L[i]? = some p ∧ ∃ rc el fz, w.heap[p.1]? = some (.cells rc el fz) ∧
  ∀ r, Ext' L r → ∃ l', LRel r c l' ∧ ∀ (k : Nat) v, l'[k]? = some v → rc[p.2 + k]? = some v
/-! ## Types -/
def layOk (P : Program) : List Field → Nat → Option Nat
  | [], o => some o
  | f :: fs, o => match Nat.beq f.offset o with | true => layOk P fs (o + P.cellsOf f.type) | false => none
def absT (P : Program) : Nat → TypeId → Bool
  | 0, _ => false
  | g + 1, t => match P.underlying t with
    | some .bool => true
    | some (.int _) => true
    | some .string => true
    | some (.slice e) => absT P g e && !(Nat.beq (P.cellsOf e) 0)
    | some (.struct fs) => fs.toList.all (fun f => absT P g f.type) && (match layOk P fs.toList 0 with | some n => Nat.beq n (P.cellsOf t) | none => false)
    | _ => false
/-- cells of a type, in abstract blocks -/
def ShpF (Q : TypeId → List Value → Prop) (P : Program) : List Field → List Value → Prop
  | [], cs => cs = []
  | f :: fs, cs => ∃ a b, cs = a ++ b ∧ a.length = P.cellsOf f.type ∧ Q f.type a ∧ ShpF Q P fs b
def Shp (P : Program) (bs : List (List Value)) : Nat → TypeId → List Value → Prop
  | 0, _, _ => False
  | g + 1, t, cs => match P.underlying t with
    | some .bool => ∃ b, cs = [.bool b]
    | some (.int k) => ∃ n, cs = [.int k n] ∧ k.has n
    | some .string => ∃ s, cs = [.string s] ∧ s.size ≤ maxLen
    | some (.slice e) => cs = [.slice none 0 0] ∨ cs = [.chan none] ∨ ∃ id n c es, cs = [.slice (some ⟨id, 0, none⟩) n c] ∧ n ≤ c ∧ 0 < c ∧ c ≤ maxLen ∧ bs[id]? = some (es : List (List Value)).flatten ∧ es.length = c ∧ ∀ e' ∈ es, e'.length = P.cellsOf e ∧ Shp P bs g e e'
    | some (.struct fs) => ShpF (fun t a => Shp P bs g t a) P fs.toList cs
    | _ => False
theorem ShpF.mono {Q R : TypeId → List Value → Prop} (h : ∀ t a, Q t a → R t a) : ∀ {fs : List Field} {cs : List Value}, ShpF Q P fs cs → ShpF R P fs cs
  | [], cs, k => k
  | f :: fs, cs, ⟨a, b, h1, h2, h3, h4⟩ => ⟨a, b, h1, h2, h _ _ h3, ShpF.mono h h4⟩
theorem Shp.more {bs cs' : List (List Value)} : ∀ {g : Nat} {t : TypeId} {cs : List Value}, Shp P bs g t cs → Shp P (bs ++ cs') g t cs
  | 0, t, cs, h => h.elim
  | g + 1, t, cs, h => by
    simp only [Shp] at h ⊢
    split at h
    · exact h
    · exact h
    · exact h
    · rcases h with h | h | ⟨id, n, c, es, h1, h2, h3, h4, h5, h6, h7⟩
      · exact .inl h
      · exact .inr (.inl h)
      · exact .inr (.inr ⟨id, n, c, es, h1, h2, h3, h4, by rw [List.getElem?_append_left (List.getElem?_eq_some_iff.1 h5).1]; exact h5, h6, fun e' he => ⟨(h7 e' he).1, (h7 e' he).2.more⟩⟩)
    · exact h.mono fun t a k => k.more
    · exact h.elim

/-! ## Opening -/
section
variable {H : Type} {enc : TypeId × Value → H}
abbrev trodA (enc : TypeId × Value → H) (P : Program) (w : World) := DataW.trod enc P w 0 (fun _ => true) true
structure Opened (P : Program) (w : World) (L : Locs) (bs : List (List Value)) (cs : List Value) (Q : List (List Value) → List Value → Prop) : Prop where
  is : ∃ L2 bs2 cs', (L ++ L2).length = (bs ++ bs2).length ∧ GoodAt w (L ++ L2) (bs ++ bs2) ∧ (∀ r, Ext' (L ++ L2) r → LRel r cs' cs) ∧ Q (bs ++ bs2) cs' ∧ cs'.length = cs.length
theorem opened_here {L : Locs} {bs : List (List Value)} {cs cs' : List Value} {Q : List (List Value) → List Value → Prop} (hl : L.length = bs.length) (hg : GoodAt w L bs) (h : ∀ r, LRel r cs' cs) (hq : Q bs cs') (he : cs'.length = cs.length) : Opened P w L bs cs Q :=
  ⟨⟨[], [], cs', by simpa using hl, by simpa using hg, fun r _ => h r, by simpa using hq, he⟩⟩
theorem open_fields {g : Nat} {cs : List Value} {f : Nat} (IH : ∀ (t : TypeId) (cs : List Value) d ps (f : Nat), absT P g t = true → trodA enc P w f t cs = some (d, ps) → ∀ L bs, L.length = bs.length → GoodAt w L bs → Opened P w L bs cs fun bs cs' => Shp P bs g t cs') :
    ∀ (fs : List Field) (o n : Nat), layOk P fs o = some n → n = cs.length → (∀ x ∈ fs, absT P g x.type = true) → (∀ x ∈ fs, ∃ d ps, trodA enc P w f x.type ((cs.drop x.offset).take (P.cellsOf x.type)) = some (d, ps)) →
    ∀ L bs, L.length = bs.length → GoodAt w L bs → Opened P w L bs (cs.drop o) fun bs cs' => ShpF (fun t a => Shp P bs g t a) P fs cs'
  | [], o, n, hlay, hn, ha, ht, L, bs, hl, hg => by
    simp only [layOk, Option.some.injEq] at hlay
    have : cs.drop o = [] := List.drop_eq_nil_of_le (by omega)
    rw [this]
    exact opened_here hl hg (fun r => .nil) rfl rfl
  | x :: fs, o, n, hlay, hn, ha, ht, L, bs, hl, hg => by
    simp only [layOk] at hlay
    split at hlay
    · rename_i ho
      have ho := Nat.eq_of_beq_eq_true ho
      obtain ⟨d, ps, hx⟩ := ht x (List.mem_cons_self ..)
      rw [ho] at hx
      have hle : ∀ (fs : List Field) (o n : Nat), layOk P fs o = some n → o ≤ n := by
        intro fs
        induction fs with
        | nil => intro o n h; simp only [layOk, Option.some.injEq] at h; omega
        | cons y fs ih =>
          intro o n h
          simp only [layOk] at h
          split at h
          · have := ih _ _ h; omega
          · cases h
      have hon := hle _ _ _ hlay
      obtain ⟨L2, bs2, a, h1, h2, h3, h4, h5⟩ := (IH x.type _ d ps f (ha x (List.mem_cons_self ..)) hx L bs hl hg).is
      obtain ⟨L3, bs3, b, k1, k2, k3, k4, k5⟩ := (open_fields IH fs _ n hlay hn (fun y hy => ha y (List.mem_cons_of_mem _ hy)) (fun y hy => ht y (List.mem_cons_of_mem _ hy)) (L ++ L2) (bs ++ bs2) h1 h2).is
      have hcut : cs.drop o = (cs.drop o).take (P.cellsOf x.type) ++ cs.drop (o + P.cellsOf x.type) := by
        rw [← List.drop_drop, List.take_append_drop]
      have hal : a.length = P.cellsOf x.type := by rw [h5, List.length_take, List.length_drop]; omega
      refine ⟨⟨L2 ++ L3, bs2 ++ bs3, a ++ b, by rw [← List.append_assoc, ← List.append_assoc]; exact k1, by rw [← List.append_assoc, ← List.append_assoc]; exact k2, fun r hr => ?_, ?_, ?_⟩⟩
      · rw [← List.append_assoc] at hr
        rw [hcut]
        exact (h3 r hr.left).append (k3 r hr)
      · rw [← List.append_assoc]
        exact ⟨a, b, rfl, hal, h4.more, k4⟩
      · rw [hcut, List.length_append, List.length_append, h5, k5]
    · cases hlay
theorem open_elems {g : Nat} {e : TypeId} {a : Addr} (he : absT P g e = true) (IH : ∀ (t : TypeId) (cs : List Value) d ps (f : Nat), absT P g t = true → trodA enc P w f t cs = some (d, ps) → ∀ L bs, L.length = bs.length → GoodAt w L bs → Opened P w L bs cs fun bs cs' => Shp P bs g t cs') (f : Nat) :
    ∀ (n : Nat), (∀ i, i < n → ∃ cs d ps, w.cells? 0 (a.add (i * P.cellsOf e)) (P.cellsOf e) = some cs ∧ trodA enc P w f e cs = some (d, ps)) → ∀ L bs, L.length = bs.length → GoodAt w L bs →
    ∃ (css : List (List Value)) (L2 : Locs) (bs2 es : List (List Value)), css.length = n ∧ es.length = n ∧ (∀ i, i < n → w.cells? 0 (a.add (i * P.cellsOf e)) (P.cellsOf e) = css[i]?) ∧ (L ++ L2).length = (bs ++ bs2).length ∧ GoodAt w (L ++ L2) (bs ++ bs2) ∧
      (∀ r, Ext' (L ++ L2) r → LRel r es.flatten css.flatten) ∧ ∀ x ∈ es, x.length = P.cellsOf e ∧ Shp P (bs ++ bs2) g e x
  | 0, h, L, bs, hl, hg => ⟨[], [], [], [], rfl, rfl, fun i hi => by omega, by simpa using hl, by simpa using hg, fun r _ => .nil, fun x hx => by simp at hx⟩
  | n + 1, h, L, bs, hl, hg => by
    obtain ⟨css, L2, bs2, es, h1, h2, h3, h4, h5, h6, h7⟩ := open_elems he IH f n (fun i hi => h i (by omega)) L bs hl hg
    obtain ⟨cs, d, ps, k1, k2⟩ := h n (by omega)
    obtain ⟨L3, bs3, cs', m1, m2, m3, m4, m5⟩ := (IH e cs d ps f he k2 (L ++ L2) (bs ++ bs2) h4 h5).is
    have hcl := (World.cells?_some k1).2.1
    refine ⟨css ++ [cs], L2 ++ L3, bs2 ++ bs3, es ++ [cs'], by simp [h1], by simp [h2], fun i hi => ?_, by rw [← List.append_assoc, ← List.append_assoc]; exact m1, by rw [← List.append_assoc, ← List.append_assoc]; exact m2, fun r hr => ?_, fun x hx => ?_⟩
    · by_cases hin : i < n
      · rw [List.getElem?_append_left (by omega)]; exact h3 i hin
      · obtain rfl : i = n := by omega
        rw [List.getElem?_append_right (by omega), h1, Nat.sub_self]; exact k1
    · rw [← List.append_assoc] at hr
      simp only [List.flatten_append, List.flatten_cons, List.flatten_nil, List.append_nil]
      exact (h6 r hr.left).append (m3 r hr)
    · rw [← List.append_assoc]
      rcases List.mem_append.1 hx with hx | hx
      · exact ⟨(h7 x hx).1, (h7 x hx).2.more⟩
      · obtain rfl : x = cs' := by simpa using hx
        exact ⟨by rw [m5, hcl], m4⟩
theorem flat_get {n : Nat} : ∀ (css : List (List Value)), (∀ c ∈ css, c.length = n) → 0 < n → ∀ k, css.flatten[k]? = (css[k / n]?).bind fun c => c[k % n]?
  | [], h, hn, k => by simp
  | c :: css, h, hn, k => by
    have hc := h c (List.mem_cons_self ..)
    rw [List.flatten_cons]
    by_cases hk : k < n
    · rw [List.getElem?_append_left (by omega), Nat.div_eq_of_lt hk, Nat.mod_eq_of_lt hk]
      simp
    · rw [List.getElem?_append_right (by omega), flat_get css (fun c hc => h c (List.mem_cons_of_mem _ hc)) hn, hc]
      have e1 : k / n = (k - n) / n + 1 := by rw [Nat.div_eq k n, if_pos ⟨hn, by omega⟩]
      have e2 : k % n = (k - n) % n := by rw [Nat.mod_eq k n, if_pos ⟨hn, by omega⟩]
      rw [e1, e2, List.getElem?_cons_succ]
theorem has_of_wf {k : IntKind} {n : Int} (h : (Lit.int k n).wf = true) : k.has n := by
  simp only [Lit.wf, Bool.and_eq_true, decide_eq_true_eq] at h
  exact h
theorem open_cells : ∀ (g : Nat) (t : TypeId) (cs : List Value) d ps (f : Nat), absT P g t = true → trodA enc P w f t cs = some (d, ps) → ∀ L bs, L.length = bs.length → GoodAt w L bs → Opened P w L bs cs fun bs cs' => Shp P bs g t cs'
  | 0, t, cs, d, ps, f, ha, ht, L, bs, hl, hg => by cases ha
  | g + 1, t, cs, d, ps, 0, ha, ht, L, bs, hl, hg => by cases ht
  | g + 1, t, cs, d, ps, f + 1, ha, ht, L, bs, hl, hg => by
    simp only [absT] at ha
    have IH := open_cells g
    simp only [Shp]
    cases hu : P.underlying t with
    | none => rw [hu] at ha; cases ha
    | some u =>
      rw [hu] at ha
      have one : ∀ {v : Value} {Q : List (List Value) → List Value → Prop}, (∀ r, VRel r v v) → Q bs [v] → Opened P w L bs [v] Q := fun hv hq => opened_here hl hg (fun r => .cons (hv r) .nil) hq rfl
      cases u with
      | bool =>
        rcases cs with _ | ⟨v, _ | ⟨v2, r⟩⟩ <;> try (simp [trodA, DataW.trod, hu] at ht; done)
        cases v <;> try (simp [trodA, DataW.trod, hu] at ht; done)
        exact one (fun r => .bool _) ⟨_, rfl⟩
      | int k =>
        rcases cs with _ | ⟨v, _ | ⟨v2, r⟩⟩ <;> try (simp [trodA, DataW.trod, hu] at ht; done)
        cases v <;> try (simp [trodA, DataW.trod, hu] at ht; done)
        simp only [trodA, DataW.trod, hu] at ht
        split at ht
        · rename_i h
          obtain ⟨rfl, h2⟩ := h
          exact one (fun r => .int _ _) ⟨_, rfl, has_of_wf h2⟩
        · cases ht
      | string =>
        rcases cs with _ | ⟨v, _ | ⟨v2, r⟩⟩ <;> try (simp [trodA, DataW.trod, hu] at ht; done)
        cases v <;> try (simp [trodA, DataW.trod, hu] at ht; done)
        simp only [trodA, DataW.trod, hu] at ht
        split at ht
        · rename_i h
          exact one (fun r => .string _) ⟨_, rfl, h⟩
        · cases ht
      | slice e =>
        simp only [Bool.and_eq_true, Bool.not_eq_true'] at ha
        have hsz : 0 < P.cellsOf e := by
          have : Nat.beq (P.cellsOf e) 0 = false := ha.2
          cases hz : P.cellsOf e with
          | zero => rw [hz] at this; cases this
          | succ n => omega
        rcases cs with _ | ⟨v, _ | ⟨v2, r⟩⟩ <;> try (simp [trodA, DataW.trod, hu] at ht; done)
        cases v <;> try (simp [trodA, DataW.trod, hu] at ht; done)
        rename_i p len cap
        cases p with
        | none =>
          have : len = 0 ∧ cap = 0 := by
            cases len with
            | zero => cases cap with
              | zero => exact ⟨rfl, rfl⟩
              | succ c => exfalso; simp only [trodA, DataW.trod, hu] at ht; cases ht
            | succ n => exfalso; simp only [trodA, DataW.trod, hu] at ht; cases ht
          obtain ⟨rfl, rfl⟩ := this
          exact one (fun r => .slcNil) (.inl rfl)
        | some a =>
          simp only [trodA, DataW.trod, hu] at ht
          split at ht
          · rename_i hc
            obtain ⟨_, hlc, hcm⟩ := hc
            by_cases hc0 : cap = 0
            · subst hc0
              obtain rfl : len = 0 := by omega
              exact opened_here hl hg (fun r => .cons (.slcE a) .nil) (.inr (.inl rfl)) rfl
            · simp only [Option.bind_eq_some_iff, Option.map_eq_some_iff] at ht
              obtain ⟨elems, h1, rest, h2, h3⟩ := ht
              have h2' : (List.range (cap - len)).mapM (fun j => (w.cells? 0 (a.add ((len + j) * P.cellsOf e)) (P.cellsOf e)).bind (DataW.trod enc P w 0 (fun _ => true) true f e)) = some rest := h2
              have each : ∀ i, i < cap → ∃ cs d ps, w.cells? 0 (a.add (i * P.cellsOf e)) (P.cellsOf e) = some cs ∧ trodA enc P w f e cs = some (d, ps) := by
                intro i hi
                have key : ∀ {o : Option (DataW H × List MemPlace)} {q : Nat} {l : List (DataW H × List MemPlace)}, q < l.length → (w.cells? 0 (a.add (i * P.cellsOf e)) (P.cellsOf e)).bind (DataW.trod enc P w 0 (fun _ => true) true f e) = l[q]? → ∃ cs d ps, w.cells? 0 (a.add (i * P.cellsOf e)) (P.cellsOf e) = some cs ∧ trodA enc P w f e cs = some (d, ps) := by
                  intro o q l hq hx
                  rw [List.getElem?_eq_getElem hq, Option.bind_eq_some_iff] at hx
                  obtain ⟨cs, hx1, hx2⟩ := hx
                  exact ⟨cs, _, _, hx1, hx2⟩
                by_cases hil : i < len
                · have hlen := mapM_some_length h1
                  exact key (o := none) (q := i) (l := elems) (by simp at hlen; omega) (mapM_some_get h1 i i (by simp [hil]))
                · have hlen := mapM_some_length h2'
                  have := mapM_some_get h2' (i - len) (i - len) (List.getElem?_range (by omega))
                  rw [show len + (i - len) = i by omega] at this
                  exact key (o := none) (q := i - len) (l := rest) (by simp at hlen; omega) this
              obtain ⟨css, L2, bs2, es, k1, k2, k3, k4, k5, k6, k7⟩ := open_elems ha.1 (IH) f cap each L bs hl hg
              have hcss : ∀ c ∈ css, c.length = P.cellsOf e := by
                intro c hc
                obtain ⟨i, hi, rfl⟩ := List.mem_iff_getElem.1 hc
                have := k3 i (by omega)
                rw [List.getElem?_eq_getElem hi] at this
                exact (World.cells?_some this).2.1
              -- the block
              have h00 := k3 0 (by omega)
              have hlt0 : 0 < css.length := by omega
              rw [List.getElem?_eq_getElem hlt0] at h00
              have hcell0 := (World.cells?_some h00).2.2 0 hsz
              have hl0 : (css[0]).length = P.cellsOf e := hcss _ (List.getElem_mem hlt0)
              rw [List.getElem?_eq_getElem (by omega)] at hcell0
              have e00 : (a.add (0 * P.cellsOf e)).add 0 = a := by simp [Addr.add]
              rw [e00] at hcell0
              have hblk : a.spot = none ∧ ∃ rc el fz, w.heap[a.block]? = some (.cells rc el fz) := by
                unfold World.cell? at hcell0
                split at hcell0
                · rename_i rc el fz hb
                  split at hcell0
                  · cases hcell0
                  · rename_i hs
                    exact ⟨by simpa using hs, rc, el, fz, hb⟩
                · cases hcell0
              obtain ⟨hspot, rc, el, fz, hb⟩ := hblk
              obtain ⟨ab, ao, asp⟩ := a
              simp only at hspot hb
              subst hspot
              have hrc : ∀ (k : Nat) v, css.flatten[k]? = some v → rc[ao + k]? = some v := by
                intro k v hk
                rw [flat_get css hcss hsz, Option.bind_eq_some_iff] at hk
                obtain ⟨c, hc1, hc2⟩ := hk
                have hq : k / P.cellsOf e < cap := by
                  have := (List.getElem?_eq_some_iff.1 hc1).1; omega
                have h4 := k3 _ hq
                rw [hc1] at h4
                have h5 := (World.cells?_some h4).2.2 (k % P.cellsOf e) (Nat.mod_lt _ hsz)
                rw [hc2] at h5
                have e1 : ((⟨ab, ao, none⟩ : Addr).add (k / P.cellsOf e * P.cellsOf e)).add (k % P.cellsOf e) = ⟨ab, ao + k, none⟩ := by
                  have hd := Nat.div_add_mod' k (P.cellsOf e)
                  simp only [Addr.add]
                  split <;> split <;> simp <;> omega
                rw [e1] at h5
                unfold World.cell? at h5
                rw [hb] at h5
                simpa using h5
              refine ⟨⟨L2 ++ [(ab, ao)], bs2 ++ [es.flatten], [.slice (some ⟨(bs ++ bs2).length, 0, none⟩) len cap], ?_, ?_, fun r hr => ?_, .inr (.inr ⟨(bs ++ bs2).length, len, cap, es, rfl, hlc, by omega, hcm, ?_, k2, fun e' he' => ?_⟩), rfl⟩⟩
              · rw [← List.append_assoc, ← List.append_assoc, List.length_append, k4, List.length_append (as := bs ++ bs2)]; rfl
              · rw [← List.append_assoc, ← List.append_assoc]
                intro i c hc
                by_cases hi : i < (bs ++ bs2).length
                · rw [List.getElem?_append_left hi] at hc
                  obtain ⟨p, hp, rc', el', fz', m1, m2⟩ := k5 i c hc
                  exact ⟨p, by rw [List.getElem?_append_left (by omega)]; exact hp, rc', el', fz', m1, fun r hr => m2 r hr.left⟩
                · have : i = (bs ++ bs2).length := by
                    have := (List.getElem?_eq_some_iff.1 hc).1
                    simp at this hi ⊢; omega
                  subst this
                  rw [List.getElem?_append_right (Nat.le_refl _), Nat.sub_self] at hc
                  obtain rfl : es.flatten = c := by simpa using hc
                  refine ⟨(ab, ao), by rw [List.getElem?_append_right (by omega), ← k4, Nat.sub_self]; rfl, rc, el, fz, hb, fun r hr => ⟨css.flatten, k6 r hr.left, hrc⟩⟩
              · rw [← List.append_assoc] at hr
                obtain ⟨d1, d2, d3, d4⟩ := hr (bs ++ bs2).length (ab, ao) (by rw [List.getElem?_append_right (by omega), ← k4, Nat.sub_self]; rfl)
                refine .cons ?_ .nil
                have := VRel.slc (r := r) (b := (bs ++ bs2).length) (o := 0) (n := len) (c := cap) (c' := cap) d1 (fun _ => rfl) (Nat.le_refl _) (fun z hz => by rw [d4] at hz; cases hz)
                rw [d2, d3, Nat.add_zero] at this
                exact this
              · rw [← List.append_assoc, List.getElem?_append_right (Nat.le_refl _), Nat.sub_self]; rfl
              · rw [← List.append_assoc]
                exact ⟨(k7 e' he').1, (k7 e' he').2.more⟩
          · cases ht
      | struct fs =>
        simp only [Bool.and_eq_true] at ha
        obtain ⟨ha1, ha2⟩ := ha
        split at ha2
        · rename_i n hn
          obtain rfl := Nat.eq_of_beq_eq_true ha2
          simp only [trodA, DataW.trod, hu] at ht
          split at ht
          · rename_i hcl
            simp only [Option.map_eq_some_iff] at ht
            obtain ⟨xs, h1, h2⟩ := ht
            have := open_fields (enc := enc) (cs := cs) (f := f) (IH) fs.toList 0 _ hn hcl.symm (fun x hx => by simpa using List.all_eq_true.1 ha1 x hx) (fun x hx => by
              obtain ⟨i, hi, rfl⟩ := List.mem_iff_getElem.1 hx
              have h3 := mapM_some_get h1 i _ (List.getElem?_eq_getElem hi)
              have h4 : i < xs.length := by rw [mapM_some_length h1]; exact hi
              rw [List.getElem?_eq_getElem h4] at h3
              exact ⟨_, _, h3⟩) L bs hl hg
            simpa using this
          · cases ht
        · cases ha2
      | _ => cases ha
/-! ## All arguments -/
def ShpV (P : Program) (bs : List (List Value)) (g : Nat) (t : TypeId) (v : Value) : Prop := match P.underlying t with
  | some (.struct _) => ∃ cs, v = .agg ⟨cs⟩ ∧ Shp P bs g t cs
  | _ => Shp P bs g t [v]
def ShpA (P : Program) (bs : List (List Value)) (g : Nat) : List TypeId → List Value → Prop
  | [], vs => vs = []
  | t :: ts, vs => ∃ v r, vs = v :: r ∧ ShpV P bs g t v ∧ ShpA P bs g ts r
theorem ShpV.more {bs cs' : List (List Value)} {g : Nat} {t : TypeId} {v : Value} (h : ShpV P bs g t v) : ShpV P (bs ++ cs') g t v := by
  unfold ShpV at h ⊢
  split at h
  · obtain ⟨cs, h1, h2⟩ := h; exact ⟨cs, h1, h2.more⟩
  · exact h.more
theorem open_arg {base g : Nat} {t : TypeId} {v : Value} {d : DataW H} {ps : List MemPlace} (ha : absT P g t = true) (hv : Value.okWide P w .any base t v) (ht : DataW.Trod enc P w 0 (fun _ => true) true t v d ps) {L : Locs} {bs : List (List Value)} (hl : L.length = bs.length) (hg : GoodAt w L bs) :
    ∃ L2 bs2 v', (L ++ L2).length = (bs ++ bs2).length ∧ GoodAt w (L ++ L2) (bs ++ bs2) ∧ (∀ r, Ext' (L ++ L2) r → VRel r v' v) ∧ ShpV P (bs ++ bs2) g t v' := by
  obtain ⟨f, ht⟩ := ht
  obtain ⟨L2, bs2, cs', h1, h2, h3, h4, h5⟩ := (open_cells g t _ d ps f ha ht L bs hl hg).is
  unfold Value.okWide at hv
  unfold ShpV
  split at hv
  · rename_i fs hu
    obtain ⟨cs, rfl, _⟩ := hv
    refine ⟨L2, bs2, .agg ⟨cs'⟩, h1, h2, fun r hr => ?_, ?_⟩
    · have := h3 r hr
      have h6 : LRel r cs' cs.toList := this
      exact LRel.agg h6
    · rw [hu]; exact ⟨cs', rfl, h4⟩
  · rename_i n e hu
    cases g with
    | zero => cases ha
    | succ g => simp only [absT, hu] at ha; cases ha
  · rename_i hn1 hn2
    have hone : v.cells.toList = [v] := by
      cases v <;> try rfl
      rename_i cs
      unfold Cell.okWide at hv
      split at hv <;> try (rename_i hh; cases hh; done)
      all_goals try (rename_i hh _; cases hh; done)
      all_goals first | (unfold Cell.ok at hv; split at hv <;> first | (exact hv.elim) | (rename_i hh; cases hh) | (rename_i hh _; cases hh)) | skip
    have h6 := h3
    rw [hone] at h5 h6
    obtain ⟨v', rfl⟩ : ∃ v', cs' = [v'] := by
      cases cs' with
      | nil => cases h5
      | cons a r => cases r with
        | nil => exact ⟨a, rfl⟩
        | cons b r => simp at h5
    refine ⟨L2, bs2, v', h1, h2, fun r hr => ?_, ?_⟩
    · cases h6 r hr with | cons hv _ => exact hv
    · split
      · rename_i fs hfs; exact absurd hfs (hn1 fs)
      · exact h4
theorem open_args {base g : Nat} : ∀ (ts : List TypeId) (vs : List Value) (ds : List (DataW H)) (ps : List MemPlace), (∀ t ∈ ts, absT P g t = true) → (∀ (j : Nat) t v, ts[j]? = some t → vs[j]? = some v → Value.okWide P w .any base t v) →
    DataW.TrodAll enc P w 0 (fun _ => true) true ts vs ds ps → ∀ L bs, L.length = bs.length → GoodAt w L bs →
    ∃ L2 bs2 vs', (L ++ L2).length = (bs ++ bs2).length ∧ GoodAt w (L ++ L2) (bs ++ bs2) ∧ (∀ r, Ext' (L ++ L2) r → LRel r vs' vs) ∧ ShpA P (bs ++ bs2) g ts vs'
  | [], vs, ds, ps, ha, hv, ht, L, bs, hl, hg => by
    obtain ⟨rfl, rfl, rfl⟩ := trodAll_nil ht
    exact ⟨[], [], [], by simpa using hl, by simpa using hg, fun r _ => .nil, rfl⟩
  | t :: ts, vs, ds, ps, ha, hv, ht, L, bs, hl, hg => by
    obtain ⟨v, vs', d, ds', p, q, rfl, rfl, rfl, h1, h2⟩ := trodAll_cons ht
    obtain ⟨L2, bs2, v', k1, k2, k3, k4⟩ := open_arg (ha t (List.mem_cons_self ..)) (hv 0 t v rfl rfl) h1 hl hg
    obtain ⟨L3, bs3, vs2, m1, m2, m3, m4⟩ := open_args ts vs' ds' q (fun t ht => ha t (List.mem_cons_of_mem _ ht)) (fun j t v h1 h2 => hv (j + 1) t v h1 h2) h2 (L ++ L2) (bs ++ bs2) k1 k2
    refine ⟨L2 ++ L3, bs2 ++ bs3, v' :: vs2, by rw [← List.append_assoc, ← List.append_assoc]; exact m1, by rw [← List.append_assoc, ← List.append_assoc]; exact m2, fun r hr => ?_, v', vs2, rfl, ?_, ?_⟩
    · rw [← List.append_assoc] at hr; exact .cons (k3 r hr.left) (m3 r hr)
    · rw [← List.append_assoc]; exact k4.more
    · rw [← List.append_assoc]; exact m4
end

/-! ## The start -/
def roHeap : List (List Value) → Nat → Tr Blk → Tr Blk
  | [], _, t => t
  | c :: r, i, t => roHeap r (i + 1) (t.set i (some (.ro c)))
theorem roHeap_get : ∀ (l : List (List Value)) (i : Nat) (t : Tr Blk) (j : Nat), (roHeap l i t).get j = if i ≤ j ∧ j < i + l.length then (l[j - i]?).map .ro else t.get j
  | [], i, t, j => by simp only [roHeap, List.length_nil, Nat.add_zero]; rw [if_neg (by omega)]
  | c :: r, i, t, j => by
    simp only [roHeap, roHeap_get r, Tr.get_set, List.length_cons]
    by_cases h : j = i
    · subst h
      rw [if_neg (by omega), if_pos rfl, if_pos (by omega), Nat.sub_self]; rfl
    · by_cases h2 : i + 1 ≤ j ∧ j < i + 1 + r.length
      · rw [if_pos h2, if_pos (by omega), show j - i = (j - (i + 1)) + 1 by omega, List.getElem?_cons_succ]
      · rw [if_neg h2, if_neg h, if_neg (by omega)]
def roHp (bs : List (List Value)) : Hp := { heap := roHeap bs 0 .leaf, next := bs.length, wl := [] }
theorem roHp_get (bs : List (List Value)) (j : Nat) : (roHp bs).heap.get j = (bs[j]?).map .ro := by
  show (roHeap bs 0 .leaf).get j = _
  rw [roHeap_get, Tr.get_leaf]
  by_cases h : j < bs.length
  · rw [if_pos (by omega), Nat.sub_zero]
  · rw [if_neg (by omega), List.getElem?_eq_none (by omega)]; rfl
theorem start_ro {L : Locs} {bs : List (List Value)} (hl : L.length = bs.length) (hg : GoodAt w L bs) : Rel P (Ren.of L) (roHp bs).st w := by
  have he : Ext' L (Ren.of L) := by
    intro i p hp
    have hi := (List.getElem?_eq_some_iff.1 hp).1
    simp only [Ren.of, List.getD_eq_getElem?_getD, hp, Option.getD_some, and_true, true_and]
    exact hi
  have at_ : ∀ (i : Nat) b, (roHp bs).st.heap.get i = some b → ∃ c, bs[i]? = some c ∧ b = .ro c := by
    intro i b hb
    have h1 : (roHp bs).heap.get i = some b := hb
    rw [roHp_get, Option.map_eq_some_iff] at h1
    obtain ⟨c, h1, h2⟩ := h1
    exact ⟨c, h1, h2.symm⟩
  constructor
  · intro i b hb
    obtain ⟨c, hc, rfl⟩ := at_ i b hb
    obtain ⟨p, hp, rc, el, fz, h2, h3⟩ := hg i c hc
    obtain ⟨d1, d2, d3, d4⟩ := he i p hp
    obtain ⟨l', h4, h5⟩ := h3 _ he
    exact ⟨d1, .cells rc el fz, by rw [d2]; exact h2, ⟨d4, l', h4, by rw [d3]; exact h5⟩⟩
  · intro i j bi bj hi hj hro
    obtain ⟨c, _, rfl⟩ := at_ i bi hi
    obtain ⟨c', _, rfl⟩ := at_ j bj hj
    rcases hro with h | h <;> cases h
/-- a run that brings true: so does the call, and what was there stays -/
theorem run_ro (hm : P.follows .mixedOrders = true) {F : Nat → Option AFn} (hF : TabOk P F) {n : Nat} {f : FuncId} {args : List Value} {bs : List (List Value)} (h : wp (callN F n (.fn f) args) (fun v _ => v = .bool true) (roHp bs)) (hg : isGo (F f) = true)
    {L : Locs} (hl : L.length = bs.length) (hgood : GoodAt w L bs) {args' : Array Value} (ha : ∀ r, Ext' L r → LRel r args args'.toList) :
    Calls P f args' w fun e w' => e = .returned (.bool true) ∧ Below w.heap.size w w' := by
  obtain ⟨v, S', hc, rfl⟩ := h
  have he : Ext' L (Ren.of L) := by
    intro i p hp
    have hi := (List.getElem?_eq_some_iff.1 hp).1
    simp only [Ren.of, List.getD_eq_getElem?_getD, hp, Option.getD_some, and_true, true_and]
    exact hi
  have hgo : ∀ k, F f ≠ some (.ext k) := by intro k hk; rw [hk] at hg; simp [isGo] at hg
  have hgs : ∀ k, F f ≠ some (.sum k) := by intro k hk; rw [hk] at hg; simp [isGo] at hg
  obtain ⟨D, r', w', v', hs, hv, hst⟩ := callN_calls hm hF hc (start_ro (P := P) hl hgood) (fun id h1 h2 h3 => by
    have h4 : id < L.length := h3
    have h5 : bs.length ≤ id := h1
    omega) (ha _ he) hgo hgs
  obtain rfl := hv.bool_inv
  obtain ⟨D2, hD2, _, hro⟩ := NrX.callN F n (.fn f) args _ _ _ hc
  have hDD : D = D2 := by
    have h1 := hs.log
    rw [hD2] at h1
    exact (List.append_cancel_right h1).symm
  subst hDD
  intro cs
  obtain ⟨fr, k1, k2, k3⟩ := hst cs
  refine ⟨.returned (.bool true), w', fr, ⟨rfl, hs.os, hs.tape, hs.output, hs.size, fun k hk => ?_⟩, k1, k2, k3⟩
  by_cases hlv : Live (Ren.of L) (roHp bs).st k
  · obtain ⟨id, b, h1, h2⟩ := hlv
    have h3 : (roHp bs).heap.get id = some b := h1
    rw [roHp_get, Option.map_eq_some_iff] at h3
    obtain ⟨c, h3, rfl⟩ := h3
    have hid : id < bs.length := (List.getElem?_eq_some_iff.1 h3).1
    have := hs.kept id _ h1 (hro id c hid (fun h => h) h1).1
    rw [h2] at this
    exact this
  · exact hs.frame k hk hlv
/-- a law whose arguments are opened -/
theorem law_ro (hm : P.follows .mixedOrders = true) {F : Nat → Option AFn} (hF : TabOk P F) {n g : Nat} {f : FuncId} {fn : Func} {base : Nat} {H : Type} {enc : TypeId × Value → H} {args : Array Value} {ds : List (DataW H)} {ps : List MemPlace}
    (hg : isGo (F f) = true) (hab : (fn.params.toList.all fun t => absT P g t) = true) (hval : ∀ (j : Nat) t v, fn.params[j]? = some t → args[j]? = some v → Value.okWide P w .any base t v)
    (ht : DataW.TrodAll enc P w 0 (fun _ => true) true fn.params.toList args.toList ds ps)
    (h : ∀ bs args', ShpA P bs g fn.params.toList args' → wp (callN F n (.fn f) args') (fun v _ => v = .bool true) (roHp bs)) :
    Calls P f args w fun e w' => e = .returned (.bool true) ∧ Below w.heap.size w w' := by
  obtain ⟨L, bs, vs, h1, h2, h3, h4⟩ := open_args (base := base) (g := g) fn.params.toList args.toList ds ps (fun t ht => by simpa using List.all_eq_true.1 hab t ht) (fun j t v h1 h2 => hval j t v (by simpa using h1) (by simpa using h2)) ht [] [] rfl (fun i c hc => by simp at hc)
  exact run_ro hm hF (h _ _ h4) hg h1 h2 h3
end Go.Wb
end
/- The engine, part T: functions of plain arguments, as summaries; what is enumerated. -/
section
set_option linter.unusedVariables false
namespace Go.Wb
variable {P : Program}
/-- a function's answers to plain arguments -/
noncomputable def plG (F : Nat → Option AFn) (f : Nat) : List Value → Option Value := fun args => if args.all plain = true then (match callN F 60 (.fn f) args (names 0) with | some (v, _) => if plain v = true then some v else none | none => none) else none
theorem plG_ok (hm : P.follows .mixedOrders = true) {F : Nat → Option AFn} (hF : TabOk P F) (f : Nat) : SumOk P f (plG F f) := by
  refine sum_of_run hm hF fun args v h => ?_
  unfold plG at h
  split at h
  · rename_i h1
    split at h
    · rename_i v' S' h2
      split at h
      · rename_i h3
        obtain rfl : v' = v := by simpa using h
        exact ⟨h1, h3, 60, by show (callN F 60 (.fn f) args (names 0)).map (·.1) = _; rw [h2]; rfl⟩
      · cases h
    · cases h
  · cases h
theorem plG_eq {F : Nat → Option AFn} {f : Nat} {args : List Value} {v : Value} (h1 : args.all plain = true) (h2 : plain v = true) (h : ∃ S, callN F 60 (.fn f) args (names 0) = some (v, S)) : plG F f args = some v := by
  obtain ⟨S, h⟩ := h
  unfold plG
  rw [if_pos h1, h]
  simp only [if_pos h2]
def hp0 : Hp := { heap := .leaf, next := 0, wl := [] }
theorem plG_wp {F : Nat → Option AFn} {f : Nat} {args : List Value} {v : Value} (h1 : args.all plain = true) (h2 : plain v = true) (h : wp (callN F 60 (.fn f) args) (fun w _ => w = v) hp0) : plG F f args = some v := by
  obtain ⟨a, S', h, rfl⟩ := h
  exact plG_eq h1 h2 ⟨S', h⟩
theorem P_sum {F : Nat → Option AFn} {f : FuncId} {g : List Value → Option Value} (h : F f = some (.sum g)) (n : Nat) (args : List Value) (Φ : Value → Hp → Prop) (S : Hp) : wp (callN F (n + 1) (.fn f) args) Φ S = optP (g args) (fun v => Φ v S) := by
  have : callN F (n + 1) (.fn f) args = M.lift (g args) := by
    funext S
    simp only [callN, h]
  rw [this, wp_lift]
noncomputable def runs (F : Nat → Option AFn) (f : Nat) (ok : Value → Bool) (args : List Value) : Bool := Q.callQ F 60 (.fn f) args (Q.startQ 0) fun v _ => ok v
theorem plG_runs {F : Nat → Option AFn} {f : Nat} {ok : Value → Bool} {args : List Value} (h1 : args.all plain = true) (hok : ∀ v, ok v = true → plain v = true) (h : runs F f ok args = true) : ∃ v, plG F f args = some v ∧ ok v = true := by
  have hr : Q.SRel (Q.startQ 0) (names 0) := ⟨fun b o h => by simp [Q.startQ, Tr.get_leaf] at h, rfl, rfl⟩
  obtain ⟨v, S', q', h2, h3, h4⟩ := Q.callQ_ok F 60 (.fn f) args _ _ hr _ h
  exact ⟨v, plG_eq h1 (hok v h4) ⟨S', h2⟩, h4⟩
def ints : Nat → List Int
  | 0 => []
  | n + 1 => (n : Int) :: ints n
theorem mem_ints : ∀ (n : Nat) (a : Int), 0 ≤ a → a < n → a ∈ ints n
  | 0, a, h0, h1 => by omega
  | n + 1, a, h0, h1 => by
    by_cases h : a = n
    · subst h; exact List.mem_cons_self ..
    · exact List.mem_cons_of_mem _ (mem_ints n a h0 (by omega))
theorem ws_ne {F : Nat → Option AFn} {f i : Nat} {g : List Value → Option Value} (h : Nat.beq i f = false) : withSum F f g i = F i := by unfold withSum; rw [h]
theorem ws_eq {F : Nat → Option AFn} {f : Nat} {g : List Value → Option Value} : withSum F f g f = some (.sum g) := by unfold withSum; rw [Nat.beq_refl]
theorem plG_known {F : Nat → Option AFn} {f : Nat} (h : Q.runsTrue F 60 f [] 0 = true) : plG F f [] = some (.bool true) := by
  have h := Q.runsTrue_callN h
  refine plG_eq rfl rfl ?_
  change (callN F 60 (.fn f) [] (names 0)).map (·.1) = _ at h
  cases hc : callN F 60 (.fn f) [] (names 0) with
  | none => rw [hc] at h; cases h
  | some r =>
    obtain ⟨v, S⟩ := r
    rw [hc] at h
    obtain rfl : v = .bool true := by simpa using h
    exact ⟨S, rfl⟩
/-- a slice of such cells: these, and what lies behind -/
def SlV (bs : List (List Value)) (Q : Value → Prop) (v : Value) (vs : List Value) : Prop :=
  (∀ x ∈ vs, Q x) ∧ ((v = .slice none 0 0 ∧ vs = []) ∨ (v = .chan none ∧ vs = []) ∨ ∃ id c zs, v = .slice (some ⟨id, 0, none⟩) vs.length c ∧ vs.length ≤ c ∧ 0 < c ∧ c ≤ maxLen ∧ bs[id]? = some (vs ++ zs) ∧ (vs ++ zs).length = c)
theorem flat_one : ∀ (es : List (List Value)), (∀ e ∈ es, e.length = 1) → ∃ vs, es.flatten = vs ∧ vs.length = es.length ∧ es = vs.map fun v => [v]
  | [], h => ⟨[], rfl, rfl, rfl⟩
  | e :: es, h => by
    obtain ⟨vs, h1, h2, h3⟩ := flat_one es fun e he => h e (List.mem_cons_of_mem _ he)
    have he := h e (List.mem_cons_self ..)
    obtain ⟨v, rfl⟩ : ∃ v, e = [v] := by
      cases e with
      | nil => cases he
      | cons a r => cases r with
        | nil => exact ⟨a, rfl⟩
        | cons b r => simp at he
    exact ⟨v :: vs, by rw [List.flatten_cons, h1]; rfl, by simp [h2], by rw [List.map_cons, ← h3]⟩
theorem slV_of {bs : List (List Value)} {g : Nat} {t e : TypeId} {v : Value} (hu : P.underlying t = some (.slice e)) (hz : P.cellsOf e = 1) (h : ShpV P bs (g + 1) t v) : ∃ vs, SlV bs (fun x => Shp P bs g e [x]) v vs := by
  unfold ShpV at h
  rw [hu] at h
  simp only [Shp, hu] at h
  rcases h with h | h | ⟨id, n, c, es, h1, h2, h3, h4, h5, h6, h7⟩
  · exact ⟨[], fun x hx => by simp at hx, .inl ⟨by simpa using h, rfl⟩⟩
  · exact ⟨[], fun x hx => by simp at hx, .inr (.inl ⟨by simpa using h, rfl⟩)⟩
  · obtain ⟨vs, k1, k2, k3⟩ := flat_one es fun e he => by rw [(h7 e he).1, hz]
    have hl : (vs.take n).length = n := by rw [List.length_take]; omega
    refine ⟨vs.take n, fun x hx => ?_, .inr (.inr ⟨id, c, vs.drop n, ?_, ?_, h3, h4, ?_, ?_⟩)⟩
    · have : [x] ∈ es := by rw [k3]; exact List.mem_map.2 ⟨x, List.mem_of_mem_take hx, rfl⟩
      exact (h7 _ this).2
    · rw [hl]; simpa using h1
    · rw [hl]; exact h2
    · rw [List.take_append_drop, h5, k1]
    · rw [List.take_append_drop]; omega
theorem shp_int {bs : List (List Value)} {g : Nat} {e : TypeId} {k : IntKind} (hu : P.underlying e = some (.int k)) {x : Value} (h : Shp P bs (g + 1) e [x]) : ∃ n, x = .int k n ∧ k.has n := by
  simp only [Shp, hu] at h
  obtain ⟨n, h1, h2⟩ := h
  exact ⟨n, by simpa using h1, h2⟩
theorem shp_bool {bs : List (List Value)} {g : Nat} {e : TypeId} (hu : P.underlying e = some .bool) {x : Value} (h : Shp P bs (g + 1) e [x]) : ∃ b, x = .bool b := by
  simp only [Shp, hu] at h
  obtain ⟨n, h1⟩ := h
  exact ⟨n, by simpa using h1⟩
theorem shp_str {bs : List (List Value)} {g : Nat} {e : TypeId} (hu : P.underlying e = some .string) {x : Value} (h : Shp P bs (g + 1) e [x]) : ∃ s, x = .string s ∧ s.size ≤ maxLen := by
  simp only [Shp, hu] at h
  obtain ⟨n, h1, h2⟩ := h
  exact ⟨n, by simpa using h1, h2⟩
theorem shpV_one {bs : List (List Value)} {g : Nat} {t : TypeId} {v : Value} (hs : ∀ fs, P.underlying t ≠ some (.struct fs)) (h : ShpV P bs g t v) : Shp P bs g t [v] := by
  unfold ShpV at h
  split at h
  · rename_i fs hf; exact absurd hf (hs fs)
  · exact h
theorem u8_rng {n : Int} (h : IntKind.u8.has n) : 0 ≤ n ∧ n < 256 := by
  simp [IntKind.has, IntKind.min, IntKind.max, IntKind.bits, IntKind.signed] at h
  omega
/-- numbers in cells -/
theorem cells_ints {k : IntKind} : ∀ {vs : List Value}, (∀ x ∈ vs, ∃ n, x = .int k n ∧ k.has n) → ∃ xs : List Int, vs = xs.map (.int k) ∧ ∀ x ∈ xs, k.has x
  | [], h => ⟨[], rfl, fun x hx => by simp at hx⟩
  | v :: vs, h => by
    obtain ⟨xs, h1, h2⟩ := cells_ints fun x hx => h x (List.mem_cons_of_mem _ hx)
    obtain ⟨n, rfl, hn⟩ := h v (List.mem_cons_self ..)
    refine ⟨n :: xs, by rw [h1]; rfl, fun x hx => ?_⟩
    rcases List.mem_cons.1 hx with rfl | hx
    · exact hn
    · exact h2 x hx
theorem trod_len {H : Type} {enc : TypeId × Value → H} {w : World} {base : Nat} {sp : Nat → Bool} {held : Bool} : ∀ {ts : List TypeId} {vs : List Value} {ds : List (DataW H)} {ps : List MemPlace}, DataW.TrodAll enc P w base sp held ts vs ds ps → ds.length = ts.length
  | [], vs, ds, ps, h => by obtain ⟨_, rfl, _⟩ := ChangeShapes.trodAll_nil h; rfl
  | t :: ts, vs, ds, ps, h => by
    obtain ⟨v, vs', d, ds', p, q, rfl, rfl, rfl, h1, h2⟩ := ChangeShapes.trodAll_cons h
    simp [trod_len h2]
theorem len1 {α : Type} {l : List α} (h : l.length = 1) : ∃ a, l = [a] := by
  match l, h with | [a], _ => exact ⟨a, rfl⟩
theorem len2 {α : Type} {l : List α} (h : l.length = 2) : ∃ a b, l = [a, b] := by
  match l, h with | [a, b], _ => exact ⟨a, b, rfl⟩
theorem len3 {α : Type} {l : List α} (h : l.length = 3) : ∃ a b c, l = [a, b, c] := by
  match l, h with | [a, b, c], _ => exact ⟨a, b, c, rfl⟩
theorem len4 {α : Type} {l : List α} (h : l.length = 4) : ∃ a b c d, l = [a, b, c, d] := by
  match l, h with | [a, b, c, d], _ => exact ⟨a, b, c, d, rfl⟩
end Go.Wb
end
/- The engine, part U: frames; regions that draw; appending and copying. -/
section
set_option linter.unusedSimpArgs false
set_option linter.unusedVariables false
namespace Go.Wb
variable {α β : Type} {C : Tgt → List Value → M Value} {S : Hp} {Φ : Value → Hp → Prop}

/-! ## Frames -/
/-- but for W, and for what is new, all is as it was -/
structure Fra (W : List Nat) (S S' : Hp) : Prop where
  next : S.next ≤ S'.next
  heap : ∀ b, b < S.next → b ∉ W → S'.heap.get b = S.heap.get b
  wl : ∃ ws, S'.wl = ws ++ S.wl ∧ ∀ b ∈ ws, S.next ≤ b ∨ b ∈ W
theorem Fra.refl (W : List Nat) (S : Hp) : Fra W S S := ⟨Nat.le_refl _, fun _ _ _ => rfl, [], rfl, by simp⟩
theorem Fra.put {W : List Nat} {S S1 : Hp} (h : Fra W S S1) {b : Nat} (hb : S.next ≤ b ∨ b ∈ W) (o : Option Blk) : Fra W S (S1.put b o) := by
  obtain ⟨h1, h2, ws, h3, h4⟩ := h
  refine ⟨h1, fun c hc hn => ?_, b :: ws, by rw [Hp.put_wl, h3]; rfl, fun c hc => ?_⟩
  · rw [put_off (by intro e; subst e; rcases hb with hb | hb; omega; exact hn hb)]
    exact h2 c hc hn
  · rcases List.mem_cons.1 hc with rfl | hc
    · exact hb
    · exact h4 c hc
theorem Fra.add {W : List Nat} {S S1 : Hp} (h : Fra W S S1) (o : Blk) : Fra W S (S1.add o) := by
  obtain ⟨h1, h2, h3⟩ := h
  refine ⟨by rw [Hp.add_next]; omega, fun c hc hn => ?_, h3⟩
  rw [add_off (by omega)]
  exact h2 c hc hn
theorem Fra.trans {W W1 W2 : List Nat} {S S1 S2 : Hp} (h : Fra W1 S S1) (k : Fra W2 S1 S2) (hW1 : ∀ b ∈ W1, S.next ≤ b ∨ b ∈ W) (hW2 : ∀ b ∈ W2, S.next ≤ b ∨ b ∈ W) : Fra W S S2 := by
  obtain ⟨h1, h2, ws, h3, h4⟩ := h
  obtain ⟨k1, k2, vs, k3, k4⟩ := k
  refine ⟨Nat.le_trans h1 k1, fun c hc hn => ?_, vs ++ ws, by rw [k3, h3, List.append_assoc], fun c hc => ?_⟩
  · rw [k2 c (by omega) (fun hm => (hW2 c hm).elim (fun h => by omega) hn), h2 c hc (fun hm => (hW1 c hm).elim (fun h => by omega) hn)]
  · rcases List.mem_append.1 hc with hc | hc
    · rcases k4 c hc with h | h
      · exact .inl (by omega)
      · exact hW2 c h
    · rcases h4 c hc with h | h
      · exact .inl h
      · exact hW1 c h
theorem Fra.mono {W W' : List Nat} {S S' : Hp} (h : Fra W S S') (hW : ∀ b ∈ W, S.next ≤ b ∨ b ∈ W') : Fra W' S S' := h.trans (W2 := []) (Fra.refl _ _) hW (by simp)
theorem Fra.trans' {W : List Nat} {S S1 S2 : Hp} (h : Fra W S S1) (k : Fra W S1 S2) : Fra W S S2 := h.trans k (fun b hb => .inr hb) (fun b hb => .inr hb)
theorem Fra.at_ {W : List Nat} {S S' : Hp} (h : Fra W S S') {b : Nat} (hb : b < S.next) (hn : b ∉ W) {o : Option Blk} (k : S.heap.get b = o) : S'.heap.get b = o := by rw [h.heap b hb hn, k]

/-! ## Regions that draw -/
theorem D_pure (j : Nat) (ts : List (Nat × Touch)) (v : Value) (Ψ : Value → List (Nat × Touch) → Hp → Prop) : dstepP j ts (M.pure v) Ψ S = Ψ v ts S := by
  apply propext
  have e : keepT j { log := [], lo := S.next, hi := S.next } ts = ts := by unfold keepT; simp
  constructor
  · rintro ⟨w, s', h, k⟩
    cases h
    have k' : Ψ v (keepT j { log := [], lo := S.next, hi := S.next } ts) S := k
    rw [e] at k'; exact k'
  · intro k
    refine ⟨v, S.st, rfl, ?_⟩
    show Ψ v (keepT j { log := [], lo := S.next, hi := S.next } ts) S
    rw [e]; exact k
theorem D_ld (j b o : Nat) (ts : List (Nat × Touch)) (Ψ : Value → List (Nat × Touch) → Hp → Prop) : dstepP j ts (ld1 b o) Ψ S = rdP (S.heap.get b) (fun l => optP l[o]? (fun v => Ψ v ((j, ⟨[(b, false)], S.next, S.next⟩) :: ts) S)) := by
  apply propext
  have hb : S.st.heap.get b = S.heap.get b := rfl
  constructor
  · rintro ⟨v, s', h, k⟩
    simp only [ld1, M.bind, rd, hb] at h
    cases hg : S.heap.get b with
    | none => rw [hg] at h; cases h
    | some x =>
      rw [hg] at h
      cases x with
      | loop => cases h
      | map => cases h
      | cells x s l =>
        simp only [M.lift] at h
        cases hl : l[o]? with
        | none => rw [hl] at h; cases h
        | some w => rw [hl] at h; cases h; simp only [rdP, hl, optP]; exact k
      | ro l =>
        simp only [M.lift] at h
        cases hl : l[o]? with
        | none => rw [hl] at h; cases h
        | some w => rw [hl] at h; cases h; simp only [rdP, hl, optP]; exact k
  · intro k
    cases hg : S.heap.get b with
    | none => rw [hg] at k; exact k.elim
    | some x =>
      rw [hg] at k
      cases x with
      | loop => exact k.elim
      | map => exact k.elim
      | cells x s l =>
        cases hl : l[o]? with
        | none => simp only [rdP, hl, optP] at k
        | some w =>
          simp only [rdP, hl, optP] at k
          exact ⟨w, { heap := S.heap, next := S.next, log := [(b, false)] }, by simp only [ld1, M.bind, rd, hb, hg, M.lift, hl]; rfl, k⟩
      | ro l =>
        cases hl : l[o]? with
        | none => simp only [rdP, hl, optP] at k
        | some w =>
          simp only [rdP, hl, optP] at k
          exact ⟨w, { heap := S.heap, next := S.next, log := [(b, false)] }, by simp only [ld1, M.bind, rd, hb, hg, M.lift, hl]; rfl, k⟩
theorem D_lds (j b o n : Nat) (ts : List (Nat × Touch)) (g : List Value → Value) (Ψ : Value → List (Nat × Touch) → Hp → Prop) : dstepP j ts ((ldCells b o n).bind fun c => M.pure (g c)) Ψ S = rdP (S.heap.get b) (fun l => condP (o + n ≤ l.length) (Ψ (g ((l.drop o).take n)) ((j, ⟨[(b, false)], S.next, S.next⟩) :: ts) S)) := by
  apply propext
  have hb : S.st.heap.get b = S.heap.get b := rfl
  constructor
  · rintro ⟨v, s', h, k⟩
    simp only [ldCells, M.bind, rd, hb] at h
    cases hg : S.heap.get b with
    | none => rw [hg] at h; cases h
    | some x =>
      rw [hg] at h
      cases x with
      | loop => cases h
      | map => cases h
      | cells x s l =>
        by_cases hl : o + n ≤ l.length
        · simp only [if_pos hl, M.pure] at h; cases h; exact ⟨hl, k⟩
        · simp only [if_neg hl, M.fail] at h; cases h
      | ro l =>
        by_cases hl : o + n ≤ l.length
        · simp only [if_pos hl, M.pure] at h; cases h; exact ⟨hl, k⟩
        · simp only [if_neg hl, M.fail] at h; cases h
  · intro k
    cases hg : S.heap.get b with
    | none => rw [hg] at k; exact k.elim
    | some x =>
      rw [hg] at k
      cases x with
      | loop => exact k.elim
      | map => exact k.elim
      | cells x s l => exact ⟨g ((l.drop o).take n), { heap := S.heap, next := S.next, log := [(b, false)] }, by simp only [ldCells, M.bind, rd, hb, hg, if_pos k.1, M.pure]; rfl, k.2⟩
      | ro l => exact ⟨g ((l.drop o).take n), { heap := S.heap, next := S.next, log := [(b, false)] }, by simp only [ldCells, M.bind, rd, hb, hg, if_pos k.1, M.pure]; rfl, k.2⟩
theorem D_load1 (j b o : Nat) (x : Option Nat) (ts : List (Nat × Touch)) (Ψ : Value → List (Nat × Touch) → Hp → Prop) : dstepP j ts (X C (.load .one (.const (.pointer (some ⟨b, o, x⟩))))) Ψ S = rdP (S.heap.get b) (fun l => optP l[o]? (fun v => Ψ v ((j, ⟨[(b, false)], S.next, S.next⟩) :: ts) S)) := by
  rw [X_load1, D_ld]
theorem D_loadN (j n b o : Nat) (x : Option Nat) (ts : List (Nat × Touch)) (Ψ : Value → List (Nat × Touch) → Hp → Prop) : dstepP j ts (X C (.load (.agg n) (.const (.pointer (some ⟨b, o, x⟩))))) Ψ S = rdP (S.heap.get b) (fun l => condP (o + n ≤ l.length) (Ψ (.agg ⟨(l.drop o).take n⟩) ((j, ⟨[(b, false)], S.next, S.next⟩) :: ts) S)) := by
  rw [X_loadN]
  exact D_lds j b o n ts (fun c => .agg ⟨c⟩) Ψ
theorem dstepP_of_eq {j : Nat} {ts : List (Nat × Touch)} {m m' : M Value} (h : m = m') (Ψ : Value → List (Nat × Touch) → Hp → Prop) : dstepP j ts m Ψ S = dstepP j ts m' Ψ S := by rw [h]
theorem D_call (j : Nat) (ts : List (Nat × Touch)) (f : FuncId) {args : List Atom} {vs : List Value} (h : evs .leaf args = some vs) (Ψ : Value → List (Nat × Touch) → Hp → Prop) : dstepP j ts (X C (.call (.const (.func (.func f) ⟨[]⟩ ⟨[]⟩)) args)) Ψ S = dstepP j ts (C (.fn f) vs) Ψ S := by rw [X_call f args vs h]
theorem D_callF (j : Nat) (ts : List (Nat × Touch)) (f : FuncId) (a c : List Value) {args : List Atom} {vs : List Value} (h : evs .leaf args = some vs) (Ψ : Value → List (Nat × Touch) → Hp → Prop) : dstepP j ts (X C (.call (.const (.func (.func f) ⟨a⟩ ⟨c⟩)) args)) Ψ S = dstepP j ts (C (.fn f) (a ++ vs ++ c)) Ψ S := by rw [X_callF f a c args vs h]
/-- something that is known by what it brings, and by its frame -/
theorem D_spec {j : Nat} {ts : List (Nat × Touch)} {m : M Value} {W : List Nat} {Post : Value → Hp → Prop} {Ψ : Value → List (Nat × Touch) → Hp → Prop} (h : wp m (fun v S' => Fra W S S' ∧ Post v S') S)
    (k : ∀ v S' t, Fra W S S' → Post v S' → t.lo = S.next → t.hi = S'.next → (∀ b, (b, true) ∈ t.log → S.next ≤ b ∨ b ∈ W) → Ψ v (keepT j t ts) S') : dstepP j ts m Ψ S := by
  obtain ⟨v, s', h1, h2, h3⟩ := h
  refine ⟨v, s', h1, k v _ _ h2 h3 rfl rfl fun b hb => ?_⟩
  obtain ⟨ws, h4, h5⟩ := h2.wl
  have : wrs s'.log = ws := List.append_cancel_right h4
  exact h5 b (this ▸ wrs_mem hb)
theorem okP_in {b : Bool} {x : Hp → Prop} (h : b = true) (k : x S) : okP b x S := by subst h; exact k
theorem apart_keep {ms : List Nat} {j : Nat} {t : Touch} {ts : List (Nat × Touch)} (h1 : apartOne (ms.getD j 0) t ts = true) (h2 : apartAll ms ts = true) : apartAll ms (keepT j t ts) = true := by
  rcases keepT_or (j := j) (t := t) (ts := ts) with h | ⟨h, _⟩
  · rw [h]; simp only [apartAll, h1, h2, Bool.and_self]
  · rw [h]; exact h2
theorem apart_cons {ms : List Nat} {j : Nat} {t : Touch} {ts : List (Nat × Touch)} (h1 : apartOne (ms.getD j 0) t ts = true) (h2 : apartAll ms ts = true) : apartAll ms ((j, t) :: ts) = true := by
  simp only [apartAll, h1, h2, Bool.and_self]
theorem apart_nil {ms : List Nat} : apartAll ms [] = true := id rfl
theorem one_nil {m : Nat} {t : Touch} : apartOne m t [] = true := id rfl
def apt (a b : Touch) : Prop := hits a b = false ∧ hits b a = false
theorem one_cons {m i : Nat} {t u : Touch} {ts : List (Nat × Touch)} (h1 : m.testBit i = true ∨ apt t u) (h2 : apartOne m t ts = true) : apartOne m t ((i, u) :: ts) = true := by
  simp only [apartOne, h2, Bool.and_true, Bool.or_eq_true, Bool.and_eq_true, Bool.not_eq_true']
  exact h1
theorem one_keep {m i : Nat} {t u : Touch} {ts : List (Nat × Touch)} (h1 : m.testBit i = true ∨ apt t u) (h2 : apartOne m t ts = true) : apartOne m t (keepT i u ts) = true := by
  rcases keepT_or (j := i) (t := u) (ts := ts) with h | ⟨h, _⟩
  · rw [h]; exact one_cons h1 h2
  · rw [h]; exact h2
theorem apt.symm {a b : Touch} (h : apt a b) : apt b a := ⟨h.2, h.1⟩
/-- a read, and something that does not write there -/
theorem apt_read {b n : Nat} {t : Touch} (hb : b < t.lo) (hw : (b, true) ∉ t.log) : apt ⟨[(b, false)], n, n⟩ t := by
  constructor
  · unfold hits
    simp only [List.any_cons, List.any_nil, Bool.or_false]
    have h1 : Nat.ble t.lo b = false := by rw [Bool.eq_false_iff]; intro c; have := Nat.le_of_ble_eq_true c; omega
    rw [h1, Bool.false_and, Bool.false_or, List.any_eq_false]
    rintro ⟨x, c⟩ hy
    cases c with
    | false => simp
    | true => simp only [Bool.or_true, Bool.and_true, Bool.not_eq_true]; rw [Bool.eq_false_iff]; intro h2; have := Nat.eq_of_beq_eq_true h2; subst this; exact hw hy
  · unfold hits
    rw [List.any_eq_false]
    rintro ⟨x, c⟩ hx
    have h1 : (Nat.ble n x && Nat.blt x n) = false := by
      cases h : Nat.ble n x with
      | false => rfl
      | true =>
        cases h2 : Nat.blt x n with
        | false => rfl
        | true => have := Nat.le_of_ble_eq_true h; have h3 : x + 1 ≤ n := Nat.le_of_ble_eq_true h2; omega
    simp only [h1, Bool.false_or, List.any_cons, List.any_nil, Bool.or_false, Bool.not_eq_true]
    cases c with
    | false => simp
    | true => rw [Bool.and_true, Bool.eq_false_iff]; intro h2; have := Nat.eq_of_beq_eq_true h2; subst this; exact hw hx
theorem apt_reads {b c n m : Nat} : apt ⟨[(b, false)], n, n⟩ ⟨[(c, false)], m, m⟩ := ⟨hits_quiet ⟨rfl, by simp⟩ ⟨rfl, by simp⟩, hits_quiet ⟨rfl, by simp⟩ ⟨rfl, by simp⟩⟩

/-! ## Copying and appending -/
theorem W_firstN (size n b o : Nat) (x : Option Nat) (l c : Nat) (Ψ : List Value → Hp → Prop) : wp (firstN size n (.slice (some ⟨b, o, x⟩) l c)) Ψ S = rdP (S.heap.get b) (fun q => condP (o + n * size ≤ q.length) (Ψ ((q.drop o).take (n * size)) S)) := wp_ldCells b o (n * size) Ψ
theorem W_firstN0 (size n l c : Nat) (Ψ : List Value → Hp → Prop) : wp (firstN size n (.slice none l c)) Ψ S = Ψ [] S := wp_pure [] Ψ S
theorem W_firstNE (size : Nat) (Ψ : List Value → Hp → Prop) : wp (firstN size 0 (.chan none)) Ψ S = Ψ [] S := by
  have : firstN size 0 (.chan none) = M.pure [] := by simp [firstN]
  rw [this, wp_pure]
theorem W_firstNS (n : Nat) (s : ByteArray) (Ψ : List Value → Hp → Prop) : wp (firstN 1 n (.string s)) Ψ S = Ψ ((s.data.toList.take n).map fun b => .int .u8 b.toNat) S := by
  have : firstN 1 n (.string s) = M.pure ((s.data.toList.take n).map fun b => .int .u8 b.toNat) := by simp [firstN]
  rw [this, wp_pure]
theorem lg_copy (size n b o : Nat) (s : Value) (dl : Nat) : Lg ((firstN size n s).bind fun cs => (stCells b o cs).bind fun _ => M.pure (.int .i64 (dl : Nat) : Value)) := Lg.bind (Lg.firstN _ _ _) fun _ => Lg.bind (Lg.stCells _ _ _) fun _ => Lg.pure _
theorem P_copy (size b o : Nat) (dl dc : Nat) {s : Value} {sl : Nat} (hs : lenOf s = some sl) : wp (X C (.copy size (.const (.slice (some ⟨b, o, none⟩) dl dc)) (.const s))) Φ S =
    wp (firstN size (Min.min sl dl) s) (fun cs S => wp (stCells b o cs) (fun _ S => Φ (.int .i64 (Min.min sl dl : Nat)) S) S) S := by
  have e : X C (.copy size (.const (.slice (some ⟨b, o, none⟩) dl dc)) (.const s)) = (firstN size (Min.min sl dl) s).bind fun cs => (stCells b o cs).bind fun _ => M.pure (.int .i64 (Min.min sl dl : Nat)) := by
    funext S
    simp only [X, exec, M.bind, M.lift, Atom.ev, hs]
  rw [e, wp_bind (Lg.firstN _ _ _) (fun _ => Lg.bind (Lg.stCells _ _ _) fun _ => Lg.pure _)]
  congr 1
  funext cs S
  rw [wp_bind (Lg.stCells _ _ _) (fun _ => Lg.pure _)]
  simp only [wp_pure]
theorem X_app (size bytes : Nat) (t : TypeId) (s x : Value) : X C (.app size bytes t (.const s) (.const x)) = appendA size bytes s x := by
  funext S
  simp only [X, exec, M.bind, M.lift, Atom.ev]
  cases appendA size bytes s x S <;> rfl
theorem P_app_fit (size bytes : Nat) (t : TypeId) (b o sl sc : Nat) {x : Value} {n : Nat} (hx : lenOf x = some n) (h : sl + n ≤ sc) : wp (X C (.app size bytes t (.const (.slice (some ⟨b, o, none⟩) sl sc)) (.const x))) Φ S =
    wp (firstN size n x) (fun new S => wp (stCells b (o + sl * size) new) (fun _ S => Φ (.slice (some ⟨b, o, none⟩) (sl + n) sc) S) S) S := by
  have e : appendA size bytes (.slice (some ⟨b, o, none⟩) sl sc) x = (firstN size n x).bind fun new => (stCells b (o + sl * size) new).bind fun _ => M.pure (.slice (some ⟨b, o, none⟩) (sl + n) sc) := by
    funext S
    simp only [appendA, hx, M.bind, M.lift, if_pos h, putA]
  rw [X_app, e, wp_bind (Lg.firstN _ _ _) (fun _ => Lg.bind (Lg.stCells _ _ _) fun _ => Lg.pure _)]
  congr 1
  funext cs S
  rw [wp_bind (Lg.stCells _ _ _) (fun _ => Lg.pure _)]
  simp only [wp_pure]
theorem P_app_nil0 (size bytes : Nat) (t : TypeId) {x : Value} (hx : lenOf x = some 0) : wp (X C (.app size bytes t (.const (.slice none 0 0)) (.const x))) Φ S = wp (firstN size 0 x) (fun _ S => Φ (.slice none 0 0) S) S := by
  have e : appendA size bytes (.slice none 0 0) x = (firstN size 0 x).bind fun _ => M.pure (.slice none 0 0) := by
    funext S
    simp only [appendA, hx, M.bind, M.lift, putA, Nat.add_zero, Nat.le_refl, if_true]
  rw [X_app, e, wp_bind (Lg.firstN _ _ _) (fun _ => Lg.pure _)]
  simp only [wp_pure]
/-- a new block for what grows -/
theorem P_app_nil (size bytes : Nat) (t : TypeId) {x : Value} {n : Nat} (hx : lenOf x = some n) (hn : 0 < n) (hok : 2 * (n * bytes) ≤ 281474976710656 ∧ bytes ≠ 0 ∧ size ≠ 0) : wp (X C (.app size bytes t (.const (.slice none 0 0)) (.const x))) Φ S =
    wp (firstN size n x) (fun new S => condP (new.all (·.oneCell') = true) (Φ (.slice (some ⟨S.next, 0, none⟩) n n) (S.add (.cells (some size) false new)))) S := by
  have e : appendA size bytes (.slice none 0 0) x = (firstN size n x).bind fun new => if new.all (·.oneCell') = true then (nw (.cells (some size) false new)).bind fun nb => M.pure (.slice (some ⟨nb, 0, none⟩) n n) else M.fail := by
    funext S
    have h1 : ¬ 0 + n ≤ 0 := by omega
    have h2 : 2 * ((0 + n) * bytes) ≤ 281474976710656 ∧ bytes ≠ 0 ∧ size ≠ 0 := by rw [Nat.zero_add]; exact hok
    simp only [appendA, hx, M.bind, M.lift, if_neg h1, growA, if_pos h2, and_self, if_true]
  have lg : ∀ new : List Value, Lg (if new.all (·.oneCell') = true then (nw (.cells (some size) false new)).bind fun nb => M.pure (.slice (some ⟨nb, 0, none⟩) n n : Value) else M.fail) := fun new => Lg.ite (Lg.bind (Lg.nw _) fun _ => Lg.pure _) Lg.fail
  rw [X_app, e, wp_bind (Lg.firstN _ _ _) lg]
  congr 1
  funext new S
  by_cases h : new.all (·.oneCell') = true
  · rw [if_pos h, wp_nwp]; simp only [condP, h, true_and]
  · rw [if_neg h, wp_fail]; exact propext ⟨False.elim, fun k => h k.1⟩
theorem P_app_own (size bytes : Nat) (t : TypeId) (b o sl sc : Nat) {x : Value} {n : Nat} (hx : lenOf x = some n) (hn : sc < sl + n) (hok : 2 * ((sl + n) * bytes) ≤ 281474976710656 ∧ bytes ≠ 0 ∧ size ≠ 0) {s : Bool} {c : List Value} (hb : S.heap.get b = some (.cells none s c)) (hc : o + sl * size ≤ c.length)
    {new : List Value} (hf : ∀ Ψ : List Value → Hp → Prop, wp (firstN size n x) Ψ S = Ψ new S) (hnew : new.all (·.oneCell') = true) : wp (X C (.app size bytes t (.const (.slice (some ⟨b, o, none⟩) sl sc)) (.const x))) Φ S =
    Φ (.slice (some ⟨S.next, 0, none⟩) (sl + n) (sl + n)) (S.add (.cells (some size) false ((c.drop o).take (sl * size) ++ new))) := by
  have h1 : ¬ sl + n ≤ sc := by omega
  have e : appendA size bytes (.slice (some ⟨b, o, none⟩) sl sc) x = growA size bytes (some ⟨b, o, none⟩) sl sc n (firstN size n x) := by
    funext S
    simp only [appendA, hx, M.bind, M.lift, if_neg h1]
  rw [X_app, e]
  unfold growA
  rw [if_pos hok, wp_bind (Lg.firstN _ _ _) (fun new => Lg.ite (by
    refine Lg.bind (Lg.rd _) fun o => ?_
    cases o with
    | loop => exact Lg.fail
    | map => exact Lg.fail
    | ro => exact Lg.fail
    | cells x t c =>
      refine Lg.ite ?_ Lg.fail
      cases x with
      | none => exact Lg.bind (Lg.nw _) fun _ => Lg.pure _
      | some z => exact Lg.ite (Lg.bind (Lg.wr _ _) fun _ => Lg.bind (Lg.nw _) fun _ => Lg.pure _) Lg.fail) Lg.fail), hf, if_pos hnew]
  dsimp only
  rw [wp_bind (Lg.rd _) (fun o => by
    cases o with
    | loop => exact Lg.fail
    | map => exact Lg.fail
    | ro => exact Lg.fail
    | cells x t c =>
      refine Lg.ite ?_ Lg.fail
      cases x with
      | none => exact Lg.bind (Lg.nw _) fun _ => Lg.pure _
      | some z => exact Lg.ite (Lg.bind (Lg.wr _ _) fun _ => Lg.bind (Lg.nw _) fun _ => Lg.pure _) Lg.fail), wp_rd, hb, optP_some]
  dsimp only
  rw [if_pos hc, wp_nwp]
theorem P_app_ext (size bytes : Nat) (t : TypeId) (b o sl sc : Nat) {x : Value} {n : Nat} (hx : lenOf x = some n) (hn : sc < sl + n) (hok : 2 * ((sl + n) * bytes) ≤ 281474976710656 ∧ bytes ≠ 0 ∧ size ≠ 0) {s : Bool} {c : List Value} (hb : S.heap.get b = some (.cells (some size) s c)) (hc : o + sl * size ≤ c.length)
    {new : List Value} (hf : ∀ Ψ : List Value → Hp → Prop, wp (firstN size n x) Ψ S = Ψ new S) (hnew : new.all (·.oneCell') = true) : wp (X C (.app size bytes t (.const (.slice (some ⟨b, o, none⟩) sl sc)) (.const x))) Φ S =
    Φ (.slice (some ⟨S.next, 0, none⟩) (sl + n) (sl + n)) ((S.put b none).add (.cells (some size) s ((c.drop o).take (sl * size) ++ new))) := by
  have h1 : ¬ sl + n ≤ sc := by omega
  have e : appendA size bytes (.slice (some ⟨b, o, none⟩) sl sc) x = growA size bytes (some ⟨b, o, none⟩) sl sc n (firstN size n x) := by
    funext S
    simp only [appendA, hx, M.bind, M.lift, if_neg h1]
  rw [X_app, e]
  unfold growA
  rw [if_pos hok, wp_bind (Lg.firstN _ _ _) (fun new => Lg.ite (by
    refine Lg.bind (Lg.rd _) fun o => ?_
    cases o with
    | loop => exact Lg.fail
    | map => exact Lg.fail
    | ro => exact Lg.fail
    | cells x t c =>
      refine Lg.ite ?_ Lg.fail
      cases x with
      | none => exact Lg.bind (Lg.nw _) fun _ => Lg.pure _
      | some z => exact Lg.ite (Lg.bind (Lg.wr _ _) fun _ => Lg.bind (Lg.nw _) fun _ => Lg.pure _) Lg.fail) Lg.fail), hf, if_pos hnew]
  dsimp only
  rw [wp_bind (Lg.rd _) (fun o => by
    cases o with
    | loop => exact Lg.fail
    | map => exact Lg.fail
    | ro => exact Lg.fail
    | cells x t c =>
      refine Lg.ite ?_ Lg.fail
      cases x with
      | none => exact Lg.bind (Lg.nw _) fun _ => Lg.pure _
      | some z => exact Lg.ite (Lg.bind (Lg.wr _ _) fun _ => Lg.bind (Lg.nw _) fun _ => Lg.pure _) Lg.fail), wp_rd, hb, optP_some]
  dsimp only
  rw [if_pos hc, if_pos rfl, wp_bind (Lg.wr _ _) (fun _ => Lg.bind (Lg.nw _) fun _ => Lg.pure _), wp_wr, wp_nwp]
  rfl

/-! ## Ranges over functions -/
theorem R_range (ps : List Nat) (as bd : ACode) (f : FuncId) (a c : List Value) (env : Env) (kN : Hp → Prop) (kX : Ext → Hp → Prop) : rangeP C ps as bd (some (.func (.func f) ⟨a⟩ ⟨c⟩)) env kN kX S =
    ∀ e', Le env e' → wp (C (.fn f) (a ++ [.func (.yield S.next) #[] #[]] ++ c)) (fun _ S2 => ∃ ps' as' bd' e2 p, S2.heap.get S.next = some (.loop ps' as' bd' e2 p) ∧ (match p with | none => kN (S2.put S.next none) | some x => kX x (S2.put S.next none))) (S.add (.loop ps as bd e' none)) := id rfl
end Go.Wb
end
/- The engine, part X: what is touched is there. -/
section
set_option linter.unusedSimpArgs false
set_option linter.unusedVariables false
set_option linter.unusedSectionVars false
namespace Go.Wb
variable {α β : Type}
def wfS (S : St) : Prop := ∀ b o, S.heap.get b = some o → b < S.next
/-- what is touched is there; q: blocks that are known to be there -/
def BdX (q : Nat → Prop) (m : M α) : Prop := ∀ S a S', (∀ b, q b → b < S.next) → wfS S → m S = some (a, S') → wfS S' ∧ ∃ D : List (Nat × Bool), S'.log = D ++ S.log ∧ S.next ≤ S'.next ∧ ∀ x ∈ D, x.1 < S'.next
def Bd (m : M α) : Prop := BdX (fun _ => False) m
variable {q : Nat → Prop}
theorem Bd.toX {m : M α} (h : Bd m) : BdX q m := fun S a S' _ hw k => h S a S' (fun _ h => h.elim) hw k
theorem BdX.pure (a : α) : BdX q (M.pure a) := by intro S b S' _ hw h; cases h; exact ⟨hw, [], rfl, Nat.le_refl _, by simp⟩
theorem BdX.fail : BdX q (M.fail : M α) := by intro S b S' _ _ h; cases h
theorem BdX.lift (o : Option α) : BdX q (M.lift o) := by cases o with | none => exact BdX.fail | some a => exact BdX.pure a
theorem BdX.rd (b : Nat) : BdX q (rd b) := by
  intro S o S' hq hw h
  unfold Wb.rd at h
  cases hb : S.heap.get b with
  | none => rw [hb] at h; cases h
  | some p => rw [hb] at h; cases h; exact ⟨hw, [(b, false)], rfl, Nat.le_refl _, fun x hx => by
    have : x = (b, false) := by simpa using hx
    subst this; exact hw b _ hb⟩
theorem BdX.wr {b : Nat} (hb : q b) (o : Option Blk) : BdX q (wr b o) := by
  intro S u S' hq hw h
  cases h
  refine ⟨fun c o' hc => ?_, [(b, true)], rfl, Nat.le_refl _, fun x hx => by
    have : x = (b, true) := by simpa using hx
    subst this; exact hq b hb⟩
  simp only [Tr.get_set] at hc
  split at hc
  · rename_i e; subst e; exact hq _ hb
  · exact hw c o' hc
theorem BdX.nw (o : Blk) : BdX q (nw o) := by
  intro S u S' hq hw h
  cases h
  refine ⟨fun c o' hc => ?_, [], rfl, Nat.le_succ _, by simp⟩
  simp only [Tr.get_set] at hc
  split at hc
  · rename_i e; subst e; exact Nat.lt_succ_self _
  · exact Nat.lt_succ_of_lt (hw c o' hc)
theorem BdX.bind {m : M α} {f : α → M β} (hm : BdX q m) (hf : ∀ a, BdX q (f a)) : BdX q (m.bind f) := by
  intro S b S' hq hw h
  simp only [M.bind] at h
  cases hx : m S with
  | none => rw [hx] at h; cases h
  | some p =>
    obtain ⟨a, S1⟩ := p
    rw [hx] at h
    obtain ⟨a0, D1, a1, a2, a3⟩ := hm S a S1 hq hw hx
    obtain ⟨b0, D2, b1, b2, b3⟩ := hf a _ b S' (fun b hb => Nat.lt_of_lt_of_le (hq b hb) a2) a0 h
    refine ⟨b0, D2 ++ D1, by rw [b1, a1, List.append_assoc], Nat.le_trans a2 b2, fun x hx => ?_⟩
    rcases List.mem_append.1 hx with hx | hx
    · exact b3 x hx
    · exact Nat.lt_of_lt_of_le (a3 x hx) b2
theorem BdX.ite {c : Prop} [Decidable c] {a b : M α} (ha : BdX q a) (hb : BdX q b) : BdX q (if c then a else b) := by split <;> assumption
theorem BdX.rdb {b : Nat} {f : Blk → M α} (h1 : ∀ o, o.isRo = false → BdX (fun i => q i ∨ i = b) (f o)) (h2 : ∀ c, BdX q (f (.ro c))) : BdX q ((Wb.rd b).bind f) := by
  intro S a S' hq hw h
  simp only [M.bind, Wb.rd] at h
  cases hb : S.heap.get b with
  | none => rw [hb] at h; cases h
  | some o =>
    rw [hb] at h
    simp only at h
    have hbn := hw b o hb
    have fin : ∀ q' : Nat → Prop, (∀ c, q' c → c < S.next) → BdX q' (f o) → wfS S' ∧ ∃ D : List (Nat × Bool), S'.log = D ++ S.log ∧ S.next ≤ S'.next ∧ ∀ x ∈ D, x.1 < S'.next := by
      intro q' hq' hf
      obtain ⟨a0, D, a1, a2, a3⟩ := hf ({ heap := S.heap, next := S.next, log := (b, false) :: S.log } : St) a S' hq' hw h
      refine ⟨a0, D ++ [(b, false)], by rw [a1]; simp, a2, fun x hx => ?_⟩
      rcases List.mem_append.1 hx with hx | hx
      · exact a3 x hx
      · have : x = (b, false) := by simpa using hx
        subst this
        exact Nat.lt_of_lt_of_le hbn a2
    by_cases ho : o.isRo = true
    · cases o with
      | cells => cases ho
      | loop => cases ho
      | map => cases ho
      | ro c0 => exact fin q hq (h2 c0)
    · exact fin _ (fun c hc => hc.elim (hq c) (fun e => e ▸ hbn)) (h1 o (by simpa using ho))
theorem BdX.ldCells (b off n : Nat) : BdX q (ldCells b off n) := .bind (.rd b) fun o => by
  cases o <;> first | exact .fail | exact .ite (.pure _) .fail
theorem BdX.ld1 (b off : Nat) : BdX q (ld1 b off) := .bind (.rd b) fun o => by
  cases o <;> first | exact .fail | exact .lift _
theorem BdX.stCells (b off : Nat) (vs : List Value) : BdX q (stCells b off vs) := .rdb (fun o ho => by
  cases o <;> first | exact .fail | exact .ite (.wr (.inr rfl) _) .fail) fun c => .fail
theorem BdX.firstN (size n : Nat) (v : Value) : BdX q (firstN size n v) := by
  unfold Wb.firstN
  split
  · exact .ldCells _ _ _
  · exact .pure _
  · exact .ite (.pure _) .fail
  · exact .ite (.pure _) .fail
  · exact .fail
theorem BdX.putA (size : Nat) (base : Option Addr) (sLen sCap n : Nat) {news : M (List Value)} (h : BdX q news) : BdX q (putA size base sLen sCap n news) := by
  refine .bind h fun new => ?_
  cases base with
  | none => exact .ite (.pure _) .fail
  | some a => exact .bind (.stCells _ _ _) fun _ => .pure _
theorem BdX.growA (size bytes : Nat) (base : Option Addr) (sLen sCap n : Nat) {news : M (List Value)} (h : BdX q news) : BdX q (growA size bytes base sLen sCap n news) := by
  refine .ite (.bind h fun new => .ite ?_ .fail) .fail
  cases base with
  | none => exact .ite (.bind (.nw _) fun _ => .pure _) .fail
  | some a =>
    refine .rdb (fun o ho => ?_) fun c => .fail
    cases o <;> try exact .fail
    refine .ite ?_ .fail
    rename_i x t c
    cases x with
    | none => exact .bind (.nw _) fun _ => .pure _
    | some z => exact .ite (.bind (.wr (.inr rfl) _) fun _ => .bind (.nw _) fun _ => .pure _) .fail
theorem BdX.appendA (size bytes : Nat) (s x : Value) : BdX q (appendA size bytes s x) := by
  unfold Wb.appendA
  split
  · exact .bind (.lift _) fun n => .ite (.putA _ _ _ _ _ (.firstN _ _ _)) (.growA _ _ _ _ _ _ (.firstN _ _ _))
  · exact .fail
theorem BdX.appendZ (size bytes : Nat) (z : List Value) (s x : Value) : BdX q (appendZ size bytes z s x) := by
  unfold Wb.appendZ
  split
  · exact .ite (.ite (.putA _ _ _ _ _ (.pure _)) (.growA _ _ _ _ _ _ (.pure _))) .fail
  · exact .fail
section
variable {call : Tgt → List Value → M Value} (hcall : ∀ t a, Bd (call t a))
include hcall
theorem BdX.exec (e : Env) (op : AOp) : BdX q (exec call e op) := by
  cases op
  all_goals unfold Wb.exec
  all_goals repeat' (first
    | exact BdX.pure _
    | exact BdX.fail
    | exact BdX.lift _
    | exact BdX.nw _
    | exact BdX.ldCells _ _ _
    | exact BdX.ld1 _ _
    | exact BdX.stCells _ _ _
    | exact BdX.firstN _ _ _
    | exact BdX.appendA _ _ _ _
    | exact BdX.appendZ _ _ _ _ _
    | exact (hcall _ _).toX
    | exact BdX.wr (.inr rfl) _
    | refine BdX.rdb (fun o ho => ?_) (fun c => ?_)
    | refine BdX.bind ?_ (fun _ => ?_)
    | refine BdX.ite ?_ ?_
    | split
    | (rename_i o ho; cases o))
theorem BdX.instr (i : AInstr) (e : Env) : BdX q (instr call i e) := by
  unfold Wb.instr
  split
  · exact .bind (.exec hcall _ _) fun _ => .pure _
  · exact .bind (.lift _) fun b => .ite (.bind (.exec hcall _ _) fun _ => .pure _) (.pure _)
theorem BdX.instrs : ∀ (l : List AInstr) (e : Env), BdX q (instrs call l e)
  | [], e => .pure _
  | i :: r, e => .bind (.instr hcall i e) fun e' => BdX.instrs r e'
theorem BdX.drawnGo : ∀ (l : List AInstr) (n : Nat) (e : Env) (ts : List (Nat × Touch)), BdX q (drawnGo call l n e ts)
  | [], n, e, ts => .pure _
  | i :: r, n, e, ts => by
    intro S a S' hq hw h
    simp only [Wb.drawnGo] at h
    cases h1 : Wb.instr call i e { heap := S.heap, next := S.next, log := [] } with
    | none => simp [h1] at h
    | some p =>
      obtain ⟨e', s'⟩ := p
      rw [h1] at h
      obtain ⟨a0, D1, a1, a2, a3⟩ := BdX.instr (q := q) hcall i e ({ heap := S.heap, next := S.next, log := [] } : St) (e') s' hq hw h1
      obtain ⟨b0, D2, b1, b2, b3⟩ := BdX.drawnGo r _ _ _ ({ heap := s'.heap, next := s'.next, log := s'.log ++ S.log } : St) a S' (fun b hb => Nat.lt_of_lt_of_le (hq b hb) a2) a0 h
      simp only [List.append_nil] at a1
      refine ⟨b0, D2 ++ D1, by rw [b1, a1, List.append_assoc], Nat.le_trans a2 b2, fun x hx => ?_⟩
      rcases List.mem_append.1 hx with hx | hx
      · exact b3 x hx
      · exact Nat.lt_of_lt_of_le (a3 x hx) b2
theorem BdX.drawnA (l : List AInstr) (ps : List Nat) (e : Env) : BdX q (drawnA call l ps e) := .bind (.drawnGo hcall l 0 e []) fun r => .ite (.pure _) .fail
omit hcall in
theorem BdX.iter {body : Env → M (Ext × Env)} (h : ∀ e, BdX q (body e)) : ∀ (n : Nat) (e : Env), BdX q (iter body n e)
  | 0, e => .fail
  | n + 1, e => .bind (h e) fun r => by
    split
    · exact BdX.iter h n _
    · exact .pure _
theorem BdX.run (fuel : Nat) : ∀ (c : ACode) (e : Env), BdX q (run call fuel c e)
  | .skip, e => .pure _
  | .ops l, e => .bind (.instrs hcall l e) fun _ => .pure _
  | .drawn l ps, e => .bind (.drawnA hcall l ps e) fun _ => .pure _
  | .seq a b, e => .bind (BdX.run fuel a e) fun r => by
    split
    · exact BdX.run fuel b _
    · exact .pure _
  | .cond c a b, e => .bind (.lift _) fun t => by
    split
    · exact BdX.run fuel a e
    · exact BdX.run fuel b e
  | .block id a, e => .bind (BdX.run fuel a e) fun r => by
    split
    · exact .ite (.pure _) (.pure _)
    · exact .pure _
  | .loop a, e => .iter (fun e => BdX.run fuel a e) fuel e
  | .range f ps a b, e => .bind (.lift _) fun g => .bind (.nw _) fun l => .bind (.lift _) fun t => .bind (hcall _ _).toX fun _ => .rdb (fun o ho => by
    split
    · refine .bind (.wr (.inr rfl) _) fun _ => ?_
      split
      · exact .pure _
      · exact .pure _
    · exact .fail) fun c => .fail
  | .exit id, e => .pure _
  | .ret, e => .pure _
end
theorem BdX.resV (e : Env) (a : ARes) : BdX q (resV e a) := by
  cases a with
  | tmp t => exact .lift _
  | cell t sh =>
    refine .bind (.lift _) fun x => ?_
    split
    · split
      · exact .ld1 _ _
      · exact .bind (.ldCells _ _ _) fun _ => .pure _
    · exact .fail
theorem BdX.resAll (e : Env) : ∀ l : List ARes, BdX q (resAll e l)
  | [] => .pure _
  | r :: rs => .bind (.resV e r) fun v => .bind (BdX.resAll e rs) fun l => .pure _
theorem BdX.extA (k : XK) (args : List Value) : BdX q (extA k args) := by
  unfold Wb.extA
  split
  · exact .pure _
  · split
    · refine .ite (.pure _) (.bind (.rd _) fun x => .bind (.rd _) fun y => ?_)
      split
      · exact .pure _
      · exact .fail
    · exact .pure _
  · exact .fail
theorem BdX.callN (F : Nat → Option AFn) : ∀ (n : Nat) (t : Tgt) (args : List Value), Bd (callN F n t args)
  | 0, t, args => by unfold Wb.callN; exact BdX.fail
  | n + 1, .fn f, args => by
    unfold Wb.callN
    split
    · exact BdX.fail
    · exact BdX.extA _ _
    · exact BdX.lift _
    · refine BdX.ite (BdX.bind (BdX.run (BdX.callN F n) _ _ _) fun r => ?_) BdX.fail
      split
      · exact BdX.fail
      · refine BdX.bind (BdX.resAll _ _) fun vs => ?_
        split <;> exact BdX.pure _
  | n + 1, .yield l, args => by
    unfold Wb.callN
    refine BdX.rdb (fun o ho => ?_) fun c => BdX.fail
    split
    · refine BdX.ite (BdX.bind (BdX.wr (.inr rfl) _) fun _ => BdX.bind (BdX.run (BdX.callN F n) _ _ _) fun r => ?_) BdX.fail
      split
      · refine BdX.bind (BdX.run (BdX.callN F n) _ _ _) fun r => ?_
        split
        · exact BdX.bind (BdX.wr (.inr rfl) _) fun _ => BdX.pure _
        · exact BdX.bind (BdX.wr (.inr rfl) _) fun _ => BdX.pure _
      · exact BdX.fail
    · exact BdX.fail
/-! ## Heaps in which what is there is below -/
def WF (S : Hp) : Prop := ∀ b o, S.heap.get b = some o → b < S.next
theorem WF.put {S : Hp} (h : WF S) {b : Nat} (hb : b < S.next) (o : Option Blk) : WF (S.put b o) := by
  intro c o' hc
  rw [Hp.put_get] at hc
  split at hc
  · rename_i e; subst e; exact hb
  · exact h c o' hc
theorem WF.add {S : Hp} (h : WF S) (o : Blk) : WF (S.add o) := by
  intro c o' hc
  rw [Hp.add_get] at hc
  split at hc
  · rename_i e; subst e; exact Nat.lt_succ_self _
  · exact Nat.lt_succ_of_lt (h c o' hc)
theorem wp_wf {m : M α} (hm : Bd m) {Φ : α → Hp → Prop} {S : Hp} (hW : WF S) (h : wp m (fun v S' => WF S' → Φ v S') S) : wp m Φ S := by
  obtain ⟨a, S', h1, h2⟩ := h
  exact ⟨a, S', h1, h2 (hm S.st a S' (fun _ h => h.elim) hW h1).1⟩
theorem call_wf {F : Nat → Option AFn} {n : Nat} {t : Tgt} {args : List Value} {Φ : Value → Hp → Prop} {S : Hp} (hW : WF S) (h : wp (callN F n t args) (fun v S' => WF S' → Φ v S') S) : wp (callN F n t args) Φ S := wp_wf (BdX.callN F n t args) hW h
/-- D_spec, and what is touched is there -/
theorem D_specW {j : Nat} {ts : List (Nat × Touch)} {m : M Value} (hm : Bd m) {S : Hp} (hW : WF S) {W : List Nat} {Post : Value → Hp → Prop} {Ψ : Value → List (Nat × Touch) → Hp → Prop} (h : wp m (fun v S' => Fra W S S' ∧ Post v S') S)
    (k : ∀ v S' t, Fra W S S' → Post v S' → WF S' → t.lo = S.next → t.hi = S'.next → (∀ b, (b, true) ∈ t.log → S.next ≤ b ∨ b ∈ W) → (∀ x ∈ t.log, x.1 < t.hi) → Ψ v (keepT j t ts) S') : dstepP j ts m Ψ S := by
  obtain ⟨v, s', h1, h2, h3⟩ := h
  obtain ⟨w1, D, w2, w3, w4⟩ := hm S.st v s' (fun _ h => h.elim) hW h1
  have hD : s'.log = D := by rw [w2]; exact List.append_nil D
  refine ⟨v, s', h1, k v _ _ h2 h3 w1 rfl rfl (fun b hb => ?_) (fun x hx => w4 x (hD ▸ hx))⟩
  obtain ⟨ws, h4, h5⟩ := h2.wl
  have : wrs s'.log = ws := List.append_cancel_right h4
  exact h5 b (this ▸ wrs_mem hb)
/-- something that touches what is there, and something that is made behind it -/
theorem apt_new {t : Touch} {n m : Nat} (h : ∀ x ∈ t.log, x.1 < n) : apt ⟨[], n, m⟩ t := by
  refine ⟨rfl, ?_⟩
  unfold hits
  rw [List.any_eq_false]
  intro x hx
  have h1 : Nat.ble n x.1 = false := by rw [Bool.eq_false_iff]; intro c; have := Nat.le_of_ble_eq_true c; have := h x hx; omega
  simp [h1]
/-! ## More steps -/
section
variable {C : Tgt → List Value → M Value} {S : Hp} {Φ : Value → Hp → Prop} {Ψ : Value → List (Nat × Touch) → Hp → Prop}
theorem P_b2strN (n c : Nat) : wp (X C (.conv .b2str (.const (.slice none n c)))) Φ S = Φ (.string .empty) S := wp_Xp (by funext S; rfl)
theorem P_b2str (b o : Nat) (x : Option Nat) (n c : Nat) : wp (X C (.conv .b2str (.const (.slice (some ⟨b, o, x⟩) n c)))) Φ S = rdP (S.heap.get b) (fun q => condP (o + n ≤ q.length) (optP (bytesOf ((q.drop o).take n)) (fun l => Φ (.string ⟨l.toArray⟩) S))) := by
  have e : X C (.conv .b2str (.const (.slice (some ⟨b, o, x⟩) n c))) = (ldCells b o n).bind fun cs => (M.lift (bytesOf cs)).bind fun l => M.pure (.string ⟨l.toArray⟩) := by
    funext S
    simp only [X, exec, M.bind, M.lift, Atom.ev]
  have e2 : ∀ cs : List Value, ((M.lift (bytesOf cs)).bind fun l => (M.pure (.string ⟨l.toArray⟩) : M Value)) = M.lift ((bytesOf cs).map fun l => .string ⟨l.toArray⟩) := by
    intro cs
    cases bytesOf cs <;> rfl
  rw [e]
  simp only [e2]
  rw [wp_bind (Lg.ldCells _ _ _) (fun _ => Lg.lift _), wp_ldCells]
  congr 1
  funext l
  congr 1
  rw [wp_lift]
  cases bytesOf ((l.drop o).take n) <;> rfl
theorem P_max (k : IntKind) (a b : Int) : wp (X C (.max [.const (.int k a), .const (.int k b)])) Φ S = Φ (.int k (if b > a then b else a)) S := wp_Xp (by
  funext S
  simp only [X, exec, M.bind, M.lift, evs, Atom.ev, maxL, maxV, if_true])
theorem P_Gff (m : M Value) : wp (G (wanted false (.bool false)) m) Φ S = wp m Φ S := id rfl
theorem P_Gtt (m : M Value) : wp (G (wanted true (.bool true)) m) Φ S = wp m Φ S := id rfl
theorem P_Gft (m : M Value) : wp (G (wanted false (.bool true)) m) Φ S = Φ undef S := wp_pure undef Φ S
theorem P_Gtf (m : M Value) : wp (G (wanted true (.bool false)) m) Φ S = Φ undef S := wp_pure undef Φ S
theorem D_Gff (j : Nat) (ts : List (Nat × Touch)) (m : M Value) : dstepP j ts (G (wanted false (.bool false)) m) Ψ S = dstepP j ts m Ψ S := id rfl
theorem D_Gtt (j : Nat) (ts : List (Nat × Touch)) (m : M Value) : dstepP j ts (G (wanted true (.bool true)) m) Ψ S = dstepP j ts m Ψ S := id rfl
theorem D_Gft (j : Nat) (ts : List (Nat × Touch)) (m : M Value) : dstepP j ts (G (wanted false (.bool true)) m) Ψ S = Ψ undef ts S := D_pure j ts undef Ψ
theorem D_Gtf (j : Nat) (ts : List (Nat × Touch)) (m : M Value) : dstepP j ts (G (wanted true (.bool false)) m) Ψ S = Ψ undef ts S := D_pure j ts undef Ψ
end
end Go.Wb
end
/- The engine, part Sh: what the arguments' shapes tell of structs, and of slices of them. -/
section
set_option linter.unusedSimpArgs false
set_option linter.unusedVariables false
namespace Go.Wb
variable {P : Program} {bs : List (List Value)}
theorem shpV_of {g : Nat} {t : TypeId} {v : Value} (hs : ∀ fs, P.underlying t ≠ some (.struct fs)) (h : Shp P bs g t [v]) : ShpV P bs g t v := by
  unfold ShpV
  split
  · rename_i fs hf; exact absurd hf (hs fs)
  · exact h
/-- fields, by their types alone -/
def ShpT (Q : TypeId → List Value → Prop) (P : Program) : List TypeId → List Value → Prop
  | [], cs => cs = []
  | t :: ts, cs => ∃ a b, cs = a ++ b ∧ a.length = P.cellsOf t ∧ Q t a ∧ ShpT Q P ts b
theorem ShpT.of {Q : TypeId → List Value → Prop} : ∀ {fs : List Field} {cs : List Value}, ShpF Q P fs cs → ShpT Q P (fs.map (·.type)) cs
  | [], _, h => h
  | _ :: _, _, ⟨a, b, h1, h2, h3, h4⟩ => ⟨a, b, h1, h2, h3, ShpT.of h4⟩
def fts : Option TypeDesc → List TypeId
  | some (.struct fs) => fs.toList.map (·.type)
  | _ => []
theorem shp_struct {g : Nat} {t u : TypeId} {ts : List TypeId} {cs : List Value} (hu : fts (P.underlying t) = u :: ts) (h : Shp P bs (g + 1) t cs) : ShpT (Shp P bs g) P (u :: ts) cs := by
  unfold Shp at h
  cases ho : P.underlying t with
  | none => rw [ho] at hu; cases hu
  | some o =>
    rw [ho] at h hu
    cases o
    case struct fs => rw [← hu]; exact ShpT.of h
    all_goals simp [fts] at hu
/-- a slice of such elements: these, and what lies behind -/
def SlW (bs : List (List Value)) (z : Nat) (Q : List Value → Prop) (v : Value) (es : List (List Value)) : Prop :=
  (∀ x ∈ es, x.length = z ∧ Q x) ∧ ((v = .slice none 0 0 ∧ es = []) ∨ (v = .chan none ∧ es = []) ∨ ∃ id c zs, v = .slice (some ⟨id, 0, none⟩) es.length c ∧ es.length ≤ c ∧ c ≤ maxLen ∧ bs[id]? = some (es.flatten ++ zs))
theorem slW_of {g : Nat} {t e : TypeId} {v : Value} (hu : P.underlying t = some (.slice e)) (h : Shp P bs (g + 1) t [v]) : ∃ es, SlW bs (P.cellsOf e) (Shp P bs g e) v es := by
  simp only [Shp, hu] at h
  rcases h with h | h | ⟨id, n, c, es, h1, h2, h3, h4, h5, h6, h7⟩
  · exact ⟨[], fun x hx => by simp at hx, .inl ⟨by simpa using h, rfl⟩⟩
  · exact ⟨[], fun x hx => by simp at hx, .inr (.inl ⟨by simpa using h, rfl⟩)⟩
  · have hl : (es.take n).length = n := by rw [List.length_take]; omega
    refine ⟨es.take n, fun x hx => h7 x (List.mem_of_mem_take hx), .inr (.inr ⟨id, c, (es.drop n).flatten, ?_, by omega, h4, ?_⟩)⟩
    · rw [hl]; simpa using h1
    · rw [← List.flatten_append, List.take_append_drop]; exact h5
theorem flat_len {z : Nat} : ∀ (es : List (List Value)), (∀ x ∈ es, x.length = z) → es.flatten.length = es.length * z
  | [], _ => by simp
  | e :: es, h => by
    rw [List.flatten_cons, List.length_append, flat_len es (fun x hx => h x (List.mem_cons_of_mem _ hx)), h e (List.mem_cons_self ..), List.length_cons, Nat.add_mul]; omega
theorem flat_take {z : Nat} : ∀ (es : List (List Value)) (zs : List Value), (∀ x ∈ es, x.length = z) → ∀ (i : Nat) (e : List Value), es[i]? = some e → ((es.flatten ++ zs).drop (i * z)).take z = e ∧ i * z + z ≤ (es.flatten ++ zs).length
  | [], zs, h, i, e, hi => by simp at hi
  | d :: es, zs, h, 0, e, hi => by
    obtain rfl : d = e := by simpa using hi
    have hd := h d (List.mem_cons_self ..)
    rw [Nat.zero_mul, List.drop_zero, List.flatten_cons, List.append_assoc]
    exact ⟨by rw [← hd]; exact List.take_left .., by rw [List.length_append]; omega⟩
  | d :: es, zs, h, i + 1, e, hi => by
    have hd := h d (List.mem_cons_self ..)
    obtain ⟨h1, h2⟩ := flat_take es zs (fun x hx => h x (List.mem_cons_of_mem _ hx)) i e (by simpa using hi)
    rw [List.flatten_cons, List.append_assoc, Nat.add_mul, Nat.one_mul]
    refine ⟨?_, by rw [List.length_append, hd]; omega⟩
    rw [List.drop_append, hd, List.drop_of_length_le (by omega), List.nil_append, show i * z + z - z = i * z by omega]
    exact h1
end Go.Wb
end
/- The engine, part Str: strings. -/
section
set_option linter.unusedSimpArgs false
set_option linter.unusedVariables false
namespace Go.Wb
theorem splice_5 (a b d e f : Value) (c vs : List Value) : splice (a :: b :: d :: e :: f :: c) 5 vs = a :: b :: d :: e :: f :: splice c 0 vs := id rfl
theorem splice_6 (a b d e f g : Value) (c vs : List Value) : splice (a :: b :: d :: e :: f :: g :: c) 6 vs = a :: b :: d :: e :: f :: g :: splice c 0 vs := id rfl
section
variable {C : Tgt → List Value → M Value} {S : Hp} {Φ : Value → Hp → Prop}
theorem P_slcSh (s : ByteArray) (k : IntKind) (h : Int) : wp (X C (.slcS (.const (.string s)) none (some (.const (.int k h))))) Φ S = condP (0 ≤ h ∧ h ≤ s.size) (Φ (.string (s.extract 0 h.toNat)) S) := by
  have e : X C (.slcS (.const (.string s)) none (some (.const (.int k h)))) = M.lift ((bnds .leaf s.size s.size none (some (.const (.int k h))) none).map fun b => .string (s.extract b.1 b.2.1)) := by
    funext S
    simp only [X, exec, M.bind, M.lift, Atom.ev]
    cases bnds .leaf s.size s.size none (some (.const (.int k h))) none <;> rfl
  rw [e, wp_lift, bnds_h]
  by_cases hh : 0 ≤ h ∧ h ≤ s.size
  · rw [if_pos hh, condP_of hh]; rfl
  · rw [if_neg hh]
    simp only [condP, hh, false_and]
    rfl
theorem P_min (k : IntKind) (a b : Int) : wp (X C (.min [.const (.int k a), .const (.int k b)])) Φ S = Φ (.int k (if b < a then b else a)) S := wp_Xp (by
  funext S
  simp [X, exec, M.bind, M.lift, evs, Atom.ev, maxL, maxV])
theorem P_str2b (t : TypeId) (s : ByteArray) : wp (X C (.conv (.str2b t) (.const (.string s)))) Φ S = Φ (.slice (some ⟨S.next, 0, none⟩) s.size s.size) (S.add (.cells (some 1) true (s.data.toList.map fun b => .int .u8 b.toNat))) := by
  have e : X C (.conv (.str2b t) (.const (.string s))) = (nw (.cells (some 1) true (s.data.toList.map fun b => .int .u8 b.toNat))).bind fun nb => M.pure (.slice (some ⟨nb, 0, none⟩) s.size s.size) := by
    funext S
    rfl
  rw [e, wp_nwp]
theorem P_sameSl (b o n c : Nat) (x : Option Nat) : wp (X C (.conv .sameSl (.const (.slice (some ⟨b, o, x⟩) n c)))) Φ S = blkP (S.heap.get b) (fun x' s l => Φ (.slice (some ⟨b, o, x⟩) n c) (S.put b (some (.cells x' true l)))) := by
  have e : X C (.conv .sameSl (.const (.slice (some ⟨b, o, x⟩) n c))) = (rd b).bind fun o' => match o' with
      | .cells x' _ cs => (wr b (some (.cells x' true cs))).bind fun _ => M.pure (.slice (some ⟨b, o, x⟩) n c)
      | _ => M.fail := by
    funext S
    rfl
  rw [e, wp_bind (Lg.rd _) (fun o' => by
    cases o' with
    | loop => exact Lg.fail
    | map => exact Lg.fail
    | ro => exact Lg.fail
    | cells x t c => exact Lg.bind (Lg.wr _ _) fun _ => Lg.pure _), wp_rd]
  cases hb : S.heap.get b with
  | none => rfl
  | some o' =>
    rw [optP_some]
    cases o' with
    | loop => dsimp only; rw [wp_fail]; rfl
    | map => dsimp only; rw [wp_fail]; rfl
    | ro => dsimp only; rw [wp_fail]; rfl
    | cells x' t c' => dsimp only; rw [wp_bind (Lg.wr _ _) (fun _ => Lg.pure _), wp_wr, wp_pure, blkP_cells]
end
end Go.Wb
end
