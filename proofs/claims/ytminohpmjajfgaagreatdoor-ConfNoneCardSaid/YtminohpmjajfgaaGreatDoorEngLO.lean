/- The engine: EngL EngO EngR EngK EngK2 EngS. It proves nothing of the program by itself; it has no conditions. -/
import Derived.Test.YtminohpmjajfgaaGreatDoorEngM
import Derived.KernelRfl
import Derived.ProofKit
import Derived.OpenShut
import Derived.WideKeyArgs
/- The engine, part L: from a run to a law. -/
section
set_option linter.unusedSimpArgs false
set_option linter.unusedVariables false
namespace Go.Wb
set_option linter.unusedSectionVars false
variable [GloK]
open Go.RowKit Go.ChangeShapes
variable {P : Program} {w : World}

def tabOf (P : Program) (f : Nat) : Option AFn := match P.funcs[f]? with | some fn => compFunc P fn | none => none
theorem tabOk (P : Program) : TabOk P (tabOf P) := by
  intro f af h
  unfold tabOf at h
  split at h
  · rename_i fn hfn; exact .inl ⟨fn, hfn, h⟩
  · simp at h
def isGo : Option AFn → Bool
  | some (.go _) => true
  | _ => false

/-- the start: m abstract blocks that are but names -/
def names (m : Nat) : St := { heap := .leaf, next := m, log := [] }

theorem start_rel {r : Ren} (m : Nat) (hG : GloK.cells = []) : Rel P r (names m) w :=
  ⟨fun id b h => by simp [names, Tr.get_leaf] at h, fun i j bi bj h => by simp [names, Tr.get_leaf] at h, fun i c h => by rw [hG] at h; cases h⟩
theorem start_dead {r : Ren} {m k : Nat} : ¬ Live r (names m) k := by
  rintro ⟨id, b, h, _⟩
  simp [names, Tr.get_leaf] at h

/-! ### A start with the package-level variables -/
def roHeap : List (List Value) → Nat → Tr Blk → Tr Blk
  | [], _, t => t
  | c :: r, i, t => roHeap r (i + 1) (t.set i (some (.ro c)))
theorem roHeap_get : ∀ (l : List (List Value)) (i : Nat) (t : Tr Blk) (j : Nat), (roHeap l i t).get j = if i ≤ j ∧ j < i + l.length then (l[j - i]?).map .ro else t.get j
  | [], i, t, j => by simp only [roHeap, List.length_nil, Nat.add_zero]; rw [if_neg (by omega)]
  | c :: r, i, t, j => by
    simp only [roHeap, roHeap_get r, Tr.get_set, List.length_cons]
    by_cases h : j = i
    · subst h
      rw [if_neg (by omega), if_pos rfl, if_pos (by omega), Nat.sub_self]; rfl
    · by_cases h2 : i + 1 ≤ j ∧ j < i + 1 + r.length
      · rw [if_pos h2, if_pos (by omega), show j - i = (j - (i + 1)) + 1 by omega, List.getElem?_cons_succ]
      · rw [if_neg h2, if_neg h, if_neg (by omega)]
def gst : St := { heap := roHeap GloK.cells 0 .leaf, next := GloK.cells.length, log := [] }
def Ren.gl : Ren := { dom := fun i => i < GloK.cells.length, to := GloK.inv, base := fun _ => 0, size := fun _ => 0, ext := fun _ => none, fin := ⟨_, fun _ h => h⟩ }
theorem gst_get (j : Nat) : gst.heap.get j = (GloK.cells[j]?).map .ro := by
  show (roHeap GloK.cells 0 .leaf).get j = _
  rw [roHeap_get, Tr.get_leaf]
  by_cases h : j < GloK.cells.length
  · rw [if_pos (by omega), Nat.sub_zero]
  · rw [if_neg (by omega), List.getElem?_eq_none (by omega)]; rfl
theorem gst_rel (hw : GloAt w) : Rel P Ren.gl gst w := by
  refine ⟨fun i b hb => ?_, fun i j bi bj hi hj hro => ?_, fun i c hc => ⟨(List.getElem?_eq_some_iff.1 hc).1, rfl, rfl, by rw [gst_get, hc]; rfl⟩⟩
  · rw [gst_get, Option.map_eq_some_iff] at hb
    obtain ⟨c, hc, rfl⟩ := hb
    obtain ⟨rc, el, fz, h1, h2⟩ := hw i c hc
    refine ⟨(List.getElem?_eq_some_iff.1 hc).1, _, h1, rfl, c, ?_, fun j v hv => by
      show rc[0 + j]? = some v
      rw [Nat.zero_add]; exact h2 j v hv⟩
    have hp := GloK.pl c (List.mem_of_getElem? hc)
    clear h2 hc h1
    induction c with
    | nil => exact .nil
    | cons a l ih => exact .cons (plain_rel (hp a (List.mem_cons_self ..))) (ih fun v hv => hp v (List.mem_cons_of_mem _ hv))
  · rw [gst_get, Option.map_eq_some_iff] at hi hj
    obtain ⟨c, _, rfl⟩ := hi
    obtain ⟨c', _, rfl⟩ := hj
    rcases hro with h | h <;> cases h
/-- a run that comes to true: so does the call, whatever the arguments lead to, and what was there stays -/
theorem run_calls (hm : P.follows .mixedOrders = true) {F : Nat → Option AFn} (hF : TabOk P F) {n m : Nat} {f : FuncId} {args : List Value} (h : (callN F n (.fn f) args (names m)).map (·.1) = some (.bool true)) (hg : isGo (F f) = true) (hG : GloK.cells = [])
    {r : Ren} (hd : ∀ id, r.dom id → id < m) {args' : Array Value} (ha : LRel r args args'.toList) :
    Calls P f args' w fun e w' => e = .returned (.bool true) ∧ Below w.heap.size w w' := by
  cases hc : callN F n (.fn f) args (names m) with
  | none => rw [hc] at h; simp at h
  | some vs =>
    obtain ⟨v, S'⟩ := vs
    rw [hc] at h
    obtain rfl : v = .bool true := by simpa using h
    have hgo : ∀ k, F f ≠ some (.ext k) := by
      intro k hk
      rw [hk] at hg
      simp [isGo] at hg
    intro cs
    obtain ⟨D, r', w', v', hs, hv, hst⟩ := callN_calls hm hF hc (start_rel (P := P) (w := w) m hG) (fun id h1 h2 h3 => by
      have := hd id h3
      simp only [names] at h1
      omega) ha hgo (by
      intro k hk
      rw [hk] at hg
      simp [isGo] at hg) cs
    obtain rfl := hv.bool_inv
    obtain ⟨fr, k1, k2, k3⟩ := hst
    exact ⟨.returned (.bool true), w', fr, ⟨rfl, hs.os, hs.tape, hs.output, hs.size, fun k hk => hs.frame k hk start_dead⟩, k1, k2, k3⟩

theorem trodAll_stays {H : Type} {enc : TypeId × Value → H} (hl : laidOutB P = true) {W W' : World} {sp : Nat → Bool} : ∀ {ts : List TypeId} {vs : List Value} {ds : List (DataW H)} {ps : List MemPlace},
    (ts.all fun t => P.readableRec t && decide (t < P.types.size)) = true → DataW.TrodAll enc P W 0 (fun _ => true) true ts vs ds ps → (∀ x ∈ ps, W.sameAt W' x) → (∀ x ∈ ps, sp x.block = true) → DataW.TrodAll enc P W' 0 sp true ts vs ds ps
  | [], vs, ds, ps, ht, h, hs, hp => by
    obtain ⟨rfl, rfl, rfl⟩ := trodAll_nil h
    exact trodAll_mk0
  | t :: ts, vs, ds, ps, ht, h, hs, hp => by
    obtain ⟨v, vs', d, ds', p, q, rfl, rfl, rfl, h1, h2⟩ := trodAll_cons h
    simp only [List.all_cons, Bool.and_eq_true, decide_eq_true_eq] at ht
    exact trodAll_cons_mk (WideElems.Trod_stays hl ht.1.1 ht.1.2 h1 (fun x hx => hs x (by simp [hx])) fun x hx => hp x (by simp [hx]))
      (trodAll_stays hl ht.2 h2 (fun x hx => hs x (by simp [hx])) fun x hx => hp x (by simp [hx]))

/-- what a law's row asks behind a call that comes to true and leaves what was there -/
theorem law_post {H : Type} {enc : TypeId × Value → H} (hl : laidOutB P = true) {f : Func} {s : ChangeSpec} {apart fresh handsOn : Bool} {W W' : World} {args : Array Value} {ds gs : List (DataW H)} {before : List MemPlace} {t : TypeId}
    (hv : s.vars = []) (hfn : s.fn H (ds ++ gs) = { results := [.lit (.bool true)], args := ds }) (hrt : f.resultTypes = #[t]) (ht : P.underlying t = some .bool)
    (hts : (f.params.toList.all fun t => P.readableRec t && decide (t < P.types.size)) = true)
    (hW : DataW.Whole enc P f.params.toList s.vars apart W args.toList ds gs before) (hb : Below W.heap.size W W') :
    s.post enc P f apart fresh handsOn false W args (.bool true) W' := by
  obtain ⟨p, q, hA, hV, hpq, hz, hnd⟩ := id hW
  rw [hv] at hV
  obtain ⟨rfl, rfl⟩ := trodVars_none hV
  have hpp : before = p := by rw [hpq]; simp
  have hlt : ∀ x ∈ p, x.block < W.heap.size := fun x hx => hW.lt x (by rw [hpp]; exact hx)
  refine ⟨ds, [], before, [], p, [], hW, ?_, ?_, ?_, World.keptBut_mono (fun x hx => ⟨hx, .inr (.inl (by rw [← hpp]; exact hx))⟩) (hb.frame _), fun h => by cases h⟩
  · rw [hfn, hrt]
    exact trodAll_mk1 (shut_bool ht true)
  · rw [hfn]
    exact trodAll_stays hl hts hA (fun x hx => hb.same (hlt x hx)) fun x hx => by simpa using hlt x hx
  · rw [hv, hfn]
    rfl
end Go.Wb
end
/- The engine, part O: the arguments of a law, opened but as far as their shape goes. -/
section
set_option linter.unusedSimpArgs false
set_option linter.unusedVariables false
namespace Go.Wb
set_option linter.unusedSectionVars false
open Go.RowKit Go.ChangeShapes Go.WideShapes
variable {P : Program} {W : World} {base : Nat}

/-- names for places that came in -/
def Ren.of (l : List (Nat × Nat)) : Ren := { dom := fun i => i < l.length, to := fun i => (l.getD i (0, 0)).1, base := fun i => (l.getD i (0, 0)).2, size := fun _ => 0, ext := fun _ => none, fin := ⟨l.length, fun _ h => h⟩ }

theorem cell_int {t : TypeId} {k : IntKind} {v : Value} (ht : P.underlying t = some (.int k)) (h : Cell.okWide P W .any base t v) : ∃ n, v = .int k n := by
  cases v <;> simp [Cell.okWide, Cell.ok, ht] at h
  obtain ⟨rfl, _⟩ := h
  exact ⟨_, rfl⟩
theorem cell_slice {t e : TypeId} {v : Value} (ht : P.underlying t = some (.slice e)) (h : Cell.okWide P W .any base t v) : v = .slice none 0 0 ∨ ∃ b o n c, v = .slice (some ⟨b, o, none⟩) n c ∧ n ≤ c := by
  cases v with
  | slice a n c =>
    cases a with
    | none =>
      cases n <;> cases c <;> simp [Cell.okWide, Cell.ok, ht] at h
      exact .inl rfl
    | some a =>
      simp only [Cell.okWide, Cell.ok, ht, World.has] at h
      obtain ⟨h1, _, _, h2, _⟩ := h
      obtain ⟨b, o, s⟩ := a
      simp only at h2
      subst h2
      exact .inr ⟨b, o, n, c, rfl, h1⟩
  | _ => simp [Cell.okWide, Cell.ok, ht] at h

theorem slice_named {r : Ren} {i n c : Nat} (hd : r.dom i) (he : r.ext i = none) : VRel r (.slice (some ⟨i, 0, none⟩) n c) (.slice (some ⟨r.to i, r.base i, none⟩) n c) := by
  have := VRel.slc (r := r) (b := i) (o := 0) (n := n) (c := c) (c' := c) hd (fun _ => rfl) (Nat.le_refl _) (fun z hz => by rw [he] at hz; cases hz)
  simpa using this
theorem cells_list {cs : Array Value} {n : Nat} (h : cs.size = n) : ∃ l : List Value, l.length = n ∧ cs = ⟨l⟩ := ⟨cs.toList, by simpa using h, rfl⟩
theorem list_cons {n : Nat} {l : List Value} (h : l.length = n + 1) : ∃ x r, l = x :: r := by
  cases l with
  | nil => simp at h
  | cons x r => exact ⟨x, r, rfl⟩
theorem cell_bool {t : TypeId} {v : Value} (ht : P.underlying t = some .bool) (h : Cell.okWide P W .any base t v) : ∃ b, v = .bool b := by
  cases v <;> simp [Cell.okWide, Cell.ok, ht] at h
  exact ⟨_, rfl⟩
theorem cell_str {t : TypeId} {v : Value} (ht : P.underlying t = some .string) (h : Cell.okWide P W .any base t v) : ∃ s, v = .string s := by
  cases v <;> simp [Cell.okWide, Cell.ok, ht] at h
  exact ⟨_, rfl⟩
theorem okWide_str {t : TypeId} {v : Value} (ht : P.underlying t = some .string) (h : Value.okWide P W .any base t v) : ∃ s, v = .string s :=
  cell_str ht (by simpa only [Value.okWide, ht] using h)
theorem okWide_bool' {t : TypeId} {v : Value} (ht : P.underlying t = some .bool) (h : Value.okWide P W .any base t v) : ∃ b, v = .bool b :=
  cell_bool ht (by simpa only [Value.okWide, ht] using h)
end Go.Wb
end
/- The engine, part R: what may only be read stays; arguments that lie in memory. -/
section
set_option linter.unusedSimpArgs false
set_option linter.unusedVariables false
set_option linter.unusedSectionVars false
namespace Go.Wb
set_option linter.unusedSectionVars false
variable [GloK]
open Go.RowKit Go.ChangeShapes
variable {α β : Type}

/-- what may only be read is not written, but for block b -/
def NrX (q : Nat → Prop) (m : M α) : Prop := ∀ S a S', m S = some (a, S') → ∃ D : List (Nat × Bool), S'.log = D ++ S.log ∧ S.next ≤ S'.next ∧ ∀ id c, id < S.next → ¬ q id → S.heap.get id = some (.ro c) → (id, true) ∉ D ∧ S'.heap.get id = some (.ro c)
def Nr (m : M α) : Prop := NrX (fun _ => False) m
variable {q : Nat → Prop}
theorem Nr.toX {m : M α} (h : Nr m) : NrX q m := by
  intro S a S' k
  obtain ⟨D, h1, h2, h3⟩ := h S a S' k
  exact ⟨D, h1, h2, fun id c hi _ hc => h3 id c hi (fun h => h) hc⟩
theorem NrX.pure (a : α) : NrX q (M.pure a) := by intro S b S' h; cases h; exact ⟨[], rfl, Nat.le_refl _, fun id c _ _ h => ⟨by simp, h⟩⟩
theorem NrX.fail : NrX q (M.fail : M α) := by intro S b S' h; cases h
theorem NrX.lift (o : Option α) : NrX q (M.lift o) := by cases o with | none => exact NrX.fail | some a => exact NrX.pure a
theorem NrX.rd (b : Nat) : NrX q (rd b) := by
  intro S o S' h
  unfold Wb.rd at h
  cases hb : S.heap.get b with
  | none => rw [hb] at h; cases h
  | some p => rw [hb] at h; cases h; exact ⟨[(b, false)], rfl, Nat.le_refl _, fun id c _ _ h => ⟨by simp, h⟩⟩
theorem NrX.wr {b : Nat} (hb : q b) (o : Option Blk) : NrX q (wr b o) := by
  intro S u S' h
  cases h
  refine ⟨[(b, true)], rfl, Nat.le_refl _, fun id c _ hn h => ?_⟩
  have : id ≠ b := fun e => hn (e ▸ hb)
  exact ⟨by simp [this], by simp only [Tr.get_set, if_neg this]; exact h⟩
theorem NrX.nw (o : Blk) : NrX q (nw o) := by
  intro S u S' h
  cases h
  exact ⟨[], rfl, Nat.le_succ _, fun id c hi _ h => ⟨by simp, by simp only [Tr.get_set, if_neg (Nat.ne_of_lt hi)]; exact h⟩⟩
theorem NrX.bind {m : M α} {f : α → M β} (hm : NrX q m) (hf : ∀ a, NrX q (f a)) : NrX q (m.bind f) := by
  intro S b S' h
  simp only [M.bind] at h
  cases hx : m S with
  | none => rw [hx] at h; cases h
  | some p =>
    obtain ⟨a, S1⟩ := p
    rw [hx] at h
    obtain ⟨D1, a1, a2, a3⟩ := hm S a S1 hx
    obtain ⟨D2, b1, b2, b3⟩ := hf a _ b S' h
    refine ⟨D2 ++ D1, by rw [b1, a1, List.append_assoc], Nat.le_trans a2 b2, fun id c hi hn hc => ?_⟩
    obtain ⟨c1, c2⟩ := a3 id c hi hn hc
    obtain ⟨d1, d2⟩ := b3 id c (by omega) hn c2
    exact ⟨by simp [c1, d1], d2⟩
theorem NrX.ite {c : Prop} [Decidable c] {a b : M α} (ha : NrX q a) (hb : NrX q b) : NrX q (if c then a else b) := by split <;> assumption
/-- a block that is looked at, and then written: it was none that may only be read -/
theorem NrX.rdb {b : Nat} {f : Blk → M α} (h1 : ∀ o, o.isRo = false → NrX (fun i => q i ∨ i = b) (f o)) (h2 : ∀ c, NrX q (f (.ro c))) : NrX q ((Wb.rd b).bind f) := by
  intro S a S' h
  simp only [M.bind, Wb.rd] at h
  cases hb : S.heap.get b with
  | none => rw [hb] at h; cases h
  | some o =>
    rw [hb] at h
    simp only at h
    by_cases ho : o.isRo = true
    · cases o with
      | cells => cases ho
      | loop => cases ho
      | map => cases ho
      | iter => cases ho
      | ro c0 =>
        obtain ⟨D, a1, a2, a3⟩ := h2 _ _ _ _ h
        refine ⟨D ++ [(b, false)], by rw [a1]; simp, a2, fun id c hi hn hc => ?_⟩
        obtain ⟨c1, c2⟩ := a3 id c hi hn hc
        exact ⟨by simp [c1], c2⟩
    · obtain ⟨D, a1, a2, a3⟩ := h1 o (by simpa using ho) _ _ _ h
      refine ⟨D ++ [(b, false)], by rw [a1]; simp, a2, fun id c hi hn hc => ?_⟩
      have hne : id ≠ b := by
        intro e
        subst e
        have : some o = some (.ro c) := hb.symm.trans hc
        cases this
        exact ho rfl
      obtain ⟨c1, c2⟩ := a3 id c hi (fun h => h.elim hn hne) hc
      exact ⟨by simp [c1], c2⟩
theorem NrX.ldCells (b off n : Nat) : NrX q (ldCells b off n) := .bind (.rd b) fun o => by
  cases o <;> first | exact .fail | exact .ite (.pure _) .fail
theorem NrX.ld1 (b off : Nat) : NrX q (ld1 b off) := .bind (.rd b) fun o => by
  cases o <;> first | exact .fail | exact .lift _
theorem NrX.stCells (b off : Nat) (vs : List Value) : NrX q (stCells b off vs) := .rdb (fun o ho => by
  cases o <;> first | exact .fail | exact .ite (.wr (.inr rfl) _) .fail) fun c => .fail
theorem NrX.firstN (size n : Nat) (v : Value) : NrX q (firstN size n v) := by
  unfold Wb.firstN
  split
  · exact .ldCells _ _ _
  · exact .pure _
  · exact .ite (.pure _) .fail
  · exact .ite (.pure _) .fail
  · exact .fail
theorem NrX.putA (size : Nat) (base : Option Addr) (sLen sCap n : Nat) {news : M (List Value)} (h : NrX q news) : NrX q (putA size base sLen sCap n news) := by
  refine .bind h fun new => ?_
  cases base with
  | none => exact .ite (.pure _) .fail
  | some a => exact .bind (.stCells _ _ _) fun _ => .pure _
theorem NrX.growA (size bytes : Nat) (base : Option Addr) (sLen sCap n : Nat) {news : M (List Value)} (h : NrX q news) : NrX q (growA size bytes base sLen sCap n news) := by
  refine .ite (.bind h fun new => .ite ?_ .fail) .fail
  cases base with
  | none => exact .ite (.bind (.nw _) fun _ => .pure _) .fail
  | some a =>
    refine .rdb (fun o ho => ?_) fun c => .fail
    cases o <;> try exact .fail
    refine .ite ?_ .fail
    rename_i x t c
    cases x with
    | none => exact .bind (.nw _) fun _ => .pure _
    | some z => exact .ite (.bind (.wr (.inr rfl) _) fun _ => .bind (.nw _) fun _ => .pure _) .fail
theorem NrX.appendA (size bytes : Nat) (s x : Value) : NrX q (appendA size bytes s x) := by
  unfold Wb.appendA
  split
  · exact .bind (.lift _) fun n => .ite (.putA _ _ _ _ _ (.firstN _ _ _)) (.growA _ _ _ _ _ _ (.firstN _ _ _))
  · exact .bind (.lift _) fun n => .ite (.bind (.firstN _ _ _) fun _ => .pure _) (.growA _ _ _ _ _ _ (.firstN _ _ _))
  · exact .fail
theorem NrX.appendZ (size bytes : Nat) (z : List Value) (s x : Value) : NrX q (appendZ size bytes z s x) := by
  unfold Wb.appendZ
  split
  · exact .ite (.ite (.putA _ _ _ _ _ (.pure _)) (.growA _ _ _ _ _ _ (.pure _))) .fail
  · exact .fail
section
variable {call : Tgt → List Value → M Value} (hcall : ∀ t a, Nr (call t a))
include hcall
theorem NrX.exec (e : Env) (op : AOp) : NrX q (exec call e op) := by
  cases op
  all_goals unfold Wb.exec
  all_goals repeat' (first
    | exact NrX.pure _
    | exact NrX.fail
    | exact NrX.lift _
    | exact NrX.nw _
    | exact NrX.ldCells _ _ _
    | exact NrX.ld1 _ _
    | exact NrX.stCells _ _ _
    | exact NrX.firstN _ _ _
    | exact NrX.appendA _ _ _ _
    | exact NrX.appendZ _ _ _ _ _
    | exact (hcall _ _).toX
    | exact NrX.wr (.inr rfl) _
    | refine NrX.rdb (fun o ho => ?_) (fun c => ?_)
    | refine NrX.bind ?_ (fun _ => ?_)
    | refine NrX.ite ?_ ?_
    | split
    | (rename_i o ho; cases o))
theorem NrX.instr (i : AInstr) (e : Env) : NrX q (instr call i e) := by
  unfold Wb.instr
  split
  · exact .bind (.exec hcall _ _) fun _ => .pure _
  · exact .bind (.lift _) fun b => .ite (.bind (.exec hcall _ _) fun _ => .pure _) (.pure _)
theorem NrX.instrs : ∀ (l : List AInstr) (e : Env), NrX q (instrs call l e)
  | [], e => .pure _
  | i :: r, e => .bind (.instr hcall i e) fun e' => NrX.instrs r e'
theorem NrX.drawnGo : ∀ (l : List AInstr) (n : Nat) (e : Env) (ts : List (Nat × Touch)), NrX q (drawnGo call l n e ts)
  | [], n, e, ts => .pure _
  | i :: r, n, e, ts => by
    intro S a S' h
    simp only [Wb.drawnGo] at h
    cases h1 : Wb.instr call i e { heap := S.heap, next := S.next, log := [] } with
    | none => simp [h1] at h
    | some p =>
      obtain ⟨e', s'⟩ := p
      rw [h1] at h
      obtain ⟨D1, a1, a2, a3⟩ := NrX.instr (q := q) hcall i e _ _ _ h1
      obtain ⟨D2, b1, b2, b3⟩ := NrX.drawnGo r _ _ _ _ _ _ h
      simp only [List.append_nil] at a1
      refine ⟨D2 ++ D1, by rw [b1, a1, List.append_assoc], Nat.le_trans a2 b2, fun id c hi hn hc => ?_⟩
      obtain ⟨c1, c2⟩ := a3 id c hi hn hc
      have hi2 : id < s'.next := Nat.lt_of_lt_of_le hi a2
      obtain ⟨d1, d2⟩ := b3 id c hi2 hn c2
      exact ⟨by simp [c1, d1], d2⟩
theorem NrX.drawnA (l : List AInstr) (ps : List Nat) (e : Env) : NrX q (drawnA call l ps e) := .bind (.drawnGo hcall l 0 e []) fun r => .ite (.pure _) .fail
omit hcall in
theorem NrX.iter {body : Env → M (Ext × Env)} (h : ∀ e, NrX q (body e)) : ∀ (n : Nat) (e : Env), NrX q (iter body n e)
  | 0, e => .fail
  | n + 1, e => .bind (h e) fun r => by
    split
    · exact NrX.iter h n _
    · exact .pure _
theorem NrX.run (fuel : Nat) : ∀ (c : ACode) (e : Env), NrX q (run call fuel c e)
  | .skip, e => .pure _
  | .ops l, e => .bind (.instrs hcall l e) fun _ => .pure _
  | .drawn l ps, e => .bind (.drawnA hcall l ps e) fun _ => .pure _
  | .seq a b, e => .bind (NrX.run fuel a e) fun r => by
    split
    · exact NrX.run fuel b _
    · exact .pure _
  | .cond c a b, e => .bind (.lift _) fun t => by
    split
    · exact NrX.run fuel a e
    · exact NrX.run fuel b e
  | .block id a, e => .bind (NrX.run fuel a e) fun r => by
    split
    · exact .ite (.pure _) (.pure _)
    · exact .pure _
  | .loop a, e => .iter (fun e => NrX.run fuel a e) fuel e
  | .range f ps a b, e => .bind (.lift _) fun g => .bind (.nw _) fun l => .bind (.lift _) fun t => .bind (hcall _ _).toX fun _ => .rdb (fun o ho => by
    split
    · refine .bind (.wr (.inr rfl) _) fun _ => ?_
      split
      · exact .pure _
      · exact .pure _
    · exact .fail) fun c => .fail
  | .exit id, e => .pure _
  | .ret, e => .pure _
end
theorem NrX.resV (e : Env) (a : ARes) : NrX q (resV e a) := by
  cases a with
  | tmp t => exact .lift _
  | cell t sh =>
    refine .bind (.lift _) fun x => ?_
    split
    · split
      · exact .ld1 _ _
      · exact .bind (.ldCells _ _ _) fun _ => .pure _
    · exact .fail
theorem NrX.resAll (e : Env) : ∀ l : List ARes, NrX q (resAll e l)
  | [] => .pure _
  | r :: rs => .bind (.resV e r) fun v => .bind (NrX.resAll e rs) fun l => .pure _
theorem NrX.chkS (own : Bool) (b : Nat) : NrX q (chkS own b) := by
  refine .bind (.rd _) fun o => ?_
  split
  · exact .pure _
  · exact .ite .fail (.pure _)
  · exact .fail
theorem NrX.chkC (size : Nat) (base : Option Addr) : NrX q (chkC size base) := by
  unfold Wb.chkC
  split
  · exact .pure _
  · refine .bind (.rd _) fun o => ?_
    split
    · exact .ite (.pure _) .fail
    · exact .fail
theorem NrX.insG (size bytes : Nat) (a : Addr) (n c i : Nat) {news : M (List Value)} (h : NrX q news) : NrX q (insG size bytes a n c i news) :=
  .ite (.ite (.putA _ _ _ _ _ h) (.growA _ _ _ _ _ _ h)) .fail
theorem NrX.insA (size bytes : Nat) (base : Option Addr) (n c : Nat) (i : Int) (xb : Option Addr) (xc : Nat) : NrX q (insA size bytes base n c i xb xc) := by
  refine .ite (.ite (.bind (.chkC _ _) fun _ => .appendA _ _ _ _) ?_) .fail
  split
  · exact .ite (.bind (.chkS _ _) fun _ => .bind (.chkS _ _) fun _ => .insG _ _ _ _ _ _ (.bind (.ldCells _ _ _) fun _ => .bind (.ldCells _ _ _) fun _ => .pure _)) .fail
  · exact .fail
theorem NrX.insS (size bytes : Nat) (s : Value) (i : Int) (xb : Option Addr) (xc : Nat) : NrX q (insS size bytes s i xb xc) := by
  unfold Wb.insS
  split
  · exact .insA _ _ _ _ _ _ _ _
  · exact .ite (.appendA _ _ _ _) .fail
  · exact .fail
theorem NrX.extA (k : XK) (args : List Value) : NrX q (extA k args) := by
  unfold Wb.extA
  split
  · exact .pure _
  · split
    · refine .ite (.pure _) (.bind (.rd _) fun x => .bind (.rd _) fun y => ?_)
      split
      · exact .pure _
      · exact .fail
    · exact .pure _
  · exact .insS _ _ _ _ _ _
  · exact .pure _
  · exact .pure _
  · exact .ite (.pure _) .fail
  · exact .ite .fail (.bind (.ldCells _ _ _) fun _ => .bind (.lift _) fun _ => .ite .fail (.pure _))
  · exact .bind (.stCells _ _ _) fun _ => .bind (.rd _) fun _ => .pure _
  · exact .fail
theorem NrX.callN (F : Nat → Option AFn) : ∀ (n : Nat) (t : Tgt) (args : List Value), Nr (callN F n t args)
  | 0, t, args => by unfold Wb.callN; exact NrX.fail
  | n + 1, .fn f, args => by
    unfold Wb.callN
    split
    · exact NrX.fail
    · exact NrX.extA _ _
    · exact NrX.lift _
    · refine NrX.ite (NrX.bind (NrX.run (NrX.callN F n) _ _ _) fun r => ?_) NrX.fail
      split
      · exact NrX.fail
      · refine NrX.bind (NrX.resAll _ _) fun vs => ?_
        split <;> exact NrX.pure _
  | n + 1, .yield l, args => by
    unfold Wb.callN
    refine NrX.rdb (fun o ho => ?_) fun c => NrX.fail
    split
    · refine NrX.ite (NrX.bind (NrX.wr (.inr rfl) _) fun _ => NrX.bind (NrX.run (NrX.callN F n) _ _ _) fun r => ?_) NrX.fail
      split
      · refine NrX.bind (NrX.run (NrX.callN F n) _ _ _) fun r => ?_
        split
        · exact NrX.bind (NrX.wr (.inr rfl) _) fun _ => NrX.pure _
        · exact NrX.bind (NrX.wr (.inr rfl) _) fun _ => NrX.pure _
      · exact NrX.fail
    · exact NrX.fail
end Go.Wb
end
/- The engine, part K: a function's own body with its branches at the head, for branches that stay open. -/
section
set_option linter.unusedSimpArgs false
set_option linter.unusedVariables false
namespace Go.Wb
set_option linter.unusedSectionVars false

section
variable (call : Tgt → List Value → M Value) (fuel : Nat)
def runK : ACode → Env → (Ext → Env → St → Option Value) → St → Option Value
  | .seq a b, e, k => runK a e (fun x e' => match x with
    | .normal => runK b e' k
    | x => k x e')
  | .cond c a b, e, k => fun S => match (c.ev e).bind asBool with
    | none => none
    | some t => match t with
      | true => runK a e k S
      | false => runK b e k S
  | .block id a, e, k => runK a e (fun x e' => match x with
    | .exit i => if i = id then k .normal e' else k (.exit i) e'
    | x => k x e')
  | c, e, k => fun S => match run call fuel c e S with
    | none => none
    | some (r, S') => k r.1 r.2 S'
end

def thenK (o : Option ((Ext × Env) × St)) (k : Ext → Env → St → Option Value) : Option Value := match o with
  | none => none
  | some (r, S') => k r.1 r.2 S'

theorem runK_eq (call : Tgt → List Value → M Value) (fuel : Nat) : ∀ (c : ACode) (e : Env) (k : Ext → Env → St → Option Value) (S : St), runK call fuel c e k S = thenK (run call fuel c e S) k
  | .skip, e, k, S => rfl
  | .ops l, e, k, S => rfl
  | .drawn l m, e, k, S => rfl
  | .loop a, e, k, S => rfl
  | .range f p a b, e, k, S => rfl
  | .exit id, e, k, S => rfl
  | .ret, e, k, S => rfl
  | .seq a b, e, k, S => by
    simp only [runK, run, M.bind]
    rw [runK_eq call fuel a]
    cases run call fuel a e S with
    | none => rfl
    | some r =>
      obtain ⟨⟨x, e'⟩, S'⟩ := r
      cases x with
      | normal => simp only [thenK]; rw [runK_eq call fuel b]; rfl
      | exit id => rfl
      | ret => rfl
  | .cond c a b, e, k, S => by
    simp only [runK, run, M.bind, M.lift]
    cases (c.ev e).bind asBool with
    | none => rfl
    | some t => cases t <;> simp only <;> rw [runK_eq call fuel]
  | .block id a, e, k, S => by
    simp only [runK, run, M.bind]
    rw [runK_eq call fuel a]
    cases run call fuel a e S with
    | none => rfl
    | some r =>
      obtain ⟨⟨x, e'⟩, S'⟩ := r
      cases x with
      | normal => rfl
      | ret => rfl
      | exit i =>
        simp only [thenK]
        by_cases h : i = id
        · simp [h, M.pure]
        · simp [h, M.pure]

/-- a function's value, its body's branches at the head -/
def funK (F : Nat → Option AFn) (n : Nat) (f : FuncId) (args : List Value) (S : St) : Option Value := match F f with
  | some (.go af) => if args.length = af.nparams then runK (callN F n) n af.body (argsEnv args 0 .leaf) (fun x e S => match x with
      | .exit _ => none
      | _ => match resAll e af.results S with
        | none => none
        | some (vs, _) => match vs with
          | [v] => some v
          | vs => some (.tuple vs.toArray)) S
    else none
  | _ => none

theorem funK_callN {F : Nat → Option AFn} {n : Nat} {f : FuncId} {args : List Value} {S : St} {v : Value} (h : funK F n f args S = some v) : (callN F (n + 1) (.fn f) args S).map (·.1) = some v := by
  unfold funK at h
  simp only [callN]
  rcases hF : F f with _ | af | k | g
  · rw [hF] at h; simp at h
  · rw [hF] at h
    simp only at h ⊢
    by_cases hl : args.length = af.nparams
    · rw [if_pos hl] at h ⊢
      rw [runK_eq] at h
      simp only [M.bind]
      cases hr : run (callN F n) n af.body (argsEnv args 0 .leaf) S with
      | none => rw [hr] at h; simp [thenK] at h
      | some r =>
        obtain ⟨⟨x, e'⟩, S'⟩ := r
        rw [hr] at h
        simp only [thenK] at h
        cases x with
        | exit id => simp at h
        | normal =>
          simp only at h ⊢
          cases hres : resAll e' af.results S' with
          | none => rw [hres] at h; simp at h
          | some q =>
            obtain ⟨vs, S2⟩ := q
            rw [hres] at h
            simp only [M.bind, hres] at h ⊢
            split at h
            · simpa [M.pure] using h
            · rename_i hne
              split
              · exact absurd rfl (hne _)
              · simpa [M.pure] using h
        | ret =>
          simp only at h ⊢
          cases hres : resAll e' af.results S' with
          | none => rw [hres] at h; simp at h
          | some q =>
            obtain ⟨vs, S2⟩ := q
            rw [hres] at h
            simp only [M.bind, hres] at h ⊢
            split at h
            · simpa [M.pure] using h
            · rename_i hne
              split
              · exact absurd rfl (hne _)
              · simpa [M.pure] using h
    · rw [if_neg hl] at h; simp at h
  · rw [hF] at h; simp at h
  · rw [hF] at h; simp at h
end Go.Wb
end
/- The engine, part K2: the evaluator with what comes behind as an argument: its open branches stand at the head. -/
section
set_option linter.unusedSimpArgs false
set_option linter.unusedVariables false
namespace Go.Wb
set_option linter.unusedSectionVars false
variable {ρ : Type} {α β : Type}

/-- a computation, and what comes behind -/
def M.k (m : M α) (k : α → St → Option ρ) (S : St) : Option ρ := match m S with
  | none => none
  | some (a, S') => k a S'
theorem M.k_bind (m : M α) (f : α → M β) (k : β → St → Option ρ) (S : St) : M.k (m.bind f) k S = M.k m (fun a => M.k (f a) k) S := by
  simp only [M.k, M.bind]
  cases m S with
  | none => rfl
  | some r => rfl
theorem M.k_pure (a : α) (k : α → St → Option ρ) (S : St) : M.k (M.pure a) k S = k a S := rfl
theorem M.k_fail (k : α → St → Option ρ) (S : St) : M.k M.fail k S = none := rfl
theorem M.k_lift (o : Option α) (k : α → St → Option ρ) (S : St) : M.k (M.lift o) k S = match o with | none => none | some a => k a S := by cases o <;> rfl

theorem M.k_congr {m : M α} {k k' : α → St → Option ρ} {S : St} (h : ∀ a S, k a S = k' a S) : M.k m k S = M.k m k' S := by
  have : k = k' := by funext a S; exact h a S
  rw [this]

def noCall : Tgt → List Value → M Value := fun _ _ => M.fail

section
variable (callK : Tgt → List Value → (Value → St → Option ρ) → St → Option ρ)
def execK (e : Env) (op : AOp) (k : Value → St → Option ρ) (S : St) : Option ρ := match op with
  | .call f args => match f.ev e with
    | none => none
    | some g => match evs e args with
      | none => none
      | some l => match target g l with
        | none => none
        | some t => callK t.1 t.2 k S
  | .pick c a b => match (c.ev e).bind asBool with
    | none => none
    | some t => match t with
      | true => match a.ev e with
        | none => none
        | some v => k v S
      | false => match b.ev e with
        | none => none
        | some v => k v S
  | op => M.k (exec noCall e op) k S
def instrK (i : AInstr) (e : Env) (k : Env → St → Option ρ) (S : St) : Option ρ := match i.guard with
  | none => execK callK e i.op (fun v => k (putD e i.dst v)) S
  | some (t, want) => match (e.get t).bind (wanted want) with
    | none => none
    | some b => match b with
      | true => execK callK e i.op (fun v => k (putD e i.dst v)) S
      | false => k (putD e i.dst undef) S
def instrsK : List AInstr → Env → (Env → St → Option ρ) → St → Option ρ
  | [], e, k => k e
  | i :: r, e, k => instrK callK i e fun e' => instrsK r e' k
def drawnGoK : List AInstr → Nat → Env → List (Nat × Touch) → (Env × List (Nat × Touch) → St → Option ρ) → St → Option ρ
  | [], _, e, ts, k, S => k (e, ts) S
  | i :: r, n, e, ts, k, S => instrK callK i e (fun e' s' => drawnGoK r (n + 1) e' (keepT n { log := s'.log, lo := S.next, hi := s'.next } ts) k { heap := s'.heap, next := s'.next, log := s'.log ++ S.log })
      { heap := S.heap, next := S.next, log := [] }
def iterK (body : Env → (Ext × Env → St → Option ρ) → St → Option ρ) : Nat → Env → (Ext × Env → St → Option ρ) → St → Option ρ
  | 0, _, _, _ => none
  | n + 1, e, k, S => body e (fun r => match r.1 with
    | .normal => iterK body n r.2 k
    | _ => k r) S
def codeK (fuel : Nat) : ACode → Env → (Ext × Env → St → Option ρ) → St → Option ρ
  | .skip, e, k => k (.normal, e)
  | .ops l, e, k => instrsK callK l e fun e' => k (.normal, e')
  | .drawn l ps, e, k => drawnGoK callK l 0 e [] fun r => match apartAll ps r.2 with
    | true => k (.normal, r.1)
    | false => fun _ => none
  | .seq a b, e, k => codeK fuel a e fun r => match r.1 with
    | .normal => codeK fuel b r.2 k
    | _ => k r
  | .cond c a b, e, k => fun S => match (c.ev e).bind asBool with
    | none => none
    | some t => match t with
      | true => codeK fuel a e k S
      | false => codeK fuel b e k S
  | .block id a, e, k => codeK fuel a e fun r => match r.1 with
    | .exit i => if i = id then k (.normal, r.2) else k r
    | _ => k r
  | .loop a, e, k => iterK (codeK fuel a) fuel e k
  | .range f params assign body, e, k => fun S => match f.ev e with
    | none => none
    | some g => M.k (nw (.loop params assign body e none)) (fun l S => match target g [.func (.yield l) #[] #[]] with
      | none => none
      | some t => callK t.1 t.2 (fun _ => M.k (rd l) fun o => match o with
        | .loop _ _ _ _ p => M.k (wr l none) fun _ => match p with
          | none => k (.normal, e)
          | some x => k (x, e)
        | _ => fun _ => none) S) S
  | .exit id, e, k => k (.exit id, e)
  | .ret, e, k => k (.ret, e)
end

def callK (F : Nat → Option AFn) : Nat → Tgt → List Value → (Value → St → Option ρ) → St → Option ρ
  | 0, _, _, _, _ => none
  | n + 1, .fn f, args, k, S => match F f with
    | none => none
    | some (.ext x) => M.k (extA x args) k S
    | some (.sum g) => match g args with
      | none => none
      | some v => k v S
    | some (.go af) => if args.length = af.nparams then
        codeK (callK F n) n af.body (argsEnv args 0 .leaf) (fun r => match r.1 with
          | .exit _ => fun _ => none
          | _ => M.k (resAll r.2 af.results) fun vs => match vs with
            | [v] => k v
            | vs => k (.tuple vs.toArray)) S
      else none
  | n + 1, .yield l, args, k, S => M.k (rd l) (fun o => match o with
    | .loop params assign body e none => if args.length = params.length then
        M.k (wr l none) fun _ => codeK (callK F n) n assign (zipSet params args e) fun r => match r.1 with
          | .normal => codeK (callK F n) n body r.2 fun r => match r.1 with
            | .normal => M.k (wr l (some (.loop params assign body e none))) fun _ => k (.bool true)
            | x => M.k (wr l (some (.loop params assign body e (some x)))) fun _ => k (.bool false)
          | _ => fun _ => none
      else fun _ => none
    | _ => fun _ => none) S

section
variable {cK : Tgt → List Value → (Value → St → Option ρ) → St → Option ρ} {call : Tgt → List Value → M Value} (hc : ∀ t a k S, cK t a k S = M.k (call t a) k S)
include hc
theorem execK_eq (e : Env) (op : AOp) (k : Value → St → Option ρ) (S : St) : execK cK e op k S = M.k (exec call e op) k S := by
  cases op with
  | call f args =>
    simp only [execK, exec, M.k_bind, M.k_lift, M.k_pure]
    cases f.ev e with
    | none => rfl
    | some g =>
      simp only
      cases evs e args with
      | none => rfl
      | some l =>
        simp only
        cases target g l with
        | none => rfl
        | some t => simp only; rw [hc]; rfl
  | pick c a b =>
    simp only [execK, exec, M.k_bind, M.k_lift, M.k_pure]
    cases (c.ev e).bind asBool with
    | none => rfl
    | some t =>
      cases t
      · simp only [Bool.false_eq_true, if_false]; cases b.ev e <;> rfl
      · simp only [if_true]; cases a.ev e <;> rfl
  | _ => rfl
theorem instrK_eq (i : AInstr) (e : Env) (k : Env → St → Option ρ) (S : St) : instrK cK i e k S = M.k (instr call i e) k S := by
  unfold instrK instr
  cases i.guard with
  | none => simp only [execK_eq hc, M.k_bind]; rfl
  | some g =>
    obtain ⟨t, want⟩ := g
    simp only [M.k_bind, M.k_lift]
    cases (e.get t).bind (wanted want) with
    | none => rfl
    | some b =>
      cases b
      · simp only [Bool.false_eq_true, if_false, M.k_pure]
      · simp only [if_true, execK_eq hc, M.k_bind]; rfl
theorem instrsK_eq : ∀ (l : List AInstr) (e : Env) (k : Env → St → Option ρ) (S : St), instrsK cK l e k S = M.k (instrs call l e) k S
  | [], e, k, S => rfl
  | i :: r, e, k, S => by
    simp only [instrsK, instrs, M.k_bind, instrK_eq hc]
    congr 1
    funext e'
    funext S'
    exact instrsK_eq r e' k S'
theorem drawnGoK_eq : ∀ (l : List AInstr) (n : Nat) (e : Env) (ts : List (Nat × Touch)) (k : Env × List (Nat × Touch) → St → Option ρ) (S : St), drawnGoK cK l n e ts k S = M.k (drawnGo call l n e ts) k S
  | [], n, e, ts, k, S => rfl
  | i :: r, n, e, ts, k, S => by
    simp only [drawnGoK, instrK_eq hc]
    simp only [M.k, drawnGo]
    cases instr call i e { heap := S.heap, next := S.next, log := [] } with
    | none => rfl
    | some p =>
      obtain ⟨e', s'⟩ := p
      simp only
      rw [drawnGoK_eq r]
      rfl
theorem codeK_eq (fuel : Nat) : ∀ (c : ACode) (e : Env) (k : Ext × Env → St → Option ρ) (S : St), codeK cK fuel c e k S = M.k (run call fuel c e) k S
  | .skip, e, k, S => rfl
  | .exit id, e, k, S => rfl
  | .ret, e, k, S => rfl
  | .ops l, e, k, S => by
    simp only [codeK, run, instrsK_eq hc, M.k_bind]; rfl
  | .drawn l ps, e, k, S => by
    simp only [codeK, run, drawnA, drawnGoK_eq hc, M.k_bind]
    congr 1
    funext r
    funext S'
    cases apartAll ps r.2 <;> rfl
  | .seq a b, e, k, S => by
    simp only [codeK, run, M.k_bind]
    rw [codeK_eq fuel a]
    congr 1
    funext r
    funext S'
    obtain ⟨x, e'⟩ := r
    cases x with
    | normal => exact codeK_eq fuel b e' k S'
    | exit id => rfl
    | ret => rfl
  | .cond c a b, e, k, S => by
    simp only [codeK, run, M.k_bind, M.k_lift]
    cases (c.ev e).bind asBool with
    | none => rfl
    | some t =>
      cases t
      · exact codeK_eq fuel b e k S
      · exact codeK_eq fuel a e k S
  | .block id a, e, k, S => by
    simp only [codeK, run, M.k_bind]
    rw [codeK_eq fuel a]
    congr 1
    funext r
    funext S'
    obtain ⟨x, e'⟩ := r
    cases x with
    | normal => rfl
    | ret => rfl
    | exit i =>
      by_cases h : i = id
      · simp [h, M.k_pure]
      · simp [h, M.k_pure]
  | .loop a, e, k, S => by
    simp only [codeK, run]
    have key : ∀ (n : Nat) (e : Env) (k : Ext × Env → St → Option ρ) (S : St), iterK (codeK cK fuel a) n e k S = M.k (iter (run call fuel a) n e) k S := by
      intro n
      induction n with
      | zero => intro e k S; rfl
      | succ n ih =>
        intro e k S
        simp only [iterK, iter, M.k_bind]
        rw [codeK_eq fuel a]
        congr 1
        funext r
        funext S'
        obtain ⟨x, e'⟩ := r
        cases x with
        | normal => exact ih e' k S'
        | exit id => rfl
        | ret => rfl
    exact key fuel e k S
  | .range f params assign body, e, k, S => by
    simp only [codeK, run, M.k_bind, M.k_lift]
    cases f.ev e with
    | none => rfl
    | some g =>
      simp only
      congr 1
      funext l
      funext S'
      cases target g [.func (.yield l) #[] #[]] with
      | none => rfl
      | some t =>
        simp only [hc, M.k_bind, M.k_lift]
        refine M.k_congr fun v S2 => ?_
        simp only [M.k_bind]
        refine M.k_congr fun o S3 => ?_
        cases o with
        | cells x y z => rfl
        | map => rfl
        | iter => rfl
        | ro => rfl
        | loop p1 p2 p3 p4 p =>
          simp only [M.k_bind]
          refine M.k_congr fun u S4 => ?_
          cases p <;> rfl
end

theorem callK_eq (F : Nat → Option AFn) : ∀ (n : Nat) (t : Tgt) (args : List Value) (k : Value → St → Option ρ) (S : St), callK F n t args k S = M.k (callN F n t args) k S := by
  intro n
  induction n with
  | zero => intro t args k S; rfl
  | succ n ih =>
    intro t args k S
    cases t with
    | fn f =>
      simp only [callK, callN]
      rcases hF : F f with _ | af | x | g
      · rfl
      · simp only
        by_cases hl : args.length = af.nparams
        · simp only [if_pos hl]
          rw [codeK_eq (ρ := ρ) ih]
          simp only [M.k_bind]
          congr 1
          funext r
          funext S'
          obtain ⟨x, e'⟩ := r
          have key : M.k (resAll e' af.results) (fun vs => match vs with | [v] => k v | vs => k (.tuple vs.toArray)) S' =
              M.k ((resAll e' af.results).bind fun vs => match vs with | [v] => M.pure v | vs => M.pure (.tuple vs.toArray)) k S' := by
            rw [M.k_bind]
            congr 1
            funext vs
            funext S2
            split <;> rfl
          cases x with
          | exit id => rfl
          | normal => exact key
          | ret => exact key
        · simp only [if_neg hl]; rfl
      · rfl
      · simp only [M.k_lift]; cases g args <;> rfl
    | yield l =>
      simp only [callK, callN, M.k_bind]
      congr 1
      funext o
      funext S'
      cases o with
      | cells x y z => rfl
      | map => rfl
      | iter => rfl
      | ro => rfl
      | loop params assign body e p =>
        cases p with
        | some x => rfl
        | none =>
          simp only
          by_cases hl : args.length = params.length
          · simp only [if_pos hl, M.k_bind]
            refine M.k_congr fun u S2 => ?_
            rw [codeK_eq (ρ := ρ) ih, M.k_bind]
            refine M.k_congr fun r S3 => ?_
            obtain ⟨x, e'⟩ := r
            cases x with
            | exit id => rfl
            | ret => rfl
            | normal =>
              simp only [M.k_bind]
              rw [codeK_eq (ρ := ρ) ih]
              refine M.k_congr fun r S4 => ?_
              obtain ⟨x, e2⟩ := r
              cases x <;> rfl
          · simp only [if_neg hl]; rfl
end Go.Wb
end
/- The engine, part S: a summary out of a run. -/
section
set_option linter.unusedSimpArgs false
set_option linter.unusedVariables false
namespace Go.Wb
set_option linter.unusedSectionVars false
variable [GloK]
open Go.RowKit
variable {P : Program}

/-- a function that answers, from an empty start, as g does: it does so everywhere -/
theorem sum_of_run (hm : P.follows .mixedOrders = true) {F : Nat → Option AFn} (hF : TabOk P F) {f : FuncId} {g : List Value → Option Value}
    (h : ∀ args v, g args = some v → args.all plain = true ∧ plain v = true ∧ ∃ n, (callN F n (.fn f) args gst).map (·.1) = some v) : SumOk P f g := by
  intro args v hg r w args' hw ha fc cs
  obtain ⟨h1, h2, n, h3⟩ := h args v hg
  have ea : args'.toList = args := list_plain_eq ha.length ha.at (fun v v' hp hv => plain_eq hp hv) h1
  cases hc : callN F n (.fn f) args gst with
  | none => rw [hc] at h3; simp at h3
  | some vs =>
    obtain ⟨v0, S'⟩ := vs
    rw [hc] at h3
    obtain rfl : v0 = v := by simpa using h3
    have hal : LRel Ren.gl args args'.toList := by
      rw [ea]
      clear ha ea hc hg
      induction args with
      | nil => exact .nil
      | cons a l ih =>
        simp only [List.all_cons, Bool.and_eq_true] at h1
        exact .cons (plain_rel h1.1) (ih h1.2)
    obtain ⟨D, r', w', v', hs, hv, hct⟩ := callN_ok hm hF n (.fn f) args v0 gst S' hc Ren.gl w (gst_rel (P := P) hw) (fun id h1 _ hd => by
      have h3 : id < GloK.cells.length := hd
      have h4 : GloK.cells.length ≤ id := h1
      omega) args' hal trivial fc cs
    obtain rfl := plain_eq h2 hv
    obtain ⟨D2, hD2, _, hro⟩ := NrX.callN F n (.fn f) args _ _ _ hc
    have hDD : D = D2 := by
      have h1 := hs.log
      rw [hD2] at h1
      exact (List.append_cancel_right h1).symm
    subst hDD
    refine ⟨w', ⟨hs.os, hs.tape, hs.output, hs.size, fun k hk => ?_⟩, h2, hct⟩
    by_cases hlv : Live Ren.gl gst k
    · obtain ⟨id, b, h1, h2⟩ := hlv
      have h3 := h1
      rw [gst_get, Option.map_eq_some_iff] at h3
      obtain ⟨c, h3, rfl⟩ := h3
      have hid : id < GloK.cells.length := (List.getElem?_eq_some_iff.1 h3).1
      have := hs.kept id _ h1 (hro id c hid (fun h => h) h1).1
      rw [h2] at this
      exact this
    · exact hs.frame k hk hlv

/-- a table with a summary more -/
def withSum (F : Nat → Option AFn) (f : Nat) (g : List Value → Option Value) (i : Nat) : Option AFn := match Nat.beq i f with
  | true => some (.sum g)
  | false => F i
theorem withSum_ok {F : Nat → Option AFn} (hF : TabOk P F) {f : Nat} {g : List Value → Option Value} (hg : SumOk P f g) : TabOk P (withSum F f g) := by
  intro i af h
  unfold withSum at h
  split at h
  · rename_i e
    have e := Nat.eq_of_beq_eq_true e
    subst e
    exact .inr (.inl ⟨g, by simpa using h.symm, hg⟩)
  · exact hF i af h
/-- a table with a primitive more -/
def withExt (F : Nat → Option AFn) (f : Nat) (k : XK) (i : Nat) : Option AFn := match Nat.beq i f with
  | true => some (.ext k)
  | false => F i
theorem withExt_ok {F : Nat → Option AFn} (hF : TabOk P F) {f : Nat} {k : XK} (hk : ExtOk P f k) : TabOk P (withExt F f k) := by
  intro i af h
  unfold withExt at h
  split at h
  · rename_i e
    have e := Nat.eq_of_beq_eq_true e
    subst e
    exact .inr (.inr ⟨k, by simpa using h.symm, hk⟩)
  · exact hF i af h
end Go.Wb
end
