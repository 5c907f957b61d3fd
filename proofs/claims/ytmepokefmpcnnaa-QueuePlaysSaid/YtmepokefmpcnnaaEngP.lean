/- The engine, part P: what each operation of a text brings. -/
import Derived.Test.YtmepokefmpcnnaaEngZ
set_option linter.unusedSimpArgs false
set_option linter.unusedVariables false
namespace Go.Wb
variable {α β : Type} {C : Tgt → List Value → M Value} {S : Hp} {Φ : Value → Hp → Prop}

/-! ## Heaps -/
@[simp] theorem Hp.put_next (S : Hp) (b : Nat) (o : Option Blk) : (S.put b o).next = S.next := id rfl
@[simp] theorem Hp.add_next (S : Hp) (o : Blk) : (S.add o).next = S.next + 1 := id rfl
theorem Hp.put_wl (S : Hp) (b : Nat) (o : Option Blk) : (S.put b o).wl = b :: S.wl := id rfl
theorem Hp.add_wl (S : Hp) (o : Blk) : (S.add o).wl = S.wl := id rfl
theorem Hp.put_get (S : Hp) (b : Nat) (o : Option Blk) (c : Nat) : (S.put b o).heap.get c = if c = b then o else S.heap.get c := Tr.get_set _ _ _ _
theorem Hp.add_get (S : Hp) (o : Blk) (c : Nat) : (S.add o).heap.get c = if c = S.next then some o else S.heap.get c := Tr.get_set _ _ _ _
theorem put_at (S : Hp) (b : Nat) (o : Option Blk) : (S.put b o).heap.get b = o := by rw [Hp.put_get, if_pos rfl]
theorem put_off {b c : Nat} (h : c ≠ b) (S : Hp) (o : Option Blk) : (S.put b o).heap.get c = S.heap.get c := by rw [Hp.put_get, if_neg h]
theorem add_at (S : Hp) (o : Blk) : (S.add o).heap.get S.next = some o := by rw [Hp.add_get, if_pos rfl]
theorem add_eq {c : Nat} (h : c = S.next) (o : Blk) : (S.add o).heap.get c = some o := by rw [Hp.add_get, if_pos h]
theorem add_off {c : Nat} (h : c ≠ S.next) (o : Blk) : (S.add o).heap.get c = S.heap.get c := by rw [Hp.add_get, if_neg h]

/-! ## Congruences: what comes behind is left alone -/
@[congr] theorem wp_congr {m m' : M α} (h : m = m') (Φ : α → Hp → Prop) (S : Hp) : wp m Φ S = wp m' Φ S := by rw [h]
def ifB (b : Bool) (x y : Hp → Prop) (S : Hp) : Prop := match b with | true => x S | false => y S
@[congr] theorem ifB_congr {b b' : Bool} (h : b = b') (x y : Hp → Prop) (S : Hp) : ifB b x y S = ifB b' x y S := by rw [h]
theorem ifB_true (x y : Hp → Prop) : ifB true x y S = x S := id rfl
theorem ifB_false (x y : Hp → Prop) : ifB false x y S = y S := id rfl
theorem ifP_bool (b : Bool) (x y : Hp → Prop) : ifP (Wb.asBool (.bool b)) x y S = ifB b x y S := by cases b <;> rfl
theorem ifB_in {b : Bool} {x y : Hp → Prop} (h1 : b = true → x S) (h2 : b = false → y S) : ifB b x y S := by cases b <;> first | exact h1 rfl | exact h2 rfl
theorem ifD_in {p : Prop} [Decidable p] {x y : Hp → Prop} (h1 : p → x S) (h2 : ¬ p → y S) : ifB (decide p) x y S := ifB_in (fun h => h1 (of_decide_eq_true h)) (fun h => h2 (of_decide_eq_false h))
theorem ifN_in {p : Prop} [Decidable p] {x y : Hp → Prop} (h1 : ¬ p → x S) (h2 : p → y S) : ifB (!decide p) x y S := by
  by_cases h : p
  · rw [decide_eq_true h]; exact h2 h
  · rw [decide_eq_false h]; exact h1 h
@[congr] theorem ifP_congr {b b' : Option Bool} (h : b = b') (x y : Hp → Prop) (S : Hp) : ifP b x y S = ifP b' x y S := by rw [h]
@[congr] theorem okP_congr {b b' : Bool} (h : b = b') (x : Hp → Prop) (S : Hp) : okP b x S = okP b' x S := by rw [h]
theorem okP_true (x : Hp → Prop) : okP true x S = x S := id rfl
@[congr] theorem dstepP_congr {m m' : M Value} (h : m = m') (j : Nat) (ts : List (Nat × Touch)) (Φ : Value → List (Nat × Touch) → Hp → Prop) (S : Hp) : dstepP j ts m Φ S = dstepP j ts m' Φ S := by rw [h]
@[congr] theorem jn_congr {γ : Type} (r : γ) (f : γ → Prop) : jn r f = jn r f := rfl
def condP (p : Prop) (f : Prop) : Prop := p ∧ f
@[congr] theorem condP_congr {p p' : Prop} (h : p = p') (f : Prop) : condP p f = condP p' f := by rw [h]
theorem condP_true (f : Prop) : condP True f = f := by simp [condP]
theorem condP_of {p : Prop} (h : p) (f : Prop) : condP p f = f := by simp [condP, h]
theorem condP_in {p f : Prop} (h1 : p) (h2 : f) : condP p f := ⟨h1, h2⟩

/-- what stands in a block -/
def blkP (b : Option Blk) (f : Option Nat → Bool → List Value → Prop) : Prop := match b with | some (.cells x s l) => f x s l | _ => False
/-- what is read in a block -/
def rdP (b : Option Blk) (f : List Value → Prop) : Prop := match b with | some (.cells _ _ l) => f l | some (.ro l) => f l | _ => False
@[congr] theorem rdP_congr {b b' : Option Blk} (h : b = b') (f : List Value → Prop) : rdP b f = rdP b' f := by rw [h]
theorem rdP_cells (x : Option Nat) (s : Bool) (l : List Value) (f : List Value → Prop) : rdP (some (.cells x s l)) f = f l := id rfl
theorem rdP_ro (l : List Value) (f : List Value → Prop) : rdP (some (.ro l)) f = f l := id rfl
/-- a block that may be cut -/
def cutP (size : Nat) (b : Option Blk) (f : Prop) : Prop := match b with | some (.cells x _ _) => condP (x = none ∨ x = some size) f | some (.ro _) => f | _ => False
@[congr] theorem cutP_congr {b b' : Option Blk} (size : Nat) (h : b = b') (f : Prop) : cutP size b f = cutP size b' f := by rw [h]
theorem cutP_none (size : Nat) (s : Bool) (l : List Value) (f : Prop) : cutP size (some (.cells none s l)) f = f := by simp [cutP, condP]
theorem cutP_some (size : Nat) (s : Bool) (l : List Value) (f : Prop) : cutP size (some (.cells (some size) s l)) f = f := by simp [cutP, condP]
theorem cutP_ro (size : Nat) (l : List Value) (f : Prop) : cutP size (some (.ro l)) f = f := id rfl
@[congr] theorem blkP_congr {b b' : Option Blk} (h : b = b') (f : Option Nat → Bool → List Value → Prop) : blkP b f = blkP b' f := by rw [h]
theorem blkP_cells (x : Option Nat) (s : Bool) (l : List Value) (f : Option Nat → Bool → List Value → Prop) : blkP (some (.cells x s l)) f = f x s l := id rfl
def optP {α : Type} (o : Option α) (f : α → Prop) : Prop := match o with | some v => f v | none => False
@[congr] theorem optP_congr {o o' : Option α} (h : o = o') (f : α → Prop) : optP o f = optP o' f := by rw [h]
theorem optP_some (v : α) (f : α → Prop) : optP (some v) f = f v := id rfl
/-! ## Steps -/
theorem wp_pure (a : α) (Φ : α → Hp → Prop) (S : Hp) : wp (M.pure a) Φ S = Φ a S := by
  apply propext
  constructor
  · rintro ⟨b, S', h, k⟩; cases h; exact k
  · intro h; exact ⟨a, S.st, rfl, h⟩
theorem wp_lift (o : Option α) (Φ : α → Hp → Prop) (S : Hp) : wp (M.lift o) Φ S = optP o (fun a => Φ a S) := by
  cases o with
  | none => apply propext; constructor <;> intro h <;> first | (obtain ⟨_, _, h, _⟩ := h; cases h) | cases h
  | some a => exact wp_pure a Φ S
theorem wp_mono {m : M α} {Φ Ψ : α → Hp → Prop} {S : Hp} (h : wp m Φ S) (k : ∀ a S', Φ a S' → Ψ a S') : wp m Ψ S := by
  obtain ⟨a, S', h1, h2⟩ := h
  exact ⟨a, S', h1, k _ _ h2⟩
theorem wp_of_eq {m m' : M α} (h : m = m') (Φ : α → Hp → Prop) (S : Hp) : wp m Φ S = wp m' Φ S := by rw [h]
theorem wp_bind {m : M α} {f : α → M β} (hm : Lg m) (hf : ∀ a, Lg (f a)) (Φ : β → Hp → Prop) (S : Hp) : wp (m.bind f) Φ S = wp m (fun a S => wp (f a) Φ S) S := by
  apply propext
  constructor
  · rintro ⟨b, S', h, k⟩
    simp only [M.bind] at h
    cases hx : m S.st with
    | none => rw [hx] at h; cases h
    | some p =>
      obtain ⟨a, S1⟩ := p
      rw [hx] at h
      obtain ⟨D, h1, h2⟩ := hf a _ _ _ h
      refine ⟨a, S1, hx, b, _, h2 [], ?_⟩
      have e : S'.over S.wl = ({ heap := S'.heap, next := S'.next, log := D ++ [] } : St).over (S1.over S.wl).wl := by
        simp only [St.over, h1, wrs_append, List.append_assoc, wrs, List.nil_append]
      rw [← e]; exact k
  · rintro ⟨a, S1, h1, b, S', h, k⟩
    obtain ⟨D, h3, h2⟩ := hf a _ _ _ h
    refine ⟨b, { heap := S'.heap, next := S'.next, log := D ++ S1.log }, by simp only [M.bind, h1]; exact h2 S1.log, ?_⟩
    have h3' : S'.log = D := by rw [h3]; exact List.append_nil D
    have e : S'.over (S1.over S.wl).wl = ({ heap := S'.heap, next := S'.next, log := D ++ S1.log } : St).over S.wl := by
      simp only [St.over, h3', wrs_append, List.append_assoc]
    rw [← e]; exact k
theorem wp_nw (o : Blk) (Φ : Nat → Hp → Prop) : wp (nw o) Φ S = Φ S.next (S.add o) := by
  apply propext
  constructor
  · rintro ⟨b, S', h, k⟩; cases h; exact k
  · intro h; exact ⟨_, _, rfl, h⟩
theorem wp_wr (b : Nat) (o : Option Blk) (Φ : Unit → Hp → Prop) : wp (wr b o) Φ S = Φ () (S.put b o) := by
  apply propext
  constructor
  · rintro ⟨b', S', h, k⟩; cases h; exact k
  · intro h; exact ⟨_, _, rfl, h⟩
theorem wp_rd (b : Nat) (Φ : Blk → Hp → Prop) : wp (rd b) Φ S = optP (S.heap.get b) (fun o => Φ o S) := by
  apply propext
  constructor
  · rintro ⟨o, S', h, k⟩
    simp only [rd] at h
    change (match S.heap.get b with | none => none | some o => _) = _ at h
    cases hb : S.heap.get b with
    | none => rw [hb] at h; cases h
    | some p => rw [hb] at h; cases h; exact k
  · intro h
    cases hb : S.heap.get b with
    | none => rw [hb] at h; exact h.elim
    | some p =>
      rw [hb] at h
      refine ⟨p, { heap := S.heap, next := S.next, log := [(b, false)] }, ?_, h⟩
      simp only [rd]
      change (match S.heap.get b with | none => none | some o => _) = _
      rw [hb]; rfl
theorem wp_fail (Φ : α → Hp → Prop) : wp M.fail Φ S = False := by
  apply propext
  constructor
  · rintro ⟨b', S', h, k⟩; cases h
  · intro h; exact h.elim
theorem wp_ld1 (b o : Nat) (Φ : Value → Hp → Prop) : wp (ld1 b o) Φ S = rdP (S.heap.get b) (fun l => optP l[o]? (fun v => Φ v S)) := by
  unfold ld1
  rw [wp_bind (Lg.rd _) (fun o => by cases o <;> first | exact Lg.lift _ | exact Lg.fail), wp_rd]
  cases S.heap.get b with
  | none => rfl
  | some x => cases x <;> simp only [optP_some, wp_lift, wp_fail, rdP]
theorem wp_ldCells (b o n : Nat) (Φ : List Value → Hp → Prop) : wp (ldCells b o n) Φ S = rdP (S.heap.get b) (fun l => condP (o + n ≤ l.length) (Φ ((l.drop o).take n) S)) := by
  have key : ∀ l : List Value, wp (if o + n ≤ l.length then M.pure ((l.drop o).take n) else M.fail) Φ S = condP (o + n ≤ l.length) (Φ ((l.drop o).take n) S) := by
    intro l
    by_cases h : o + n ≤ l.length
    · rw [if_pos h, wp_pure]; simp only [condP, h, true_and]
    · rw [if_neg h, wp_fail]; exact propext ⟨False.elim, fun k => h k.1⟩
  unfold ldCells
  rw [wp_bind (Lg.rd _) (fun o => by
    cases o
    · exact Lg.ite (Lg.pure _) Lg.fail
    · exact Lg.fail
    · exact Lg.fail
    · exact Lg.ite (Lg.pure _) Lg.fail), wp_rd]
  cases S.heap.get b with
  | none => rfl
  | some x => cases x <;> simp only [optP_some, rdP, wp_fail, key]
theorem wp_stCells (b o : Nat) (vs : List Value) (Φ : Unit → Hp → Prop) : wp (stCells b o vs) Φ S = blkP (S.heap.get b) (fun x s l => condP (o + vs.length ≤ l.length ∧ vs.all (·.oneCell') = true) (Φ () (S.put b (some (.cells x s (splice l o vs)))))) := by
  unfold stCells
  rw [wp_bind (Lg.rd _) (fun o => by
    cases o
    · exact Lg.ite (Lg.wr _ _) Lg.fail
    · exact Lg.fail
    · exact Lg.fail
    · exact Lg.fail), wp_rd]
  cases S.heap.get b with
  | none => rfl
  | some x =>
    cases x with
    | cells x s l =>
      simp only [optP_some, blkP, condP]
      by_cases h : o + vs.length ≤ l.length ∧ vs.all (·.oneCell') = true
      · rw [if_pos h, wp_wr]; simp [h]
      · rw [if_neg h, wp_fail]; exact propext ⟨False.elim, fun k => h k.1⟩
    | loop => simp only [optP_some, wp_fail, blkP]
    | map => simp only [optP_some, wp_fail, blkP]
    | ro => simp only [optP_some, wp_fail, blkP]

/-! ## Operations -/
theorem wp_Xp {op : AOp} {v : Value} (h : X C op = M.pure v) : wp (X C op) Φ S = Φ v S := by rw [h, wp_pure]
theorem wp_Xl {op : AOp} {o : Option Value} (h : X C op = M.lift o) : wp (X C op) Φ S = optP o (fun v => Φ v S) := by rw [h, wp_lift]
theorem P_mov (v : Value) : wp (X C (.mov (.const v))) Φ S = Φ v S := wp_Xp (X_mov v)
theorem P_pick (c : Bool) (a b : Value) : wp (X C (.pick (.const (.bool c)) (.const a) (.const b))) Φ S = Φ (if c then a else b) S := wp_Xp (X_pick c a b)
theorem P_not (b : Bool) : wp (X C (.un .not (.const (.bool b)))) Φ S = Φ (.bool (!b)) S := by rw [wp_Xl (X_un _ _)]; rfl
theorem P_ext (vs : List Value) (i : Nat) : wp (X C (.ext (.const (.tuple ⟨vs⟩)) i)) Φ S = optP vs[i]? (fun v => Φ v S) := wp_Xl (X_ext vs i)
theorem P_fld (sh : Sh) (o : Nat) (cs : List Value) : wp (X C (.fld sh o (.const (.agg ⟨cs⟩)))) Φ S = optP (partOf sh cs o) (fun v => Φ v S) := wp_Xl (X_fld sh o cs)
theorem P_fldA (o : Nat) (b p : Nat) (x : Option Nat) : wp (X C (.fldA o (.const (.pointer (some ⟨b, p, x⟩))))) Φ S = Φ (.pointer (some ⟨b, p + o, none⟩)) S := wp_Xp (X_fldA o _)
theorem P_nil (p : Addr) : wp (X C (.nilchk (.const (.pointer (some p))))) Φ S = Φ (.pointer (some p)) S := wp_Xp (X_nil p)
theorem P_conv (k k' : IntKind) (n : Int) : wp (X C (.conv (.int k) (.const (.int k' n)))) Φ S = Φ (.int k (k.wrap n)) S := wp_Xp (X_convI k k' n)
theorem wp_nwp (o : Blk) (g : Nat → Value) : wp ((nw o).bind fun b => M.pure (g b)) Φ S = Φ (g S.next) (S.add o) := by
  rw [wp_bind (Lg.nw _) (fun _ => Lg.pure _), wp_nw, wp_pure]
theorem P_alloc (t : TypeId) (z : List Value) : wp (X C (.alloc t z)) Φ S = Φ (.pointer (some ⟨S.next, 0, none⟩)) (S.add (.cells none false z)) := by rw [X_alloc, wp_nwp]
theorem P_box (t : TypeId) (v : Value) : wp (X C (.box t (.const v))) Φ S = Φ (.pointer (some ⟨S.next, 0, none⟩)) (S.add (.cells none false v.cells.toList)) := by rw [X_box, wp_nwp]
theorem P_build (z : List Value) (p : List (Nat × Nat × Atom)) : wp (X C (.build z p)) Φ S = optP (fillA .leaf p z) (fun c => Φ (.agg ⟨c⟩) S) := by
  rw [wp_Xl (X_build z p)]; cases fillA .leaf p z <;> rfl
theorem P_bslice (t : TypeId) (n : Nat) (z : List Value) (p : List (Nat × Nat × Atom)) : wp (X C (.bslice t n z p)) Φ S = optP (fillA .leaf p z) (fun c => Φ (.slice (some ⟨S.next, 0, none⟩) n n) (S.add (.cells none false c))) := by
  rw [X_bslice, wp_bind (Lg.lift _) (fun _ => Lg.bind (Lg.nw _) fun _ => Lg.pure _), wp_lift]
  simp only [wp_nwp]
theorem P_load1 (b o : Nat) (x : Option Nat) : wp (X C (.load .one (.const (.pointer (some ⟨b, o, x⟩))))) Φ S = rdP (S.heap.get b) (fun l => optP l[o]? (fun v => Φ v S)) := by rw [X_load1, wp_ld1]
theorem P_loadN (n b o : Nat) (x : Option Nat) : wp (X C (.load (.agg n) (.const (.pointer (some ⟨b, o, x⟩))))) Φ S = rdP (S.heap.get b) (fun l => condP (o + n ≤ l.length) (Φ (.agg ⟨(l.drop o).take n⟩) S)) := by
  rw [X_loadN, wp_bind (Lg.ldCells _ _ _) (fun _ => Lg.pure _), wp_ldCells]
  simp only [wp_pure]
theorem P_cell1 (b o : Nat) (x : Option Nat) : wp (cellV (.pointer (some ⟨b, o, x⟩)) .one) Φ S = rdP (S.heap.get b) (fun l => optP l[o]? (fun v => Φ v S)) := wp_ld1 b o Φ
theorem P_cellN (n b o : Nat) (x : Option Nat) : wp (cellV (.pointer (some ⟨b, o, x⟩)) (.agg n)) Φ S = rdP (S.heap.get b) (fun l => condP (o + n ≤ l.length) (Φ (.agg ⟨(l.drop o).take n⟩) S)) := by
  unfold cellV
  dsimp only
  rw [wp_bind (Lg.ldCells _ _ _) (fun _ => Lg.pure _), wp_ldCells]
  simp only [wp_pure]
theorem P_store (n b o : Nat) (x : Option Nat) (v : Value) : wp (X C (.store n (.const (.pointer (some ⟨b, o, x⟩))) (.const v))) Φ S = condP (v.cells.size = n) (blkP (S.heap.get b) (fun x s l => condP (o + v.cells.toList.length ≤ l.length ∧ v.cells.toList.all (·.oneCell') = true) (Φ undef (S.put b (some (.cells x s (splice l o v.cells.toList))))))) := by
  by_cases h : v.cells.size = n
  · rw [X_store n _ v h, wp_bind (Lg.stCells _ _ _) (fun _ => Lg.pure _)]
    simp only [wp_pure, condP, h, true_and]
    rw [wp_stCells]
    rfl
  · have : X C (.store n (.const (.pointer (some ⟨b, o, x⟩))) (.const v)) = M.fail := by
      funext S
      simp only [X, exec, M.bind, M.lift, Atom.ev, if_neg h]
    rw [this, wp_fail]
    exact propext ⟨False.elim, fun k => h k.1⟩
theorem P_ixA (s : Nat) (b o : Nat) (x : Option Nat) (len cap : Nat) (k : IntKind) (i : Int) : wp (X C (.ixA s (.const (.slice (some ⟨b, o, x⟩) len cap)) (.const (.int k i)))) Φ S = condP (0 ≤ i ∧ i < len) (Φ (.pointer (some ⟨b, o + i.toNat * s, none⟩)) S) := by
  by_cases h : 0 ≤ i ∧ i < len
  · rw [wp_Xp (X_ixA s _ len cap k i h)]; simp [condP, h]
  · have : X C (.ixA s (.const (.slice (some ⟨b, o, x⟩) len cap)) (.const (.int k i))) = M.fail := by
      funext S
      simp only [X, exec, M.bind, M.lift, Atom.ev, Option.bind_some, asInt, if_neg h]
    rw [this, wp_fail]
    exact propext ⟨False.elim, fun k => h k.1⟩
theorem P_ix (n s : Nat) (sh : Sh) (cs : List Value) (k : IntKind) (i : Int) : wp (X C (.ix n s sh (.const (.agg ⟨cs⟩)) (.const (.int k i)))) Φ S = condP (0 ≤ i ∧ i < n) (optP (partOf sh cs (i.toNat * s)) (fun v => Φ v S)) := by
  by_cases h : 0 ≤ i ∧ i < n
  · rw [wp_Xl (X_ix n s sh cs k i h)]; simp [condP, h]
  · have : X C (.ix n s sh (.const (.agg ⟨cs⟩)) (.const (.int k i))) = M.fail := by
      funext S
      simp only [X, exec, M.bind, M.lift, Atom.ev, Option.bind_some, asInt, if_neg h]
    rw [this, wp_fail]
    exact propext ⟨False.elim, fun k => h k.1⟩
theorem P_ixS (s : ByteArray) (k : IntKind) (i : Int) : wp (X C (.ixS (.const (.string s)) (.const (.int k i)))) Φ S = condP (0 ≤ i) (optP s.data.toList[i.toNat]? (fun b => Φ (.int .u8 b.toNat) S)) := by
  by_cases h : 0 ≤ i
  · have : X C (.ixS (.const (.string s)) (.const (.int k i))) = M.lift (s.data.toList[i.toNat]?.map fun b => .int .u8 b.toNat) := by
      funext S
      simp only [X, exec, M.bind, M.lift, Atom.ev, Option.bind_some, asInt, if_pos h]
      cases s.data.toList[i.toNat]? <;> rfl
    rw [this, wp_lift]
    cases s.data.toList[i.toNat]? <;> simp [condP, h, optP]
  · have : X C (.ixS (.const (.string s)) (.const (.int k i))) = M.fail := by
      funext S
      simp only [X, exec, M.bind, M.lift, Atom.ev, Option.bind_some, asInt, if_neg h]
    rw [this, wp_fail]
    exact propext ⟨False.elim, fun k => h k.1⟩
theorem P_lenS (p : Option Addr) (n c : Nat) : wp (X C (.len .slice (.const (.slice p n c)))) Φ S = Φ (.int .i64 n) S := wp_Xp (X_len .slice _ n (by simp) rfl)
theorem P_lenE : wp (X C (.len .slice (.const (.chan none)))) Φ S = Φ (.int .i64 (0 : Nat)) S := wp_Xp (X_len .slice _ 0 (by simp) rfl)
theorem P_lenStr (s : ByteArray) : wp (X C (.len .str (.const (.string s)))) Φ S = Φ (.int .i64 s.size) S := wp_Xp (X_len .str _ s.size (by simp) rfl)
theorem P_mkif (t : TypeId) (v : Value) : wp (X C (.mkif t (.const v))) Φ S = Φ (.iface t v) S := wp_Xp rfl
theorem P_eqB (n a b : Bool) : wp (X C (.eq n .bool (.const (.bool a)) (.const (.bool b)))) Φ S = Φ (.bool (if n then !(a == b) else a == b)) S := by rw [wp_Xl (X_eq _ _ _ _)]; rfl
theorem P_eqC (n : Bool) (m : Nat) (offs : List (Nat × Nat)) (xs ys : List Value) : wp (X C (.eq n (.cells m offs) (.const (.agg ⟨xs⟩)) (.const (.agg ⟨ys⟩)))) Φ S = condP (xs.length = m ∧ ys.length = m) (optP (eqCells offs xs ys) (fun t => Φ (.bool (if n then !t else t)) S)) := by
  rw [wp_Xl (X_eq _ _ _ _)]
  simp only [eqV, condP]
  by_cases h : xs.length = m ∧ ys.length = m
  · rw [if_pos h]; cases eqCells offs xs ys <;> simp [optP, h]
  · rw [if_neg h]; exact propext ⟨False.elim, fun k => h k.1⟩

theorem P_eqptr0N : wp (X C (.eq true (.nil .ptr) (.const (.pointer none)) (.const (.pointer none)))) Φ S = Φ (.bool false) S := wp_Xp rfl
theorem P_eqptr1N (p : Addr) : wp (X C (.eq true (.nil .ptr) (.const (.pointer (some p))) (.const (.pointer none)))) Φ S = Φ (.bool true) S := wp_Xp rfl
theorem P_eqptr0 : wp (X C (.eq false (.nil .ptr) (.const (.pointer none)) (.const (.pointer none)))) Φ S = Φ (.bool true) S := wp_Xp rfl
theorem P_eqptr1 (p : Addr) : wp (X C (.eq false (.nil .ptr) (.const (.pointer (some p))) (.const (.pointer none)))) Φ S = Φ (.bool false) S := wp_Xp rfl
theorem P_eqsl0N : wp (X C (.eq true (.nil .slice) (.const (.slice none 0 0)) (.const (.slice none 0 0)))) Φ S = Φ (.bool false) S := wp_Xp rfl
theorem P_eqsl1N (p : Addr) (l c : Nat) : wp (X C (.eq true (.nil .slice) (.const (.slice (some p) l c)) (.const (.slice none 0 0)))) Φ S = Φ (.bool true) S := wp_Xp rfl
theorem P_eqsl0 : wp (X C (.eq false (.nil .slice) (.const (.slice none 0 0)) (.const (.slice none 0 0)))) Φ S = Φ (.bool true) S := wp_Xp rfl
theorem P_eqsl1 (p : Addr) (l c : Nat) : wp (X C (.eq false (.nil .slice) (.const (.slice (some p) l c)) (.const (.slice none 0 0)))) Φ S = Φ (.bool false) S := wp_Xp rfl
theorem P_eqmap0N : wp (X C (.eq true (.nil .map) (.const (.map none)) (.const (.map none)))) Φ S = Φ (.bool false) S := wp_Xp rfl
theorem P_eqmap1N (p : Nat) : wp (X C (.eq true (.nil .map) (.const (.map (some p))) (.const (.map none)))) Φ S = Φ (.bool true) S := wp_Xp rfl
theorem P_eqmap0 : wp (X C (.eq false (.nil .map) (.const (.map none)) (.const (.map none)))) Φ S = Φ (.bool true) S := wp_Xp rfl
theorem P_eqmap1 (p : Nat) : wp (X C (.eq false (.nil .map) (.const (.map (some p))) (.const (.map none)))) Φ S = Φ (.bool false) S := wp_Xp rfl
theorem P_eqfn0N : wp (X C (.eq true (.nil .func) (.const .nilFunc) (.const .nilFunc))) Φ S = Φ (.bool false) S := wp_Xp rfl
theorem P_eqfn1N (f : Fn) (a b : Array Value) : wp (X C (.eq true (.nil .func) (.const (.func f a b)) (.const .nilFunc))) Φ S = Φ (.bool true) S := wp_Xp rfl
theorem P_eqfn0 : wp (X C (.eq false (.nil .func) (.const .nilFunc) (.const .nilFunc))) Φ S = Φ (.bool true) S := wp_Xp rfl
theorem P_eqfn1 (f : Fn) (a b : Array Value) : wp (X C (.eq false (.nil .func) (.const (.func f a b)) (.const .nilFunc))) Φ S = Φ (.bool false) S := wp_Xp rfl
theorem P_lss (k : IntKind) (a b : Int) : wp (X C (.bin .lss (.const (.int k a)) (.const (.int k b)))) Φ S = Φ (.bool (decide (a < b))) S := by rw [wp_Xl (X_bin _ _ _), bv_lss]; rfl
theorem P_leq (k : IntKind) (a b : Int) : wp (X C (.bin .leq (.const (.int k a)) (.const (.int k b)))) Φ S = Φ (.bool (decide (a ≤ b))) S := by rw [wp_Xl (X_bin _ _ _), bv_leq]; rfl
theorem P_gtr (k : IntKind) (a b : Int) : wp (X C (.bin .gtr (.const (.int k a)) (.const (.int k b)))) Φ S = Φ (.bool (decide (a > b))) S := by rw [wp_Xl (X_bin _ _ _), bv_gtr]; rfl
theorem P_geq (k : IntKind) (a b : Int) : wp (X C (.bin .geq (.const (.int k a)) (.const (.int k b)))) Φ S = Φ (.bool (decide (a ≥ b))) S := by rw [wp_Xl (X_bin _ _ _), bv_geq]; rfl
theorem P_eql (k : IntKind) (a b : Int) : wp (X C (.bin .eql (.const (.int k a)) (.const (.int k b)))) Φ S = Φ (.bool (decide (a = b))) S := by rw [wp_Xl (X_bin _ _ _), bv_eql]; rfl
theorem P_neq (k : IntKind) (a b : Int) : wp (X C (.bin .neq (.const (.int k a)) (.const (.int k b)))) Φ S = Φ (.bool (!decide (a = b))) S := by rw [wp_Xl (X_bin _ _ _), bv_neq]; rfl
theorem P_add (k : IntKind) (a b : Int) : wp (X C (.bin .add (.const (.int k a)) (.const (.int k b)))) Φ S = Φ (.int k (k.wrap (a + b))) S := by rw [wp_Xl (X_bin _ _ _), bv_add]; rfl
theorem P_add64 {a b : Int} (h0 : -9223372036854775808 ≤ a + b) (h1 : a + b < 9223372036854775808) : wp (X C (.bin .add (.const (.int .i64 a)) (.const (.int .i64 b)))) Φ S = Φ (.int .i64 (a + b)) S := by rw [P_add, wrap64 h0 h1]
theorem P_sub (k : IntKind) (a b : Int) : wp (X C (.bin .sub (.const (.int k a)) (.const (.int k b)))) Φ S = Φ (.int k (k.wrap (a - b))) S := by rw [wp_Xl (X_bin _ _ _), bv_sub]; rfl
theorem P_sub64 {a b : Int} (h0 : -9223372036854775808 ≤ a - b) (h1 : a - b < 9223372036854775808) : wp (X C (.bin .sub (.const (.int .i64 a)) (.const (.int .i64 b)))) Φ S = Φ (.int .i64 (a - b)) S := by rw [P_sub, wrap64 h0 h1]
theorem P_mul (k : IntKind) (a b : Int) : wp (X C (.bin .mul (.const (.int k a)) (.const (.int k b)))) Φ S = Φ (.int k (k.wrap (a * b))) S := by rw [wp_Xl (X_bin _ _ _), bv_mul]; rfl
theorem P_mul64 {a b : Int} (h0 : -9223372036854775808 ≤ a * b) (h1 : a * b < 9223372036854775808) : wp (X C (.bin .mul (.const (.int .i64 a)) (.const (.int .i64 b)))) Φ S = Φ (.int .i64 (a * b)) S := by rw [P_mul, wrap64 h0 h1]
theorem P_quo (k : IntKind) {a b : Int} (h : b ≠ 0) : wp (X C (.bin .quo (.const (.int k a)) (.const (.int k b)))) Φ S = Φ (.int k (k.wrap (a.tdiv b))) S := by rw [wp_Xl (X_bin _ _ _), bv_quo k a b h]; rfl
theorem P_rem (k : IntKind) {a b : Int} (h : b ≠ 0) : wp (X C (.bin .rem (.const (.int k a)) (.const (.int k b)))) Φ S = Φ (.int k (a.tmod b)) S := by rw [wp_Xl (X_bin _ _ _), bv_rem k a b h]; rfl
theorem P_remp (k : IntKind) {a b : Int} (h0 : 0 ≤ a) (h : 0 < b) : wp (X C (.bin .rem (.const (.int k a)) (.const (.int k b)))) Φ S = Φ (.int k (a % b)) S := by rw [P_rem k (by omega), Int.tmod_eq_emod_of_nonneg h0]
theorem P_bin (op : BinOp) (x y : Value) : wp (X C (.bin op (.const x) (.const y))) Φ S = optP (binV op x y) (fun v => Φ v S) := wp_Xl (X_bin op x y)
theorem P_seql (a b : ByteArray) : wp (X C (.bin .eql (.const (.string a)) (.const (.string b)))) Φ S = Φ (.bool (a.toList == b.toList)) S := by rw [wp_Xl (X_bin _ _ _)]; rfl
theorem P_sneq (a b : ByteArray) : wp (X C (.bin .neq (.const (.string a)) (.const (.string b)))) Φ S = Φ (.bool !(a.toList == b.toList)) S := by rw [wp_Xl (X_bin _ _ _)]; rfl
theorem P_sadd (a b : ByteArray) : wp (X C (.bin .add (.const (.string a)) (.const (.string b)))) Φ S = condP (((a.size + b.size : Nat) : Int) ≤ 9223372036854775807) (Φ (.string (a ++ b)) S) := by
  rw [wp_Xl (X_bin _ _ _)]
  have e : IntKind.i64.max = 9223372036854775807 := by decide
  simp only [binV, e, condP]
  by_cases h : ((a.size + b.size : Nat) : Int) ≤ 9223372036854775807
  · rw [if_neg (by omega)]; simp only [optP, h, true_and]
  · rw [if_pos (by omega)]; exact propext ⟨False.elim, fun k => h k.1⟩

theorem P_call0 (f : FuncId) : wp (X C (.call (.const (.func (.func f) ⟨[]⟩ ⟨[]⟩)) [])) Φ S = wp (C (.fn f) []) Φ S := wp_of_eq (X_call f _ [] rfl) _ _
theorem P_mkfn0 (f : FuncId) : wp (X C (.mkfn f [] [])) Φ S = Φ (.func (.func f) ⟨[]⟩ ⟨[]⟩) S := wp_Xp (X_mkfn f [] [] [] [] rfl rfl)
theorem P_callF0 (f : FuncId) (a c : List Value) : wp (X C (.call (.const (.func (.func f) ⟨a⟩ ⟨c⟩)) [])) Φ S = wp (C (.fn f) (a ++ [] ++ c)) Φ S := wp_of_eq (X_callF f a c _ [] rfl) _ _
theorem P_callY0 (l : Nat) (a c : Array Value) : wp (X C (.call (.const (.func (.yield l) a c)) [])) Φ S = wp (C (.yield l) []) Φ S := wp_of_eq (by funext S; simp only [X, exec, M.bind, M.lift, Atom.ev, evs, target]; cases C (.yield l) [] S <;> rfl) _ _
theorem P_mkfnR0 (f : FuncId) (w : Value) : wp (X C (.mkfn f [(.const w)] [])) Φ S = Φ (.func (.func f) ⟨[w]⟩ ⟨[]⟩) S := wp_Xp (X_mkfn f [(.const w)] [] [w] [] rfl rfl)
theorem P_call1 (f : FuncId) (v0 : Value) : wp (X C (.call (.const (.func (.func f) ⟨[]⟩ ⟨[]⟩)) [(.const v0)])) Φ S = wp (C (.fn f) [v0]) Φ S := wp_of_eq (X_call f _ [v0] rfl) _ _
theorem P_mkfn1 (f : FuncId) (v0 : Value) : wp (X C (.mkfn f [] [(.const v0)])) Φ S = Φ (.func (.func f) ⟨[]⟩ ⟨[v0]⟩) S := wp_Xp (X_mkfn f [] [(.const v0)] [] [v0] rfl rfl)
theorem P_callF1 (f : FuncId) (a c : List Value) (v0 : Value) : wp (X C (.call (.const (.func (.func f) ⟨a⟩ ⟨c⟩)) [(.const v0)])) Φ S = wp (C (.fn f) (a ++ [v0] ++ c)) Φ S := wp_of_eq (X_callF f a c _ [v0] rfl) _ _
theorem P_callY1 (l : Nat) (a c : Array Value) (v0 : Value) : wp (X C (.call (.const (.func (.yield l) a c)) [(.const v0)])) Φ S = wp (C (.yield l) [v0]) Φ S := wp_of_eq (by funext S; simp only [X, exec, M.bind, M.lift, Atom.ev, evs, target]; cases C (.yield l) [v0] S <;> rfl) _ _
theorem P_mkfnR1 (f : FuncId) (w : Value) (v0 : Value) : wp (X C (.mkfn f [(.const w)] [(.const v0)])) Φ S = Φ (.func (.func f) ⟨[w]⟩ ⟨[v0]⟩) S := wp_Xp (X_mkfn f [(.const w)] [(.const v0)] [w] [v0] rfl rfl)
theorem P_call2 (f : FuncId) (v0 v1 : Value) : wp (X C (.call (.const (.func (.func f) ⟨[]⟩ ⟨[]⟩)) [(.const v0), (.const v1)])) Φ S = wp (C (.fn f) [v0, v1]) Φ S := wp_of_eq (X_call f _ [v0, v1] rfl) _ _
theorem P_mkfn2 (f : FuncId) (v0 v1 : Value) : wp (X C (.mkfn f [] [(.const v0), (.const v1)])) Φ S = Φ (.func (.func f) ⟨[]⟩ ⟨[v0, v1]⟩) S := wp_Xp (X_mkfn f [] [(.const v0), (.const v1)] [] [v0, v1] rfl rfl)
theorem P_callF2 (f : FuncId) (a c : List Value) (v0 v1 : Value) : wp (X C (.call (.const (.func (.func f) ⟨a⟩ ⟨c⟩)) [(.const v0), (.const v1)])) Φ S = wp (C (.fn f) (a ++ [v0, v1] ++ c)) Φ S := wp_of_eq (X_callF f a c _ [v0, v1] rfl) _ _
theorem P_callY2 (l : Nat) (a c : Array Value) (v0 v1 : Value) : wp (X C (.call (.const (.func (.yield l) a c)) [(.const v0), (.const v1)])) Φ S = wp (C (.yield l) [v0, v1]) Φ S := wp_of_eq (by funext S; simp only [X, exec, M.bind, M.lift, Atom.ev, evs, target]; cases C (.yield l) [v0, v1] S <;> rfl) _ _
theorem P_mkfnR2 (f : FuncId) (w : Value) (v0 v1 : Value) : wp (X C (.mkfn f [(.const w)] [(.const v0), (.const v1)])) Φ S = Φ (.func (.func f) ⟨[w]⟩ ⟨[v0, v1]⟩) S := wp_Xp (X_mkfn f [(.const w)] [(.const v0), (.const v1)] [w] [v0, v1] rfl rfl)
theorem P_call3 (f : FuncId) (v0 v1 v2 : Value) : wp (X C (.call (.const (.func (.func f) ⟨[]⟩ ⟨[]⟩)) [(.const v0), (.const v1), (.const v2)])) Φ S = wp (C (.fn f) [v0, v1, v2]) Φ S := wp_of_eq (X_call f _ [v0, v1, v2] rfl) _ _
theorem P_mkfn3 (f : FuncId) (v0 v1 v2 : Value) : wp (X C (.mkfn f [] [(.const v0), (.const v1), (.const v2)])) Φ S = Φ (.func (.func f) ⟨[]⟩ ⟨[v0, v1, v2]⟩) S := wp_Xp (X_mkfn f [] [(.const v0), (.const v1), (.const v2)] [] [v0, v1, v2] rfl rfl)
theorem P_callF3 (f : FuncId) (a c : List Value) (v0 v1 v2 : Value) : wp (X C (.call (.const (.func (.func f) ⟨a⟩ ⟨c⟩)) [(.const v0), (.const v1), (.const v2)])) Φ S = wp (C (.fn f) (a ++ [v0, v1, v2] ++ c)) Φ S := wp_of_eq (X_callF f a c _ [v0, v1, v2] rfl) _ _
theorem P_callY3 (l : Nat) (a c : Array Value) (v0 v1 v2 : Value) : wp (X C (.call (.const (.func (.yield l) a c)) [(.const v0), (.const v1), (.const v2)])) Φ S = wp (C (.yield l) [v0, v1, v2]) Φ S := wp_of_eq (by funext S; simp only [X, exec, M.bind, M.lift, Atom.ev, evs, target]; cases C (.yield l) [v0, v1, v2] S <;> rfl) _ _
theorem P_mkfnR3 (f : FuncId) (w : Value) (v0 v1 v2 : Value) : wp (X C (.mkfn f [(.const w)] [(.const v0), (.const v1), (.const v2)])) Φ S = Φ (.func (.func f) ⟨[w]⟩ ⟨[v0, v1, v2]⟩) S := wp_Xp (X_mkfn f [(.const w)] [(.const v0), (.const v1), (.const v2)] [w] [v0, v1, v2] rfl rfl)
theorem P_call4 (f : FuncId) (v0 v1 v2 v3 : Value) : wp (X C (.call (.const (.func (.func f) ⟨[]⟩ ⟨[]⟩)) [(.const v0), (.const v1), (.const v2), (.const v3)])) Φ S = wp (C (.fn f) [v0, v1, v2, v3]) Φ S := wp_of_eq (X_call f _ [v0, v1, v2, v3] rfl) _ _
theorem P_mkfn4 (f : FuncId) (v0 v1 v2 v3 : Value) : wp (X C (.mkfn f [] [(.const v0), (.const v1), (.const v2), (.const v3)])) Φ S = Φ (.func (.func f) ⟨[]⟩ ⟨[v0, v1, v2, v3]⟩) S := wp_Xp (X_mkfn f [] [(.const v0), (.const v1), (.const v2), (.const v3)] [] [v0, v1, v2, v3] rfl rfl)
theorem P_callF4 (f : FuncId) (a c : List Value) (v0 v1 v2 v3 : Value) : wp (X C (.call (.const (.func (.func f) ⟨a⟩ ⟨c⟩)) [(.const v0), (.const v1), (.const v2), (.const v3)])) Φ S = wp (C (.fn f) (a ++ [v0, v1, v2, v3] ++ c)) Φ S := wp_of_eq (X_callF f a c _ [v0, v1, v2, v3] rfl) _ _
theorem P_callY4 (l : Nat) (a c : Array Value) (v0 v1 v2 v3 : Value) : wp (X C (.call (.const (.func (.yield l) a c)) [(.const v0), (.const v1), (.const v2), (.const v3)])) Φ S = wp (C (.yield l) [v0, v1, v2, v3]) Φ S := wp_of_eq (by funext S; simp only [X, exec, M.bind, M.lift, Atom.ev, evs, target]; cases C (.yield l) [v0, v1, v2, v3] S <;> rfl) _ _
theorem P_mkfnR4 (f : FuncId) (w : Value) (v0 v1 v2 v3 : Value) : wp (X C (.mkfn f [(.const w)] [(.const v0), (.const v1), (.const v2), (.const v3)])) Φ S = Φ (.func (.func f) ⟨[w]⟩ ⟨[v0, v1, v2, v3]⟩) S := wp_Xp (X_mkfn f [(.const w)] [(.const v0), (.const v1), (.const v2), (.const v3)] [w] [v0, v1, v2, v3] rfl rfl)
theorem P_call5 (f : FuncId) (v0 v1 v2 v3 v4 : Value) : wp (X C (.call (.const (.func (.func f) ⟨[]⟩ ⟨[]⟩)) [(.const v0), (.const v1), (.const v2), (.const v3), (.const v4)])) Φ S = wp (C (.fn f) [v0, v1, v2, v3, v4]) Φ S := wp_of_eq (X_call f _ [v0, v1, v2, v3, v4] rfl) _ _
theorem P_mkfn5 (f : FuncId) (v0 v1 v2 v3 v4 : Value) : wp (X C (.mkfn f [] [(.const v0), (.const v1), (.const v2), (.const v3), (.const v4)])) Φ S = Φ (.func (.func f) ⟨[]⟩ ⟨[v0, v1, v2, v3, v4]⟩) S := wp_Xp (X_mkfn f [] [(.const v0), (.const v1), (.const v2), (.const v3), (.const v4)] [] [v0, v1, v2, v3, v4] rfl rfl)
theorem P_call6 (f : FuncId) (v0 v1 v2 v3 v4 v5 : Value) : wp (X C (.call (.const (.func (.func f) ⟨[]⟩ ⟨[]⟩)) [(.const v0), (.const v1), (.const v2), (.const v3), (.const v4), (.const v5)])) Φ S = wp (C (.fn f) [v0, v1, v2, v3, v4, v5]) Φ S := wp_of_eq (X_call f _ [v0, v1, v2, v3, v4, v5] rfl) _ _
theorem P_mkfn6 (f : FuncId) (v0 v1 v2 v3 v4 v5 : Value) : wp (X C (.mkfn f [] [(.const v0), (.const v1), (.const v2), (.const v3), (.const v4), (.const v5)])) Φ S = Φ (.func (.func f) ⟨[]⟩ ⟨[v0, v1, v2, v3, v4, v5]⟩) S := wp_Xp (X_mkfn f [] [(.const v0), (.const v1), (.const v2), (.const v3), (.const v4), (.const v5)] [] [v0, v1, v2, v3, v4, v5] rfl rfl)
theorem P_call7 (f : FuncId) (v0 v1 v2 v3 v4 v5 v6 : Value) : wp (X C (.call (.const (.func (.func f) ⟨[]⟩ ⟨[]⟩)) [(.const v0), (.const v1), (.const v2), (.const v3), (.const v4), (.const v5), (.const v6)])) Φ S = wp (C (.fn f) [v0, v1, v2, v3, v4, v5, v6]) Φ S := wp_of_eq (X_call f _ [v0, v1, v2, v3, v4, v5, v6] rfl) _ _
theorem P_mkfn7 (f : FuncId) (v0 v1 v2 v3 v4 v5 v6 : Value) : wp (X C (.mkfn f [] [(.const v0), (.const v1), (.const v2), (.const v3), (.const v4), (.const v5), (.const v6)])) Φ S = Φ (.func (.func f) ⟨[]⟩ ⟨[v0, v1, v2, v3, v4, v5, v6]⟩) S := wp_Xp (X_mkfn f [] [(.const v0), (.const v1), (.const v2), (.const v3), (.const v4), (.const v5), (.const v6)] [] [v0, v1, v2, v3, v4, v5, v6] rfl rfl)
def andQ (w b : Bool) (sub : (Value → Hp → Prop) → Prop) (Φ : Value → Hp → Prop) (S : Hp) : Prop := match b, w with
  | true, true => sub Φ
  | false, false => sub Φ
  | true, false => Φ (.bool true) S
  | false, true => Φ (.bool false) S
@[congr] theorem andQ_congr {w b b' : Bool} {sub sub' : (Value → Hp → Prop) → Prop} (hb : b = b') (hs : sub = sub') (Φ : Value → Hp → Prop) (S : Hp) : andQ w b sub Φ S = andQ w b' sub' Φ S := by rw [hb, hs]
@[congr] theorem andP_congr {w : Bool} {b b' : Value} (hb : b = b') (sub : (Value → Hp → Prop) → Hp → Prop) (Φ : Value → Hp → Prop) (S : Hp) : andP w b sub Φ S = andP w b' sub Φ S := by rw [hb]
theorem P_andQ (w b : Bool) (sub : (Value → Hp → Prop) → Hp → Prop) : andP w (.bool b) sub Φ S = andQ w b (fun K => sub K S) Φ S := by cases b <;> cases w <;> rfl
theorem andQ_tt (sub : (Value → Hp → Prop) → Prop) : andQ true true sub Φ S = sub Φ := id rfl
theorem andQ_tf (sub : (Value → Hp → Prop) → Prop) : andQ true false sub Φ S = Φ (.bool false) S := id rfl
theorem andQ_ff (sub : (Value → Hp → Prop) → Prop) : andQ false false sub Φ S = sub Φ := id rfl
theorem andQ_ft (sub : (Value → Hp → Prop) → Prop) : andQ false true sub Φ S = Φ (.bool true) S := id rfl
theorem andQ_p (b c : Bool) : andQ true b (fun K => K (.bool c) S) Φ S = Φ (.bool (b && c)) S := by cases b <;> rfl
theorem orQ_p (b c : Bool) : andQ false b (fun K => K (.bool c) S) Φ S = Φ (.bool (b || c)) S := by cases b <;> rfl
theorem andQ_in {b : Bool} {sub : (Value → Hp → Prop) → Prop} (h1 : b = true → sub Φ) (h2 : b = false → Φ (.bool false) S) : andQ true b sub Φ S := by cases b <;> first | exact h1 rfl | exact h2 rfl
theorem orQ_in {b : Bool} {sub : (Value → Hp → Prop) → Prop} (h1 : b = true → Φ (.bool true) S) (h2 : b = false → sub Φ) : andQ false b sub Φ S := by cases b <;> first | exact h1 rfl | exact h2 rfl
/-! ## Slices -/
theorem P_mkslice (t : TypeId) (size bytes : Nat) (z : List Value) (k k' : IntKind) (l c : Int) : wp (X C (.mkslice t size bytes z (.const (.int k l)) (.const (.int k' c)))) Φ S =
    condP (0 ≤ l ∧ l ≤ c ∧ bytes * c ≤ 281474976710656 ∧ c < 4611686018427387904 ∧ z.length = size) (Φ (.slice (some ⟨S.next, 0, none⟩) l.toNat c.toNat) (S.add (.cells none false (rep c.toNat z)))) := by
  have e : X C (.mkslice t size bytes z (.const (.int k l)) (.const (.int k' c))) = if 0 ≤ l ∧ l ≤ c ∧ bytes * c ≤ 281474976710656 ∧ c < 4611686018427387904 ∧ z.length = size then (nw (.cells none false (rep c.toNat z))).bind fun b => M.pure (.slice (some ⟨b, 0, none⟩) l.toNat c.toNat) else M.fail := by
    funext S
    simp only [X, exec, M.bind, M.lift, Atom.ev, Option.bind_some, asInt]
  rw [e]
  split
  · rename_i h; rw [wp_nwp]; simp only [condP, h, and_self, true_and]
  · rename_i h; rw [wp_fail]; exact propext ⟨False.elim, fun k => h k.1⟩
/-- a slice of a slice -/
def slcR (size : Nat) (b o x : Nat) (lo hi mx : Nat) : Value := .slice (some (if mx = lo then ⟨b, o, none⟩ else ⟨b, o + lo * size, none⟩)) (hi - lo) (mx - lo)
theorem P_slc (size b o : Nat) (len cap : Nat) (lo hi mx : Option Atom) : wp (X C (.slc size (.const (.slice (some ⟨b, o, none⟩) len cap)) lo hi mx)) Φ S =
    optP (bnds .leaf len cap lo hi mx) (fun q => condP (q.2.1 ≤ q.2.2) (cutP size (S.heap.get b) (Φ (slcR size b o 0 q.1 q.2.1 q.2.2) S))) := by
  have e : X C (.slc size (.const (.slice (some ⟨b, o, none⟩) len cap)) lo hi mx) = (M.lift (bnds .leaf len cap lo hi mx)).bind fun q => (rd b).bind fun o' => match o' with
      | .cells x _ _ => if (x = none ∨ x = some size) ∧ q.2.1 ≤ q.2.2 then M.pure (slcR size b o 0 q.1 q.2.1 q.2.2) else M.fail
      | .ro _ => if q.2.1 ≤ q.2.2 then M.pure (slcR size b o 0 q.1 q.2.1 q.2.2) else M.fail
      | _ => M.fail := by
    funext S
    simp only [X, exec, M.bind, M.lift, Atom.ev]
    rfl
  have lg : ∀ (q : Nat × Nat × Nat) (o' : Blk), Lg ((match o' with
      | .cells x _ _ => if (x = none ∨ x = some size) ∧ q.2.1 ≤ q.2.2 then M.pure (slcR size b o 0 q.1 q.2.1 q.2.2) else M.fail
      | .ro _ => if q.2.1 ≤ q.2.2 then M.pure (slcR size b o 0 q.1 q.2.1 q.2.2) else M.fail
      | _ => M.fail) : M Value) := fun q o' => by
    cases o'
    · exact Lg.ite (Lg.pure _) Lg.fail
    · exact Lg.fail
    · exact Lg.fail
    · exact Lg.ite (Lg.pure _) Lg.fail
  rw [e, wp_bind (Lg.lift _) (fun q => Lg.bind (Lg.rd _) (lg q)), wp_lift]
  congr 1
  funext q
  rw [wp_bind (Lg.rd _) (lg q), wp_rd]
  cases S.heap.get b with
  | none => simp only [optP, cutP, condP, and_false]
  | some o' =>
    cases o' with
    | cells x s l =>
      simp only [optP_some, cutP]
      split
      · rename_i h; rw [wp_pure]; simp only [condP, h, and_self, true_and]
      · rename_i h; rw [wp_fail]; exact propext ⟨False.elim, fun k => h ⟨k.2.1, k.1⟩⟩
    | loop => simp only [optP_some, wp_fail, cutP, condP, and_false]
    | map => simp only [optP_some, wp_fail, cutP, condP, and_false]
    | ro l =>
      simp only [optP_some, cutP]
      split
      · rename_i h; rw [wp_pure]; simp only [condP, h, and_self, true_and]
      · rename_i h; rw [wp_fail]; exact propext ⟨False.elim, fun k => h k.1⟩
theorem P_slc0 (size : Nat) (lo hi mx : Option Atom) : wp (X C (.slc size (.const (.slice none 0 0)) lo hi mx)) Φ S = optP (bnds .leaf 0 0 lo hi mx) (fun _ => Φ (.slice none 0 0) S) := by
  have e : X C (.slc size (.const (.slice none 0 0)) lo hi mx) = M.lift ((bnds .leaf 0 0 lo hi mx).map fun _ => .slice none 0 0) := by
    funext S
    simp only [X, exec, M.bind, M.lift, Atom.ev]
    cases bnds .leaf 0 0 lo hi mx <;> rfl
  rw [e, wp_lift]
  cases bnds .leaf 0 0 lo hi mx <;> rfl
theorem bnds_l (len cap : Nat) (k : IntKind) (i : Int) : bnds .leaf len cap (some (.const (.int k i))) none none = if 0 ≤ i ∧ i ≤ len then some (i.toNat, len, cap) else none := by
  simp only [bnds, bnd, Atom.ev, Option.bind_some, asInt]
  by_cases h : 0 ≤ i ∧ i ≤ (len : Int)
  · rw [if_pos h, if_pos h]
  · rw [if_neg h, if_neg h]
theorem bnds_h (len cap : Nat) (k : IntKind) (i : Int) : bnds .leaf len cap none (some (.const (.int k i))) none = if 0 ≤ i ∧ i ≤ cap then some (0, i.toNat, cap) else none := by
  simp only [bnds, bnd, Atom.ev, Option.bind_some, asInt]
  by_cases h : 0 ≤ i ∧ i ≤ (cap : Int)
  · rw [if_pos h, if_pos h]
  · rw [if_neg h, if_neg h]
theorem bnds_lh (len cap : Nat) (k k' : IntKind) (i j : Int) : bnds .leaf len cap (some (.const (.int k i))) (some (.const (.int k' j))) none = if (0 ≤ j ∧ j ≤ cap) ∧ 0 ≤ i ∧ i ≤ j then some (i.toNat, j.toNat, cap) else none := by
  simp only [bnds, bnd, Atom.ev, Option.bind_some, asInt]
  by_cases h : 0 ≤ j ∧ j ≤ cap
  · simp only [h, and_self, if_true, true_and]
    have : ((j.toNat : Nat) : Int) = j := Int.toNat_of_nonneg h.1
    rw [this]
    by_cases h2 : 0 ≤ i ∧ i ≤ j
    · rw [if_pos h2, if_pos h2]
    · rw [if_neg h2, if_neg h2]
  · simp only [h, if_false, false_and]
theorem bnds_0 (len cap : Nat) : bnds .leaf len cap none none none = some (0, len, cap) := rfl
/-! ## Cells of values -/
theorem cells_agg (l : List Value) : (Value.agg ⟨l⟩).cells = ⟨l⟩ := id rfl
theorem cells_int (k : IntKind) (n : Int) : (Value.int k n).cells = ⟨[.int k n]⟩ := id rfl
theorem cells_bool (b : Bool) : (Value.bool b).cells = ⟨[.bool b]⟩ := id rfl
theorem cells_str (s : ByteArray) : (Value.string s).cells = ⟨[.string s]⟩ := id rfl
theorem cells_ptr (p : Option Addr) : (Value.pointer p).cells = ⟨[.pointer p]⟩ := id rfl
theorem cells_sl (p : Option Addr) (n c : Nat) : (Value.slice p n c).cells = ⟨[.slice p n c]⟩ := id rfl
theorem cells_map (p : Option Nat) : (Value.map p).cells = ⟨[.map p]⟩ := id rfl
theorem cells_fn (f : Fn) (a b : Array Value) : (Value.func f a b).cells = ⟨[.func f a b]⟩ := id rfl
theorem cells_nf : Value.nilFunc.cells = ⟨[.nilFunc]⟩ := id rfl
theorem cells_tok : (Value.chan none).cells = ⟨[.chan none]⟩ := id rfl
theorem one_int (k : IntKind) (n : Int) : (Value.int k n).oneCell' = true := id rfl
theorem one_bool (b : Bool) : (Value.bool b).oneCell' = true := id rfl
theorem one_str (s : ByteArray) : (Value.string s).oneCell' = true := id rfl
theorem one_ptr (p : Option Addr) : (Value.pointer p).oneCell' = true := id rfl
theorem one_sl (p : Option Addr) (n c : Nat) : (Value.slice p n c).oneCell' = true := id rfl
theorem one_map (p : Option Nat) : (Value.map p).oneCell' = true := id rfl
theorem one_fn (f : Fn) (a b : Array Value) : (Value.func f a b).oneCell' = true := id rfl
theorem one_nf : Value.nilFunc.oneCell' = true := id rfl
theorem splice_z (c vs : List Value) : splice c 0 vs = overlay c vs := by cases c <;> rfl
theorem splice_c (a : Value) (c vs : List Value) (k : Nat) : splice (a :: c) (k + 1) vs = a :: splice c k vs := id rfl
theorem splice_1 (a : Value) (c vs : List Value) : splice (a :: c) 1 vs = a :: splice c 0 vs := id rfl
theorem splice_2 (a b : Value) (c vs : List Value) : splice (a :: b :: c) 2 vs = a :: b :: splice c 0 vs := id rfl
theorem splice_3 (a b d : Value) (c vs : List Value) : splice (a :: b :: d :: c) 3 vs = a :: b :: d :: splice c 0 vs := id rfl
theorem splice_4 (a b d e : Value) (c vs : List Value) : splice (a :: b :: d :: e :: c) 4 vs = a :: b :: d :: e :: splice c 0 vs := id rfl
theorem overlay_n (c : List Value) : overlay c [] = c := by cases c <;> rfl
theorem overlay_c (a v : Value) (c vs : List Value) : overlay (a :: c) (v :: vs) = v :: overlay c vs := id rfl
/-! ## Numbers of other kinds -/
theorem wrapU64 {n : Int} (h0 : 0 ≤ n) (h1 : n < 18446744073709551616) : IntKind.u64.wrap n = n := by
  simp [IntKind.wrap, IntKind.bits, IntKind.signed]
  omega
theorem wrapU32 {n : Int} (h0 : 0 ≤ n) (h1 : n < 4294967296) : IntKind.u32.wrap n = n := by
  simp [IntKind.wrap, IntKind.bits, IntKind.signed]
  omega
theorem wrapU16 {n : Int} (h0 : 0 ≤ n) (h1 : n < 65536) : IntKind.u16.wrap n = n := by
  simp [IntKind.wrap, IntKind.bits, IntKind.signed]
  omega
theorem wrapU8 {n : Int} (h0 : 0 ≤ n) (h1 : n < 256) : IntKind.u8.wrap n = n := by
  simp [IntKind.wrap, IntKind.bits, IntKind.signed]
  omega
theorem P_convI64 (k : IntKind) {n : Int} (h0 : -9223372036854775808 ≤ n) (h1 : n < 9223372036854775808) : wp (X C (.conv (.int .i64) (.const (.int k n)))) Φ S = Φ (.int .i64 n) S := by rw [P_conv, wrap64 h0 h1]
theorem P_convU64 (k : IntKind) {n : Int} (h0 : 0 ≤ n) (h1 : n < 18446744073709551616) : wp (X C (.conv (.int .u64) (.const (.int k n)))) Φ S = Φ (.int .u64 n) S := by rw [P_conv, wrapU64 h0 h1]
theorem P_convU32 (k : IntKind) {n : Int} (h0 : 0 ≤ n) (h1 : n < 4294967296) : wp (X C (.conv (.int .u32) (.const (.int k n)))) Φ S = Φ (.int .u32 n) S := by rw [P_conv, wrapU32 h0 h1]
theorem P_convU16 (k : IntKind) {n : Int} (h0 : 0 ≤ n) (h1 : n < 65536) : wp (X C (.conv (.int .u16) (.const (.int k n)))) Φ S = Φ (.int .u16 n) S := by rw [P_conv, wrapU16 h0 h1]
theorem P_convU8 (k : IntKind) {n : Int} (h0 : 0 ≤ n) (h1 : n < 256) : wp (X C (.conv (.int .u8) (.const (.int k n)))) Φ S = Φ (.int .u8 n) S := by rw [P_conv, wrapU8 h0 h1]
theorem P_addU64 {a b : Int} (h0 : 0 ≤ a + b) (h1 : a + b < 18446744073709551616) : wp (X C (.bin .add (.const (.int .u64 a)) (.const (.int .u64 b)))) Φ S = Φ (.int .u64 (a + b)) S := by rw [P_add, wrapU64 h0 h1]
theorem P_addU32 {a b : Int} (h0 : 0 ≤ a + b) (h1 : a + b < 4294967296) : wp (X C (.bin .add (.const (.int .u32 a)) (.const (.int .u32 b)))) Φ S = Φ (.int .u32 (a + b)) S := by rw [P_add, wrapU32 h0 h1]
theorem P_addU16 {a b : Int} (h0 : 0 ≤ a + b) (h1 : a + b < 65536) : wp (X C (.bin .add (.const (.int .u16 a)) (.const (.int .u16 b)))) Φ S = Φ (.int .u16 (a + b)) S := by rw [P_add, wrapU16 h0 h1]
theorem P_addU8 {a b : Int} (h0 : 0 ≤ a + b) (h1 : a + b < 256) : wp (X C (.bin .add (.const (.int .u8 a)) (.const (.int .u8 b)))) Φ S = Φ (.int .u8 (a + b)) S := by rw [P_add, wrapU8 h0 h1]
theorem P_subU64 {a b : Int} (h0 : 0 ≤ a - b) (h1 : a - b < 18446744073709551616) : wp (X C (.bin .sub (.const (.int .u64 a)) (.const (.int .u64 b)))) Φ S = Φ (.int .u64 (a - b)) S := by rw [P_sub, wrapU64 h0 h1]
theorem P_subU32 {a b : Int} (h0 : 0 ≤ a - b) (h1 : a - b < 4294967296) : wp (X C (.bin .sub (.const (.int .u32 a)) (.const (.int .u32 b)))) Φ S = Φ (.int .u32 (a - b)) S := by rw [P_sub, wrapU32 h0 h1]
theorem P_subU16 {a b : Int} (h0 : 0 ≤ a - b) (h1 : a - b < 65536) : wp (X C (.bin .sub (.const (.int .u16 a)) (.const (.int .u16 b)))) Φ S = Φ (.int .u16 (a - b)) S := by rw [P_sub, wrapU16 h0 h1]
theorem P_subU8 {a b : Int} (h0 : 0 ≤ a - b) (h1 : a - b < 256) : wp (X C (.bin .sub (.const (.int .u8 a)) (.const (.int .u8 b)))) Φ S = Φ (.int .u8 (a - b)) S := by rw [P_sub, wrapU8 h0 h1]
end Go.Wb
