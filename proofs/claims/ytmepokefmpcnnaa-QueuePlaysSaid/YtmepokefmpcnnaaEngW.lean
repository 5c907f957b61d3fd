/- The engine, part W: what the boxes of a text are; more in an environment than is asked for does no harm. -/
import Derived.Test.YtmepokefmpcnnaaEngV
set_option linter.unusedSimpArgs false
set_option linter.unusedVariables false
namespace Go.Wb
variable {ρ : Type} {α β : Type}
variable {C : Tgt → List Value → M Value} {S : St}

/-! ## States -/
def St.saw (S : St) (b : Nat) : St := { heap := S.heap, next := S.next, log := (b, false) :: S.log }
def St.put (S : St) (b : Nat) (o : Option Blk) : St := { heap := S.heap.set b o, next := S.next, log := (b, true) :: S.log }
def St.add (S : St) (o : Blk) : St := { heap := S.heap.set S.next (some o), next := S.next + 1, log := S.log }
@[simp] theorem St.saw_heap (b : Nat) : (S.saw b).heap = S.heap := id rfl
@[simp] theorem St.saw_next (b : Nat) : (S.saw b).next = S.next := id rfl
@[simp] theorem St.saw_log (b : Nat) : (S.saw b).log = (b, false) :: S.log := id rfl
@[simp] theorem St.put_next (b : Nat) (o : Option Blk) : (S.put b o).next = S.next := id rfl
@[simp] theorem St.put_heap (b : Nat) (o : Option Blk) (c : Nat) : (S.put b o).heap.get c = if c = b then o else S.heap.get c := Tr.get_set _ _ _ _
@[simp] theorem St.put_log (b : Nat) (o : Option Blk) : (S.put b o).log = (b, true) :: S.log := id rfl
@[simp] theorem St.add_next (o : Blk) : (S.add o).next = S.next + 1 := id rfl
@[simp] theorem St.add_heap (o : Blk) (c : Nat) : (S.add o).heap.get c = if c = S.next then some o else S.heap.get c := Tr.get_set _ _ _ _
@[simp] theorem St.add_log (o : Blk) : (S.add o).log = S.log := id rfl

/-! ## Continuations -/
theorem k_pure (a : α) (k : α → St → Option ρ) : M.k (M.pure a) k S = k a S := id rfl
theorem k_lift (a : α) (k : α → St → Option ρ) : M.k (M.lift (some a)) k S = k a S := id rfl
theorem k_lift_bind (a : α) (f : α → M β) (k : β → St → Option ρ) : M.k ((M.lift (some a)).bind f) k S = M.k (f a) k S := id rfl
theorem k_nw (o : Blk) (k : Nat → St → Option ρ) : M.k (nw o) k S = k S.next (S.add o) := id rfl
theorem k_some {m : M α} {a : α} {S' : St} (h : m S = some (a, S')) (k : α → St → Option ρ) : M.k m k S = k a S' := by simp only [M.k, h]
theorem k_ld1 {b o : Nat} {x : Option Nat} {s : Bool} {l : List Value} {v : Value} (h : S.heap.get b = some (.cells x s l)) (hv : l[o]? = some v) (k : Value → St → Option ρ) : M.k (ld1 b o) k S = k v (S.saw b) := by
  simp [M.k, ld1, M.bind, rd, h, M.lift, hv, St.saw]
theorem k_ldCells {b o n : Nat} {x : Option Nat} {s : Bool} {l : List Value} (h : S.heap.get b = some (.cells x s l)) (hn : o + n ≤ l.length) (k : List Value → St → Option ρ) : M.k (ldCells b o n) k S = k ((l.drop o).take n) (S.saw b) := by
  simp [M.k, ldCells, M.bind, rd, h, M.pure, hn, St.saw]
theorem k_stCells {b o : Nat} {x : Option Nat} {s : Bool} {l vs : List Value} (h : S.heap.get b = some (.cells x s l)) (hn : o + vs.length ≤ l.length) (hc : vs.all (·.oneCell') = true) (k : Unit → St → Option ρ) :
    M.k (stCells b o vs) k S = k () ((S.saw b).put b (some (.cells x s (splice l o vs)))) := by
  simp [M.k, stCells, M.bind, rd, h, wr, hn, hc, St.saw, St.put]

/-- what stands at a place of a block -/
def vK (o : Option Value) (f : Value → Option ρ) : Option ρ := match o with | none => none | some v => f v
def ldK (b : Option Blk) (o : Nat) (f : Value → Option ρ) : Option ρ := match b with | some (.cells _ _ l) => vK l[o]? f | _ => none
def ldsK (b : Option Blk) (o n : Nat) (f : List Value → Option ρ) : Option ρ := match b with | some (.cells _ _ l) => if o + n ≤ l.length then f ((l.drop o).take n) else none | _ => none
def stK (b : Option Blk) (o : Nat) (vs : List Value) (f : Blk → Option ρ) : Option ρ := match b with | some (.cells x s l) => if o + vs.length ≤ l.length ∧ vs.all (·.oneCell') = true then f (.cells x s (splice l o vs)) else none | _ => none
theorem vK_some (v : Value) (f : Value → Option ρ) : vK (some v) f = f v := id rfl
theorem ldK_cells (x : Option Nat) (s : Bool) (l : List Value) (o : Nat) (f : Value → Option ρ) : ldK (some (.cells x s l)) o f = vK l[o]? f := id rfl
theorem ldsK_cells (x : Option Nat) (s : Bool) (l : List Value) (o n : Nat) (f : List Value → Option ρ) : ldsK (some (.cells x s l)) o n f = if o + n ≤ l.length then f ((l.drop o).take n) else none := id rfl
theorem stK_cells (x : Option Nat) (s : Bool) (l : List Value) (o : Nat) (vs : List Value) (f : Blk → Option ρ) : stK (some (.cells x s l)) o vs f = if o + vs.length ≤ l.length ∧ vs.all (·.oneCell') = true then f (.cells x s (splice l o vs)) else none := id rfl
/-! ## Boxes -/
theorem X_mov (v : Value) : X C (.mov (.const v)) = M.pure v := id rfl
theorem X_pick (c : Bool) (a b : Value) : X C (.pick (.const (.bool c)) (.const a) (.const b)) = M.pure (if c then a else b) := by cases c <;> rfl
theorem X_bin (op : BinOp) (x y : Value) : X C (.bin op (.const x) (.const y)) = M.lift (binV op x y) := by
  funext S
  simp only [X, exec, M.bind, M.lift, Atom.ev]
  cases binV op x y <;> rfl
theorem X_un (op : UnOp) (x : Value) : X C (.un op (.const x)) = M.lift (unV op x) := by
  funext S
  simp only [X, exec, M.bind, M.lift, Atom.ev]
  cases unV op x <;> rfl
theorem X_eq (n : Bool) (k : EqK) (x y : Value) : X C (.eq n k (.const x) (.const y)) = M.lift ((eqV k x y).map fun t => .bool (if n then !t else t)) := by
  funext S
  simp only [X, exec, M.bind, M.lift, Atom.ev]
  cases eqV k x y <;> rfl
theorem X_convI (k k' : IntKind) (n : Int) : X C (.conv (.int k) (.const (.int k' n))) = M.pure (.int k (k.wrap n)) := id rfl
theorem X_ext (vs : List Value) (i : Nat) : X C (.ext (.const (.tuple ⟨vs⟩)) i) = M.lift vs[i]? := by
  funext S
  simp only [X, exec, M.bind, M.lift, Atom.ev]
  cases vs[i]? <;> rfl
theorem X_fld (sh : Sh) (o : Nat) (cs : List Value) : X C (.fld sh o (.const (.agg ⟨cs⟩))) = M.lift (partOf sh cs o) := by
  funext S
  simp only [X, exec, M.bind, M.lift, Atom.ev]
  cases partOf sh cs o <;> rfl
theorem X_fldA (o : Nat) (p : Addr) : X C (.fldA o (.const (.pointer (some p)))) = M.pure (.pointer (some ⟨p.block, p.off + o, none⟩)) := id rfl
theorem X_nil (p : Addr) : X C (.nilchk (.const (.pointer (some p)))) = M.pure (.pointer (some p)) := id rfl
theorem X_box (t : TypeId) (v : Value) : X C (.box t (.const v)) = (nw (.cells none false v.cells.toList)).bind fun b => M.pure (.pointer (some ⟨b, 0, none⟩)) := id rfl
theorem X_alloc (t : TypeId) (z : List Value) : X C (.alloc t z) = (nw (.cells none false z)).bind fun b => M.pure (.pointer (some ⟨b, 0, none⟩)) := id rfl
theorem X_build (z : List Value) (p : List (Nat × Nat × Atom)) : X C (.build z p) = M.lift ((fillA .leaf p z).map fun c => .agg ⟨c⟩) := by
  funext S
  simp only [X, exec, M.bind, M.lift]
  cases fillA .leaf p z <;> rfl
theorem X_bslice (t : TypeId) (n : Nat) (z : List Value) (p : List (Nat × Nat × Atom)) : X C (.bslice t n z p) = (M.lift (fillA .leaf p z)).bind fun c => (nw (.cells none false c)).bind fun b => M.pure (.slice (some ⟨b, 0, none⟩) n n) := id rfl
theorem X_load1 (p : Addr) : X C (.load .one (.const (.pointer (some p)))) = ld1 p.block p.off := by
  funext S
  simp only [X, exec, M.bind, M.lift, Atom.ev]
  cases ld1 p.block p.off S <;> rfl
theorem X_loadN (n : Nat) (p : Addr) : X C (.load (.agg n) (.const (.pointer (some p)))) = (ldCells p.block p.off n).bind fun c => M.pure (.agg ⟨c⟩) := id rfl
theorem X_store (n : Nat) (p : Addr) (v : Value) (h : v.cells.size = n) : X C (.store n (.const (.pointer (some p))) (.const v)) = (stCells p.block p.off v.cells.toList).bind fun _ => M.pure undef := by
  funext S
  simp only [X, exec, M.bind, M.lift, Atom.ev, h, if_true]
theorem X_call (f : FuncId) (args : List Atom) (vs : List Value) (h : evs .leaf args = some vs) : X C (.call (.const (.func (.func f) ⟨[]⟩ ⟨[]⟩)) args) = C (.fn f) vs := by
  funext S
  simp only [X, exec, M.bind, M.lift, Atom.ev, h, target, List.nil_append, List.append_nil]
  cases C (.fn f) vs S <;> rfl
theorem X_callF (f : FuncId) (a c : List Value) (args : List Atom) (vs : List Value) (h : evs .leaf args = some vs) : X C (.call (.const (.func (.func f) ⟨a⟩ ⟨c⟩)) args) = C (.fn f) (a ++ vs ++ c) := by
  funext S
  simp only [X, exec, M.bind, M.lift, Atom.ev, h, target]
  cases C (.fn f) (a ++ vs ++ c) S <;> rfl
theorem X_mkfn (f : FuncId) (a c : List Atom) (va vc : List Value) (h1 : evs .leaf a = some va) (h2 : evs .leaf c = some vc) : X C (.mkfn f a c) = M.pure (.func (.func f) ⟨va⟩ ⟨vc⟩) := by
  funext S
  simp only [X, exec, M.bind, M.lift, h1, h2]
theorem X_len (k : LenK) (v : Value) (n : Nat) (hk : k ≠ .map) (h : lenV k v = some n) : X C (.len k (.const v)) = M.pure (.int .i64 n) := by
  funext S
  cases k <;> first | exact absurd rfl hk | simp only [X, exec, M.bind, M.lift, Atom.ev, h]
theorem X_ix (n s : Nat) (sh : Sh) (cs : List Value) (k : IntKind) (i : Int) (h : 0 ≤ i ∧ i < n) : X C (.ix n s sh (.const (.agg ⟨cs⟩)) (.const (.int k i))) = M.lift (partOf sh cs (i.toNat * s)) := by
  funext S
  simp only [X, exec, M.bind, M.lift, Atom.ev, Option.bind_some, asInt, if_pos h]
  cases partOf sh cs (i.toNat * s) <;> rfl
theorem X_ixA (s : Nat) (p : Addr) (len cap : Nat) (k : IntKind) (i : Int) (h : 0 ≤ i ∧ i < len) : X C (.ixA s (.const (.slice (some p) len cap)) (.const (.int k i))) = M.pure (.pointer (some ⟨p.block, p.off + i.toNat * s, none⟩)) := by
  funext S
  simp only [X, exec, M.bind, M.lift, Atom.ev, Option.bind_some, asInt, if_pos h]
theorem G_true (m : M Value) : G (some true) m = m := id rfl
theorem G_false (m : M Value) : G (some false) m = M.pure undef := id rfl
theorem wanted_bool (w b : Bool) : wanted w (.bool b) = some (b == w) := id rfl
theorem dstep_pure (j : Nat) (ts : List (Nat × Touch)) (v : Value) (k : Value → List (Nat × Touch) → St → Option ρ) : dstep j ts (M.pure v) k S = k v ts S := by
  simp [dstep, M.pure, keepT]
theorem dstep_lift (j : Nat) (ts : List (Nat × Touch)) (v : Value) (k : Value → List (Nat × Touch) → St → Option ρ) : dstep j ts (M.lift (some v)) k S = k v ts S := dstep_pure j ts v k
theorem dstep_lds {b o n : Nat} {x : Option Nat} {s : Bool} {l : List Value} (h : S.heap.get b = some (.cells x s l)) (hn : o + n ≤ l.length) (j : Nat) (ts : List (Nat × Touch)) (g : List Value → Value) (k : Value → List (Nat × Touch) → St → Option ρ) :
    dstep j ts ((ldCells b o n).bind fun c => M.pure (g c)) k S = k (g ((l.drop o).take n)) ((j, ⟨[(b, false)], S.next, S.next⟩) :: ts) (S.saw b) := by
  simp [dstep, ldCells, M.bind, rd, h, M.pure, hn, keepT, St.saw]
theorem hits_reads (b c n m : Nat) : hits ⟨[(b, false)], n, n⟩ ⟨[(c, false)], m, m⟩ = false := by
  have : (Nat.ble m b && Nat.blt b m) = false := by
    cases h : Nat.ble m b with
    | false => rfl
    | true =>
      have h1 := Nat.le_of_ble_eq_true h
      cases h2 : Nat.blt b m with
      | false => rfl
      | true => have h3 : b + 1 ≤ m := Nat.le_of_ble_eq_true h2; omega
  simp [hits, this]
theorem okK_true (x : St → Option ρ) : okK true x S = x S := id rfl
theorem ifK_true (x y : St → Option ρ) : ifK (some true) x y S = x S := id rfl
theorem ifK_false (x y : St → Option ρ) : ifK (some false) x y S = y S := id rfl
theorem asBool_bool (b : Bool) : asBool (.bool b) = some b := id rfl

/-! ## Numbers -/
theorem bv_add (k : IntKind) (a b : Int) : binV .add (.int k a) (.int k b) = some (.int k (k.wrap (a + b))) := by simp [binV]
theorem bv_sub (k : IntKind) (a b : Int) : binV .sub (.int k a) (.int k b) = some (.int k (k.wrap (a - b))) := by simp [binV]
theorem bv_mul (k : IntKind) (a b : Int) : binV .mul (.int k a) (.int k b) = some (.int k (k.wrap (a * b))) := by simp [binV]
theorem bv_eql (k : IntKind) (a b : Int) : binV .eql (.int k a) (.int k b) = some (.bool (decide (a = b))) := by
  simp only [binV, ne_eq, not_true_eq_false, if_false]
  congr 2
theorem bv_neq (k : IntKind) (a b : Int) : binV .neq (.int k a) (.int k b) = some (.bool (!decide (a = b))) := by
  simp only [binV, ne_eq, not_true_eq_false, if_false]
  congr 2
theorem bv_lss (k : IntKind) (a b : Int) : binV .lss (.int k a) (.int k b) = some (.bool (decide (a < b))) := by simp [binV]
theorem bv_leq (k : IntKind) (a b : Int) : binV .leq (.int k a) (.int k b) = some (.bool (decide (a ≤ b))) := by simp [binV]
theorem bv_gtr (k : IntKind) (a b : Int) : binV .gtr (.int k a) (.int k b) = some (.bool (decide (a > b))) := by simp [binV]
theorem bv_geq (k : IntKind) (a b : Int) : binV .geq (.int k a) (.int k b) = some (.bool (decide (a ≥ b))) := by simp [binV]
theorem bv_quo (k : IntKind) (a b : Int) (h : b ≠ 0) : binV .quo (.int k a) (.int k b) = some (.int k (k.wrap (a.tdiv b))) := by simp [binV, h]
theorem bv_rem (k : IntKind) (a b : Int) (h : b ≠ 0) : binV .rem (.int k a) (.int k b) = some (.int k (a.tmod b)) := by simp [binV, h]
theorem uv_not (b : Bool) : unV .not (.bool b) = some (.bool !b) := id rfl
theorem ev_bool (a b : Bool) : eqV .bool (.bool a) (.bool b) = some (a == b) := id rfl
/-- a piece of code as it is run -/
theorem run_codeV {n : Nat} {c : ACode} {e : Env} : run C n c e S = codeV C n c e (fun x e S => some ((x, e), S)) S := by
  rw [codeV_eq]
  simp only [M.k]
  cases run C n c e S with
  | none => rfl
  | some p => rfl
theorem iter_succ {body : Env → M (Ext × Env)} {m : Nat} {e e' : Env} {S S' : St} {x : Ext} (h : body e S = some ((x, e'), S')) : iter body (m + 1) e S = match x with | .normal => iter body m e' S' | x => some ((x, e'), S') := by
  simp only [iter, M.bind, h]
  cases x <;> rfl
/-- numbers of 64 bits -/
theorem wrap64 {n : Int} (h0 : -9223372036854775808 ≤ n) (h1 : n < 9223372036854775808) : IntKind.i64.wrap n = n := by
  simp [IntKind.wrap, IntKind.bits, IntKind.signed]
  omega

/-! ## More in the environment -/
def Le (e e' : Env) : Prop := ∀ t v, e.get t = some v → e'.get t = some v
theorem Le.refl (e : Env) : Le e e := fun _ _ h => h
theorem Le.trans {a b c : Env} (h : Le a b) (k : Le b c) : Le a c := fun t v x => k t v (h t v x)
theorem Le.set {e e' : Env} (h : Le e e') (t : Nat) (v : Value) : Le (e.set t (some v)) (e'.set t (some v)) := by
  intro t' w hw
  rw [Tr.get_set] at hw ⊢
  by_cases c : t' = t
  · rw [if_pos c] at hw ⊢; exact hw
  · rw [if_neg c] at hw ⊢; exact h _ _ hw
theorem Le.putD {e e' : Env} (h : Le e e') (d : Option Nat) (v : Value) : Le (putD e d v) (putD e' d v) := by
  cases d with
  | none => exact h
  | some d => exact h.set d v
theorem Le.leaf (e : Env) : Le .leaf e := by intro t v h; rw [Tr.get_leaf] at h; cases h
theorem Le.of_set {e e' : Env} (h : Le e e') {t : Nat} {v : Value} (k : e'.get t = some v) : Le (e.set t (some v)) e' := by
  intro t' w hw
  rw [Tr.get_set] at hw
  split at hw
  · rename_i h1; subst h1; rw [k]; exact hw
  · exact h _ _ hw
section
variable {e e' : Env} (hl : Le e e')
include hl
theorem ev_mono {a : Atom} {v : Value} (h : a.ev e = some v) : a.ev e' = some v := by
  cases a with
  | tmp t => exact hl t v h
  | const w => exact h
theorem evs_mono : ∀ {l : List Atom} {vs : List Value}, evs e l = some vs → evs e' l = some vs
  | [], vs, h => h
  | a :: l, vs, h => by
    simp only [evs] at h ⊢
    split at h
    · rename_i v r h1 h2
      rw [ev_mono hl h1, evs_mono h2]; exact h
    · cases h
theorem fillA_mono : ∀ {l : List (Nat × Nat × Atom)} {c vs : List Value}, fillA e l c = some vs → fillA e' l c = some vs
  | [], c, vs, h => h
  | (o, s, a) :: l, c, vs, h => by
    simp only [fillA] at h ⊢
    split at h
    · rename_i v h1
      rw [ev_mono hl h1]
      simp only
      split at h
      · rename_i hc; rw [if_pos hc]; exact fillA_mono h
      · cases h
    · cases h
theorem bnd_mono {x : Option Atom} {d y n : Nat} (h : bnd e x d y = some n) : bnd e' x d y = some n := by
  cases x with
  | none => exact h
  | some a =>
    simp only [bnd] at h ⊢
    cases ha : a.ev e with
    | none => rw [ha] at h; cases h
    | some v => rw [ha] at h; rw [ev_mono hl ha]; exact h
theorem bnds_mono {lo hi mx : Option Atom} {len cap : Nat} {r : Nat × Nat × Nat} (h : bnds e len cap lo hi mx = some r) : bnds e' len cap lo hi mx = some r := by
  unfold bnds at h ⊢
  split at h
  · cases h
  · rename_i m h1
    rw [bnd_mono hl h1]
    simp only
    split at h
    · cases h
    · rename_i hh h2
      rw [bnd_mono hl h2]
      simp only
      split at h
      · cases h
      · rename_i l h3
        rw [bnd_mono hl h3]; exact h
theorem hint_mono {h : Option Atom} {u : Unit} (k : hintOk e h = some u) : hintOk e' h = some u := by
  cases h with
  | none => exact k
  | some a =>
    simp only [hintOk] at k ⊢
    cases ha : a.ev e with
    | none => rw [ha] at k; cases k
    | some v => rw [ha] at k; rw [ev_mono hl ha]; exact k
omit hl in
theorem lift_mono {o o' : Option α} {f g : α → M β} {r : β × St} (h : ∀ a, o = some a → o' = some a) (k : ∀ a, o = some a → f a S = some r → g a S = some r) (hr : (M.lift o).bind f S = some r) : (M.lift o').bind g S = some r := by
  cases ho : o with
  | none => rw [ho] at hr; cases hr
  | some a =>
    rw [ho] at hr
    rw [h a ho]
    exact k a ho hr
theorem evI_mono {a : Atom} {n : Int} (h : (a.ev e).bind asInt = some n) : (a.ev e').bind asInt = some n := by
  cases ha : a.ev e with
  | none => rw [ha] at h; cases h
  | some v => rw [ha] at h; rw [ev_mono hl ha]; exact h
theorem evB_mono {a : Atom} {n : Bool} (h : (a.ev e).bind asBool = some n) : (a.ev e').bind asBool = some n := by
  cases ha : a.ev e with
  | none => rw [ha] at h; cases h
  | some v => rw [ha] at h; rw [ev_mono hl ha]; exact h
theorem exec_mono (call : Tgt → List Value → M Value) (op : AOp) {S : St} {r : Value × St} (h : exec call e op S = some r) : exec call e' op S = some r := by
  cases op
  case pick c a b =>
    refine lift_mono (fun t ht => evB_mono hl ht) (fun t _ h => ?_) h
    refine lift_mono (fun v hv => ?_) (fun _ _ h => h) h
    split at hv
    · rename_i ht; rw [if_pos ht]; exact ev_mono hl hv
    · rename_i ht; rw [if_neg ht]; exact ev_mono hl hv
  case slc s x lo hi mx =>
    refine lift_mono (fun v hv => ev_mono hl hv) (fun v _ h => ?_) h
    cases v with
    | slice p n c =>
      cases p with
      | none => exact lift_mono (fun v hv => bnds_mono hl hv) (fun _ _ h => h) h
      | some p => exact lift_mono (fun v hv => bnds_mono hl hv) (fun _ _ h => h) h
    | _ => exact h
  case slcS x lo hi =>
    refine lift_mono (fun v hv => ev_mono hl hv) (fun v _ h => ?_) h
    cases v <;> try exact h
    exact lift_mono (fun v hv => bnds_mono hl hv) (fun _ _ h => h) h
  case slcA n s x lo hi mx =>
    refine lift_mono (fun v hv => ev_mono hl hv) (fun v _ h => ?_) h
    cases v with
    | pointer p =>
      cases p with
      | none => exact h
      | some p => exact lift_mono (fun v hv => bnds_mono hl hv) (fun _ _ h => h) h
    | _ => exact h
  case mkmap hh => exact lift_mono (fun v hv => hint_mono hl hv) (fun _ _ h => h) h
  case panic => cases h
  all_goals
    first
    | exact h
    | exact lift_mono (fun v hv => ev_mono hl hv) (fun _ _ h => h) h
    | exact lift_mono (fun v hv => evs_mono hl hv) (fun _ _ h => h) h
    | exact lift_mono (fun v hv => fillA_mono hl hv) (fun _ _ h => h) h
    | exact lift_mono (fun v hv => ev_mono hl hv) (fun _ _ h => lift_mono (fun v hv => ev_mono hl hv) (fun _ _ h => h) h) h
    | exact lift_mono (fun v hv => ev_mono hl hv) (fun _ _ h => lift_mono (fun v hv => evI_mono hl hv) (fun _ _ h => h) h) h
    | exact lift_mono (fun v hv => evI_mono hl hv) (fun _ _ h => lift_mono (fun v hv => evI_mono hl hv) (fun _ _ h => h) h) h
    | exact lift_mono (fun v hv => ev_mono hl hv) (fun _ _ h => lift_mono (fun v hv => evs_mono hl hv) (fun _ _ h => h) h) h
    | exact lift_mono (fun v hv => evs_mono hl hv) (fun _ _ h => lift_mono (fun v hv => evs_mono hl hv) (fun _ _ h => h) h) h
    | exact lift_mono (fun v hv => ev_mono hl hv) (fun _ _ h => lift_mono (fun v hv => ev_mono hl hv) (fun _ _ h => lift_mono (fun v hv => ev_mono hl hv) (fun _ _ h => h) h) h) h
    | exact lift_mono (fun v hv => ev_mono hl hv) (fun _ _ h => lift_mono (fun v hv => evI_mono hl hv) (fun _ _ h => lift_mono (fun v hv => ev_mono hl hv) (fun _ _ h => h) h) h) h
end
/-- no range over a function in it -/
def noRange : ACode → Bool
  | .seq a b => noRange a && noRange b
  | .cond _ a b => noRange a && noRange b
  | .block _ a => noRange a
  | .loop a => noRange a
  | .range .. => false
  | _ => true
section
variable {call : Tgt → List Value → M Value}
theorem instr_mono {i : AInstr} {e e' e1 : Env} {S S' : St} (hl : Le e e') (h : instr call i e S = some (e1, S')) : ∃ e2, instr call i e' S = some (e2, S') ∧ Le e1 e2 := by
  unfold instr at h ⊢
  cases hg : i.guard with
  | none =>
    rw [hg] at h
    simp only [M.bind] at h ⊢
    cases hx : exec call e i.op S with
    | none => rw [hx] at h; cases h
    | some p =>
      obtain ⟨v, S1⟩ := p
      rw [hx] at h
      rw [exec_mono hl call i.op hx]
      simp only [M.pure, Option.some.injEq, Prod.mk.injEq] at h ⊢
      obtain ⟨rfl, rfl⟩ := h
      exact ⟨_, ⟨rfl, rfl⟩, hl.putD _ _⟩
  | some g =>
    obtain ⟨t, w⟩ := g
    rw [hg] at h
    simp only [M.bind, M.lift] at h ⊢
    cases hv : e.get t with
    | none => rw [hv] at h; cases h
    | some v =>
      rw [hv] at h
      rw [hl _ _ hv]
      simp only [Option.bind_some] at h ⊢
      cases hw : wanted w v with
      | none => rw [hw] at h; cases h
      | some b =>
        rw [hw] at h
        simp only at h ⊢
        cases b with
        | false =>
          simp only [Bool.false_eq_true, if_false, M.pure, Option.some.injEq, Prod.mk.injEq] at h ⊢
          obtain ⟨rfl, rfl⟩ := h
          exact ⟨_, ⟨rfl, rfl⟩, hl.putD _ _⟩
        | true =>
          simp only [if_true, M.bind] at h ⊢
          cases hx : exec call e i.op S with
          | none => rw [hx] at h; cases h
          | some p =>
            obtain ⟨v, S1⟩ := p
            rw [hx] at h
            rw [exec_mono hl call i.op hx]
            simp only [M.pure, Option.some.injEq, Prod.mk.injEq] at h ⊢
            obtain ⟨rfl, rfl⟩ := h
            exact ⟨_, ⟨rfl, rfl⟩, hl.putD _ _⟩
theorem instrs_mono : ∀ {l : List AInstr} {e e' e1 : Env} {S S' : St}, Le e e' → instrs call l e S = some (e1, S') → ∃ e2, instrs call l e' S = some (e2, S') ∧ Le e1 e2
  | [], e, e', e1, S, S', hl, h => by cases h; exact ⟨e', rfl, hl⟩
  | i :: l, e, e', e1, S, S', hl, h => by
    simp only [instrs, M.bind] at h ⊢
    cases hi : instr call i e S with
    | none => rw [hi] at h; cases h
    | some p =>
      obtain ⟨e2, S1⟩ := p
      rw [hi] at h
      obtain ⟨e3, h1, h2⟩ := instr_mono hl hi
      rw [h1]
      exact instrs_mono h2 h
theorem drawnGo_mono : ∀ {l : List AInstr} {j : Nat} {ts r : List (Nat × Touch)} {e e' e1 : Env} {S S' : St}, Le e e' → drawnGo call l j e ts S = some ((e1, r), S') → ∃ e2, drawnGo call l j e' ts S = some ((e2, r), S') ∧ Le e1 e2
  | [], j, ts, r, e, e', e1, S, S', hl, h => by
    simp only [drawnGo, M.pure, Option.some.injEq, Prod.mk.injEq] at h ⊢
    obtain ⟨⟨rfl, rfl⟩, rfl⟩ := h
    exact ⟨e', ⟨⟨rfl, rfl⟩, rfl⟩, hl⟩
  | i :: l, j, ts, r, e, e', e1, S, S', hl, h => by
    simp only [drawnGo] at h ⊢
    cases hi : instr call i e { heap := S.heap, next := S.next, log := [] } with
    | none => rw [hi] at h; cases h
    | some p =>
      obtain ⟨e2, S1⟩ := p
      rw [hi] at h
      obtain ⟨e3, h1, h2⟩ := instr_mono hl hi
      rw [h1]
      exact drawnGo_mono h2 h
theorem iter_mono {body : Env → M (Ext × Env)} (hb : ∀ (e e' e1 : Env) (x : Ext) (S S' : St), Le e e' → body e S = some ((x, e1), S') → ∃ e2, body e' S = some ((x, e2), S') ∧ Le e1 e2) :
    ∀ (n : Nat) {e e' e1 : Env} {x : Ext} {S S' : St}, Le e e' → iter body n e S = some ((x, e1), S') → ∃ e2, iter body n e' S = some ((x, e2), S') ∧ Le e1 e2
  | 0, e, e', e1, x, S, S', hl, h => by cases h
  | n + 1, e, e', e1, x, S, S', hl, h => by
    simp only [iter, M.bind] at h ⊢
    cases hx : body e S with
    | none => rw [hx] at h; cases h
    | some p =>
      obtain ⟨⟨y, e2⟩, S1⟩ := p
      rw [hx] at h
      obtain ⟨e3, h1, h2⟩ := hb _ _ _ _ _ _ hl hx
      rw [h1]
      cases y with
      | normal => exact iter_mono hb n h2 h
      | exit i => simp only [M.pure, Option.some.injEq, Prod.mk.injEq] at h ⊢; obtain ⟨⟨rfl, rfl⟩, rfl⟩ := h; exact ⟨e3, ⟨⟨rfl, rfl⟩, rfl⟩, h2⟩
      | ret => simp only [M.pure, Option.some.injEq, Prod.mk.injEq] at h ⊢; obtain ⟨⟨rfl, rfl⟩, rfl⟩ := h; exact ⟨e3, ⟨⟨rfl, rfl⟩, rfl⟩, h2⟩
theorem run_mono (fuel : Nat) : ∀ (c : ACode), noRange c = true → ∀ {e e' e1 : Env} {x : Ext} {S S' : St}, Le e e' → run call fuel c e S = some ((x, e1), S') → ∃ e2, run call fuel c e' S = some ((x, e2), S') ∧ Le e1 e2
  | .skip, _, e, e', e1, x, S, S', hl, h => by cases h; exact ⟨e', rfl, hl⟩
  | .exit i, _, e, e', e1, x, S, S', hl, h => by cases h; exact ⟨e', rfl, hl⟩
  | .ret, _, e, e', e1, x, S, S', hl, h => by cases h; exact ⟨e', rfl, hl⟩
  | .range .., hn, e, e', e1, x, S, S', hl, h => by cases hn
  | .ops l, _, e, e', e1, x, S, S', hl, h => by
    simp only [run, M.bind] at h ⊢
    cases hx : instrs call l e S with
    | none => rw [hx] at h; cases h
    | some p =>
      obtain ⟨e2, S1⟩ := p
      rw [hx] at h
      obtain ⟨e3, h1, h2⟩ := instrs_mono hl hx
      rw [h1]
      simp only [M.pure, Option.some.injEq, Prod.mk.injEq] at h ⊢; obtain ⟨⟨rfl, rfl⟩, rfl⟩ := h; exact ⟨e3, ⟨⟨rfl, rfl⟩, rfl⟩, h2⟩
  | .drawn l ms, _, e, e', e1, x, S, S', hl, h => by
    simp only [run, drawnA, M.bind] at h ⊢
    cases hx : drawnGo call l 0 e [] S with
    | none => rw [hx] at h; cases h
    | some p =>
      obtain ⟨⟨e2, r⟩, S1⟩ := p
      rw [hx] at h
      obtain ⟨e3, h1, h2⟩ := drawnGo_mono hl hx
      rw [h1]
      simp only at h ⊢
      cases hb : apartAll ms r with
      | false => rw [hb] at h; cases h
      | true =>
        rw [hb] at h
        simp only [if_true, M.pure, Option.some.injEq, Prod.mk.injEq] at h ⊢; obtain ⟨⟨rfl, rfl⟩, rfl⟩ := h; exact ⟨e3, ⟨⟨rfl, rfl⟩, rfl⟩, h2⟩
  | .seq a b, hn, e, e', e1, x, S, S', hl, h => by
    simp only [noRange, Bool.and_eq_true] at hn
    simp only [run, M.bind] at h ⊢
    cases hx : run call fuel a e S with
    | none => rw [hx] at h; cases h
    | some p =>
      obtain ⟨⟨y, e2⟩, S1⟩ := p
      rw [hx] at h
      obtain ⟨e3, h1, h2⟩ := run_mono fuel a hn.1 hl hx
      rw [h1]
      cases y with
      | normal => exact run_mono fuel b hn.2 h2 h
      | exit i => simp only [M.pure, Option.some.injEq, Prod.mk.injEq] at h ⊢; obtain ⟨⟨rfl, rfl⟩, rfl⟩ := h; exact ⟨e3, ⟨⟨rfl, rfl⟩, rfl⟩, h2⟩
      | ret => simp only [M.pure, Option.some.injEq, Prod.mk.injEq] at h ⊢; obtain ⟨⟨rfl, rfl⟩, rfl⟩ := h; exact ⟨e3, ⟨⟨rfl, rfl⟩, rfl⟩, h2⟩
  | .cond c a b, hn, e, e', e1, x, S, S', hl, h => by
    simp only [noRange, Bool.and_eq_true] at hn
    simp only [run, M.bind, M.lift] at h ⊢
    cases hc : (c.ev e).bind asBool with
    | none => rw [hc] at h; cases h
    | some t =>
      rw [hc] at h
      rw [evB_mono hl hc]
      cases t with
      | true => exact run_mono fuel a hn.1 hl h
      | false => exact run_mono fuel b hn.2 hl h
  | .block id a, hn, e, e', e1, x, S, S', hl, h => by
    simp only [noRange] at hn
    simp only [run, M.bind] at h ⊢
    cases hx : run call fuel a e S with
    | none => rw [hx] at h; cases h
    | some p =>
      obtain ⟨⟨y, e2⟩, S1⟩ := p
      rw [hx] at h
      obtain ⟨e3, h1, h2⟩ := run_mono fuel a hn hl hx
      rw [h1]
      cases y with
      | normal => simp only [M.pure, Option.some.injEq, Prod.mk.injEq] at h ⊢; obtain ⟨⟨rfl, rfl⟩, rfl⟩ := h; exact ⟨e3, ⟨⟨rfl, rfl⟩, rfl⟩, h2⟩
      | ret => simp only [M.pure, Option.some.injEq, Prod.mk.injEq] at h ⊢; obtain ⟨⟨rfl, rfl⟩, rfl⟩ := h; exact ⟨e3, ⟨⟨rfl, rfl⟩, rfl⟩, h2⟩
      | exit i =>
        simp only at h ⊢
        split at h
        · rename_i hi; rw [if_pos hi]; simp only [M.pure, Option.some.injEq, Prod.mk.injEq] at h ⊢; obtain ⟨⟨rfl, rfl⟩, rfl⟩ := h; exact ⟨e3, ⟨⟨rfl, rfl⟩, rfl⟩, h2⟩
        · rename_i hi; rw [if_neg hi]; simp only [M.pure, Option.some.injEq, Prod.mk.injEq] at h ⊢; obtain ⟨⟨rfl, rfl⟩, rfl⟩ := h; exact ⟨e3, ⟨⟨rfl, rfl⟩, rfl⟩, h2⟩
  | .loop a, hn, e, e', e1, x, S, S', hl, h => by
    simp only [noRange] at hn
    exact iter_mono (body := run call fuel a) (fun _ _ _ _ _ _ hl h => run_mono fuel a hn hl h) fuel hl h
/-- a piece of code, where more is known than it asks for -/
theorem codeV_at {n : Nat} {c : ACode} {e0 e e1 : Env} {x : Ext} {S S' : St} (hn : noRange c = true) (hl : Le e0 e) (h : run call n c e0 S = some ((x, e1), S')) (k : Ext → Env → St → Option ρ) : ∃ e2, codeV call n c e k S = k x e2 S' ∧ Le e1 e2 := by
  obtain ⟨e2, h1, h2⟩ := run_mono n c hn hl h
  exact ⟨e2, by rw [codeV_eq, k_some h1], h2⟩
end
theorem endV_one {t : Nat} {e : Env} {v : Value} (h : e.get t = some v) {x : Ext} (hx : x = .normal ∨ x = .ret) (S : St) : endV [.tmp t] (fun v S => some (v, S)) x e S = some (v, S) := by
  rcases hx with rfl | rfl <;> simp [endV, tupV, M.k, resAll, resV, M.bind, M.lift, h, M.pure]
end Go.Wb
