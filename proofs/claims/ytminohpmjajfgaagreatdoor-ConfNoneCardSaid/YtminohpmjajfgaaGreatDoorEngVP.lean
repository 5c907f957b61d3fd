/- The engine: EngV EngW EngZ EngP. It proves nothing of the program by itself; it has no conditions. -/
import Derived.Test.YtminohpmjajfgaaGreatDoorEngLO
import Derived.Test.YtminohpmjajfgaaGreatDoorEngBA
/- The engine, part V: a function's code as a text over values: what comes behind is an argument, each operation is a box. -/
section
set_option linter.unusedSimpArgs false
set_option linter.unusedVariables false
namespace Go.Wb
variable {ρ : Type} {α β : Type}

/-- an operation on values -/
def X (call : Tgt → List Value → M Value) (op : AOp) : M Value := exec call .leaf op
/-- an operation behind a guard -/
def G (w : Option Bool) (m : M Value) : M Value := match w with
  | none => M.fail
  | some true => m
  | some false => M.pure undef
/-- one of a region that draws: what it touched is noted -/
def dstep (j : Nat) (ts : List (Nat × Touch)) (m : M Value) (k : Value → List (Nat × Touch) → St → Option ρ) (S : St) : Option ρ := match m { heap := S.heap, next := S.next, log := [] } with
  | none => none
  | some (v, s') => k v (keepT j { log := s'.log, lo := S.next, hi := s'.next } ts) { heap := s'.heap, next := s'.next, log := s'.log ++ S.log }
def ifK (b : Option Bool) (x y : St → Option ρ) (S : St) : Option ρ := match b with
  | none => none
  | some true => x S
  | some false => y S
/-- behind the first of two, behind a block -/
def contS (kb : Env → St → Option ρ) (k : Ext → Env → St → Option ρ) (x : Ext) (e : Env) (S : St) : Option ρ := match x with
  | .normal => kb e S
  | x => k x e S
def contB (id : Nat) (k : Ext → Env → St → Option ρ) (x : Ext) (e : Env) (S : St) : Option ρ := match x with
  | .exit i => match Nat.beq i id with
    | true => k .normal e S
    | false => k (.exit i) e S
  | x => k x e S
/-- the touches are apart -/
def okK (b : Bool) (x : St → Option ρ) (S : St) : Option ρ := match b with
  | true => x S
  | false => none

section
variable (call : Tgt → List Value → M Value)
def valM (i : AInstr) (e : Env) : M Value := match i.guard with
  | none => exec call e i.op
  | some (t, want) => G ((e.get t).bind (wanted want)) (exec call e i.op)
/-- a plain move: nothing is seen of it -/
def movOf (i : AInstr) : Option (Nat × Atom) := match i.dst, i.guard, i.op with
  | some d, none, .mov a => some (d, a)
  | _, _, _ => none
def instrsV : List AInstr → Env → (Env → St → Option ρ) → St → Option ρ
  | [], e, k, S => k e S
  | i :: r, e, k, S => match movOf i with
    | some (d, a) => (match a.ev e with
      | none => none
      | some v => instrsV r (e.set d (some v)) k S)
    | none => M.k (valM call i e) (fun v S => instrsV r (putD e i.dst v) k S) S
def drawnV (ms : List Nat) : List AInstr → Nat → Env → List (Nat × Touch) → (Env → St → Option ρ) → St → Option ρ
  | [], _, e, ts, k, S => okK (apartAll ms ts) (fun S => k e S) S
  | i :: r, j, e, ts, k, S => dstep j ts (valM call i e) (fun v ts S => drawnV ms r (j + 1) (putD e i.dst v) ts k S) S
def codeV (fuel : Nat) : ACode → Env → (Ext → Env → St → Option ρ) → St → Option ρ
  | .skip, e, k, S => k .normal e S
  | .ops l, e, k, S => instrsV call l e (fun e S => k .normal e S) S
  | .drawn l ms, e, k, S => drawnV call ms l 0 e [] (fun e S => k .normal e S) S
  | .seq a b, e, k, S => codeV fuel a e (contS (fun e S => codeV fuel b e k S) k) S
  | .cond c a b, e, k, S => ifK ((c.ev e).bind asBool) (fun S => codeV fuel a e k S) (fun S => codeV fuel b e k S) S
  | .block id a, e, k, S => codeV fuel a e (contB id k) S
  | .loop a, e, k, S => M.k (iter (run call fuel a) fuel e) (fun r S => k r.1 r.2 S) S
  | .range f ps as bd, e, k, S => M.k (run call fuel (.range f ps as bd) e) (fun r S => k r.1 r.2 S) S
  | .exit id, e, k, S => k (.exit id) e S
  | .ret, e, k, S => k .ret e S
end
/-- a function's end -/
def tupV (k : Value → St → Option ρ) (vs : List Value) (S : St) : Option ρ := match vs with
  | [v] => k v S
  | vs => k (.tuple vs.toArray) S
def endV (rs : List ARes) (k : Value → St → Option ρ) (x : Ext) (e : Env) (S : St) : Option ρ := match x with
  | .exit _ => none
  | _ => M.k (resAll e rs) (tupV k) S

theorem k_fun_congr {m : M α} {k k' : α → St → Option ρ} (h : ∀ a, k a = k' a) : M.k m k = M.k m k' := by
  have : k = k' := funext h
  rw [this]
variable {call : Tgt → List Value → M Value}
theorem instr_valM (i : AInstr) (e : Env) : instr call i e = (valM call i e).bind fun v => M.pure (putD e i.dst v) := by
  unfold instr valM
  cases i.guard with
  | none => rfl
  | some g =>
    obtain ⟨t, want⟩ := g
    funext S
    simp only [M.bind, M.lift]
    cases (e.get t).bind (wanted want) with
    | none => rfl
    | some b => cases b <;> rfl
theorem instrsV_eq : ∀ (l : List AInstr) (e : Env) (k : Env → St → Option ρ) (S : St), instrsV call l e k S = M.k (instrs call l e) k S
  | [], e, k, S => rfl
  | i :: r, e, k, S => by
    have plain : M.k (valM call i e) (fun v S => instrsV call r (putD e i.dst v) k S) S = M.k (instrs call (i :: r) e) k S := by
      simp only [instrs, M.k_bind, instr_valM]
      refine M.k_congr fun v S' => ?_
      rw [instrsV_eq r]
      rfl
    simp only [instrsV]
    cases hm : movOf i with
    | none => exact plain
    | some p =>
      obtain ⟨d, a⟩ := p
      rw [← plain]
      unfold movOf at hm
      split at hm
      · rename_i d' a' h1 h2 h3
        simp only [Option.some.injEq, Prod.mk.injEq] at hm
        obtain ⟨rfl, rfl⟩ := hm
        simp only [valM, h1, h2, h3, exec, M.k, M.bind, M.lift]
        cases a'.ev e <;> rfl
      · cases hm
theorem drawnV_eq (ms : List Nat) : ∀ (l : List AInstr) (j : Nat) (e : Env) (ts : List (Nat × Touch)) (k : Env → St → Option ρ) (S : St), drawnV call ms l j e ts k S = M.k (drawnGo call l j e ts) (fun r => okK (apartAll ms r.2) (k r.1)) S
  | [], j, e, ts, k, S => rfl
  | i :: r, j, e, ts, k, S => by
    simp only [drawnV, dstep, M.k, drawnGo, instr_valM, M.bind]
    cases valM call i e { heap := S.heap, next := S.next, log := [] } with
    | none => rfl
    | some p =>
      obtain ⟨v, s'⟩ := p
      simp only [M.pure]
      rw [drawnV_eq ms r]
      rfl
theorem codeV_eq (fuel : Nat) : ∀ (c : ACode) (e : Env) (k : Ext → Env → St → Option ρ) (S : St), codeV call fuel c e k S = M.k (run call fuel c e) (fun r => k r.1 r.2) S
  | .skip, e, k, S => rfl
  | .exit id, e, k, S => rfl
  | .ret, e, k, S => rfl
  | .loop a, e, k, S => rfl
  | .range f ps as bd, e, k, S => rfl
  | .ops l, e, k, S => by
    simp only [codeV, run, instrsV_eq, M.k_bind]; rfl
  | .drawn l ms, e, k, S => by
    simp only [codeV, run, drawnA, drawnV_eq, M.k_bind]
    refine M.k_congr fun r S' => ?_
    cases apartAll ms r.2 <;> rfl
  | .seq a b, e, k, S => by
    simp only [codeV, run, M.k_bind]
    rw [codeV_eq fuel a]
    refine M.k_congr fun r S' => ?_
    obtain ⟨x, e'⟩ := r
    cases x with
    | normal => simp only [contS]; rw [codeV_eq fuel b]
    | exit id => rfl
    | ret => rfl
  | .cond c a b, e, k, S => by
    simp only [codeV, run, ifK, M.k_bind, M.k_lift]
    cases (c.ev e).bind asBool with
    | none => rfl
    | some t => cases t <;> simp only <;> rw [codeV_eq fuel]
  | .block id a, e, k, S => by
    simp only [codeV, run, M.k_bind]
    rw [codeV_eq fuel a]
    refine M.k_congr fun r S' => ?_
    obtain ⟨x, e'⟩ := r
    cases x with
    | normal => rfl
    | ret => rfl
    | exit i =>
      simp only [contB]
      by_cases h : i = id
      · subst h
        rw [if_pos rfl]
        have : Nat.beq i i = true := by simp
        rw [this]; rfl
      · rw [if_neg h]
        have : Nat.beq i id = false := by rw [Bool.eq_false_iff]; intro c; exact h (Nat.eq_of_beq_eq_true c)
        rw [this]; rfl
/-- a call of a function, by its code -/
theorem callV {F : Nat → Option AFn} {n : Nat} {f : FuncId} {af : AFunc} {args : List Value} (hF : F f = some (.go af)) (hl : args.length = af.nparams) (S : St) :
    callN F (n + 1) (.fn f) args S = codeV (callN F n) n af.body (argsEnv args 0 .leaf) (endV af.results fun v S => some (v, S)) S := by
  rw [codeV_eq]
  simp only [callN, hF, hl, if_true]
  simp only [M.bind, M.k]
  cases run (callN F n) n af.body (argsEnv args 0 .leaf) S with
  | none => rfl
  | some p =>
    obtain ⟨⟨x, e'⟩, S'⟩ := p
    have key : (M.bind (resAll e' af.results) fun vs => match vs with | [v] => M.pure v | vs => M.pure (.tuple vs.toArray)) S' = M.k (resAll e' af.results) (tupV fun v S => some (v, S)) S' := by
      simp only [M.bind, M.k]
      cases resAll e' af.results S' with
      | none => rfl
      | some q => obtain ⟨vs, S2⟩ := q; simp only [tupV]; split <;> rfl
    cases x with
    | exit id => rfl
    | normal => simp only [endV]; rw [← key]; rfl
    | ret => simp only [endV]; rw [← key]; rfl
def sL : ACode → ACode | .seq a _ => a | c => c
def sR : ACode → ACode | .seq _ b => b | c => c
def cA : ACode → ACode | .cond _ a _ => a | c => c
def cB : ACode → ACode | .cond _ _ b => b | c => c
def bB : ACode → ACode | .block _ a => a | c => c
def lB : ACode → ACode | .loop a => a | c => c
def rA : ACode → ACode | .range _ _ a _ => a | c => c
def rB : ACode → ACode | .range _ _ _ b => b | c => c
def goOf : Option AFn → AFunc | some (.go a) => a | _ => { nparams := 0, results := [], body := .skip }
def bodyOf (o : Option AFn) : ACode := (goOf o).body
end Go.Wb
end
/- The engine, part W: what the boxes of a text are; more in an environment than is asked for does no harm. -/
section
set_option linter.unusedSimpArgs false
set_option linter.unusedVariables false
namespace Go.Wb
variable {ρ : Type} {α β : Type}
variable {C : Tgt → List Value → M Value} {S : St}

/-! ## States -/
def St.saw (S : St) (b : Nat) : St := { heap := S.heap, next := S.next, log := (b, false) :: S.log }
def St.put (S : St) (b : Nat) (o : Option Blk) : St := { heap := S.heap.set b o, next := S.next, log := (b, true) :: S.log }
def St.add (S : St) (o : Blk) : St := { heap := S.heap.set S.next (some o), next := S.next + 1, log := S.log }
@[simp] theorem St.saw_heap (b : Nat) : (S.saw b).heap = S.heap := id rfl
@[simp] theorem St.saw_next (b : Nat) : (S.saw b).next = S.next := id rfl
@[simp] theorem St.saw_log (b : Nat) : (S.saw b).log = (b, false) :: S.log := id rfl
@[simp] theorem St.put_next (b : Nat) (o : Option Blk) : (S.put b o).next = S.next := id rfl
@[simp] theorem St.put_heap (b : Nat) (o : Option Blk) (c : Nat) : (S.put b o).heap.get c = if c = b then o else S.heap.get c := Tr.get_set _ _ _ _
@[simp] theorem St.put_log (b : Nat) (o : Option Blk) : (S.put b o).log = (b, true) :: S.log := id rfl
@[simp] theorem St.add_next (o : Blk) : (S.add o).next = S.next + 1 := id rfl
@[simp] theorem St.add_heap (o : Blk) (c : Nat) : (S.add o).heap.get c = if c = S.next then some o else S.heap.get c := Tr.get_set _ _ _ _
@[simp] theorem St.add_log (o : Blk) : (S.add o).log = S.log := id rfl

/-! ## Continuations -/
theorem k_pure (a : α) (k : α → St → Option ρ) : M.k (M.pure a) k S = k a S := id rfl
theorem k_lift (a : α) (k : α → St → Option ρ) : M.k (M.lift (some a)) k S = k a S := id rfl
theorem k_lift_bind (a : α) (f : α → M β) (k : β → St → Option ρ) : M.k ((M.lift (some a)).bind f) k S = M.k (f a) k S := id rfl
theorem k_nw (o : Blk) (k : Nat → St → Option ρ) : M.k (nw o) k S = k S.next (S.add o) := id rfl
theorem k_some {m : M α} {a : α} {S' : St} (h : m S = some (a, S')) (k : α → St → Option ρ) : M.k m k S = k a S' := by simp only [M.k, h]
theorem k_ld1 {b o : Nat} {x : Option Nat} {s : Bool} {l : List Value} {v : Value} (h : S.heap.get b = some (.cells x s l)) (hv : l[o]? = some v) (k : Value → St → Option ρ) : M.k (ld1 b o) k S = k v (S.saw b) := by
  simp [M.k, ld1, M.bind, rd, h, M.lift, hv, St.saw]
theorem k_ldCells {b o n : Nat} {x : Option Nat} {s : Bool} {l : List Value} (h : S.heap.get b = some (.cells x s l)) (hn : o + n ≤ l.length) (k : List Value → St → Option ρ) : M.k (ldCells b o n) k S = k ((l.drop o).take n) (S.saw b) := by
  simp [M.k, ldCells, M.bind, rd, h, M.pure, hn, St.saw]
theorem k_stCells {b o : Nat} {x : Option Nat} {s : Bool} {l vs : List Value} (h : S.heap.get b = some (.cells x s l)) (hn : o + vs.length ≤ l.length) (hc : vs.all (·.oneCell') = true) (k : Unit → St → Option ρ) :
    M.k (stCells b o vs) k S = k () ((S.saw b).put b (some (.cells x s (splice l o vs)))) := by
  simp [M.k, stCells, M.bind, rd, h, wr, hn, hc, St.saw, St.put]

/-- what stands at a place of a block -/
def vK (o : Option Value) (f : Value → Option ρ) : Option ρ := match o with | none => none | some v => f v
def ldK (b : Option Blk) (o : Nat) (f : Value → Option ρ) : Option ρ := match b with | some (.cells _ _ l) => vK l[o]? f | _ => none
def ldsK (b : Option Blk) (o n : Nat) (f : List Value → Option ρ) : Option ρ := match b with | some (.cells _ _ l) => if o + n ≤ l.length then f ((l.drop o).take n) else none | _ => none
def stK (b : Option Blk) (o : Nat) (vs : List Value) (f : Blk → Option ρ) : Option ρ := match b with | some (.cells x s l) => if o + vs.length ≤ l.length ∧ vs.all (·.oneCell') = true then f (.cells x s (splice l o vs)) else none | _ => none
theorem vK_some (v : Value) (f : Value → Option ρ) : vK (some v) f = f v := id rfl
theorem ldK_cells (x : Option Nat) (s : Bool) (l : List Value) (o : Nat) (f : Value → Option ρ) : ldK (some (.cells x s l)) o f = vK l[o]? f := id rfl
theorem ldsK_cells (x : Option Nat) (s : Bool) (l : List Value) (o n : Nat) (f : List Value → Option ρ) : ldsK (some (.cells x s l)) o n f = if o + n ≤ l.length then f ((l.drop o).take n) else none := id rfl
theorem stK_cells (x : Option Nat) (s : Bool) (l : List Value) (o : Nat) (vs : List Value) (f : Blk → Option ρ) : stK (some (.cells x s l)) o vs f = if o + vs.length ≤ l.length ∧ vs.all (·.oneCell') = true then f (.cells x s (splice l o vs)) else none := id rfl
/-! ## Boxes -/
theorem X_mov (v : Value) : X C (.mov (.const v)) = M.pure v := id rfl
theorem X_pick (c : Bool) (a b : Value) : X C (.pick (.const (.bool c)) (.const a) (.const b)) = M.pure (if c then a else b) := by cases c <;> rfl
theorem X_bin (op : BinOp) (x y : Value) : X C (.bin op (.const x) (.const y)) = M.lift (binV op x y) := by
  funext S
  simp only [X, exec, M.bind, M.lift, Atom.ev]
  cases binV op x y <;> rfl
theorem X_un (op : UnOp) (x : Value) : X C (.un op (.const x)) = M.lift (unV op x) := by
  funext S
  simp only [X, exec, M.bind, M.lift, Atom.ev]
  cases unV op x <;> rfl
theorem X_eq (n : Bool) (k : EqK) (x y : Value) : X C (.eq n k (.const x) (.const y)) = M.lift ((eqV k x y).map fun t => .bool (if n then !t else t)) := by
  funext S
  simp only [X, exec, M.bind, M.lift, Atom.ev]
  cases eqV k x y <;> rfl
theorem X_convI (k k' : IntKind) (n : Int) : X C (.conv (.int k) (.const (.int k' n))) = M.pure (.int k (k.wrap n)) := id rfl
theorem X_ext (vs : List Value) (i : Nat) : X C (.ext (.const (.tuple ⟨vs⟩)) i) = M.lift vs[i]? := by
  funext S
  simp only [X, exec, M.bind, M.lift, Atom.ev]
  cases vs[i]? <;> rfl
theorem X_fld (sh : Sh) (o : Nat) (cs : List Value) : X C (.fld sh o (.const (.agg ⟨cs⟩))) = M.lift (partOf sh cs o) := by
  funext S
  simp only [X, exec, M.bind, M.lift, Atom.ev]
  cases partOf sh cs o <;> rfl
theorem X_fldA (o : Nat) (p : Addr) : X C (.fldA o (.const (.pointer (some p)))) = M.pure (.pointer (some ⟨p.block, p.off + o, none⟩)) := id rfl
theorem X_nil (p : Addr) : X C (.nilchk (.const (.pointer (some p)))) = M.pure (.pointer (some p)) := id rfl
theorem X_box (t : TypeId) (v : Value) : X C (.box t (.const v)) = (nw (.cells none false v.cells.toList)).bind fun b => M.pure (.pointer (some ⟨b, 0, none⟩)) := id rfl
theorem X_alloc (t : TypeId) (z : List Value) : X C (.alloc t z) = (nw (.cells none false z)).bind fun b => M.pure (.pointer (some ⟨b, 0, none⟩)) := id rfl
theorem X_build (z : List Value) (p : List (Nat × Nat × Atom)) : X C (.build z p) = M.lift ((fillA .leaf p z).map fun c => .agg ⟨c⟩) := by
  funext S
  simp only [X, exec, M.bind, M.lift]
  cases fillA .leaf p z <;> rfl
theorem X_bslice (t : TypeId) (n : Nat) (z : List Value) (p : List (Nat × Nat × Atom)) : X C (.bslice t n z p) = (M.lift (fillA .leaf p z)).bind fun c => (nw (.cells none false c)).bind fun b => M.pure (.slice (some ⟨b, 0, none⟩) n n) := id rfl
theorem X_load1 (p : Addr) : X C (.load .one (.const (.pointer (some p)))) = ld1 p.block p.off := by
  funext S
  simp only [X, exec, M.bind, M.lift, Atom.ev]
  cases ld1 p.block p.off S <;> rfl
theorem X_loadN (n : Nat) (p : Addr) : X C (.load (.agg n) (.const (.pointer (some p)))) = (ldCells p.block p.off n).bind fun c => M.pure (.agg ⟨c⟩) := id rfl
theorem X_store (n : Nat) (p : Addr) (v : Value) (h : v.cells.size = n) : X C (.store n (.const (.pointer (some p))) (.const v)) = (stCells p.block p.off v.cells.toList).bind fun _ => M.pure undef := by
  funext S
  simp only [X, exec, M.bind, M.lift, Atom.ev, h, if_true]
theorem X_call (f : FuncId) (args : List Atom) (vs : List Value) (h : evs .leaf args = some vs) : X C (.call (.const (.func (.func f) ⟨[]⟩ ⟨[]⟩)) args) = C (.fn f) vs := by
  funext S
  simp only [X, exec, M.bind, M.lift, Atom.ev, h, target, List.nil_append, List.append_nil]
  cases C (.fn f) vs S <;> rfl
theorem X_callF (f : FuncId) (a c : List Value) (args : List Atom) (vs : List Value) (h : evs .leaf args = some vs) : X C (.call (.const (.func (.func f) ⟨a⟩ ⟨c⟩)) args) = C (.fn f) (a ++ vs ++ c) := by
  funext S
  simp only [X, exec, M.bind, M.lift, Atom.ev, h, target]
  cases C (.fn f) (a ++ vs ++ c) S <;> rfl
theorem X_mkfn (f : FuncId) (a c : List Atom) (va vc : List Value) (h1 : evs .leaf a = some va) (h2 : evs .leaf c = some vc) : X C (.mkfn f a c) = M.pure (.func (.func f) ⟨va⟩ ⟨vc⟩) := by
  funext S
  simp only [X, exec, M.bind, M.lift, h1, h2]
theorem X_len (k : LenK) (v : Value) (n : Nat) (hk : k ≠ .map) (h : lenV k v = some n) : X C (.len k (.const v)) = M.pure (.int .i64 n) := by
  funext S
  cases k <;> first | exact absurd rfl hk | simp only [X, exec, M.bind, M.lift, Atom.ev, h]
theorem X_ix (n s : Nat) (sh : Sh) (cs : List Value) (k : IntKind) (i : Int) (h : 0 ≤ i ∧ i < n) : X C (.ix n s sh (.const (.agg ⟨cs⟩)) (.const (.int k i))) = M.lift (partOf sh cs (i.toNat * s)) := by
  funext S
  simp only [X, exec, M.bind, M.lift, Atom.ev, Option.bind_some, asInt, if_pos h]
  cases partOf sh cs (i.toNat * s) <;> rfl
theorem X_ixA (s : Nat) (p : Addr) (len cap : Nat) (k : IntKind) (i : Int) (h : 0 ≤ i ∧ i < len) : X C (.ixA s (.const (.slice (some p) len cap)) (.const (.int k i))) = M.pure (.pointer (some ⟨p.block, p.off + i.toNat * s, none⟩)) := by
  funext S
  simp only [X, exec, M.bind, M.lift, Atom.ev, Option.bind_some, asInt, if_pos h]
theorem G_true (m : M Value) : G (some true) m = m := id rfl
theorem G_false (m : M Value) : G (some false) m = M.pure undef := id rfl
theorem wanted_bool (w b : Bool) : wanted w (.bool b) = some (b == w) := id rfl
theorem dstep_pure (j : Nat) (ts : List (Nat × Touch)) (v : Value) (k : Value → List (Nat × Touch) → St → Option ρ) : dstep j ts (M.pure v) k S = k v ts S := by
  simp [dstep, M.pure, keepT]
theorem dstep_lift (j : Nat) (ts : List (Nat × Touch)) (v : Value) (k : Value → List (Nat × Touch) → St → Option ρ) : dstep j ts (M.lift (some v)) k S = k v ts S := dstep_pure j ts v k
theorem dstep_lds {b o n : Nat} {x : Option Nat} {s : Bool} {l : List Value} (h : S.heap.get b = some (.cells x s l)) (hn : o + n ≤ l.length) (j : Nat) (ts : List (Nat × Touch)) (g : List Value → Value) (k : Value → List (Nat × Touch) → St → Option ρ) :
    dstep j ts ((ldCells b o n).bind fun c => M.pure (g c)) k S = k (g ((l.drop o).take n)) ((j, ⟨[(b, false)], S.next, S.next⟩) :: ts) (S.saw b) := by
  simp [dstep, ldCells, M.bind, rd, h, M.pure, hn, keepT, St.saw]
theorem hits_reads (b c n m : Nat) : hits ⟨[(b, false)], n, n⟩ ⟨[(c, false)], m, m⟩ = false := by
  have : (Nat.ble m b && Nat.blt b m) = false := by
    cases h : Nat.ble m b with
    | false => rfl
    | true =>
      have h1 := Nat.le_of_ble_eq_true h
      cases h2 : Nat.blt b m with
      | false => rfl
      | true => have h3 : b + 1 ≤ m := Nat.le_of_ble_eq_true h2; omega
  simp [hits, this]
theorem okK_true (x : St → Option ρ) : okK true x S = x S := id rfl
theorem ifK_true (x y : St → Option ρ) : ifK (some true) x y S = x S := id rfl
theorem ifK_false (x y : St → Option ρ) : ifK (some false) x y S = y S := id rfl
theorem asBool_bool (b : Bool) : asBool (.bool b) = some b := id rfl

/-! ## Numbers -/
theorem bv_add (k : IntKind) (a b : Int) : binV .add (.int k a) (.int k b) = some (.int k (k.wrap (a + b))) := by simp [binV]
theorem bv_sub (k : IntKind) (a b : Int) : binV .sub (.int k a) (.int k b) = some (.int k (k.wrap (a - b))) := by simp [binV]
theorem bv_mul (k : IntKind) (a b : Int) : binV .mul (.int k a) (.int k b) = some (.int k (k.wrap (a * b))) := by simp [binV]
theorem bv_eql (k : IntKind) (a b : Int) : binV .eql (.int k a) (.int k b) = some (.bool (decide (a = b))) := by
  simp only [binV, ne_eq, not_true_eq_false, if_false]
  congr 2
theorem bv_neq (k : IntKind) (a b : Int) : binV .neq (.int k a) (.int k b) = some (.bool (!decide (a = b))) := by
  simp only [binV, ne_eq, not_true_eq_false, if_false]
  congr 2
theorem bv_lss (k : IntKind) (a b : Int) : binV .lss (.int k a) (.int k b) = some (.bool (decide (a < b))) := by simp [binV]
theorem bv_leq (k : IntKind) (a b : Int) : binV .leq (.int k a) (.int k b) = some (.bool (decide (a ≤ b))) := by simp [binV]
theorem bv_gtr (k : IntKind) (a b : Int) : binV .gtr (.int k a) (.int k b) = some (.bool (decide (a > b))) := by simp [binV]
theorem bv_geq (k : IntKind) (a b : Int) : binV .geq (.int k a) (.int k b) = some (.bool (decide (a ≥ b))) := by simp [binV]
theorem bv_quo (k : IntKind) (a b : Int) (h : b ≠ 0) : binV .quo (.int k a) (.int k b) = some (.int k (k.wrap (a.tdiv b))) := by simp [binV, h]
theorem bv_rem (k : IntKind) (a b : Int) (h : b ≠ 0) : binV .rem (.int k a) (.int k b) = some (.int k (a.tmod b)) := by simp [binV, h]
theorem uv_not (b : Bool) : unV .not (.bool b) = some (.bool !b) := id rfl
theorem ev_bool (a b : Bool) : eqV .bool (.bool a) (.bool b) = some (a == b) := id rfl
/-- a piece of code as it is run -/
theorem run_codeV {n : Nat} {c : ACode} {e : Env} : run C n c e S = codeV C n c e (fun x e S => some ((x, e), S)) S := by
  rw [codeV_eq]
  simp only [M.k]
  cases run C n c e S with
  | none => rfl
  | some p => rfl
theorem iter_succ {body : Env → M (Ext × Env)} {m : Nat} {e e' : Env} {S S' : St} {x : Ext} (h : body e S = some ((x, e'), S')) : iter body (m + 1) e S = match x with | .normal => iter body m e' S' | x => some ((x, e'), S') := by
  simp only [iter, M.bind, h]
  cases x <;> rfl
/-- numbers of 64 bits -/
theorem wrap64 {n : Int} (h0 : -9223372036854775808 ≤ n) (h1 : n < 9223372036854775808) : IntKind.i64.wrap n = n := by
  simp [IntKind.wrap, IntKind.bits, IntKind.signed]
  omega

/-! ## More in the environment -/
def Le (e e' : Env) : Prop := ∀ t v, e.get t = some v → e'.get t = some v
theorem Le.refl (e : Env) : Le e e := fun _ _ h => h
theorem Le.trans {a b c : Env} (h : Le a b) (k : Le b c) : Le a c := fun t v x => k t v (h t v x)
theorem Le.set {e e' : Env} (h : Le e e') (t : Nat) (v : Value) : Le (e.set t (some v)) (e'.set t (some v)) := by
  intro t' w hw
  rw [Tr.get_set] at hw ⊢
  by_cases c : t' = t
  · rw [if_pos c] at hw ⊢; exact hw
  · rw [if_neg c] at hw ⊢; exact h _ _ hw
theorem Le.putD {e e' : Env} (h : Le e e') (d : Option Nat) (v : Value) : Le (putD e d v) (putD e' d v) := by
  cases d with
  | none => exact h
  | some d => exact h.set d v
theorem Le.leaf (e : Env) : Le .leaf e := by intro t v h; rw [Tr.get_leaf] at h; cases h
theorem Le.of_set {e e' : Env} (h : Le e e') {t : Nat} {v : Value} (k : e'.get t = some v) : Le (e.set t (some v)) e' := by
  intro t' w hw
  rw [Tr.get_set] at hw
  split at hw
  · rename_i h1; subst h1; rw [k]; exact hw
  · exact h _ _ hw
section
variable {e e' : Env} (hl : Le e e')
include hl
theorem ev_mono {a : Atom} {v : Value} (h : a.ev e = some v) : a.ev e' = some v := by
  cases a with
  | tmp t => exact hl t v h
  | const w => exact h
theorem evs_mono : ∀ {l : List Atom} {vs : List Value}, evs e l = some vs → evs e' l = some vs
  | [], vs, h => h
  | a :: l, vs, h => by
    simp only [evs] at h ⊢
    split at h
    · rename_i v r h1 h2
      rw [ev_mono hl h1, evs_mono h2]; exact h
    · cases h
theorem fillA_mono : ∀ {l : List (Nat × Nat × Atom)} {c vs : List Value}, fillA e l c = some vs → fillA e' l c = some vs
  | [], c, vs, h => h
  | (o, s, a) :: l, c, vs, h => by
    simp only [fillA] at h ⊢
    split at h
    · rename_i v h1
      rw [ev_mono hl h1]
      simp only
      split at h
      · rename_i hc; rw [if_pos hc]; exact fillA_mono h
      · cases h
    · cases h
theorem bnd_mono {x : Option Atom} {d y n : Nat} (h : bnd e x d y = some n) : bnd e' x d y = some n := by
  cases x with
  | none => exact h
  | some a =>
    simp only [bnd] at h ⊢
    cases ha : a.ev e with
    | none => rw [ha] at h; cases h
    | some v => rw [ha] at h; rw [ev_mono hl ha]; exact h
theorem bnds_mono {lo hi mx : Option Atom} {len cap : Nat} {r : Nat × Nat × Nat} (h : bnds e len cap lo hi mx = some r) : bnds e' len cap lo hi mx = some r := by
  unfold bnds at h ⊢
  split at h
  · cases h
  · rename_i m h1
    rw [bnd_mono hl h1]
    simp only
    split at h
    · cases h
    · rename_i hh h2
      rw [bnd_mono hl h2]
      simp only
      split at h
      · cases h
      · rename_i l h3
        rw [bnd_mono hl h3]; exact h
theorem hint_mono {h : Option Atom} {u : Unit} (k : hintOk e h = some u) : hintOk e' h = some u := by
  cases h with
  | none => exact k
  | some a =>
    simp only [hintOk] at k ⊢
    cases ha : a.ev e with
    | none => rw [ha] at k; cases k
    | some v => rw [ha] at k; rw [ev_mono hl ha]; exact k
omit hl in
theorem lift_mono {o o' : Option α} {f g : α → M β} {r : β × St} (h : ∀ a, o = some a → o' = some a) (k : ∀ a, o = some a → f a S = some r → g a S = some r) (hr : (M.lift o).bind f S = some r) : (M.lift o').bind g S = some r := by
  cases ho : o with
  | none => rw [ho] at hr; cases hr
  | some a =>
    rw [ho] at hr
    rw [h a ho]
    exact k a ho hr
theorem evI_mono {a : Atom} {n : Int} (h : (a.ev e).bind asInt = some n) : (a.ev e').bind asInt = some n := by
  cases ha : a.ev e with
  | none => rw [ha] at h; cases h
  | some v => rw [ha] at h; rw [ev_mono hl ha]; exact h
theorem evF_mono {β : Type} {f : Value → Option β} {a : Atom} {n : β} (h : (a.ev e).bind f = some n) : (a.ev e').bind f = some n := by
  cases ha : a.ev e with
  | none => rw [ha] at h; cases h
  | some v => rw [ha] at h; rw [ev_mono hl ha]; exact h
theorem evB_mono {a : Atom} {n : Bool} (h : (a.ev e).bind asBool = some n) : (a.ev e').bind asBool = some n := by
  cases ha : a.ev e with
  | none => rw [ha] at h; cases h
  | some v => rw [ha] at h; rw [ev_mono hl ha]; exact h
theorem exec_mono (call : Tgt → List Value → M Value) (op : AOp) {S : St} {r : Value × St} (h : exec call e op S = some r) : exec call e' op S = some r := by
  cases op
  case pick c a b =>
    refine lift_mono (fun t ht => evB_mono hl ht) (fun t _ h => ?_) h
    refine lift_mono (fun v hv => ?_) (fun _ _ h => h) h
    split at hv
    · rename_i ht; rw [if_pos ht]; exact ev_mono hl hv
    · rename_i ht; rw [if_neg ht]; exact ev_mono hl hv
  case slc s x lo hi mx =>
    refine lift_mono (fun v hv => ev_mono hl hv) (fun v _ h => ?_) h
    cases v with
    | slice p n c =>
      cases p with
      | none => exact lift_mono (fun v hv => bnds_mono hl hv) (fun _ _ h => h) h
      | some p => exact lift_mono (fun v hv => bnds_mono hl hv) (fun _ _ h => h) h
    | chan p =>
      cases p with
      | none => exact lift_mono (fun v hv => bnds_mono hl hv) (fun _ _ h => h) h
      | some p => exact h
    | _ => exact h
  case slcS x lo hi =>
    refine lift_mono (fun v hv => ev_mono hl hv) (fun v _ h => ?_) h
    cases v <;> try exact h
    exact lift_mono (fun v hv => bnds_mono hl hv) (fun _ _ h => h) h
  case slcA n s x lo hi mx =>
    refine lift_mono (fun v hv => ev_mono hl hv) (fun v _ h => ?_) h
    cases v with
    | pointer p =>
      cases p with
      | none => exact h
      | some p => exact lift_mono (fun v hv => bnds_mono hl hv) (fun _ _ h => h) h
    | _ => exact h
  case mkmap hh => exact lift_mono (fun v hv => hint_mono hl hv) (fun _ _ h => h) h
  case panic => cases h
  all_goals
    first
    | exact h
    | exact lift_mono (fun v hv => ev_mono hl hv) (fun _ _ h => h) h
    | exact lift_mono (fun v hv => evs_mono hl hv) (fun _ _ h => h) h
    | exact lift_mono (fun v hv => fillA_mono hl hv) (fun _ _ h => h) h
    | exact lift_mono (fun v hv => ev_mono hl hv) (fun _ _ h => lift_mono (fun v hv => ev_mono hl hv) (fun _ _ h => h) h) h
    | exact lift_mono (fun v hv => ev_mono hl hv) (fun _ _ h => lift_mono (fun v hv => evI_mono hl hv) (fun _ _ h => h) h) h
    | exact lift_mono (fun v hv => evI_mono hl hv) (fun _ _ h => lift_mono (fun v hv => evI_mono hl hv) (fun _ _ h => h) h) h
    | exact lift_mono (fun v hv => ev_mono hl hv) (fun _ _ h => lift_mono (fun v hv => evF_mono hl hv) (fun _ _ h => h) h) h
    | exact lift_mono (fun v hv => ev_mono hl hv) (fun _ _ h => lift_mono (fun v hv => evs_mono hl hv) (fun _ _ h => h) h) h
    | exact lift_mono (fun v hv => evs_mono hl hv) (fun _ _ h => lift_mono (fun v hv => evs_mono hl hv) (fun _ _ h => h) h) h
    | exact lift_mono (fun v hv => ev_mono hl hv) (fun _ _ h => lift_mono (fun v hv => ev_mono hl hv) (fun _ _ h => lift_mono (fun v hv => ev_mono hl hv) (fun _ _ h => h) h) h) h
    | exact lift_mono (fun v hv => ev_mono hl hv) (fun _ _ h => lift_mono (fun v hv => evI_mono hl hv) (fun _ _ h => lift_mono (fun v hv => ev_mono hl hv) (fun _ _ h => h) h) h) h
end
/-- no range over a function in it -/
def noRange : ACode → Bool
  | .seq a b => noRange a && noRange b
  | .cond _ a b => noRange a && noRange b
  | .block _ a => noRange a
  | .loop a => noRange a
  | .range .. => false
  | _ => true
section
variable {call : Tgt → List Value → M Value}
theorem instr_mono {i : AInstr} {e e' e1 : Env} {S S' : St} (hl : Le e e') (h : instr call i e S = some (e1, S')) : ∃ e2, instr call i e' S = some (e2, S') ∧ Le e1 e2 := by
  unfold instr at h ⊢
  cases hg : i.guard with
  | none =>
    rw [hg] at h
    simp only [M.bind] at h ⊢
    cases hx : exec call e i.op S with
    | none => rw [hx] at h; cases h
    | some p =>
      obtain ⟨v, S1⟩ := p
      rw [hx] at h
      rw [exec_mono hl call i.op hx]
      simp only [M.pure, Option.some.injEq, Prod.mk.injEq] at h ⊢
      obtain ⟨rfl, rfl⟩ := h
      exact ⟨_, ⟨rfl, rfl⟩, hl.putD _ _⟩
  | some g =>
    obtain ⟨t, w⟩ := g
    rw [hg] at h
    simp only [M.bind, M.lift] at h ⊢
    cases hv : e.get t with
    | none => rw [hv] at h; cases h
    | some v =>
      rw [hv] at h
      rw [hl _ _ hv]
      simp only [Option.bind_some] at h ⊢
      cases hw : wanted w v with
      | none => rw [hw] at h; cases h
      | some b =>
        rw [hw] at h
        simp only at h ⊢
        cases b with
        | false =>
          simp only [Bool.false_eq_true, if_false, M.pure, Option.some.injEq, Prod.mk.injEq] at h ⊢
          obtain ⟨rfl, rfl⟩ := h
          exact ⟨_, ⟨rfl, rfl⟩, hl.putD _ _⟩
        | true =>
          simp only [if_true, M.bind] at h ⊢
          cases hx : exec call e i.op S with
          | none => rw [hx] at h; cases h
          | some p =>
            obtain ⟨v, S1⟩ := p
            rw [hx] at h
            rw [exec_mono hl call i.op hx]
            simp only [M.pure, Option.some.injEq, Prod.mk.injEq] at h ⊢
            obtain ⟨rfl, rfl⟩ := h
            exact ⟨_, ⟨rfl, rfl⟩, hl.putD _ _⟩
theorem instrs_mono : ∀ {l : List AInstr} {e e' e1 : Env} {S S' : St}, Le e e' → instrs call l e S = some (e1, S') → ∃ e2, instrs call l e' S = some (e2, S') ∧ Le e1 e2
  | [], e, e', e1, S, S', hl, h => by cases h; exact ⟨e', rfl, hl⟩
  | i :: l, e, e', e1, S, S', hl, h => by
    simp only [instrs, M.bind] at h ⊢
    cases hi : instr call i e S with
    | none => rw [hi] at h; cases h
    | some p =>
      obtain ⟨e2, S1⟩ := p
      rw [hi] at h
      obtain ⟨e3, h1, h2⟩ := instr_mono hl hi
      rw [h1]
      exact instrs_mono h2 h
theorem drawnGo_mono : ∀ {l : List AInstr} {j : Nat} {ts r : List (Nat × Touch)} {e e' e1 : Env} {S S' : St}, Le e e' → drawnGo call l j e ts S = some ((e1, r), S') → ∃ e2, drawnGo call l j e' ts S = some ((e2, r), S') ∧ Le e1 e2
  | [], j, ts, r, e, e', e1, S, S', hl, h => by
    simp only [drawnGo, M.pure, Option.some.injEq, Prod.mk.injEq] at h ⊢
    obtain ⟨⟨rfl, rfl⟩, rfl⟩ := h
    exact ⟨e', ⟨⟨rfl, rfl⟩, rfl⟩, hl⟩
  | i :: l, j, ts, r, e, e', e1, S, S', hl, h => by
    simp only [drawnGo] at h ⊢
    cases hi : instr call i e { heap := S.heap, next := S.next, log := [] } with
    | none => rw [hi] at h; cases h
    | some p =>
      obtain ⟨e2, S1⟩ := p
      rw [hi] at h
      obtain ⟨e3, h1, h2⟩ := instr_mono hl hi
      rw [h1]
      exact drawnGo_mono h2 h
theorem iter_mono {body : Env → M (Ext × Env)} (hb : ∀ (e e' e1 : Env) (x : Ext) (S S' : St), Le e e' → body e S = some ((x, e1), S') → ∃ e2, body e' S = some ((x, e2), S') ∧ Le e1 e2) :
    ∀ (n : Nat) {e e' e1 : Env} {x : Ext} {S S' : St}, Le e e' → iter body n e S = some ((x, e1), S') → ∃ e2, iter body n e' S = some ((x, e2), S') ∧ Le e1 e2
  | 0, e, e', e1, x, S, S', hl, h => by cases h
  | n + 1, e, e', e1, x, S, S', hl, h => by
    simp only [iter, M.bind] at h ⊢
    cases hx : body e S with
    | none => rw [hx] at h; cases h
    | some p =>
      obtain ⟨⟨y, e2⟩, S1⟩ := p
      rw [hx] at h
      obtain ⟨e3, h1, h2⟩ := hb _ _ _ _ _ _ hl hx
      rw [h1]
      cases y with
      | normal => exact iter_mono hb n h2 h
      | exit i => simp only [M.pure, Option.some.injEq, Prod.mk.injEq] at h ⊢; obtain ⟨⟨rfl, rfl⟩, rfl⟩ := h; exact ⟨e3, ⟨⟨rfl, rfl⟩, rfl⟩, h2⟩
      | ret => simp only [M.pure, Option.some.injEq, Prod.mk.injEq] at h ⊢; obtain ⟨⟨rfl, rfl⟩, rfl⟩ := h; exact ⟨e3, ⟨⟨rfl, rfl⟩, rfl⟩, h2⟩
theorem run_mono (fuel : Nat) : ∀ (c : ACode), noRange c = true → ∀ {e e' e1 : Env} {x : Ext} {S S' : St}, Le e e' → run call fuel c e S = some ((x, e1), S') → ∃ e2, run call fuel c e' S = some ((x, e2), S') ∧ Le e1 e2
  | .skip, _, e, e', e1, x, S, S', hl, h => by cases h; exact ⟨e', rfl, hl⟩
  | .exit i, _, e, e', e1, x, S, S', hl, h => by cases h; exact ⟨e', rfl, hl⟩
  | .ret, _, e, e', e1, x, S, S', hl, h => by cases h; exact ⟨e', rfl, hl⟩
  | .range .., hn, e, e', e1, x, S, S', hl, h => by cases hn
  | .ops l, _, e, e', e1, x, S, S', hl, h => by
    simp only [run, M.bind] at h ⊢
    cases hx : instrs call l e S with
    | none => rw [hx] at h; cases h
    | some p =>
      obtain ⟨e2, S1⟩ := p
      rw [hx] at h
      obtain ⟨e3, h1, h2⟩ := instrs_mono hl hx
      rw [h1]
      simp only [M.pure, Option.some.injEq, Prod.mk.injEq] at h ⊢; obtain ⟨⟨rfl, rfl⟩, rfl⟩ := h; exact ⟨e3, ⟨⟨rfl, rfl⟩, rfl⟩, h2⟩
  | .drawn l ms, _, e, e', e1, x, S, S', hl, h => by
    simp only [run, drawnA, M.bind] at h ⊢
    cases hx : drawnGo call l 0 e [] S with
    | none => rw [hx] at h; cases h
    | some p =>
      obtain ⟨⟨e2, r⟩, S1⟩ := p
      rw [hx] at h
      obtain ⟨e3, h1, h2⟩ := drawnGo_mono hl hx
      rw [h1]
      simp only at h ⊢
      cases hb : apartAll ms r with
      | false => rw [hb] at h; cases h
      | true =>
        rw [hb] at h
        simp only [if_true, M.pure, Option.some.injEq, Prod.mk.injEq] at h ⊢; obtain ⟨⟨rfl, rfl⟩, rfl⟩ := h; exact ⟨e3, ⟨⟨rfl, rfl⟩, rfl⟩, h2⟩
  | .seq a b, hn, e, e', e1, x, S, S', hl, h => by
    simp only [noRange, Bool.and_eq_true] at hn
    simp only [run, M.bind] at h ⊢
    cases hx : run call fuel a e S with
    | none => rw [hx] at h; cases h
    | some p =>
      obtain ⟨⟨y, e2⟩, S1⟩ := p
      rw [hx] at h
      obtain ⟨e3, h1, h2⟩ := run_mono fuel a hn.1 hl hx
      rw [h1]
      cases y with
      | normal => exact run_mono fuel b hn.2 h2 h
      | exit i => simp only [M.pure, Option.some.injEq, Prod.mk.injEq] at h ⊢; obtain ⟨⟨rfl, rfl⟩, rfl⟩ := h; exact ⟨e3, ⟨⟨rfl, rfl⟩, rfl⟩, h2⟩
      | ret => simp only [M.pure, Option.some.injEq, Prod.mk.injEq] at h ⊢; obtain ⟨⟨rfl, rfl⟩, rfl⟩ := h; exact ⟨e3, ⟨⟨rfl, rfl⟩, rfl⟩, h2⟩
  | .cond c a b, hn, e, e', e1, x, S, S', hl, h => by
    simp only [noRange, Bool.and_eq_true] at hn
    simp only [run, M.bind, M.lift] at h ⊢
    cases hc : (c.ev e).bind asBool with
    | none => rw [hc] at h; cases h
    | some t =>
      rw [hc] at h
      rw [evB_mono hl hc]
      cases t with
      | true => exact run_mono fuel a hn.1 hl h
      | false => exact run_mono fuel b hn.2 hl h
  | .block id a, hn, e, e', e1, x, S, S', hl, h => by
    simp only [noRange] at hn
    simp only [run, M.bind] at h ⊢
    cases hx : run call fuel a e S with
    | none => rw [hx] at h; cases h
    | some p =>
      obtain ⟨⟨y, e2⟩, S1⟩ := p
      rw [hx] at h
      obtain ⟨e3, h1, h2⟩ := run_mono fuel a hn hl hx
      rw [h1]
      cases y with
      | normal => simp only [M.pure, Option.some.injEq, Prod.mk.injEq] at h ⊢; obtain ⟨⟨rfl, rfl⟩, rfl⟩ := h; exact ⟨e3, ⟨⟨rfl, rfl⟩, rfl⟩, h2⟩
      | ret => simp only [M.pure, Option.some.injEq, Prod.mk.injEq] at h ⊢; obtain ⟨⟨rfl, rfl⟩, rfl⟩ := h; exact ⟨e3, ⟨⟨rfl, rfl⟩, rfl⟩, h2⟩
      | exit i =>
        simp only at h ⊢
        split at h
        · rename_i hi; rw [if_pos hi]; simp only [M.pure, Option.some.injEq, Prod.mk.injEq] at h ⊢; obtain ⟨⟨rfl, rfl⟩, rfl⟩ := h; exact ⟨e3, ⟨⟨rfl, rfl⟩, rfl⟩, h2⟩
        · rename_i hi; rw [if_neg hi]; simp only [M.pure, Option.some.injEq, Prod.mk.injEq] at h ⊢; obtain ⟨⟨rfl, rfl⟩, rfl⟩ := h; exact ⟨e3, ⟨⟨rfl, rfl⟩, rfl⟩, h2⟩
  | .loop a, hn, e, e', e1, x, S, S', hl, h => by
    simp only [noRange] at hn
    exact iter_mono (body := run call fuel a) (fun _ _ _ _ _ _ hl h => run_mono fuel a hn hl h) fuel hl h
/-- a piece of code, where more is known than it asks for -/
theorem codeV_at {n : Nat} {c : ACode} {e0 e e1 : Env} {x : Ext} {S S' : St} (hn : noRange c = true) (hl : Le e0 e) (h : run call n c e0 S = some ((x, e1), S')) (k : Ext → Env → St → Option ρ) : ∃ e2, codeV call n c e k S = k x e2 S' ∧ Le e1 e2 := by
  obtain ⟨e2, h1, h2⟩ := run_mono n c hn hl h
  exact ⟨e2, by rw [codeV_eq, k_some h1], h2⟩
end
theorem endV_one {t : Nat} {e : Env} {v : Value} (h : e.get t = some v) {x : Ext} (hx : x = .normal ∨ x = .ret) (S : St) : endV [.tmp t] (fun v S => some (v, S)) x e S = some (v, S) := by
  rcases hx with rfl | rfl <;> simp [endV, tupV, M.k, resAll, resV, M.bind, M.lift, h, M.pure]
end Go.Wb
end
/- The engine, part Z: what a run brings, as a proposition: a function's code as a text of propositions; loops by an invariant over the values that live. -/
section
set_option linter.unusedSimpArgs false
set_option linter.unusedVariables false
namespace Go.Wb
variable {α β : Type}

/-- a run ends, and brings this -/
def wpA (m : M α) (Φ : α → St → Prop) (S : St) : Prop := ∃ a S', m S = some (a, S') ∧ Φ a S'
theorem wpA_mono {m : M α} {Φ Ψ : α → St → Prop} {S : St} (h : wpA m Φ S) (k : ∀ a S', Φ a S' → Ψ a S') : wpA m Ψ S := by
  obtain ⟨a, S', h1, h2⟩ := h
  exact ⟨a, S', h1, k _ _ h2⟩
theorem wpA_pure (a : α) (Φ : α → St → Prop) (S : St) : wpA (M.pure a) Φ S = Φ a S := by
  apply propext
  constructor
  · rintro ⟨b, S', h, k⟩; cases h; exact k
  · intro h; exact ⟨a, S, rfl, h⟩
theorem wpA_lift (a : α) (Φ : α → St → Prop) (S : St) : wpA (M.lift (some a)) Φ S = Φ a S := wpA_pure a Φ S
theorem wpA_bind (m : M α) (f : α → M β) (Φ : β → St → Prop) (S : St) : wpA (m.bind f) Φ S = wpA m (fun a S => wpA (f a) Φ S) S := by
  apply propext
  constructor
  · rintro ⟨b, S', h, k⟩
    simp only [M.bind] at h
    cases hm : m S with
    | none => rw [hm] at h; cases h
    | some p => rw [hm] at h; exact ⟨p.1, p.2, hm, b, S', h, k⟩
  · rintro ⟨a, S1, h1, b, S', h, k⟩
    exact ⟨b, S', by simp only [M.bind, h1]; exact h, k⟩
theorem wpA_nw (o : Blk) (Φ : Nat → St → Prop) (S : St) : wpA (nw o) Φ S = Φ S.next (S.add o) := by
  apply propext
  constructor
  · rintro ⟨b, S', h, k⟩; cases h; exact k
  · intro h; exact ⟨_, _, rfl, h⟩
theorem wpA_rd {b : Nat} {o : Blk} {S : St} (h : S.heap.get b = some o) (Φ : Blk → St → Prop) : wpA (rd b) Φ S = Φ o (S.saw b) := by
  have e : rd b S = some (o, S.saw b) := by simp only [rd, h]; rfl
  apply propext
  constructor
  · rintro ⟨b', S', h', k⟩; rw [e] at h'; cases h'; exact k
  · intro h; exact ⟨_, _, e, h⟩
theorem wpA_wr (b : Nat) (o : Option Blk) (Φ : Unit → St → Prop) (S : St) : wpA (wr b o) Φ S = Φ () (S.put b o) := by
  apply propext
  constructor
  · rintro ⟨b', S', h', k⟩; cases h'; exact k
  · intro h; exact ⟨_, _, rfl, h⟩
theorem wpA_of_run {m : M α} {a : α} {S S' : St} (h : m S = some (a, S')) (Φ : α → St → Prop) (k : Φ a S') : wpA m Φ S := ⟨a, S', h, k⟩

/-! ## Heaps without logs -/
/-- wl: what has been written, the last one first -/
structure Hp where
  heap : Tr Blk
  next : Nat
  wl : List Nat
def wrs : List (Nat × Bool) → List Nat
  | [] => []
  | (b, true) :: l => b :: wrs l
  | (_, false) :: l => wrs l
theorem wrs_append : ∀ (a b : List (Nat × Bool)), wrs (a ++ b) = wrs a ++ wrs b
  | [], b => rfl
  | (x, true) :: a, b => by simp only [List.cons_append, wrs, wrs_append a b]
  | (x, false) :: a, b => by simp only [List.cons_append, wrs, wrs_append a b]
theorem wrs_mem : ∀ {a : List (Nat × Bool)} {b : Nat}, (b, true) ∈ a → b ∈ wrs a
  | (x, c) :: a, b, h => by
    rcases List.mem_cons.1 h with h' | h'
    · cases h'; exact List.mem_cons_self ..
    · cases c
      · exact wrs_mem (a := a) h'
      · exact List.mem_cons_of_mem _ (wrs_mem (a := a) h')
def Hp.st (S : Hp) : St := { heap := S.heap, next := S.next, log := [] }
def Hp.full (S : Hp) : St := { heap := S.heap, next := S.next, log := S.wl.map fun b => (b, true) }
def St.over (s : St) (w : List Nat) : Hp := { heap := s.heap, next := s.next, wl := wrs s.log ++ w }
def St.h (S : St) : Hp := { heap := S.heap, next := S.next, wl := wrs S.log }
theorem wrs_full : ∀ l : List Nat, wrs (l.map fun b => (b, true)) = l
  | [] => rfl
  | b :: l => by simp only [List.map_cons, wrs, wrs_full l]
theorem full_h (S : Hp) : S.full.h = S := by
  simp only [Hp.full, St.h, wrs_full]
def Hp.put (S : Hp) (b : Nat) (o : Option Blk) : Hp := { heap := S.heap.set b o, next := S.next, wl := b :: S.wl }
def Hp.add (S : Hp) (o : Blk) : Hp := { heap := S.heap.set S.next (some o), next := S.next + 1, wl := S.wl }
/-- a run from a heap ends, and brings this -/
def wp (m : M α) (Φ : α → Hp → Prop) (S : Hp) : Prop := ∃ a S', m S.st = some (a, S') ∧ Φ a (S'.over S.wl)
theorem wp_raw {m : M α} (hm : Lg m) {Φ : α → Hp → Prop} {S : St} (h : wp m Φ S.h) : wpA m (fun a S' => Φ a S'.h) S := by
  obtain ⟨a, S', h1, h2⟩ := h
  obtain ⟨D, h3, h4⟩ := hm _ _ _ h1
  refine ⟨a, _, h4 S.log, ?_⟩
  have e : S'.over S.h.wl = ({ heap := S'.heap, next := S'.next, log := D ++ S.log } : St).h := by
    have h3' : S'.log = D := by rw [h3]; exact List.append_nil D
    simp only [St.over, St.h, h3', wrs_append]
  show Φ a _
  rw [← e]; exact h2
theorem wp_of_wpA {m : M α} (hm : Lg m) {Φ : α → Hp → Prop} {S : Hp} (h : wpA m (fun a S' => Φ a S'.h) S.full) : wp m Φ S := by
  obtain ⟨a, S', h1, h2⟩ := h
  obtain ⟨D, h3, h4⟩ := hm _ _ _ h1
  refine ⟨a, _, h4 [], ?_⟩
  have e : S'.h = ({ heap := S'.heap, next := S'.next, log := D ++ [] } : St).over S.wl := by
    have h3' : S'.log = D ++ S.wl.map fun b => (b, true) := h3
    simp only [St.over, St.h, h3', wrs_append, wrs_full, List.append_nil, wrs]
  have h2' : Φ a S'.h := h2
  rw [e] at h2'; exact h2'

/-! ## A code's proposition -/
def dstepP (j : Nat) (ts : List (Nat × Touch)) (m : M Value) (Φ : Value → List (Nat × Touch) → Hp → Prop) (S : Hp) : Prop :=
  ∃ v s', m S.st = some (v, s') ∧ Φ v (keepT j { log := s'.log, lo := S.next, hi := s'.next } ts) (s'.over S.wl)
def ifP (b : Option Bool) (x y : Hp → Prop) (S : Hp) : Prop := match b with
  | none => False
  | some true => x S
  | some false => y S
def contP (kb : Env → Hp → Prop) (k : Ext → Env → Hp → Prop) (x : Ext) (e : Env) (S : Hp) : Prop := match x with
  | .normal => kb e S
  | x => k x e S
def blockP (id : Nat) (k : Ext → Env → Hp → Prop) (x : Ext) (e : Env) (S : Hp) : Prop := match x with
  | .exit i => (match Nat.beq i id with
    | true => k .normal e S
    | false => k (.exit i) e S)
  | x => k x e S
def okP (b : Bool) (x : Hp → Prop) (S : Hp) : Prop := match b with
  | true => x S
  | false => False
/-- an invariant of so many values -/
def InvT : Nat → Type
  | 0 => Hp → Prop
  | n + 1 => Value → InvT n
def appI : (n : Nat) → InvT n → List Value → Hp → Prop
  | 0, I, [], S => I S
  | n + 1, I, v :: l, S => appI n (I v) l S
  | _, _, _, _ => False
def allV : Nat → (List Value → Prop) → Prop
  | 0, P => P []
  | n + 1, P => ∀ v, allV n fun l => P (v :: l)
def readL (e : Env) : List Nat → Option (List Value)
  | [] => some []
  | t :: l => match e.get t, readL e l with | some v, some r => some (v :: r) | _, _ => none
def invP (L : List Nat) (I : InvT L.length) (e : Env) (S : Hp) : Prop := match readL e L with
  | some vs => appI L.length I vs S
  | none => False
def loopP (fuel : Nat) (L : List Nat) (body : Env → (Ext → Env → Hp → Prop) → Hp → Prop) (e : Env) (Φ : Ext → Env → Hp → Prop) (S : Hp) : Prop :=
  ∃ I : Nat → InvT L.length, (∃ m, m < fuel ∧ invP L (I m) e S) ∧ ∀ (m : Nat) (S : Hp), allV L.length fun vs => appI L.length (I m) vs S → body (zipSet L vs .leaf) (fun x e' S' => contP (fun e' S' => ∃ j, j < m ∧ invP L (I j) e' S') Φ x e' S') S
/-- it touches no memory -/
def pureOp : AOp → Bool
  | .mov _ | .pick .. | .bin .. | .eq .. | .un .. | .build .. | .nilchk _ | .slcS .. | .fldA .. | .fld .. | .ixA .. | .ixAA .. | .ix .. | .ixS .. | .mkfn .. | .mkif .. | .ext .. | .max _ | .min _ => true
  | .len .map _ => false
  | .len _ _ => true
  | .conv (.int _) _ => true
  | _ => false
/-- it reads at most -/
def roOp : AOp → Bool
  | .load .. | .slc .. | .slcA .. | .cap _ | .mget .. | .len .. | .conv .b2str _ => true
  | o => pureOp o
def pMask : List AInstr → Nat → Nat
  | [], _ => 0
  | i :: l, j => match pureOp i.op with | true => Nat.lor (2 ^ j) (pMask l (j + 1)) | false => pMask l (j + 1)
def rMask : List AInstr → Nat → Nat
  | [], _ => 0
  | i :: l, j => match roOp i.op with | true => Nat.lor (2 ^ j) (rMask l (j + 1)) | false => rMask l (j + 1)
def okNgo (pm rm nm : Nat) (ms : List Nat) : List AInstr → Nat → Bool
  | [], _ => true
  | _ :: l, j => (pm.testBit j || Nat.beq (Nat.land (2 ^ j - 1) (Nat.lor (Nat.lor (ms.getD j 0) pm) (Nat.lor (match nm.testBit j with | true => nm | false => 0) (match rm.testBit j with | true => rm | false => 0)))) (2 ^ j - 1)) && okNgo pm rm nm ms l (j + 1)
def okN (l : List AInstr) (ms : List Nat) (nm : Nat) : Bool := okNgo (pMask l 0) (rMask l 0) nm ms l 0
def allRo : List AInstr → Bool
  | [] => true
  | i :: l => roOp i.op && allRo l
section
variable (call : Tgt → List Value → M Value)
/-- a short circuit: the rest of it is looked at if b is w -/
def andP (w : Bool) (b : Value) (sub : (Value → Hp → Prop) → Hp → Prop) (Φ : Value → Hp → Prop) (S : Hp) : Prop := match b with
  | .bool c => (match c, w with
    | true, true => sub Φ S
    | false, false => sub Φ S
    | true, false => Φ (.bool true) S
    | false, true => Φ (.bool false) S)
  | _ => False
def evK (o : Option Value) (K : Value → Hp → Prop) (S : Hp) : Prop := match o with
  | none => False
  | some v => K v S
/-- the pick that ends a short circuit -/
def pickOf (t : Nat) (w : Bool) (i : AInstr) : Option (Nat × Atom) := match i.dst, i.guard, i.op with
  | some d, none, .pick (.tmp t') a b => (match Nat.beq t' t, w, a, b with
    | true, true, a, .const (.bool false) => some (d, a)
    | true, false, .const (.bool true), b => some (d, b)
    | _, _, _, _ => none)
  | _, _, _ => none
def stripG (t : Nat) (w : Bool) (i : AInstr) : AInstr := match i.guard with
  | some (t', w') => (match Nat.beq t' t, w, w' with
    | true, true, true => { i with guard := none }
    | true, false, false => { i with guard := none }
    | _, _, _ => i)
  | none => i
/-- is it within the short circuit: guarded by it, or by what is within -/
def within (t : Nat) (w : Bool) (ds : List Nat) (i : AInstr) : Option Nat := match i.guard, i.dst with
  | some (t', w'), some d => (match Nat.beq d t with
    | true => none
    | false => (match Nat.beq t' t, w, w' with
      | true, true, true => some d
      | true, false, false => some d
      | true, _, _ => none
      | false, _, _ => (match ds.contains t' with | true => some d | false => none)))
  | _, _ => none
/-- what is within, what it sets, the pick, the rest -/
def splitG (t : Nat) (w : Bool) : List Nat → List AInstr → Option (List AInstr × List Nat × Nat × Atom × List AInstr)
  | _, [] => none
  | ds, i :: r => match pickOf t w i with
    | some (d, a) => some ([], ds, d, a, r)
    | none => match within t w ds i with
      | some d => (match splitG t w (d :: ds) r with
        | some (blk, q) => some (stripG t w i :: blk, q)
        | none => none)
      | none => none
def dropAll : List Nat → Env → Env
  | [], e => e
  | d :: ds, e => dropAll ds (e.set d none)
def instrsP : Nat → List AInstr → Env → (Env → Hp → Prop) → Hp → Prop
  | _, [], e, k, S => k e S
  | 0, _ :: _, _, _, _ => False
  | f + 1, i :: r, e, k, S => match movOf i with
    | some (d, a) => (match a.ev e with
      | none => False
      | some v => instrsP f r (e.set d (some v)) k S)
    | none => match i.guard with
      | none => wp (valM call i e) (fun v S => instrsP f r (putD e i.dst v) k S) S
      | some (t, w) => match splitG t w [] (i :: r) with
        | none => wp (valM call i e) (fun v S => instrsP f r (putD e i.dst v) k S) S
        | some (blk, ds, d, a, rest) => match e.get t with
          | none => False
          | some b => andP w b (fun K S => instrsP f blk e (fun e' S => evK (a.ev e') K S) S) (fun v S => instrsP f rest ((dropAll ds e).set d (some v)) k S) S
/-- nm: those whose touches are kept -/
def drawnP (ms : List Nat) (nm : Nat) : List AInstr → Nat → Env → List (Nat × Touch) → (Env → Hp → Prop) → Hp → Prop
  | [], _, e, ts, k, S => okP (apartAll ms ts) (fun S => k e S) S
  | i :: r, j, e, ts, k, S => match nm.testBit j with
    | true => dstepP j ts (valM call i e) (fun v ts S => drawnP ms nm r (j + 1) (putD e i.dst v) ts k S) S
    | false => match movOf i with
      | some (d, a) => (match a.ev e with
        | none => False
        | some v => drawnP ms nm r (j + 1) (e.set d (some v)) ts k S)
      | none => wp (valM call i e) (fun v S => drawnP ms nm r (j + 1) (putD e i.dst v) ts k S) S
/-- a range over a function: its rounds are called back -/
def rangeP (ps : List Nat) (as bd : ACode) (g : Option Value) (e : Env) (kN : Hp → Prop) (kX : Ext → Hp → Prop) (S : Hp) : Prop := match g with
  | none => False
  | some g => (match target g [.func (.yield S.next) #[] #[]] with
    | none => False
    | some t => ∀ e', Le e e' → wp (call t.1 t.2) (fun _ S2 => ∃ ps' as' bd' e2 p, S2.heap.get S.next = some (.loop ps' as' bd' e2 p) ∧ (match p with | none => kN (S2.put S.next none) | some x => kX x (S2.put S.next none))) (S.add (.loop ps as bd e' none)))
/-- A: which temporaries live at a loop, by its number -/
def codeP (A : List (Nat × List Nat)) (fuel : Nat) : Nat → ACode → Env → (Ext → Env → Hp → Prop) → Hp → Prop
  | _, .skip, e, k, S => k .normal e S
  | _, .ops l, e, k, S => instrsP call l.length l e (fun e S => k .normal e S) S
  | p, .drawn l ms, e, k, S => match allRo l with
    | true => instrsP call l.length l e (fun e S => k .normal e S) S
    | false => match okN l ms (((A.lookup p).getD []).headD 0) with
      | true => drawnP call ms (((A.lookup p).getD []).headD 0) l 0 e [] (fun e S => k .normal e S) S
      | false => False
  | p, .seq a b, e, k, S => codeP A fuel (2 * p) a e (contP (fun e S => codeP A fuel (2 * p + 1) b e k S) k) S
  | p, .cond c a b, e, k, S => ifP ((c.ev e).bind asBool) (fun S => codeP A fuel (2 * p) a e k S) (fun S => codeP A fuel (2 * p + 1) b e k S) S
  | p, .block id a, e, k, S => codeP A fuel (2 * p) a e (blockP id k) S
  | p, .loop a, e, k, S => loopP fuel ((A.lookup p).getD []) (fun e k S => codeP A fuel (2 * p) a e k S) e k S
  | _, .range f ps as bd, e, k, S => rangeP call ps as bd (f.ev e) e (fun S => k .normal e S) (fun x S => k x e S) S
  | _, .exit id, e, k, S => k (.exit id) e S
  | _, .ret, e, k, S => k .ret e S
end
def tupP (vs : List Value) : Value := match vs with
  | [v] => v
  | vs => .tuple vs.toArray
def cellV (x : Value) (sh : Sh) : M Value := match x with
  | .pointer (some p) => (match sh with
    | .one => ld1 p.block p.off
    | .agg n => (ldCells p.block p.off n).bind fun c => M.pure (.agg c.toArray))
  | _ => M.fail
def resP (e : Env) : List ARes → (List Value → Hp → Prop) → Hp → Prop
  | [], k, S => k [] S
  | .tmp t :: rs, k, S => (match e.get t with
    | none => False
    | some v => resP e rs (fun vs S => k (v :: vs) S) S)
  | .cell t sh :: rs, k, S => (match e.get t with
    | none => False
    | some x => wp (cellV x sh) (fun v S => resP e rs (fun vs S => k (v :: vs) S) S) S)
def endP (rs : List ARes) (Φ : Value → Hp → Prop) (x : Ext) (e : Env) (S : Hp) : Prop := match x with
  | .exit _ => False
  | _ => resP e rs (fun vs S => Φ (tupP vs) S) S
/-- where ways meet -/
def jn {γ : Type} (r : γ) (f : γ → Prop) : Prop := f r
theorem jn_intro {γ : Type} {r : γ} {f : γ → Prop} (h : ∀ J, J = r → f J) : jn r f := h r rfl

/-! ## It is right -/
variable {call : Tgt → List Value → M Value}
theorem valM_mono {i : AInstr} {e e' : Env} {S : St} {r : Value × St} (hl : Le e e') (h : valM call i e S = some r) : valM call i e' S = some r := by
  unfold valM at h ⊢
  cases hg : i.guard with
  | none => rw [hg] at h; exact exec_mono hl call i.op h
  | some g =>
    obtain ⟨t, w⟩ := g
    rw [hg] at h
    simp only at h ⊢
    cases hv : e.get t with
    | none => rw [hv] at h; cases h
    | some v =>
      rw [hv] at h
      rw [hl _ _ hv]
      simp only [Option.bind_some] at h ⊢
      cases hw : wanted w v with
      | none => rw [hw] at h; cases h
      | some b =>
        rw [hw] at h
        cases b with
        | false => exact h
        | true => exact exec_mono hl call i.op h
theorem movOf_some {i : AInstr} {d : Nat} {a : Atom} (h : movOf i = some (d, a)) : i = ⟨some d, none, .mov a⟩ := by
  unfold movOf at h
  split at h
  · rename_i d' a' h1 h2 h3
    simp only [Option.some.injEq, Prod.mk.injEq] at h
    obtain ⟨rfl, rfl⟩ := h
    obtain ⟨x, y, z⟩ := i
    simp only at h1 h2 h3
    subst h1; subst h2; subst h3
    rfl
  · cases h
theorem pickOf_some {t d : Nat} {w : Bool} {i : AInstr} {a : Atom} (h : pickOf t w i = some (d, a)) :
    (w = true ∧ i = ⟨some d, none, .pick (.tmp t) a (.const (.bool false))⟩) ∨ (w = false ∧ i = ⟨some d, none, .pick (.tmp t) (.const (.bool true)) a⟩) := by
  unfold pickOf at h
  split at h
  · rename_i d' t' x y h1 h2 h3
    obtain ⟨i1, i2, i3⟩ := i
    simp only at h1 h2 h3
    subst h1; subst h2; subst h3
    split at h
    · rename_i _ q1
      cases h
      have := Nat.eq_of_beq_eq_true q1
      subst this
      exact .inl ⟨rfl, rfl⟩
    · rename_i _ q1
      cases h
      have := Nat.eq_of_beq_eq_true q1
      subst this
      exact .inr ⟨rfl, rfl⟩
    · cases h
  · cases h
theorem Le.drop {e e' : Env} (h : Le e e') (d : Nat) (v : Value) : Le (e.set d none) (e'.set d (some v)) := by
  intro t x hx
  rw [Tr.get_set] at hx ⊢
  split at hx
  · cases hx
  · rename_i hn; rw [if_neg hn]; exact h t x hx
/-- what an instruction sets -/
theorem instr_le {i : AInstr} {e e0 : Env} {v : Value} {d : Nat} (hd : i.dst = some d) (h : Le e0 e) : Le (e0.set d none) (putD e i.dst v) := by
  rw [hd]; exact h.drop d v
theorem within_some {t d : Nat} {w : Bool} {ds : List Nat} {i : AInstr} (h : within t w ds i = some d) :
    i.dst = some d ∧ d ≠ t ∧ ∃ t' w', i.guard = some (t', w') ∧ ((t' = t ∧ w' = w) ∨ (t' ≠ t ∧ t' ∈ ds)) := by
  unfold within at h
  split at h
  · rename_i t' w' d' h1 h2
    split at h
    · cases h
    · rename_i hdt
      have hdt : d' ≠ t := by intro c; subst c; simp at hdt
      split at h
      · rename_i q; cases h; exact ⟨h2, hdt, _, _, h1, .inl ⟨Nat.eq_of_beq_eq_true q, rfl⟩⟩
      · rename_i q; cases h; exact ⟨h2, hdt, _, _, h1, .inl ⟨Nat.eq_of_beq_eq_true q, rfl⟩⟩
      · cases h
      · rename_i q
        have hne : t' ≠ t := by intro c; subst c; simp at q
        split at h
        · rename_i hc; cases h; exact ⟨h2, hdt, _, _, h1, .inr ⟨hne, by simpa using hc⟩⟩
        · cases h
  · cases h
theorem stripG_dst (t : Nat) (w : Bool) (i : AInstr) : (stripG t w i).dst = i.dst ∧ (stripG t w i).op = i.op := by
  unfold stripG
  split
  · split <;> exact ⟨rfl, rfl⟩
  · exact ⟨rfl, rfl⟩
/-- it is looked at: as if it had no guard -/
theorem strip_on {t d : Nat} {w : Bool} {ds : List Nat} {i : AInstr} (h : within t w ds i = some d) {e : Env} (he : e.get t = some (.bool w)) : valM call (stripG t w i) e = valM call i e := by
  obtain ⟨_, _, t', w', hg, hc⟩ := within_some h
  rcases hc with ⟨rfl, rfl⟩ | ⟨hne, _⟩
  · have e1 : stripG t' w' i = { i with guard := none } := by unfold stripG; rw [hg]; cases w' <;> simp
    rw [e1]
    unfold valM
    rw [hg]
    simp only [he, Option.bind_some, wanted, beq_self_eq_true, G]
  · have e1 : stripG t w i = i := by
      unfold stripG; rw [hg]
      have : Nat.beq t' t = false := by rw [Bool.eq_false_iff]; intro c; exact hne (Nat.eq_of_beq_eq_true c)
      simp only [this]
    rw [e1]
/-- it is not looked at -/
theorem strip_off {t d : Nat} {w : Bool} {ds : List Nat} {i : AInstr} (h : within t w ds i = some d) {e : Env} (he : e.get t = some (.bool (!w))) (hds : ∀ x ∈ ds, e.get x = some undef) : valM call i e = M.pure undef := by
  obtain ⟨_, _, t', w', hg, hc⟩ := within_some h
  unfold valM
  rw [hg]
  rcases hc with ⟨rfl, rfl⟩ | ⟨hne, hm⟩
  · simp only [he, Option.bind_some, wanted]
    cases w' <;> rfl
  · simp only [hds _ hm, Option.bind_some]; rfl
theorem dropAll_get : ∀ (ds : List Nat) (e : Env) (x : Nat), (dropAll ds e).get x = if x ∈ ds then none else e.get x
  | [], e, x => by simp [dropAll]
  | d :: ds, e, x => by
    simp only [dropAll, dropAll_get ds, Tr.get_set, List.mem_cons]
    by_cases h1 : x ∈ ds
    · simp [h1]
    · by_cases h2 : x = d
      · simp [h2]
      · simp [h1, h2]
theorem dropAll_le {ds : List Nat} {e0 e : Env} (h : ∀ x v, x ∉ ds → e0.get x = some v → e.get x = some v) : Le (dropAll ds e0) e := by
  intro x v hx
  rw [dropAll_get] at hx
  split at hx
  · cases hx
  · rename_i hn; exact h x v hn hx
theorem instr_wp (i : AInstr) (e : Env) (Φ : Env → St → Prop) (S : St) : wpA (instr call i e) Φ S = wpA (valM call i e) (fun v S => Φ (putD e i.dst v) S) S := by
  rw [instr_valM, wpA_bind]
  simp only [wpA_pure]
theorem instrs_cons_wp (i : AInstr) (r : List AInstr) (e : Env) (Φ : Env → St → Prop) (S : St) : wpA (instrs call (i :: r) e) Φ S = wpA (valM call i e) (fun v S => wpA (instrs call r (putD e i.dst v)) Φ S) S := by
  simp only [instrs]
  rw [wpA_bind, instr_wp]
theorem splitG_mem {t : Nat} {w : Bool} : ∀ {l : List AInstr} {ds ds' : List Nat} {blk : List AInstr} {d : Nat} {a : Atom} {r : List AInstr}, splitG t w ds l = some (blk, ds', d, a, r) → ∀ x ∈ ds, x ∈ ds'
  | [], ds, ds', blk, d, a, r, h, x, hx => by cases h
  | i :: l, ds, ds', blk, d, a, r, h, x, hx => by
    simp only [splitG] at h
    split at h
    · cases h; exact hx
    · split at h
      · split at h
        · rename_i q1 q2 q3 q4 q5 q6; cases h; exact splitG_mem q6 x (List.mem_cons_of_mem _ hx)
        · cases h
      · cases h
/-- a short circuit that is looked at -/
theorem group_on {t : Nat} {w : Bool} : ∀ {l : List AInstr} {ds ds' : List Nat} {blk : List AInstr} {d : Nat} {a : Atom} {r : List AInstr}, splitG t w ds l = some (blk, ds', d, a, r) →
    ∀ {e : Env} {Φ : Env → St → Prop} {S : St}, e.get t = some (.bool w) → wpA (instrs call blk e) (fun e2 S2 => Le (dropAll ds' e) e2 → ∃ v, a.ev e2 = some v ∧ wpA (instrs call r (e2.set d (some v))) Φ S2) S →
    wpA (instrs call l e) Φ S
  | [], ds, ds', blk, d, a, r, h, e, Φ, S, he, hw => by cases h
  | i :: l, ds, ds', blk, d, a, r, h, e, Φ, S, he, hw => by
    simp only [splitG] at h
    split at h
    · rename_i d' a' hp
      cases h
      obtain ⟨e2, S2, h1, h2⟩ := hw
      cases h1
      obtain ⟨v, h3, h4⟩ := h2 (dropAll_le fun x v _ h => h)
      rw [instrs_cons_wp]
      have : valM call i e S = some (v, S) ∧ i.dst = some d := by
        rcases pickOf_some hp with ⟨rfl, rfl⟩ | ⟨rfl, rfl⟩
        · refine ⟨?_, rfl⟩
          simp only [valM, exec, M.bind, M.lift, show (Atom.tmp t).ev e = some (.bool true) from he, Option.bind_some, asBool, if_true, h3]; rfl
        · refine ⟨?_, rfl⟩
          simp only [valM, exec, M.bind, M.lift, show (Atom.tmp t).ev e = some (.bool false) from he, Option.bind_some, asBool, Bool.false_eq_true, if_false, h3]; rfl
      refine wpA_of_run this.1 _ ?_
      rw [this.2]
      exact h4
    · rename_i hp
      split at h
      · rename_i d1 hd1
        split at h
        · rename_i blk' q hq
          simp only [Option.some.injEq, Prod.mk.injEq] at h
          obtain ⟨rfl, rfl⟩ := h
          rw [instrs_cons_wp] at hw ⊢
          rw [strip_on hd1 he] at hw
          refine wpA_mono hw fun v S1 hw => ?_
          rw [(stripG_dst t w i).1] at hw
          obtain ⟨w1, w2, w3⟩ := within_some hd1
          refine group_on hq (by rw [w1]; simp only [putD]; rw [Tr.get_set_ne _ _ (Ne.symm w2)]; exact he) (wpA_mono hw fun e2 S2 k hl => k ?_)
          refine dropAll_le fun x v hx h => ?_
          have := hl x v (by rw [dropAll_get, if_neg hx, w1]; simp only [putD]; rw [Tr.get_set_ne _ _ (by intro c; subst c; exact hx (splitG_mem hq _ (List.mem_cons_self ..)))]; exact h)
          exact this
        · cases h
      · cases h
/-- a short circuit that is not looked at -/
theorem group_off {t : Nat} {w : Bool} : ∀ {l : List AInstr} {ds ds' : List Nat} {blk : List AInstr} {d : Nat} {a : Atom} {r : List AInstr}, splitG t w ds l = some (blk, ds', d, a, r) →
    ∀ {e : Env} {Φ : Env → St → Prop} {S : St}, e.get t = some (.bool (!w)) → (∀ x ∈ ds, e.get x = some undef) → (∀ e2, Le (dropAll ds' e) e2 → wpA (instrs call r (e2.set d (some (.bool (!w))))) Φ S) →
    wpA (instrs call l e) Φ S
  | [], ds, ds', blk, d, a, r, h, e, Φ, S, he, hds, hw => by cases h
  | i :: l, ds, ds', blk, d, a, r, h, e, Φ, S, he, hds, hw => by
    simp only [splitG] at h
    split at h
    · rename_i d' a' hp
      cases h
      have h4 := hw e (dropAll_le fun x v _ h => h)
      rw [instrs_cons_wp]
      have : valM call i e S = some (.bool (!w), S) ∧ i.dst = some d := by
        rcases pickOf_some hp with ⟨rfl, rfl⟩ | ⟨rfl, rfl⟩
        · refine ⟨?_, rfl⟩
          simp only [valM, exec, M.bind, M.lift, Atom.ev, he, Option.bind_some, asBool]; rfl
        · refine ⟨?_, rfl⟩
          simp only [valM, exec, M.bind, M.lift, Atom.ev, he, Option.bind_some, asBool]; rfl
      refine wpA_of_run this.1 _ ?_
      rw [this.2]
      exact h4
    · rename_i hp
      split at h
      · rename_i d1 hd1
        split at h
        · rename_i blk' q hq
          simp only [Option.some.injEq, Prod.mk.injEq] at h
          obtain ⟨rfl, rfl⟩ := h
          obtain ⟨w1, w2, w3⟩ := within_some hd1
          rw [instrs_cons_wp, strip_off hd1 he hds, wpA_pure, w1]
          simp only [putD]
          refine group_off hq (by rw [Tr.get_set_ne _ _ (Ne.symm w2)]; exact he) ?_ ?_
          · intro x hx
            rw [Tr.get_set]
            split
            · rfl
            · rename_i hne
              rcases List.mem_cons.1 hx with rfl | hx
              · exact absurd rfl hne
              · exact hds x hx
          · intro e2 hl
            refine hw e2 (dropAll_le fun x v hx h => hl x v ?_)
            rw [dropAll_get, if_neg hx, Tr.get_set_ne _ _ (by intro c; subst c; exact hx (splitG_mem hq _ (List.mem_cons_self ..)))]
            exact h
        · cases h
      · cases h
theorem valM_lg (hcall : ∀ t args, Lg (call t args)) (i : AInstr) (e : Env) : Lg (valM call i e) := by
  unfold valM G
  split
  · exact Lg.exec hcall _ _
  · split
    · exact Lg.fail
    · exact Lg.exec hcall _ _
    · exact Lg.pure _
theorem instrsP_ok (hcall : ∀ t args, Lg (call t args)) : ∀ (f : Nat) (l : List AInstr) (e0 e : Env) (k : Env → Hp → Prop) (S : St), instrsP call f l e0 k S.h → Le e0 e → wpA (instrs call l e) (fun e' S' => ∃ e1, Le e1 e' ∧ k e1 S'.h) S
  | f, [], e0, e, k, S, h, hl => by
    have : k e0 S.h := by cases f <;> exact h
    exact ⟨e, S, rfl, e0, hl, this⟩
  | 0, i :: r, e0, e, k, S, h, hl => h.elim
  | f + 1, i :: r, e0, e, k, S, h, hl => by
    have plain : wp (valM call i e0) (fun v S => instrsP call f r (putD e0 i.dst v) k S) S.h → wpA (instrs call (i :: r) e) (fun e' S' => ∃ e1, Le e1 e' ∧ k e1 S'.h) S := by
      intro hw
      obtain ⟨v, S1, h1, h2⟩ := wp_raw (valM_lg hcall i e0) hw
      rw [instrs_cons_wp]
      exact wpA_of_run (valM_mono hl h1) _ (instrsP_ok hcall f r _ _ k S1 h2 (hl.putD _ _))
    simp only [instrsP] at h
    split at h
    · rename_i d a hm
      split at h
      · exact h.elim
      · rename_i v ha
        obtain rfl := movOf_some hm
        rw [instrs_cons_wp]
        have : valM call (⟨some d, none, .mov a⟩ : AInstr) e S = some (v, S) := by
          simp only [valM, exec, M.bind, M.lift, ev_mono hl ha]; rfl
        exact wpA_of_run this _ (instrsP_ok hcall f r _ _ k S h (hl.set d v))
    · split at h
      · exact plain h
      · rename_i t w hg
        split at h
        · exact plain h
        · rename_i blk ds d a rest hs
          split at h
          · exact h.elim
          · rename_i b hb
            have hb' := hl _ _ hb
            have drop_mono : ∀ {e2 : Env}, Le (dropAll ds e) e2 → Le (dropAll ds e0) e2 := fun h2 x v hx => h2 x v (by
              rw [dropAll_get] at hx ⊢
              split at hx
              · cases hx
              · rename_i hn; rw [if_neg hn]; exact hl x v hx)
            have on : b = .bool w → instrsP call f blk e0 (fun e' S => evK (a.ev e') (fun v S => instrsP call f rest ((dropAll ds e0).set d (some v)) k S) S) S.h → wpA (instrs call (i :: r) e) (fun e' S' => ∃ e1, Le e1 e' ∧ k e1 S'.h) S := by
              intro hbw hq
              subst hbw
              refine group_on hs hb' (wpA_mono (instrsP_ok hcall f blk e0 e _ S hq hl) fun e2 S2 h hd => ?_)
              obtain ⟨e1, h1, h2⟩ := h
              unfold evK at h2
              split at h2
              · exact h2.elim
              · rename_i v hv
                exact ⟨v, ev_mono h1 hv, instrsP_ok hcall f rest _ _ k S2 h2 ((drop_mono hd).set d v)⟩
            have off : b = .bool (!w) → instrsP call f rest ((dropAll ds e0).set d (some (.bool (!w)))) k S.h → wpA (instrs call (i :: r) e) (fun e' S' => ∃ e1, Le e1 e' ∧ k e1 S'.h) S := by
              intro hbw hq
              subst hbw
              exact group_off hs hb' (fun x hx => absurd hx List.not_mem_nil) fun e2 hd => instrsP_ok hcall f rest _ _ k S hq ((drop_mono hd).set d _)
            cases b with
            | bool c =>
              cases c <;> cases w
              · exact on rfl h
              · exact off rfl h
              · exact off rfl h
              · exact on rfl h
            | _ => exact h.elim
def Qt {α : Type} (m : M α) : Prop := ∀ S a S', m S = some (a, S') → ∃ D : List (Nat × Bool), (∀ x ∈ D, x.2 = false) ∧ S' = { heap := S.heap, next := S.next, log := D ++ S.log } ∧ ∀ L, m { heap := S.heap, next := S.next, log := L } = some (a, { heap := S.heap, next := S.next, log := D ++ L })
def Pu {α : Type} (m : M α) : Prop := ∀ S a S', m S = some (a, S') → S' = S ∧ ∀ L, m { heap := S.heap, next := S.next, log := L } = some (a, { heap := S.heap, next := S.next, log := L })
theorem Pu.qt {m : M α} (h : Pu m) : Qt m := by
  intro S a S' k
  obtain ⟨rfl, h2⟩ := h S a S' k
  exact ⟨[], by simp, rfl, h2⟩
theorem Pu.pure (a : α) : Pu (M.pure a) := by intro S b S' h; cases h; exact ⟨rfl, fun L => rfl⟩
theorem Pu.fail : Pu (M.fail : M α) := by intro S b S' h; cases h
theorem Pu.lift (o : Option α) : Pu (M.lift o) := by cases o with | none => exact Pu.fail | some a => exact Pu.pure a
theorem Pu.bind {m : M α} {f : α → M β} (hm : Pu m) (hf : ∀ a, Pu (f a)) : Pu (m.bind f) := by
  intro S b S' h
  simp only [M.bind] at h
  cases hx : m S with
  | none => rw [hx] at h; cases h
  | some p =>
    obtain ⟨a, S1⟩ := p
    rw [hx] at h
    obtain ⟨rfl, h1⟩ := hm S a S1 hx
    obtain ⟨rfl, h2⟩ := hf a _ b S' h
    exact ⟨rfl, fun L => by simp only [M.bind, h1 L]; exact h2 L⟩
theorem Qt.bind {m : M α} {f : α → M β} (hm : Qt m) (hf : ∀ a, Qt (f a)) : Qt (m.bind f) := by
  intro S b S' h
  simp only [M.bind] at h
  cases hx : m S with
  | none => rw [hx] at h; cases h
  | some p =>
    obtain ⟨a, S1⟩ := p
    rw [hx] at h
    obtain ⟨D1, q1, rfl, h1⟩ := hm S a S1 hx
    obtain ⟨D2, q2, rfl, h2⟩ := hf a _ b S' h
    refine ⟨D2 ++ D1, ?_, by simp, fun L => ?_⟩
    · intro x hx
      rcases List.mem_append.1 hx with hx | hx
      · exact q2 x hx
      · exact q1 x hx
    · simp only [M.bind, h1 L]
      rw [h2 (D1 ++ L)]
      simp
theorem Qt.pure (a : α) : Qt (M.pure a) := (Pu.pure a).qt
theorem Qt.fail : Qt (M.fail : M α) := Pu.fail.qt
theorem Qt.lift (o : Option α) : Qt (M.lift o) := (Pu.lift o).qt
theorem Qt.rd (b : Nat) : Qt (rd b) := by
  intro S o S' h
  unfold Wb.rd at h
  cases hb : S.heap.get b with
  | none => rw [hb] at h; cases h
  | some p =>
    rw [hb] at h
    cases h
    exact ⟨[(b, false)], by simp, rfl, fun L => by simp only [Wb.rd, hb]; rfl⟩
theorem Qt.ld1 (b o : Nat) : Qt (ld1 b o) := Qt.bind (Qt.rd b) fun x => by cases x <;> first | exact Qt.lift _ | exact Qt.fail
theorem Qt.ldCells (b o n : Nat) : Qt (ldCells b o n) := Qt.bind (Qt.rd b) fun x => by
  cases x
  · dsimp only; split
    · exact Qt.pure _
    · exact Qt.fail
  · exact Qt.fail
  · exact Qt.fail
  · dsimp only; split
    · exact Qt.pure _
    · exact Qt.fail
  · exact Qt.fail
theorem exec_pure (e : Env) : ∀ (op : AOp), pureOp op = true → Pu (exec call e op) := by
  intro op h
  cases op <;> first | cases h | skip
  all_goals unfold exec
  case len k a =>
    refine Pu.bind (Pu.lift _) fun x => ?_
    cases k <;> first | exact absurd h Bool.false_ne_true | exact Pu.bind (Pu.lift _) fun _ => Pu.pure _
  case conv k a =>
    cases k <;> first | exact absurd h Bool.false_ne_true | skip
    refine Pu.bind (Pu.lift _) fun x => ?_
    cases x <;> first | exact Pu.pure _ | exact Pu.fail
  all_goals repeat' (first | exact Pu.pure _ | exact Pu.fail | exact Pu.lift _ | refine Pu.bind ?_ (fun _ => ?_) | split)
theorem exec_ro (e : Env) : ∀ (op : AOp), roOp op = true → Qt (exec call e op) := by
  intro op h
  by_cases hp : pureOp op = true
  · exact (exec_pure e op hp).qt
  · cases op <;> first | (exact absurd h hp) | skip
    all_goals unfold exec
    case conv k a =>
      cases k <;> first | exact absurd h Bool.false_ne_true | exact absurd rfl hp | skip
      refine Qt.bind (Qt.lift _) fun x => ?_
      cases x <;> first | exact Qt.fail | skip
      case chan o => cases o <;> first | exact Qt.pure _ | exact Qt.fail
      rename_i p n c
      cases p with
      | none => exact Qt.pure _
      | some p => exact Qt.bind (Qt.ldCells _ _ _) fun _ => Qt.bind (Qt.lift _) fun _ => Qt.pure _
    all_goals repeat' (first | exact Qt.pure _ | exact Qt.fail | exact Qt.lift _ | exact Qt.rd _ | exact Qt.ld1 _ _ | exact Qt.ldCells _ _ _ | refine Qt.bind ?_ (fun _ => ?_) | split)
theorem valM_pure {i : AInstr} (e : Env) (h : pureOp i.op = true) : Pu (valM call i e) := by
  unfold valM G
  split
  · exact exec_pure e _ h
  · split
    · exact Pu.fail
    · exact exec_pure e _ h
    · exact Pu.pure _
theorem valM_ro {i : AInstr} (e : Env) (h : roOp i.op = true) : Qt (valM call i e) := by
  unfold valM G
  split
  · exact exec_ro e _ h
  · split
    · exact Qt.fail
    · exact exec_ro e _ h
    · exact Qt.pure _
def quietT (t : Touch) : Prop := t.lo = t.hi ∧ ∀ x ∈ t.log, x.2 = false
theorem hits_quiet {a b : Touch} (ha : quietT a) (hb : quietT b) : hits a b = false := by
  unfold hits
  rw [List.any_eq_false]
  intro x hx
  have h1 : (Nat.ble b.lo x.1 && Nat.blt x.1 b.hi) = false := by
    rw [← hb.1]
    cases h : Nat.ble b.lo x.1 with
    | false => rfl
    | true =>
      cases h2 : Nat.blt x.1 b.lo with
      | false => rfl
      | true =>
        have e1 := Nat.le_of_ble_eq_true h
        have e2 : x.1 + 1 ≤ b.lo := Nat.le_of_ble_eq_true h2
        omega
  rw [h1]
  simp only [Bool.false_or, Bool.not_eq_true]
  rw [List.any_eq_false]
  intro y hy
  simp [ha.2 x hx, hb.2 y hy]
def apartR (ms : List Nat) (a b : Nat × Touch) : Prop := (ms.getD a.1 0).testBit b.1 = true ∨ (hits a.2 b.2 = false ∧ hits b.2 a.2 = false)
theorem apartOne_iff (ms : List Nat) (j : Nat) (t : Touch) : ∀ (ts : List (Nat × Touch)), apartOne (ms.getD j 0) t ts = true ↔ ∀ x ∈ ts, apartR ms (j, t) x
  | [] => by simp [apartOne]
  | (i, u) :: r => by
    simp only [apartOne, Bool.and_eq_true, Bool.or_eq_true, Bool.not_eq_true', apartOne_iff ms j t r, List.mem_cons, forall_eq_or_imp, apartR]
theorem apartAll_iff (ms : List Nat) : ∀ (ts : List (Nat × Touch)), apartAll ms ts = true ↔ ts.Pairwise (apartR ms)
  | [] => by simp [apartAll]
  | (j, t) :: r => by simp only [apartAll, Bool.and_eq_true, apartOne_iff, apartAll_iff ms r, List.pairwise_cons]
theorem pMask_bit : ∀ (l : List AInstr) (j k : Nat), (pMask l j).testBit k = true → ∃ i, l[k - j]? = some i ∧ j ≤ k ∧ pureOp i.op = true
  | [], j, k, h => by simp [pMask] at h
  | i :: l, j, k, h => by
    simp only [pMask] at h
    have rest : (pMask l (j + 1)).testBit k = true → ∃ i', (i :: l)[k - j]? = some i' ∧ j ≤ k ∧ pureOp i'.op = true := fun h => by
      obtain ⟨i', h1, h2, h3⟩ := pMask_bit l (j + 1) k h
      refine ⟨i', ?_, by omega, h3⟩
      rw [show k - j = (k - (j + 1)) + 1 by omega, List.getElem?_cons_succ]
      exact h1
    split at h
    · rename_i hp
      have h' : (2 ^ j ||| pMask l (j + 1)).testBit k = true := h
      rw [Nat.testBit_or, Bool.or_eq_true, Nat.testBit_two_pow] at h'
      rcases h' with h' | h'
      · have : j = k := by simpa using h'
        subst this
        exact ⟨i, by simp, Nat.le_refl _, hp⟩
      · exact rest h'
    · exact rest h
theorem rMask_bit : ∀ (l : List AInstr) (j k : Nat), (rMask l j).testBit k = true → ∃ i, l[k - j]? = some i ∧ j ≤ k ∧ roOp i.op = true
  | [], j, k, h => by simp [rMask] at h
  | i :: l, j, k, h => by
    simp only [rMask] at h
    have rest : (rMask l (j + 1)).testBit k = true → ∃ i', (i :: l)[k - j]? = some i' ∧ j ≤ k ∧ roOp i'.op = true := fun h => by
      obtain ⟨i', h1, h2, h3⟩ := rMask_bit l (j + 1) k h
      refine ⟨i', ?_, by omega, h3⟩
      rw [show k - j = (k - (j + 1)) + 1 by omega, List.getElem?_cons_succ]
      exact h1
    split at h
    · rename_i hp
      have h' : (2 ^ j ||| rMask l (j + 1)).testBit k = true := h
      rw [Nat.testBit_or, Bool.or_eq_true, Nat.testBit_two_pow] at h'
      rcases h' with h' | h'
      · have : j = k := by simpa using h'
        subst this
        exact ⟨i, by simp, Nat.le_refl _, hp⟩
      · exact rest h'
    · exact rest h
theorem okNgo_bit {pm rm nm : Nat} {ms : List Nat} : ∀ (l : List AInstr) (j0 : Nat), okNgo pm rm nm ms l j0 = true → ∀ (j i : Nat), j0 ≤ j → j < j0 + l.length → i < j →
    pm.testBit j = true ∨ (ms.getD j 0).testBit i = true ∨ pm.testBit i = true ∨ (nm.testBit j = true ∧ nm.testBit i = true) ∨ (rm.testBit j = true ∧ rm.testBit i = true)
  | [], j0, h, j, i, h1, h2, h3 => by simp at h2; omega
  | a :: l, j0, h, j, i, h1, h2, h3 => by
    simp only [okNgo, Bool.and_eq_true, Bool.or_eq_true] at h
    by_cases hj : j = j0
    · subst hj
      rcases h.1 with h4 | h4
      · exact .inl h4
      · have h5 := Nat.eq_of_beq_eq_true h4
        have h6 := congrArg (fun x => x.testBit i) h5
        have e1 : (2 ^ j - 1).testBit i = true := by rw [Nat.testBit_two_pow_sub_one]; simpa using h3
        change ((2 ^ j - 1) &&& (((ms.getD j 0) ||| pm) ||| ((match nm.testBit j with | true => nm | false => 0) ||| (match rm.testBit j with | true => rm | false => 0)))).testBit i = _ at h6
        simp only [Nat.testBit_and, Nat.testBit_or, e1, Bool.true_and, Bool.or_eq_true] at h6
        rcases h6 with (h6 | h6) | h6 | h6
        · exact .inr (.inl h6)
        · exact .inr (.inr (.inl h6))
        · split at h6
          · rename_i q; exact .inr (.inr (.inr (.inl ⟨q, h6⟩)))
          · simp at h6
        · split at h6
          · rename_i q; exact .inr (.inr (.inr (.inr ⟨q, h6⟩)))
          · simp at h6
    · exact okNgo_bit l (j0 + 1) h.2 j i (by omega) (by simp at h2; omega) h3
/-- what an instruction of a region touches -/
structure Seen (l0 : List AInstr) (ms : List Nat) (nm : Nat) (j : Nat) (tsF ts : List (Nat × Touch)) : Prop where
  keep : tsF.filter (fun x => nm.testBit x.1) = ts
  below : ∀ x ∈ tsF, x.1 < j ∧ (pMask l0 0).testBit x.1 = false ∧ ((rMask l0 0).testBit x.1 = true → quietT x.2)
  apart : tsF.Pairwise fun a b => ¬ (nm.testBit a.1 = true ∧ nm.testBit b.1 = true) → apartR ms a b
theorem keepT_or {j : Nat} {t : Touch} {ts : List (Nat × Touch)} : keepT j t ts = (j, t) :: ts ∨ (keepT j t ts = ts ∧ t.log = [] ∧ t.lo = t.hi) := by
  unfold keepT
  split
  · rename_i h1 h2; exact .inr ⟨rfl, h1, Nat.eq_of_beq_eq_true h2⟩
  · exact .inl rfl
theorem Seen.step {l0 : List AInstr} {ms : List Nat} {nm j : Nat} {tsF ts : List (Nat × Touch)} (h : Seen l0 ms nm j tsF ts) (ho : okN l0 ms nm = true) (hj : j < l0.length) {t : Touch}
    (hp : (pMask l0 0).testBit j = true → t.log = [] ∧ t.lo = t.hi) (hr : (rMask l0 0).testBit j = true → quietT t) :
    Seen l0 ms nm (j + 1) (keepT j t tsF) (match nm.testBit j with | true => keepT j t ts | false => ts) := by
  rcases keepT_or (j := j) (t := t) (ts := tsF) with h1 | ⟨h1, h2, h3⟩
  · have h1' : keepT j t ts = (j, t) :: ts := by
      rcases keepT_or (j := j) (t := t) (ts := ts) with h4 | ⟨h4, h5, h6⟩
      · exact h4
      · have : keepT j t tsF = tsF := by unfold keepT; rw [h5, h6]; simp
        rw [h1] at this
        have := congrArg List.length this
        simp at this
    have hnp : (pMask l0 0).testBit j = false := by
      rw [Bool.eq_false_iff]; intro c
      obtain ⟨h5, h6⟩ := hp c
      have : keepT j t tsF = tsF := by unfold keepT; rw [h5, h6]; simp
      rw [h1] at this
      have := congrArg List.length this
      simp at this
    rw [h1]
    refine ⟨?_, ?_, ?_⟩
    · simp only [List.filter_cons]
      cases hn : nm.testBit j with
      | true => simp only [if_true, h1', h.keep]
      | false => simp only [Bool.false_eq_true, if_false, h.keep]
    · intro x hx
      rcases List.mem_cons.1 hx with rfl | hx
      · exact ⟨Nat.lt_succ_self _, hnp, hr⟩
      · exact ⟨Nat.lt_succ_of_lt (h.below x hx).1, (h.below x hx).2⟩
    · refine List.pairwise_cons.2 ⟨fun x hx hn => ?_, h.apart⟩
      obtain ⟨b1, b2, b3⟩ := h.below x hx
      rcases okNgo_bit l0 0 ho j x.1 (Nat.zero_le _) (by omega) b1 with c | c | c | c | c
      · rw [c] at hnp; cases hnp
      · exact .inl c
      · rw [c] at b2; cases b2
      · exact absurd c hn
      · exact .inr ⟨hits_quiet (hr c.1) (b3 c.2), hits_quiet (b3 c.2) (hr c.1)⟩
  · have h1' : keepT j t ts = ts := by unfold keepT; rw [h2, h3]; simp
    have : (match nm.testBit j with | true => keepT j t ts | false => ts) = ts := by rw [h1']; split <;> rfl
    rw [h1, this]
    exact ⟨h.keep, fun x hx => ⟨Nat.lt_succ_of_lt (h.below x hx).1, (h.below x hx).2⟩, h.apart⟩
theorem touch_pure {i : AInstr} {e : Env} {S S1 : St} {v : Value} (hi : pureOp i.op = true) (h : valM call i e { heap := S.heap, next := S.next, log := [] } = some (v, S1)) : S1.log = [] ∧ S.next = S1.next := by
  obtain ⟨rfl, _⟩ := valM_pure e hi _ _ _ h
  exact ⟨rfl, rfl⟩
theorem touch_ro {i : AInstr} {e : Env} {S S1 : St} {v : Value} (hi : roOp i.op = true) (h : valM call i e { heap := S.heap, next := S.next, log := [] } = some (v, S1)) : quietT ⟨S1.log, S.next, S1.next⟩ := by
  obtain ⟨D, h1, rfl, _⟩ := valM_ro e hi _ _ _ h
  exact ⟨rfl, by simpa using h1⟩
theorem drawnP_ok (hcall : ∀ t args, Lg (call t args)) {l0 : List AInstr} {ms : List Nat} {nm : Nat} (ho : okN l0 ms nm = true) : ∀ (l : List AInstr) (j : Nat) (e0 e : Env) (tsF ts : List (Nat × Touch)) (k : Env → Hp → Prop) (S : St), l0.drop j = l → Seen l0 ms nm j tsF ts →
    drawnP call ms nm l j e0 ts k S.h → Le e0 e →
    wpA (drawnGo call l j e tsF) (fun r S' => apartAll ms r.2 = true ∧ ∃ e1, Le e1 r.1 ∧ k e1 S'.h) S
  | [], j, e0, e, tsF, ts, k, S, hd, hs, h, hl => by
    simp only [drawnP, okP] at h
    cases hb : apartAll ms ts with
    | false => rw [hb] at h; exact h.elim
    | true =>
      rw [hb] at h
      refine ⟨(e, tsF), S, rfl, ?_, e0, hl, h⟩
      rw [apartAll_iff] at hb ⊢
      rw [← hs.keep, List.pairwise_filter] at hb
      refine hb.imp₂ (fun {a b} (h1 : nm.testBit a.1 = true → nm.testBit b.1 = true → apartR ms a b) (h2 : ¬ (nm.testBit a.1 = true ∧ nm.testBit b.1 = true) → apartR ms a b) => ?_) hs.apart
      by_cases hc : nm.testBit a.1 = true ∧ nm.testBit b.1 = true
      · exact h1 hc.1 hc.2
      · exact h2 hc
  | i :: r, j, e0, e, tsF, ts, k, S, hd, hs, h, hl => by
    have hj : j < l0.length := by
      have := congrArg List.length hd
      simp at this; omega
    have hi : l0[j]? = some i := by
      have := congrArg List.head? hd
      simpa using this
    have hr : l0.drop (j + 1) = r := by
      have := congrArg List.tail hd
      simpa using this
    have gp : (pMask l0 0).testBit j = true → pureOp i.op = true := fun c => by
      obtain ⟨i', h1, _, h3⟩ := pMask_bit l0 0 j c
      rw [Nat.sub_zero, hi] at h1; cases h1; exact h3
    have gr : (rMask l0 0).testBit j = true → roOp i.op = true := fun c => by
      obtain ⟨i', h1, _, h3⟩ := rMask_bit l0 0 j c
      rw [Nat.sub_zero, hi] at h1; cases h1; exact h3
    have go : ∀ {v : Value} {S1 : St} {tsx : List (Nat × Touch)}, valM call i e0 S.h.st = some (v, S1) →
        (match nm.testBit j with | true => keepT j { log := S1.log, lo := S.next, hi := S1.next } ts | false => ts) = tsx →
        drawnP call ms nm r (j + 1) (putD e0 i.dst v) tsx k (S1.over S.h.wl) →
        wpA (drawnGo call (i :: r) j e tsF) (fun r S' => apartAll ms r.2 = true ∧ ∃ e1, Le e1 r.1 ∧ k e1 S'.h) S := by
      intro v S1 tsx h1 htx h2
      have h3 := valM_mono hl h1
      have hst := hs.step ho hj (t := { log := S1.log, lo := S.next, hi := S1.next }) (fun c => touch_pure (gp c) h1) (fun c => touch_ro (gr c) h1)
      rw [htx] at hst
      have eo : S1.over S.h.wl = ({ heap := S1.heap, next := S1.next, log := S1.log ++ S.log } : St).h := by simp only [St.over, St.h, wrs_append]
      rw [eo] at h2
      obtain ⟨q, S2, h4, h5⟩ := drawnP_ok hcall ho r _ _ _ _ _ k ({ heap := S1.heap, next := S1.next, log := S1.log ++ S.log } : St) hr hst h2 (hl.putD i.dst v)
      refine ⟨q, S2, ?_, h5⟩
      have h3' : valM call i e { heap := S.heap, next := S.next, log := [] } = some (v, S1) := h3
      simp only [drawnGo, instr_valM, M.bind, h3', M.pure]
      exact h4
    simp only [drawnP] at h
    split at h
    · rename_i hn
      simp only [dstepP] at h
      obtain ⟨v, S1, h1, h2⟩ := h
      exact go h1 (by rw [hn]; rfl) h2
    · rename_i hn
      split at h
      · rename_i d a hm
        split at h
        · exact h.elim
        · rename_i v ha
          obtain rfl := movOf_some hm
          have : valM call (⟨some d, none, .mov a⟩ : AInstr) e0 S.h.st = some (v, S.h.st) := by
            simp only [valM, exec, M.bind, M.lift, ha]; rfl
          exact go this (by rw [hn]) h
      · obtain ⟨v, S1, h1, h2⟩ := h
        exact go h1 (by rw [hn]) h2
theorem drawn_ro (ms : List Nat) : ∀ (l : List AInstr) (j : Nat) (e : Env) (ts : List (Nat × Touch)) (e' : Env) (S S' : St), allRo l = true → instrs call l e S = some (e', S') → (∀ x ∈ ts, quietT x.2) →
    ∃ ts', drawnGo call l j e ts S = some ((e', ts'), S') ∧ ∀ x ∈ ts', quietT x.2
  | [], j, e, ts, e', S, S', ha, h, hq => by cases h; exact ⟨ts, rfl, hq⟩
  | i :: l, j, e, ts, e', S, S', ha, h, hq => by
    simp only [allRo, Bool.and_eq_true] at ha
    simp only [instrs, instr_valM, M.bind] at h
    cases hx : valM call i e S with
    | none => rw [hx] at h; cases h
    | some p =>
      obtain ⟨v, S1⟩ := p
      rw [hx] at h
      obtain ⟨D, h3, rfl, h4⟩ := valM_ro e ha.1 _ _ _ hx
      have hq' : ∀ x ∈ keepT j { log := D, lo := S.next, hi := S.next } ts, quietT x.2 := by
        intro x hx
        rcases keepT_or (j := j) (t := { log := D, lo := S.next, hi := S.next }) (ts := ts) with h5 | ⟨h5, _⟩
        · rw [h5] at hx
          rcases List.mem_cons.1 hx with rfl | hx
          · exact ⟨rfl, h3⟩
          · exact hq x hx
        · rw [h5] at hx; exact hq x hx
      obtain ⟨ts', h6, h7⟩ := drawn_ro ms l (j + 1) (putD e i.dst v) _ e' _ S' ha.2 h hq'
      refine ⟨ts', ?_, h7⟩
      simp only [drawnGo, instr_valM, M.bind, h4 [], M.pure, List.append_nil]
      exact h6
theorem apart_quiet {ms : List Nat} : ∀ {ts : List (Nat × Touch)}, (∀ x ∈ ts, quietT x.2) → apartAll ms ts = true
  | [], h => rfl
  | (j, t) :: r, h => by
    rw [apartAll_iff]
    refine List.pairwise_cons.2 ⟨fun x hx => .inr ⟨hits_quiet (h _ (List.mem_cons_self ..)) (h x (List.mem_cons_of_mem _ hx)), hits_quiet (h x (List.mem_cons_of_mem _ hx)) (h _ (List.mem_cons_self ..))⟩, ?_⟩
    rw [← apartAll_iff]
    exact apart_quiet fun x hx => h x (List.mem_cons_of_mem _ hx)
theorem readL_mono {e e' : Env} (hl : Le e e') : ∀ {L : List Nat} {vs : List Value}, readL e L = some vs → readL e' L = some vs
  | [], vs, h => h
  | t :: L, vs, h => by
    simp only [readL] at h ⊢
    cases h1 : e.get t with
    | none => rw [h1] at h; cases h
    | some v =>
      rw [h1] at h
      rw [hl _ _ h1]
      cases h2 : readL e L with
      | none => rw [h2] at h; cases h
      | some r => rw [h2] at h; rw [readL_mono hl h2]; exact h
theorem invP_mono {L : List Nat} {I : InvT L.length} {e e' : Env} {S : Hp} (hl : Le e e') (h : invP L I e S) : invP L I e' S := by
  unfold invP at h ⊢
  cases h1 : readL e L with
  | none => rw [h1] at h; exact h.elim
  | some vs => rw [h1] at h; rw [readL_mono hl h1]; exact h
theorem readL_len {e : Env} : ∀ {L : List Nat} {vs : List Value}, readL e L = some vs → vs.length = L.length
  | [], vs, h => by cases h; rfl
  | t :: L, vs, h => by
    simp only [readL] at h
    split at h
    · rename_i v r h1 h2; cases h; simp [readL_len h2]
    · cases h
theorem allV_all : ∀ {n : Nat} {P : List Value → Prop}, allV n P → ∀ vs : List Value, vs.length = n → P vs
  | 0, P, h, vs, hv => by obtain rfl := List.length_eq_zero_iff.1 hv; exact h
  | n + 1, P, h, [], hv => by simp at hv
  | n + 1, P, h, v :: vs, hv => allV_all (h v) vs (by simpa using hv)
theorem zipSet_le {e : Env} : ∀ {L : List Nat} {vs : List Value} {e0 : Env}, readL e L = some vs → Le e0 e → Le (zipSet L vs e0) e
  | [], vs, e0, h, hl => by cases h; exact hl
  | t :: L, vs, e0, h, hl => by
    simp only [readL] at h
    split at h
    · rename_i v r h1 h2
      cases h
      exact zipSet_le (L := L) h2 (hl.of_set h1)
    · cases h
theorem codeP_ok (hcall : ∀ t args, Lg (call t args)) (A : List (Nat × List Nat)) (fuel : Nat) : ∀ (c : ACode) (p : Nat) (e0 e : Env) (k : Ext → Env → Hp → Prop) (S : St), codeP call A fuel p c e0 k S.h → Le e0 e →
    wpA (run call fuel c e) (fun r S' => ∃ e1, Le e1 r.2 ∧ k r.1 e1 S'.h) S
  | .skip, p, e0, e, k, S, h, hl => ⟨_, _, rfl, e0, hl, h⟩
  | .exit id, p, e0, e, k, S, h, hl => ⟨_, _, rfl, e0, hl, h⟩
  | .ret, p, e0, e, k, S, h, hl => ⟨_, _, rfl, e0, hl, h⟩
  | .range f ps as bd, p, e0, e, k, S, h, hl => by
    simp only [codeP, rangeP] at h
    simp only [run, wpA_bind]
    cases hf : f.ev e0 with
    | none => rw [hf] at h; exact h.elim
    | some g =>
      rw [hf] at h
      simp only at h
      rw [ev_mono hl hf, wpA_lift, wpA_nw]
      cases ht : target g [.func (.yield S.next) #[] #[]] with
      | none =>
        have ht' : target g [.func (.yield S.h.next) #[] #[]] = none := ht
        rw [ht'] at h; exact h.elim
      | some t =>
        have ht' : target g [.func (.yield S.h.next) #[] #[]] = some t := ht
        rw [ht'] at h
        simp only at h
        rw [wpA_lift]
        have hw := wp_raw (hcall t.1 t.2) (S := S.add (.loop ps as bd e none)) (h e hl)
        refine wpA_mono hw fun _ S2 h => ?_
        obtain ⟨ps', as', bd', e2, p, h1, h2⟩ := h
        have h1' : S2.heap.get S.next = some (.loop ps' as' bd' e2 p) := h1
        rw [wpA_rd h1']
        simp only [wpA_bind, wpA_wr]
        cases p with
        | none => simp only [wpA_pure]; exact ⟨e0, hl, h2⟩
        | some x => simp only [wpA_pure]; exact ⟨e0, hl, h2⟩
  | .ops l, p, e0, e, k, S, h, hl => by
    simp only [run, wpA_bind]
    refine wpA_mono (instrsP_ok hcall l.length l e0 e _ S h hl) fun e' S' h => ?_
    rw [wpA_pure]
    exact h
  | .drawn l ms, p, e0, e, k, S, h, hl => by
    simp only [run, drawnA, wpA_bind]
    simp only [codeP] at h
    split at h
    · rename_i ha
      obtain ⟨e', S', h1, h2⟩ := instrsP_ok hcall l.length l e0 e _ S h hl
      obtain ⟨ts', h3, h4⟩ := drawn_ro ms l 0 e [] e' S S' ha h1 (by simp)
      refine wpA_of_run h3 _ ?_
      rw [apart_quiet h4]
      simp only [if_true, wpA_pure]
      exact h2
    · split at h
      · rename_i ho
        refine wpA_mono (drawnP_ok hcall ho l 0 e0 e [] [] _ S rfl ⟨rfl, by simp, List.Pairwise.nil⟩ h hl) fun r S' h => ?_
        rw [h.1]
        simp only [if_true, wpA_pure]
        exact h.2
      · exact h.elim
  | .seq a b, p, e0, e, k, S, h, hl => by
    simp only [run, wpA_bind]
    refine wpA_mono (codeP_ok hcall A fuel a _ e0 e _ S h hl) fun r S' h => ?_
    obtain ⟨x, e'⟩ := r
    obtain ⟨e1, h1, h2⟩ := h
    cases x with
    | normal => exact codeP_ok hcall A fuel b _ e1 e' _ S' h2 h1
    | exit id => simp only [wpA_pure]; exact ⟨e1, h1, h2⟩
    | ret => simp only [wpA_pure]; exact ⟨e1, h1, h2⟩
  | .cond c a b, p, e0, e, k, S, h, hl => by
    simp only [codeP, ifP] at h
    simp only [run, wpA_bind]
    cases hc : (c.ev e0).bind asBool with
    | none => rw [hc] at h; exact h.elim
    | some t =>
      rw [hc] at h
      rw [evB_mono hl hc, wpA_lift]
      cases t with
      | true => exact codeP_ok hcall A fuel a _ e0 e _ S h hl
      | false => exact codeP_ok hcall A fuel b _ e0 e _ S h hl
  | .block id a, p, e0, e, k, S, h, hl => by
    simp only [run, wpA_bind]
    refine wpA_mono (codeP_ok hcall A fuel a _ e0 e _ S h hl) fun r S' h => ?_
    obtain ⟨x, e'⟩ := r
    obtain ⟨e1, h1, h2⟩ := h
    cases x with
    | normal => simp only [wpA_pure]; exact ⟨e1, h1, h2⟩
    | ret => simp only [wpA_pure]; exact ⟨e1, h1, h2⟩
    | exit i =>
      simp only [blockP] at h2
      by_cases hi : i = id
      · subst hi
        have : Nat.beq i i = true := by simp
        rw [this] at h2
        simp only [if_true, wpA_pure]
        exact ⟨e1, h1, h2⟩
      · have : Nat.beq i id = false := by rw [Bool.eq_false_iff]; intro c; exact hi (Nat.eq_of_beq_eq_true c)
        rw [this] at h2
        simp only [if_neg hi, wpA_pure]
        exact ⟨e1, h1, h2⟩
  | .loop a, p, e0, e, k, S, h, hl => by
    simp only [codeP, loopP] at h
    obtain ⟨I, ⟨m0, hm0, h0⟩, hs⟩ := h
    simp only [run]
    have key : ∀ (n m : Nat) (e : Env) (S : St), m < n → invP _ (I m) e S.h → wpA (iter (run call fuel a) n e) (fun r S' => ∃ e1, Le e1 r.2 ∧ k r.1 e1 S'.h) S := by
      intro n
      induction n with
      | zero => intro m e S hm h; omega
      | succ n ih =>
        intro m e S hm h
        simp only [iter, wpA_bind]
        unfold invP at h
        split at h
        · rename_i vs hv
          have h1 := allV_all (hs m S.h) vs (readL_len hv) h
          refine wpA_mono (codeP_ok hcall A fuel a _ _ e _ S h1 (zipSet_le hv (Le.leaf e))) fun r S' h => ?_
          obtain ⟨x, e'⟩ := r
          obtain ⟨e1, h2, h3⟩ := h
          cases x with
          | normal =>
            obtain ⟨j, hj, h4⟩ := h3
            exact ih j e' S' (by omega) (invP_mono h2 h4)
          | exit i => simp only [wpA_pure]; exact ⟨e1, h2, h3⟩
          | ret => simp only [wpA_pure]; exact ⟨e1, h2, h3⟩
        · exact h.elim
    exact key fuel m0 e S hm0 (invP_mono hl h0)
theorem cellV_lg (x : Value) (sh : Sh) : Lg (cellV x sh) := by
  unfold cellV
  split
  · split
    · exact Lg.ld1 _ _
    · exact Lg.bind (Lg.ldCells _ _ _) fun _ => Lg.pure _
  · exact Lg.fail
theorem resP_ok {e1 e : Env} (hl : Le e1 e) : ∀ (rs : List ARes) (k : List Value → Hp → Prop) (S : St), resP e1 rs k S.h → wpA (resAll e rs) (fun vs S' => k vs S'.h) S
  | [], k, S, h => ⟨[], S, rfl, h⟩
  | .tmp t :: rs, k, S, h => by
    simp only [resP] at h
    simp only [resAll, wpA_bind, resV]
    cases ht : e1.get t with
    | none => rw [ht] at h; exact h.elim
    | some v =>
      rw [ht] at h
      rw [hl _ _ ht, wpA_lift]
      refine wpA_mono (resP_ok hl rs _ S h) fun vs S' h => ?_
      rw [wpA_pure]; exact h
  | .cell t sh :: rs, k, S, h => by
    simp only [resP] at h
    simp only [resAll, wpA_bind, resV]
    cases ht : e1.get t with
    | none => rw [ht] at h; exact h.elim
    | some x =>
      rw [ht] at h
      rw [hl _ _ ht, wpA_lift]
      refine wpA_mono (wp_raw (cellV_lg x sh) h) fun v S' h => ?_
      refine wpA_mono (resP_ok hl rs _ S' h) fun vs S' h => ?_
      rw [wpA_pure]; exact h
/-- a call -/
theorem callP {F : Nat → Option AFn} {n : Nat} {f : FuncId} {af : AFunc} {args : List Value} {A : List (Nat × List Nat)} {Φ : Value → Hp → Prop} {S : Hp} (hF : F f = some (.go af)) (hl : args.length = af.nparams)
    (h : codeP (callN F n) A n 1 af.body (argsEnv args 0 .leaf) (endP af.results Φ) S) : wp (callN F (n + 1) (.fn f) args) Φ S := by
  refine wp_of_wpA (Lg.callN F (n + 1) (.fn f) args) ?_
  rw [← full_h S] at h
  simp only [callN, hF, hl, if_true, wpA_bind]
  refine wpA_mono (codeP_ok (Lg.callN F n) A n af.body 1 _ _ _ S.full h (Le.refl _)) fun r S' h => ?_
  obtain ⟨x, e'⟩ := r
  obtain ⟨e1, h1, h2⟩ := h
  have key : resP e1 af.results (fun vs S => Φ (tupP vs) S) S'.h → wpA (M.bind (resAll e' af.results) fun vs => match vs with | [v] => M.pure v | vs => M.pure (.tuple vs.toArray)) (fun a S' => Φ a S'.h) S' := by
    intro h
    rw [wpA_bind]
    refine wpA_mono (resP_ok h1 af.results _ S' h) fun vs S' h => ?_
    unfold tupP at h
    split
    · simp only [wpA_pure]; exact h
    · rename_i hx
      rw [wpA_pure]
      split at h
      · rename_i v; exact absurd rfl (hx v)
      · exact h
  cases x with
  | exit id => exact h2.elim
  | normal => exact key h2
  | ret => exact key h2
/-- a call back -/
theorem yieldP {F : Nat → Option AFn} {n l : Nat} {args : List Value} {ps : List Nat} {as bd : ACode} {e e0 : Env} {A B : List (Nat × List Nat)} {Φ : Value → Hp → Prop} {S : Hp}
    (hS : S.heap.get l = some (.loop ps as bd e none)) (hl : args.length = ps.length) (he : Le (zipSet ps args e0) (zipSet ps args e))
    (h : codeP (callN F n) A n 1 as (zipSet ps args e0) (contP (fun e1 S1 => codeP (callN F n) B n 1 bd e1 (contP (fun _ S2 => Φ (.bool true) (S2.put l (some (.loop ps as bd e none)))) (fun x _ S2 => Φ (.bool false) (S2.put l (some (.loop ps as bd e (some x)))))) S1) (fun _ _ _ => False)) (S.put l none)) :
    wp (callN F (n + 1) (.yield l) args) Φ S := by
  refine wp_of_wpA (Lg.callN F (n + 1) (.yield l) args) ?_
  have hS' : S.full.heap.get l = some (.loop ps as bd e none) := hS
  have e1 : S.put l none = ((S.full.saw l).put l none).h := by
    simp only [Hp.put, St.h, St.put, St.saw, Hp.full, wrs, wrs_full]
  rw [e1] at h
  simp only [callN, wpA_bind, wpA_rd hS', if_pos hl, wpA_wr]
  refine wpA_mono (codeP_ok (Lg.callN F n) A n as 1 _ _ _ _ h he) fun r S1 h => ?_
  obtain ⟨x, e'⟩ := r
  obtain ⟨e1, h1, h2⟩ := h
  cases x with
  | exit id => exact h2.elim
  | ret => exact h2.elim
  | normal =>
    simp only [wpA_bind]
    refine wpA_mono (codeP_ok (Lg.callN F n) B n bd 1 _ _ _ _ h2 h1) fun r S2 h => ?_
    obtain ⟨x, e''⟩ := r
    obtain ⟨e2, h3, h4⟩ := h
    cases x with
    | normal => simp only [wpA_bind, wpA_wr, wpA_pure]; exact h4
    | exit id => simp only [wpA_bind, wpA_wr, wpA_pure]; exact h4
    | ret => simp only [wpA_bind, wpA_wr, wpA_pure]; exact h4
theorem zipSet_mono : ∀ {ps : List Nat} {args : List Value} {e0 e : Env}, Le e0 e → Le (zipSet ps args e0) (zipSet ps args e)
  | [], _, _, _, h => h
  | _ :: _, [], _, _, h => h
  | p :: ps, v :: vs, e0, e, h => zipSet_mono (ps := ps) (args := vs) (h.set p v)
end Go.Wb
end
/- The engine, part P: what each operation of a text brings. -/
section
set_option linter.unusedSimpArgs false
set_option linter.unusedVariables false
namespace Go.Wb
variable {α β : Type} {C : Tgt → List Value → M Value} {S : Hp} {Φ : Value → Hp → Prop}

/-! ## Heaps -/
@[simp] theorem Hp.put_next (S : Hp) (b : Nat) (o : Option Blk) : (S.put b o).next = S.next := id rfl
@[simp] theorem Hp.add_next (S : Hp) (o : Blk) : (S.add o).next = S.next + 1 := id rfl
theorem Hp.put_wl (S : Hp) (b : Nat) (o : Option Blk) : (S.put b o).wl = b :: S.wl := id rfl
theorem Hp.add_wl (S : Hp) (o : Blk) : (S.add o).wl = S.wl := id rfl
theorem Hp.put_get (S : Hp) (b : Nat) (o : Option Blk) (c : Nat) : (S.put b o).heap.get c = if c = b then o else S.heap.get c := Tr.get_set _ _ _ _
theorem Hp.add_get (S : Hp) (o : Blk) (c : Nat) : (S.add o).heap.get c = if c = S.next then some o else S.heap.get c := Tr.get_set _ _ _ _
theorem put_at (S : Hp) (b : Nat) (o : Option Blk) : (S.put b o).heap.get b = o := by rw [Hp.put_get, if_pos rfl]
theorem put_off {b c : Nat} (h : c ≠ b) (S : Hp) (o : Option Blk) : (S.put b o).heap.get c = S.heap.get c := by rw [Hp.put_get, if_neg h]
theorem add_at (S : Hp) (o : Blk) : (S.add o).heap.get S.next = some o := by rw [Hp.add_get, if_pos rfl]
theorem add_eq {c : Nat} (h : c = S.next) (o : Blk) : (S.add o).heap.get c = some o := by rw [Hp.add_get, if_pos h]
theorem add_off {c : Nat} (h : c ≠ S.next) (o : Blk) : (S.add o).heap.get c = S.heap.get c := by rw [Hp.add_get, if_neg h]

/-! ## Congruences: what comes behind is left alone -/
@[congr] theorem wp_congr {m m' : M α} (h : m = m') (Φ : α → Hp → Prop) (S : Hp) : wp m Φ S = wp m' Φ S := by rw [h]
def ifB (b : Bool) (x y : Hp → Prop) (S : Hp) : Prop := match b with | true => x S | false => y S
@[congr] theorem ifB_congr {b b' : Bool} (h : b = b') (x y : Hp → Prop) (S : Hp) : ifB b x y S = ifB b' x y S := by rw [h]
theorem ifB_true (x y : Hp → Prop) : ifB true x y S = x S := id rfl
theorem ifB_false (x y : Hp → Prop) : ifB false x y S = y S := id rfl
theorem ifP_bool (b : Bool) (x y : Hp → Prop) : ifP (Wb.asBool (.bool b)) x y S = ifB b x y S := by cases b <;> rfl
theorem ifB_in {b : Bool} {x y : Hp → Prop} (h1 : b = true → x S) (h2 : b = false → y S) : ifB b x y S := by cases b <;> first | exact h1 rfl | exact h2 rfl
theorem ifD_in {p : Prop} [Decidable p] {x y : Hp → Prop} (h1 : p → x S) (h2 : ¬ p → y S) : ifB (decide p) x y S := ifB_in (fun h => h1 (of_decide_eq_true h)) (fun h => h2 (of_decide_eq_false h))
theorem ifN_in {p : Prop} [Decidable p] {x y : Hp → Prop} (h1 : ¬ p → x S) (h2 : p → y S) : ifB (!decide p) x y S := by
  by_cases h : p
  · rw [decide_eq_true h]; exact h2 h
  · rw [decide_eq_false h]; exact h1 h
@[congr] theorem ifP_congr {b b' : Option Bool} (h : b = b') (x y : Hp → Prop) (S : Hp) : ifP b x y S = ifP b' x y S := by rw [h]
@[congr] theorem okP_congr {b b' : Bool} (h : b = b') (x : Hp → Prop) (S : Hp) : okP b x S = okP b' x S := by rw [h]
theorem okP_true (x : Hp → Prop) : okP true x S = x S := id rfl
@[congr] theorem dstepP_congr {m m' : M Value} (h : m = m') (j : Nat) (ts : List (Nat × Touch)) (Φ : Value → List (Nat × Touch) → Hp → Prop) (S : Hp) : dstepP j ts m Φ S = dstepP j ts m' Φ S := by rw [h]
@[congr] theorem jn_congr {γ : Type} (r : γ) (f : γ → Prop) : jn r f = jn r f := rfl
def condP (p : Prop) (f : Prop) : Prop := p ∧ f
@[congr] theorem condP_congr {p p' : Prop} (h : p = p') (f : Prop) : condP p f = condP p' f := by rw [h]
theorem condP_true (f : Prop) : condP True f = f := by simp [condP]
theorem condP_of {p : Prop} (h : p) (f : Prop) : condP p f = f := by simp [condP, h]
theorem condP_in {p f : Prop} (h1 : p) (h2 : f) : condP p f := ⟨h1, h2⟩

/-- what stands in a block -/
def blkP (b : Option Blk) (f : Option Nat → Bool → List Value → Prop) : Prop := match b with | some (.cells x s l) => f x s l | _ => False
/-- what is read in a block -/
def rdP (b : Option Blk) (f : List Value → Prop) : Prop := match b with | some (.cells _ _ l) => f l | some (.ro l) => f l | _ => False
@[congr] theorem rdP_congr {b b' : Option Blk} (h : b = b') (f : List Value → Prop) : rdP b f = rdP b' f := by rw [h]
theorem rdP_cells (x : Option Nat) (s : Bool) (l : List Value) (f : List Value → Prop) : rdP (some (.cells x s l)) f = f l := id rfl
theorem rdP_ro (l : List Value) (f : List Value → Prop) : rdP (some (.ro l)) f = f l := id rfl
/-- a block that may be cut -/
def cutP (size : Nat) (b : Option Blk) (f : Prop) : Prop := match b with | some (.cells x _ _) => condP (x = none ∨ x = some size) f | some (.ro _) => f | _ => False
@[congr] theorem cutP_congr {b b' : Option Blk} (size : Nat) (h : b = b') (f : Prop) : cutP size b f = cutP size b' f := by rw [h]
theorem cutP_none (size : Nat) (s : Bool) (l : List Value) (f : Prop) : cutP size (some (.cells none s l)) f = f := by simp [cutP, condP]
theorem cutP_some (size : Nat) (s : Bool) (l : List Value) (f : Prop) : cutP size (some (.cells (some size) s l)) f = f := by simp [cutP, condP]
theorem cutP_ro (size : Nat) (l : List Value) (f : Prop) : cutP size (some (.ro l)) f = f := id rfl
@[congr] theorem blkP_congr {b b' : Option Blk} (h : b = b') (f : Option Nat → Bool → List Value → Prop) : blkP b f = blkP b' f := by rw [h]
theorem blkP_cells (x : Option Nat) (s : Bool) (l : List Value) (f : Option Nat → Bool → List Value → Prop) : blkP (some (.cells x s l)) f = f x s l := id rfl
def optP {α : Type} (o : Option α) (f : α → Prop) : Prop := match o with | some v => f v | none => False
@[congr] theorem optP_congr {o o' : Option α} (h : o = o') (f : α → Prop) : optP o f = optP o' f := by rw [h]
theorem optP_some (v : α) (f : α → Prop) : optP (some v) f = f v := id rfl
/-! ## Steps -/
theorem wp_pure (a : α) (Φ : α → Hp → Prop) (S : Hp) : wp (M.pure a) Φ S = Φ a S := by
  apply propext
  constructor
  · rintro ⟨b, S', h, k⟩; cases h; exact k
  · intro h; exact ⟨a, S.st, rfl, h⟩
theorem wp_lift (o : Option α) (Φ : α → Hp → Prop) (S : Hp) : wp (M.lift o) Φ S = optP o (fun a => Φ a S) := by
  cases o with
  | none => apply propext; constructor <;> intro h <;> first | (obtain ⟨_, _, h, _⟩ := h; cases h) | cases h
  | some a => exact wp_pure a Φ S
theorem wp_mono {m : M α} {Φ Ψ : α → Hp → Prop} {S : Hp} (h : wp m Φ S) (k : ∀ a S', Φ a S' → Ψ a S') : wp m Ψ S := by
  obtain ⟨a, S', h1, h2⟩ := h
  exact ⟨a, S', h1, k _ _ h2⟩
theorem wp_of_eq {m m' : M α} (h : m = m') (Φ : α → Hp → Prop) (S : Hp) : wp m Φ S = wp m' Φ S := by rw [h]
theorem wp_bind {m : M α} {f : α → M β} (hm : Lg m) (hf : ∀ a, Lg (f a)) (Φ : β → Hp → Prop) (S : Hp) : wp (m.bind f) Φ S = wp m (fun a S => wp (f a) Φ S) S := by
  apply propext
  constructor
  · rintro ⟨b, S', h, k⟩
    simp only [M.bind] at h
    cases hx : m S.st with
    | none => rw [hx] at h; cases h
    | some p =>
      obtain ⟨a, S1⟩ := p
      rw [hx] at h
      obtain ⟨D, h1, h2⟩ := hf a _ _ _ h
      refine ⟨a, S1, hx, b, _, h2 [], ?_⟩
      have e : S'.over S.wl = ({ heap := S'.heap, next := S'.next, log := D ++ [] } : St).over (S1.over S.wl).wl := by
        simp only [St.over, h1, wrs_append, List.append_assoc, wrs, List.nil_append]
      rw [← e]; exact k
  · rintro ⟨a, S1, h1, b, S', h, k⟩
    obtain ⟨D, h3, h2⟩ := hf a _ _ _ h
    refine ⟨b, { heap := S'.heap, next := S'.next, log := D ++ S1.log }, by simp only [M.bind, h1]; exact h2 S1.log, ?_⟩
    have h3' : S'.log = D := by rw [h3]; exact List.append_nil D
    have e : S'.over (S1.over S.wl).wl = ({ heap := S'.heap, next := S'.next, log := D ++ S1.log } : St).over S.wl := by
      simp only [St.over, h3', wrs_append, List.append_assoc]
    rw [← e]; exact k
theorem wp_nw (o : Blk) (Φ : Nat → Hp → Prop) : wp (nw o) Φ S = Φ S.next (S.add o) := by
  apply propext
  constructor
  · rintro ⟨b, S', h, k⟩; cases h; exact k
  · intro h; exact ⟨_, _, rfl, h⟩
theorem wp_wr (b : Nat) (o : Option Blk) (Φ : Unit → Hp → Prop) : wp (wr b o) Φ S = Φ () (S.put b o) := by
  apply propext
  constructor
  · rintro ⟨b', S', h, k⟩; cases h; exact k
  · intro h; exact ⟨_, _, rfl, h⟩
theorem wp_rd (b : Nat) (Φ : Blk → Hp → Prop) : wp (rd b) Φ S = optP (S.heap.get b) (fun o => Φ o S) := by
  apply propext
  constructor
  · rintro ⟨o, S', h, k⟩
    simp only [rd] at h
    change (match S.heap.get b with | none => none | some o => _) = _ at h
    cases hb : S.heap.get b with
    | none => rw [hb] at h; cases h
    | some p => rw [hb] at h; cases h; exact k
  · intro h
    cases hb : S.heap.get b with
    | none => rw [hb] at h; exact h.elim
    | some p =>
      rw [hb] at h
      refine ⟨p, { heap := S.heap, next := S.next, log := [(b, false)] }, ?_, h⟩
      simp only [rd]
      change (match S.heap.get b with | none => none | some o => _) = _
      rw [hb]; rfl
theorem wp_fail (Φ : α → Hp → Prop) : wp M.fail Φ S = False := by
  apply propext
  constructor
  · rintro ⟨b', S', h, k⟩; cases h
  · intro h; exact h.elim
theorem wp_ld1 (b o : Nat) (Φ : Value → Hp → Prop) : wp (ld1 b o) Φ S = rdP (S.heap.get b) (fun l => optP l[o]? (fun v => Φ v S)) := by
  unfold ld1
  rw [wp_bind (Lg.rd _) (fun o => by cases o <;> first | exact Lg.lift _ | exact Lg.fail), wp_rd]
  cases S.heap.get b with
  | none => rfl
  | some x => cases x <;> simp only [optP_some, wp_lift, wp_fail, rdP]
theorem wp_ldCells (b o n : Nat) (Φ : List Value → Hp → Prop) : wp (ldCells b o n) Φ S = rdP (S.heap.get b) (fun l => condP (o + n ≤ l.length) (Φ ((l.drop o).take n) S)) := by
  have key : ∀ l : List Value, wp (if o + n ≤ l.length then M.pure ((l.drop o).take n) else M.fail) Φ S = condP (o + n ≤ l.length) (Φ ((l.drop o).take n) S) := by
    intro l
    by_cases h : o + n ≤ l.length
    · rw [if_pos h, wp_pure]; simp only [condP, h, true_and]
    · rw [if_neg h, wp_fail]; exact propext ⟨False.elim, fun k => h k.1⟩
  unfold ldCells
  rw [wp_bind (Lg.rd _) (fun o => by
    cases o
    · exact Lg.ite (Lg.pure _) Lg.fail
    · exact Lg.fail
    · exact Lg.fail
    · exact Lg.ite (Lg.pure _) Lg.fail
    · exact Lg.fail), wp_rd]
  cases S.heap.get b with
  | none => rfl
  | some x => cases x <;> simp only [optP_some, rdP, wp_fail, key]
theorem wp_stCells (b o : Nat) (vs : List Value) (Φ : Unit → Hp → Prop) : wp (stCells b o vs) Φ S = blkP (S.heap.get b) (fun x s l => condP (o + vs.length ≤ l.length ∧ vs.all (·.oneCell') = true) (Φ () (S.put b (some (.cells x s (splice l o vs)))))) := by
  unfold stCells
  rw [wp_bind (Lg.rd _) (fun o => by
    cases o
    · exact Lg.ite (Lg.wr _ _) Lg.fail
    · exact Lg.fail
    · exact Lg.fail
    · exact Lg.fail
    · exact Lg.fail), wp_rd]
  cases S.heap.get b with
  | none => rfl
  | some x =>
    cases x with
    | cells x s l =>
      simp only [optP_some, blkP, condP]
      by_cases h : o + vs.length ≤ l.length ∧ vs.all (·.oneCell') = true
      · rw [if_pos h, wp_wr]; simp [h]
      · rw [if_neg h, wp_fail]; exact propext ⟨False.elim, fun k => h k.1⟩
    | loop => simp only [optP_some, wp_fail, blkP]
    | map => simp only [optP_some, wp_fail, blkP]
    | iter => simp only [optP_some, wp_fail, blkP]
    | ro => simp only [optP_some, wp_fail, blkP]

/-! ## Operations -/
theorem wp_Xp {op : AOp} {v : Value} (h : X C op = M.pure v) : wp (X C op) Φ S = Φ v S := by rw [h, wp_pure]
theorem wp_Xl {op : AOp} {o : Option Value} (h : X C op = M.lift o) : wp (X C op) Φ S = optP o (fun v => Φ v S) := by rw [h, wp_lift]
theorem P_mov (v : Value) : wp (X C (.mov (.const v))) Φ S = Φ v S := wp_Xp (X_mov v)
theorem P_pick (c : Bool) (a b : Value) : wp (X C (.pick (.const (.bool c)) (.const a) (.const b))) Φ S = Φ (if c then a else b) S := wp_Xp (X_pick c a b)
theorem P_not (b : Bool) : wp (X C (.un .not (.const (.bool b)))) Φ S = Φ (.bool (!b)) S := by rw [wp_Xl (X_un _ _)]; rfl
theorem P_ext (vs : List Value) (i : Nat) : wp (X C (.ext (.const (.tuple ⟨vs⟩)) i)) Φ S = optP vs[i]? (fun v => Φ v S) := wp_Xl (X_ext vs i)
theorem P_fld (sh : Sh) (o : Nat) (cs : List Value) : wp (X C (.fld sh o (.const (.agg ⟨cs⟩)))) Φ S = optP (partOf sh cs o) (fun v => Φ v S) := wp_Xl (X_fld sh o cs)
theorem P_fldA (o : Nat) (b p : Nat) (x : Option Nat) : wp (X C (.fldA o (.const (.pointer (some ⟨b, p, x⟩))))) Φ S = Φ (.pointer (some ⟨b, p + o, none⟩)) S := wp_Xp (X_fldA o _)
theorem P_nil (p : Addr) : wp (X C (.nilchk (.const (.pointer (some p))))) Φ S = Φ (.pointer (some p)) S := wp_Xp (X_nil p)
theorem P_conv (k k' : IntKind) (n : Int) : wp (X C (.conv (.int k) (.const (.int k' n)))) Φ S = Φ (.int k (k.wrap n)) S := wp_Xp (X_convI k k' n)
theorem wp_nwp (o : Blk) (g : Nat → Value) : wp ((nw o).bind fun b => M.pure (g b)) Φ S = Φ (g S.next) (S.add o) := by
  rw [wp_bind (Lg.nw _) (fun _ => Lg.pure _), wp_nw, wp_pure]
theorem P_alloc (t : TypeId) (z : List Value) : wp (X C (.alloc t z)) Φ S = Φ (.pointer (some ⟨S.next, 0, none⟩)) (S.add (.cells none false z)) := by rw [X_alloc, wp_nwp]
theorem P_box (t : TypeId) (v : Value) : wp (X C (.box t (.const v))) Φ S = Φ (.pointer (some ⟨S.next, 0, none⟩)) (S.add (.cells none false v.cells.toList)) := by rw [X_box, wp_nwp]
theorem P_build (z : List Value) (p : List (Nat × Nat × Atom)) : wp (X C (.build z p)) Φ S = optP (fillA .leaf p z) (fun c => Φ (.agg ⟨c⟩) S) := by
  rw [wp_Xl (X_build z p)]; cases fillA .leaf p z <;> rfl
theorem P_bslice (t : TypeId) (n : Nat) (z : List Value) (p : List (Nat × Nat × Atom)) : wp (X C (.bslice t n z p)) Φ S = optP (fillA .leaf p z) (fun c => Φ (.slice (some ⟨S.next, 0, none⟩) n n) (S.add (.cells none false c))) := by
  rw [X_bslice, wp_bind (Lg.lift _) (fun _ => Lg.bind (Lg.nw _) fun _ => Lg.pure _), wp_lift]
  simp only [wp_nwp]
theorem P_load1 (b o : Nat) (x : Option Nat) : wp (X C (.load .one (.const (.pointer (some ⟨b, o, x⟩))))) Φ S = rdP (S.heap.get b) (fun l => optP l[o]? (fun v => Φ v S)) := by rw [X_load1, wp_ld1]
theorem P_loadN (n b o : Nat) (x : Option Nat) : wp (X C (.load (.agg n) (.const (.pointer (some ⟨b, o, x⟩))))) Φ S = rdP (S.heap.get b) (fun l => condP (o + n ≤ l.length) (Φ (.agg ⟨(l.drop o).take n⟩) S)) := by
  rw [X_loadN, wp_bind (Lg.ldCells _ _ _) (fun _ => Lg.pure _), wp_ldCells]
  simp only [wp_pure]
theorem P_cell1 (b o : Nat) (x : Option Nat) : wp (cellV (.pointer (some ⟨b, o, x⟩)) .one) Φ S = rdP (S.heap.get b) (fun l => optP l[o]? (fun v => Φ v S)) := wp_ld1 b o Φ
theorem P_cellN (n b o : Nat) (x : Option Nat) : wp (cellV (.pointer (some ⟨b, o, x⟩)) (.agg n)) Φ S = rdP (S.heap.get b) (fun l => condP (o + n ≤ l.length) (Φ (.agg ⟨(l.drop o).take n⟩) S)) := by
  unfold cellV
  dsimp only
  rw [wp_bind (Lg.ldCells _ _ _) (fun _ => Lg.pure _), wp_ldCells]
  simp only [wp_pure]
theorem P_store (n b o : Nat) (x : Option Nat) (v : Value) : wp (X C (.store n (.const (.pointer (some ⟨b, o, x⟩))) (.const v))) Φ S = condP (v.cells.size = n) (blkP (S.heap.get b) (fun x s l => condP (o + v.cells.toList.length ≤ l.length ∧ v.cells.toList.all (·.oneCell') = true) (Φ undef (S.put b (some (.cells x s (splice l o v.cells.toList))))))) := by
  by_cases h : v.cells.size = n
  · rw [X_store n _ v h, wp_bind (Lg.stCells _ _ _) (fun _ => Lg.pure _)]
    simp only [wp_pure, condP, h, true_and]
    rw [wp_stCells]
    rfl
  · have : X C (.store n (.const (.pointer (some ⟨b, o, x⟩))) (.const v)) = M.fail := by
      funext S
      simp only [X, exec, M.bind, M.lift, Atom.ev, if_neg h]
    rw [this, wp_fail]
    exact propext ⟨False.elim, fun k => h k.1⟩
theorem P_ixA (s : Nat) (b o : Nat) (x : Option Nat) (len cap : Nat) (k : IntKind) (i : Int) : wp (X C (.ixA s (.const (.slice (some ⟨b, o, x⟩) len cap)) (.const (.int k i)))) Φ S = condP (0 ≤ i ∧ i < len) (Φ (.pointer (some ⟨b, o + i.toNat * s, none⟩)) S) := by
  by_cases h : 0 ≤ i ∧ i < len
  · rw [wp_Xp (X_ixA s _ len cap k i h)]; simp [condP, h]
  · have : X C (.ixA s (.const (.slice (some ⟨b, o, x⟩) len cap)) (.const (.int k i))) = M.fail := by
      funext S
      simp only [X, exec, M.bind, M.lift, Atom.ev, Option.bind_some, asInt, if_neg h]
    rw [this, wp_fail]
    exact propext ⟨False.elim, fun k => h k.1⟩
theorem P_ix (n s : Nat) (sh : Sh) (cs : List Value) (k : IntKind) (i : Int) : wp (X C (.ix n s sh (.const (.agg ⟨cs⟩)) (.const (.int k i)))) Φ S = condP (0 ≤ i ∧ i < n) (optP (partOf sh cs (i.toNat * s)) (fun v => Φ v S)) := by
  by_cases h : 0 ≤ i ∧ i < n
  · rw [wp_Xl (X_ix n s sh cs k i h)]; simp [condP, h]
  · have : X C (.ix n s sh (.const (.agg ⟨cs⟩)) (.const (.int k i))) = M.fail := by
      funext S
      simp only [X, exec, M.bind, M.lift, Atom.ev, Option.bind_some, asInt, if_neg h]
    rw [this, wp_fail]
    exact propext ⟨False.elim, fun k => h k.1⟩
theorem P_ixS (s : ByteArray) (k : IntKind) (i : Int) : wp (X C (.ixS (.const (.string s)) (.const (.int k i)))) Φ S = condP (0 ≤ i) (optP s.data.toList[i.toNat]? (fun b => Φ (.int .u8 b.toNat) S)) := by
  by_cases h : 0 ≤ i
  · have : X C (.ixS (.const (.string s)) (.const (.int k i))) = M.lift (s.data.toList[i.toNat]?.map fun b => .int .u8 b.toNat) := by
      funext S
      simp only [X, exec, M.bind, M.lift, Atom.ev, Option.bind_some, asInt, if_pos h]
      cases s.data.toList[i.toNat]? <;> rfl
    rw [this, wp_lift]
    cases s.data.toList[i.toNat]? <;> simp [condP, h, optP]
  · have : X C (.ixS (.const (.string s)) (.const (.int k i))) = M.fail := by
      funext S
      simp only [X, exec, M.bind, M.lift, Atom.ev, Option.bind_some, asInt, if_neg h]
    rw [this, wp_fail]
    exact propext ⟨False.elim, fun k => h k.1⟩
theorem P_lenS (p : Option Addr) (n c : Nat) : wp (X C (.len .slice (.const (.slice p n c)))) Φ S = Φ (.int .i64 n) S := wp_Xp (X_len .slice _ n (by simp) rfl)
theorem P_lenE : wp (X C (.len .slice (.const (.chan none)))) Φ S = Φ (.int .i64 (0 : Nat)) S := wp_Xp (X_len .slice _ 0 (by simp) rfl)
theorem P_lenStr (s : ByteArray) : wp (X C (.len .str (.const (.string s)))) Φ S = Φ (.int .i64 s.size) S := wp_Xp (X_len .str _ s.size (by simp) rfl)
theorem P_mkif (t : TypeId) (v : Value) : wp (X C (.mkif t (.const v))) Φ S = Φ (.iface t v) S := wp_Xp rfl
theorem P_eqB (n a b : Bool) : wp (X C (.eq n .bool (.const (.bool a)) (.const (.bool b)))) Φ S = Φ (.bool (if n then !(a == b) else a == b)) S := by rw [wp_Xl (X_eq _ _ _ _)]; rfl
theorem P_eqC (n : Bool) (m : Nat) (offs : List (Nat × Nat)) (xs ys : List Value) : wp (X C (.eq n (.cells m offs) (.const (.agg ⟨xs⟩)) (.const (.agg ⟨ys⟩)))) Φ S = condP (xs.length = m ∧ ys.length = m) (optP (eqCells offs xs ys) (fun t => Φ (.bool (if n then !t else t)) S)) := by
  rw [wp_Xl (X_eq _ _ _ _)]
  simp only [eqV, condP]
  by_cases h : xs.length = m ∧ ys.length = m
  · rw [if_pos h]; cases eqCells offs xs ys <;> simp [optP, h]
  · rw [if_neg h]; exact propext ⟨False.elim, fun k => h k.1⟩

theorem P_eqptr0N : wp (X C (.eq true (.nil .ptr) (.const (.pointer none)) (.const (.pointer none)))) Φ S = Φ (.bool false) S := wp_Xp rfl
theorem P_eqptr1N (p : Addr) : wp (X C (.eq true (.nil .ptr) (.const (.pointer (some p))) (.const (.pointer none)))) Φ S = Φ (.bool true) S := wp_Xp rfl
theorem P_eqptr0 : wp (X C (.eq false (.nil .ptr) (.const (.pointer none)) (.const (.pointer none)))) Φ S = Φ (.bool true) S := wp_Xp rfl
theorem P_eqptr1 (p : Addr) : wp (X C (.eq false (.nil .ptr) (.const (.pointer (some p))) (.const (.pointer none)))) Φ S = Φ (.bool false) S := wp_Xp rfl
theorem P_eqsl0N : wp (X C (.eq true (.nil .slice) (.const (.slice none 0 0)) (.const (.slice none 0 0)))) Φ S = Φ (.bool false) S := wp_Xp rfl
theorem P_eqsl1N (p : Addr) (l c : Nat) : wp (X C (.eq true (.nil .slice) (.const (.slice (some p) l c)) (.const (.slice none 0 0)))) Φ S = Φ (.bool true) S := wp_Xp rfl
theorem P_eqsl0 : wp (X C (.eq false (.nil .slice) (.const (.slice none 0 0)) (.const (.slice none 0 0)))) Φ S = Φ (.bool true) S := wp_Xp rfl
theorem P_eqsl1 (p : Addr) (l c : Nat) : wp (X C (.eq false (.nil .slice) (.const (.slice (some p) l c)) (.const (.slice none 0 0)))) Φ S = Φ (.bool false) S := wp_Xp rfl
theorem P_eqmap0N : wp (X C (.eq true (.nil .map) (.const (.map none)) (.const (.map none)))) Φ S = Φ (.bool false) S := wp_Xp rfl
theorem P_eqmap1N (p : Nat) : wp (X C (.eq true (.nil .map) (.const (.map (some p))) (.const (.map none)))) Φ S = Φ (.bool true) S := wp_Xp rfl
theorem P_eqmap0 : wp (X C (.eq false (.nil .map) (.const (.map none)) (.const (.map none)))) Φ S = Φ (.bool true) S := wp_Xp rfl
theorem P_eqmap1 (p : Nat) : wp (X C (.eq false (.nil .map) (.const (.map (some p))) (.const (.map none)))) Φ S = Φ (.bool false) S := wp_Xp rfl
theorem P_eqfn0N : wp (X C (.eq true (.nil .func) (.const .nilFunc) (.const .nilFunc))) Φ S = Φ (.bool false) S := wp_Xp rfl
theorem P_eqfn1N (f : Fn) (a b : Array Value) : wp (X C (.eq true (.nil .func) (.const (.func f a b)) (.const .nilFunc))) Φ S = Φ (.bool true) S := wp_Xp rfl
theorem P_eqfn0 : wp (X C (.eq false (.nil .func) (.const .nilFunc) (.const .nilFunc))) Φ S = Φ (.bool true) S := wp_Xp rfl
theorem P_eqfn1 (f : Fn) (a b : Array Value) : wp (X C (.eq false (.nil .func) (.const (.func f a b)) (.const .nilFunc))) Φ S = Φ (.bool false) S := wp_Xp rfl
theorem P_lss (k : IntKind) (a b : Int) : wp (X C (.bin .lss (.const (.int k a)) (.const (.int k b)))) Φ S = Φ (.bool (decide (a < b))) S := by rw [wp_Xl (X_bin _ _ _), bv_lss]; rfl
theorem P_leq (k : IntKind) (a b : Int) : wp (X C (.bin .leq (.const (.int k a)) (.const (.int k b)))) Φ S = Φ (.bool (decide (a ≤ b))) S := by rw [wp_Xl (X_bin _ _ _), bv_leq]; rfl
theorem P_gtr (k : IntKind) (a b : Int) : wp (X C (.bin .gtr (.const (.int k a)) (.const (.int k b)))) Φ S = Φ (.bool (decide (a > b))) S := by rw [wp_Xl (X_bin _ _ _), bv_gtr]; rfl
theorem P_geq (k : IntKind) (a b : Int) : wp (X C (.bin .geq (.const (.int k a)) (.const (.int k b)))) Φ S = Φ (.bool (decide (a ≥ b))) S := by rw [wp_Xl (X_bin _ _ _), bv_geq]; rfl
theorem P_eql (k : IntKind) (a b : Int) : wp (X C (.bin .eql (.const (.int k a)) (.const (.int k b)))) Φ S = Φ (.bool (decide (a = b))) S := by rw [wp_Xl (X_bin _ _ _), bv_eql]; rfl
theorem P_neq (k : IntKind) (a b : Int) : wp (X C (.bin .neq (.const (.int k a)) (.const (.int k b)))) Φ S = Φ (.bool (!decide (a = b))) S := by rw [wp_Xl (X_bin _ _ _), bv_neq]; rfl
theorem P_add (k : IntKind) (a b : Int) : wp (X C (.bin .add (.const (.int k a)) (.const (.int k b)))) Φ S = Φ (.int k (k.wrap (a + b))) S := by rw [wp_Xl (X_bin _ _ _), bv_add]; rfl
theorem P_add64 {a b : Int} (h0 : -9223372036854775808 ≤ a + b) (h1 : a + b < 9223372036854775808) : wp (X C (.bin .add (.const (.int .i64 a)) (.const (.int .i64 b)))) Φ S = Φ (.int .i64 (a + b)) S := by rw [P_add, wrap64 h0 h1]
theorem P_sub (k : IntKind) (a b : Int) : wp (X C (.bin .sub (.const (.int k a)) (.const (.int k b)))) Φ S = Φ (.int k (k.wrap (a - b))) S := by rw [wp_Xl (X_bin _ _ _), bv_sub]; rfl
theorem P_sub64 {a b : Int} (h0 : -9223372036854775808 ≤ a - b) (h1 : a - b < 9223372036854775808) : wp (X C (.bin .sub (.const (.int .i64 a)) (.const (.int .i64 b)))) Φ S = Φ (.int .i64 (a - b)) S := by rw [P_sub, wrap64 h0 h1]
theorem P_mul (k : IntKind) (a b : Int) : wp (X C (.bin .mul (.const (.int k a)) (.const (.int k b)))) Φ S = Φ (.int k (k.wrap (a * b))) S := by rw [wp_Xl (X_bin _ _ _), bv_mul]; rfl
theorem P_mul64 {a b : Int} (h0 : -9223372036854775808 ≤ a * b) (h1 : a * b < 9223372036854775808) : wp (X C (.bin .mul (.const (.int .i64 a)) (.const (.int .i64 b)))) Φ S = Φ (.int .i64 (a * b)) S := by rw [P_mul, wrap64 h0 h1]
theorem P_quo (k : IntKind) {a b : Int} (h : b ≠ 0) : wp (X C (.bin .quo (.const (.int k a)) (.const (.int k b)))) Φ S = Φ (.int k (k.wrap (a.tdiv b))) S := by rw [wp_Xl (X_bin _ _ _), bv_quo k a b h]; rfl
theorem P_rem (k : IntKind) {a b : Int} (h : b ≠ 0) : wp (X C (.bin .rem (.const (.int k a)) (.const (.int k b)))) Φ S = Φ (.int k (a.tmod b)) S := by rw [wp_Xl (X_bin _ _ _), bv_rem k a b h]; rfl
theorem P_remp (k : IntKind) {a b : Int} (h0 : 0 ≤ a) (h : 0 < b) : wp (X C (.bin .rem (.const (.int k a)) (.const (.int k b)))) Φ S = Φ (.int k (a % b)) S := by rw [P_rem k (by omega), Int.tmod_eq_emod_of_nonneg h0]
theorem P_bin (op : BinOp) (x y : Value) : wp (X C (.bin op (.const x) (.const y))) Φ S = optP (binV op x y) (fun v => Φ v S) := wp_Xl (X_bin op x y)
theorem P_seql (a b : ByteArray) : wp (X C (.bin .eql (.const (.string a)) (.const (.string b)))) Φ S = Φ (.bool (a.toList == b.toList)) S := by rw [wp_Xl (X_bin _ _ _)]; rfl
theorem P_sneq (a b : ByteArray) : wp (X C (.bin .neq (.const (.string a)) (.const (.string b)))) Φ S = Φ (.bool !(a.toList == b.toList)) S := by rw [wp_Xl (X_bin _ _ _)]; rfl
theorem P_sadd (a b : ByteArray) : wp (X C (.bin .add (.const (.string a)) (.const (.string b)))) Φ S = condP (((a.size + b.size : Nat) : Int) ≤ 9223372036854775807) (Φ (.string (a ++ b)) S) := by
  rw [wp_Xl (X_bin _ _ _)]
  have e : IntKind.i64.max = 9223372036854775807 := by decide
  simp only [binV, e, condP]
  by_cases h : ((a.size + b.size : Nat) : Int) ≤ 9223372036854775807
  · rw [if_neg (by omega)]; simp only [optP, h, true_and]
  · rw [if_pos (by omega)]; exact propext ⟨False.elim, fun k => h k.1⟩

theorem P_call0 (f : FuncId) : wp (X C (.call (.const (.func (.func f) ⟨[]⟩ ⟨[]⟩)) [])) Φ S = wp (C (.fn f) []) Φ S := wp_of_eq (X_call f _ [] rfl) _ _
theorem P_mkfn0 (f : FuncId) : wp (X C (.mkfn f [] [])) Φ S = Φ (.func (.func f) ⟨[]⟩ ⟨[]⟩) S := wp_Xp (X_mkfn f [] [] [] [] rfl rfl)
theorem P_callF0 (f : FuncId) (a c : List Value) : wp (X C (.call (.const (.func (.func f) ⟨a⟩ ⟨c⟩)) [])) Φ S = wp (C (.fn f) (a ++ [] ++ c)) Φ S := wp_of_eq (X_callF f a c _ [] rfl) _ _
theorem P_callY0 (l : Nat) (a c : Array Value) : wp (X C (.call (.const (.func (.yield l) a c)) [])) Φ S = wp (C (.yield l) []) Φ S := wp_of_eq (by funext S; simp only [X, exec, M.bind, M.lift, Atom.ev, evs, target]; cases C (.yield l) [] S <;> rfl) _ _
theorem P_mkfnR0 (f : FuncId) (w : Value) : wp (X C (.mkfn f [(.const w)] [])) Φ S = Φ (.func (.func f) ⟨[w]⟩ ⟨[]⟩) S := wp_Xp (X_mkfn f [(.const w)] [] [w] [] rfl rfl)
theorem P_call1 (f : FuncId) (v0 : Value) : wp (X C (.call (.const (.func (.func f) ⟨[]⟩ ⟨[]⟩)) [(.const v0)])) Φ S = wp (C (.fn f) [v0]) Φ S := wp_of_eq (X_call f _ [v0] rfl) _ _
theorem P_mkfn1 (f : FuncId) (v0 : Value) : wp (X C (.mkfn f [] [(.const v0)])) Φ S = Φ (.func (.func f) ⟨[]⟩ ⟨[v0]⟩) S := wp_Xp (X_mkfn f [] [(.const v0)] [] [v0] rfl rfl)
theorem P_callF1 (f : FuncId) (a c : List Value) (v0 : Value) : wp (X C (.call (.const (.func (.func f) ⟨a⟩ ⟨c⟩)) [(.const v0)])) Φ S = wp (C (.fn f) (a ++ [v0] ++ c)) Φ S := wp_of_eq (X_callF f a c _ [v0] rfl) _ _
theorem P_callY1 (l : Nat) (a c : Array Value) (v0 : Value) : wp (X C (.call (.const (.func (.yield l) a c)) [(.const v0)])) Φ S = wp (C (.yield l) [v0]) Φ S := wp_of_eq (by funext S; simp only [X, exec, M.bind, M.lift, Atom.ev, evs, target]; cases C (.yield l) [v0] S <;> rfl) _ _
theorem P_mkfnR1 (f : FuncId) (w : Value) (v0 : Value) : wp (X C (.mkfn f [(.const w)] [(.const v0)])) Φ S = Φ (.func (.func f) ⟨[w]⟩ ⟨[v0]⟩) S := wp_Xp (X_mkfn f [(.const w)] [(.const v0)] [w] [v0] rfl rfl)
theorem P_call2 (f : FuncId) (v0 v1 : Value) : wp (X C (.call (.const (.func (.func f) ⟨[]⟩ ⟨[]⟩)) [(.const v0), (.const v1)])) Φ S = wp (C (.fn f) [v0, v1]) Φ S := wp_of_eq (X_call f _ [v0, v1] rfl) _ _
theorem P_mkfn2 (f : FuncId) (v0 v1 : Value) : wp (X C (.mkfn f [] [(.const v0), (.const v1)])) Φ S = Φ (.func (.func f) ⟨[]⟩ ⟨[v0, v1]⟩) S := wp_Xp (X_mkfn f [] [(.const v0), (.const v1)] [] [v0, v1] rfl rfl)
theorem P_callF2 (f : FuncId) (a c : List Value) (v0 v1 : Value) : wp (X C (.call (.const (.func (.func f) ⟨a⟩ ⟨c⟩)) [(.const v0), (.const v1)])) Φ S = wp (C (.fn f) (a ++ [v0, v1] ++ c)) Φ S := wp_of_eq (X_callF f a c _ [v0, v1] rfl) _ _
theorem P_callY2 (l : Nat) (a c : Array Value) (v0 v1 : Value) : wp (X C (.call (.const (.func (.yield l) a c)) [(.const v0), (.const v1)])) Φ S = wp (C (.yield l) [v0, v1]) Φ S := wp_of_eq (by funext S; simp only [X, exec, M.bind, M.lift, Atom.ev, evs, target]; cases C (.yield l) [v0, v1] S <;> rfl) _ _
theorem P_mkfnR2 (f : FuncId) (w : Value) (v0 v1 : Value) : wp (X C (.mkfn f [(.const w)] [(.const v0), (.const v1)])) Φ S = Φ (.func (.func f) ⟨[w]⟩ ⟨[v0, v1]⟩) S := wp_Xp (X_mkfn f [(.const w)] [(.const v0), (.const v1)] [w] [v0, v1] rfl rfl)
theorem P_call3 (f : FuncId) (v0 v1 v2 : Value) : wp (X C (.call (.const (.func (.func f) ⟨[]⟩ ⟨[]⟩)) [(.const v0), (.const v1), (.const v2)])) Φ S = wp (C (.fn f) [v0, v1, v2]) Φ S := wp_of_eq (X_call f _ [v0, v1, v2] rfl) _ _
theorem P_mkfn3 (f : FuncId) (v0 v1 v2 : Value) : wp (X C (.mkfn f [] [(.const v0), (.const v1), (.const v2)])) Φ S = Φ (.func (.func f) ⟨[]⟩ ⟨[v0, v1, v2]⟩) S := wp_Xp (X_mkfn f [] [(.const v0), (.const v1), (.const v2)] [] [v0, v1, v2] rfl rfl)
theorem P_callF3 (f : FuncId) (a c : List Value) (v0 v1 v2 : Value) : wp (X C (.call (.const (.func (.func f) ⟨a⟩ ⟨c⟩)) [(.const v0), (.const v1), (.const v2)])) Φ S = wp (C (.fn f) (a ++ [v0, v1, v2] ++ c)) Φ S := wp_of_eq (X_callF f a c _ [v0, v1, v2] rfl) _ _
theorem P_callY3 (l : Nat) (a c : Array Value) (v0 v1 v2 : Value) : wp (X C (.call (.const (.func (.yield l) a c)) [(.const v0), (.const v1), (.const v2)])) Φ S = wp (C (.yield l) [v0, v1, v2]) Φ S := wp_of_eq (by funext S; simp only [X, exec, M.bind, M.lift, Atom.ev, evs, target]; cases C (.yield l) [v0, v1, v2] S <;> rfl) _ _
theorem P_mkfnR3 (f : FuncId) (w : Value) (v0 v1 v2 : Value) : wp (X C (.mkfn f [(.const w)] [(.const v0), (.const v1), (.const v2)])) Φ S = Φ (.func (.func f) ⟨[w]⟩ ⟨[v0, v1, v2]⟩) S := wp_Xp (X_mkfn f [(.const w)] [(.const v0), (.const v1), (.const v2)] [w] [v0, v1, v2] rfl rfl)
theorem P_call4 (f : FuncId) (v0 v1 v2 v3 : Value) : wp (X C (.call (.const (.func (.func f) ⟨[]⟩ ⟨[]⟩)) [(.const v0), (.const v1), (.const v2), (.const v3)])) Φ S = wp (C (.fn f) [v0, v1, v2, v3]) Φ S := wp_of_eq (X_call f _ [v0, v1, v2, v3] rfl) _ _
theorem P_mkfn4 (f : FuncId) (v0 v1 v2 v3 : Value) : wp (X C (.mkfn f [] [(.const v0), (.const v1), (.const v2), (.const v3)])) Φ S = Φ (.func (.func f) ⟨[]⟩ ⟨[v0, v1, v2, v3]⟩) S := wp_Xp (X_mkfn f [] [(.const v0), (.const v1), (.const v2), (.const v3)] [] [v0, v1, v2, v3] rfl rfl)
theorem P_callF4 (f : FuncId) (a c : List Value) (v0 v1 v2 v3 : Value) : wp (X C (.call (.const (.func (.func f) ⟨a⟩ ⟨c⟩)) [(.const v0), (.const v1), (.const v2), (.const v3)])) Φ S = wp (C (.fn f) (a ++ [v0, v1, v2, v3] ++ c)) Φ S := wp_of_eq (X_callF f a c _ [v0, v1, v2, v3] rfl) _ _
theorem P_callY4 (l : Nat) (a c : Array Value) (v0 v1 v2 v3 : Value) : wp (X C (.call (.const (.func (.yield l) a c)) [(.const v0), (.const v1), (.const v2), (.const v3)])) Φ S = wp (C (.yield l) [v0, v1, v2, v3]) Φ S := wp_of_eq (by funext S; simp only [X, exec, M.bind, M.lift, Atom.ev, evs, target]; cases C (.yield l) [v0, v1, v2, v3] S <;> rfl) _ _
theorem P_mkfnR4 (f : FuncId) (w : Value) (v0 v1 v2 v3 : Value) : wp (X C (.mkfn f [(.const w)] [(.const v0), (.const v1), (.const v2), (.const v3)])) Φ S = Φ (.func (.func f) ⟨[w]⟩ ⟨[v0, v1, v2, v3]⟩) S := wp_Xp (X_mkfn f [(.const w)] [(.const v0), (.const v1), (.const v2), (.const v3)] [w] [v0, v1, v2, v3] rfl rfl)
theorem P_call5 (f : FuncId) (v0 v1 v2 v3 v4 : Value) : wp (X C (.call (.const (.func (.func f) ⟨[]⟩ ⟨[]⟩)) [(.const v0), (.const v1), (.const v2), (.const v3), (.const v4)])) Φ S = wp (C (.fn f) [v0, v1, v2, v3, v4]) Φ S := wp_of_eq (X_call f _ [v0, v1, v2, v3, v4] rfl) _ _
theorem P_mkfn5 (f : FuncId) (v0 v1 v2 v3 v4 : Value) : wp (X C (.mkfn f [] [(.const v0), (.const v1), (.const v2), (.const v3), (.const v4)])) Φ S = Φ (.func (.func f) ⟨[]⟩ ⟨[v0, v1, v2, v3, v4]⟩) S := wp_Xp (X_mkfn f [] [(.const v0), (.const v1), (.const v2), (.const v3), (.const v4)] [] [v0, v1, v2, v3, v4] rfl rfl)
theorem P_call6 (f : FuncId) (v0 v1 v2 v3 v4 v5 : Value) : wp (X C (.call (.const (.func (.func f) ⟨[]⟩ ⟨[]⟩)) [(.const v0), (.const v1), (.const v2), (.const v3), (.const v4), (.const v5)])) Φ S = wp (C (.fn f) [v0, v1, v2, v3, v4, v5]) Φ S := wp_of_eq (X_call f _ [v0, v1, v2, v3, v4, v5] rfl) _ _
theorem P_mkfn6 (f : FuncId) (v0 v1 v2 v3 v4 v5 : Value) : wp (X C (.mkfn f [] [(.const v0), (.const v1), (.const v2), (.const v3), (.const v4), (.const v5)])) Φ S = Φ (.func (.func f) ⟨[]⟩ ⟨[v0, v1, v2, v3, v4, v5]⟩) S := wp_Xp (X_mkfn f [] [(.const v0), (.const v1), (.const v2), (.const v3), (.const v4), (.const v5)] [] [v0, v1, v2, v3, v4, v5] rfl rfl)
theorem P_call7 (f : FuncId) (v0 v1 v2 v3 v4 v5 v6 : Value) : wp (X C (.call (.const (.func (.func f) ⟨[]⟩ ⟨[]⟩)) [(.const v0), (.const v1), (.const v2), (.const v3), (.const v4), (.const v5), (.const v6)])) Φ S = wp (C (.fn f) [v0, v1, v2, v3, v4, v5, v6]) Φ S := wp_of_eq (X_call f _ [v0, v1, v2, v3, v4, v5, v6] rfl) _ _
theorem P_mkfn7 (f : FuncId) (v0 v1 v2 v3 v4 v5 v6 : Value) : wp (X C (.mkfn f [] [(.const v0), (.const v1), (.const v2), (.const v3), (.const v4), (.const v5), (.const v6)])) Φ S = Φ (.func (.func f) ⟨[]⟩ ⟨[v0, v1, v2, v3, v4, v5, v6]⟩) S := wp_Xp (X_mkfn f [] [(.const v0), (.const v1), (.const v2), (.const v3), (.const v4), (.const v5), (.const v6)] [] [v0, v1, v2, v3, v4, v5, v6] rfl rfl)
def andQ (w b : Bool) (sub : (Value → Hp → Prop) → Prop) (Φ : Value → Hp → Prop) (S : Hp) : Prop := match b, w with
  | true, true => sub Φ
  | false, false => sub Φ
  | true, false => Φ (.bool true) S
  | false, true => Φ (.bool false) S
@[congr] theorem andQ_congr {w b b' : Bool} {sub sub' : (Value → Hp → Prop) → Prop} (hb : b = b') (hs : sub = sub') (Φ : Value → Hp → Prop) (S : Hp) : andQ w b sub Φ S = andQ w b' sub' Φ S := by rw [hb, hs]
@[congr] theorem andP_congr {w : Bool} {b b' : Value} (hb : b = b') (sub : (Value → Hp → Prop) → Hp → Prop) (Φ : Value → Hp → Prop) (S : Hp) : andP w b sub Φ S = andP w b' sub Φ S := by rw [hb]
theorem P_andQ (w b : Bool) (sub : (Value → Hp → Prop) → Hp → Prop) : andP w (.bool b) sub Φ S = andQ w b (fun K => sub K S) Φ S := by cases b <;> cases w <;> rfl
theorem andQ_tt (sub : (Value → Hp → Prop) → Prop) : andQ true true sub Φ S = sub Φ := id rfl
theorem andQ_tf (sub : (Value → Hp → Prop) → Prop) : andQ true false sub Φ S = Φ (.bool false) S := id rfl
theorem andQ_ff (sub : (Value → Hp → Prop) → Prop) : andQ false false sub Φ S = sub Φ := id rfl
theorem andQ_ft (sub : (Value → Hp → Prop) → Prop) : andQ false true sub Φ S = Φ (.bool true) S := id rfl
theorem andQ_p (b c : Bool) : andQ true b (fun K => K (.bool c) S) Φ S = Φ (.bool (b && c)) S := by cases b <;> rfl
theorem orQ_p (b c : Bool) : andQ false b (fun K => K (.bool c) S) Φ S = Φ (.bool (b || c)) S := by cases b <;> rfl
theorem andQ_in {b : Bool} {sub : (Value → Hp → Prop) → Prop} (h1 : b = true → sub Φ) (h2 : b = false → Φ (.bool false) S) : andQ true b sub Φ S := by cases b <;> first | exact h1 rfl | exact h2 rfl
theorem orQ_in {b : Bool} {sub : (Value → Hp → Prop) → Prop} (h1 : b = true → Φ (.bool true) S) (h2 : b = false → sub Φ) : andQ false b sub Φ S := by cases b <;> first | exact h1 rfl | exact h2 rfl
/-! ## Slices -/
theorem P_mkslice (t : TypeId) (size bytes : Nat) (z : List Value) (k k' : IntKind) (l c : Int) : wp (X C (.mkslice t size bytes z (.const (.int k l)) (.const (.int k' c)))) Φ S =
    condP (0 ≤ l ∧ l ≤ c ∧ bytes * c ≤ 281474976710656 ∧ c < 4611686018427387904 ∧ z.length = size) (Φ (.slice (some ⟨S.next, 0, none⟩) l.toNat c.toNat) (S.add (.cells none false (rep c.toNat z)))) := by
  have e : X C (.mkslice t size bytes z (.const (.int k l)) (.const (.int k' c))) = if 0 ≤ l ∧ l ≤ c ∧ bytes * c ≤ 281474976710656 ∧ c < 4611686018427387904 ∧ z.length = size then (nw (.cells none false (rep c.toNat z))).bind fun b => M.pure (.slice (some ⟨b, 0, none⟩) l.toNat c.toNat) else M.fail := by
    funext S
    simp only [X, exec, M.bind, M.lift, Atom.ev, Option.bind_some, asInt]
  rw [e]
  split
  · rename_i h; rw [wp_nwp]; simp only [condP, h, and_self, true_and]
  · rename_i h; rw [wp_fail]; exact propext ⟨False.elim, fun k => h k.1⟩
/-- a slice of a slice -/
def slcR (size : Nat) (b o x : Nat) (lo hi mx : Nat) : Value := .slice (some (if mx = lo then ⟨b, o, none⟩ else ⟨b, o + lo * size, none⟩)) (hi - lo) (mx - lo)
theorem P_slc (size b o : Nat) (len cap : Nat) (lo hi : Option Atom) : wp (X C (.slc size (.const (.slice (some ⟨b, o, none⟩) len cap)) lo hi none)) Φ S =
    optP (bnds .leaf len cap lo hi none) (fun q => condP (q.2.1 ≤ q.2.2) (cutP size (S.heap.get b) (Φ (slcR size b o 0 q.1 q.2.1 q.2.2) S))) := by
  have e : X C (.slc size (.const (.slice (some ⟨b, o, none⟩) len cap)) lo hi none) = (M.lift (bnds .leaf len cap lo hi none)).bind fun q => (rd b).bind fun o' => match o' with
      | .cells x _ _ => if (x = none ∨ x = some size) ∧ q.2.1 ≤ q.2.2 then M.pure (slcR size b o 0 q.1 q.2.1 q.2.2) else M.fail
      | .ro _ => if q.2.1 ≤ q.2.2 then M.pure (slcR size b o 0 q.1 q.2.1 q.2.2) else M.fail
      | _ => M.fail := by
    funext S
    simp only [X, exec, M.bind, M.lift, Atom.ev]
    cases bnds .leaf len cap lo hi none with
    | none => rfl
    | some q =>
      dsimp only
      cases rd b S with
      | none => rfl
      | some p =>
        obtain ⟨o', S'⟩ := p
        cases o' <;> first | rfl | skip
        rename_i x s c
        have hx : ¬ (x.isSome = true ∧ (none : Option Atom).isSome = true ∧ q.2.2 = q.1) := fun h => Bool.noConfusion h.2.1
        simp only [if_neg hx]
        rfl
  have lg : ∀ (q : Nat × Nat × Nat) (o' : Blk), Lg ((match o' with
      | .cells x _ _ => if (x = none ∨ x = some size) ∧ q.2.1 ≤ q.2.2 then M.pure (slcR size b o 0 q.1 q.2.1 q.2.2) else M.fail
      | .ro _ => if q.2.1 ≤ q.2.2 then M.pure (slcR size b o 0 q.1 q.2.1 q.2.2) else M.fail
      | _ => M.fail) : M Value) := fun q o' => by
    cases o'
    · exact Lg.ite (Lg.pure _) Lg.fail
    · exact Lg.fail
    · exact Lg.fail
    · exact Lg.ite (Lg.pure _) Lg.fail
    · exact Lg.fail
  rw [e, wp_bind (Lg.lift _) (fun q => Lg.bind (Lg.rd _) (lg q)), wp_lift]
  congr 1
  funext q
  rw [wp_bind (Lg.rd _) (lg q), wp_rd]
  cases S.heap.get b with
  | none => simp only [optP, cutP, condP, and_false]
  | some o' =>
    cases o' with
    | cells x s l =>
      simp only [optP_some, cutP]
      split
      · rename_i h; rw [wp_pure]; simp only [condP, h, and_self, true_and]
      · rename_i h; rw [wp_fail]; exact propext ⟨False.elim, fun k => h ⟨k.2.1, k.1⟩⟩
    | loop => simp only [optP_some, wp_fail, cutP, condP, and_false]
    | map => simp only [optP_some, wp_fail, cutP, condP, and_false]
    | iter => simp only [optP_some, wp_fail, cutP, condP, and_false]
    | ro l =>
      simp only [optP_some, cutP]
      split
      · rename_i h; rw [wp_pure]; simp only [condP, h, and_self, true_and]
      · rename_i h; rw [wp_fail]; exact propext ⟨False.elim, fun k => h k.1⟩
/-- an empty slice that is not nil -/
theorem P_slcT (size : Nat) (lo hi mx : Option Atom) : wp (X C (.slc size (.const (.chan none)) lo hi mx)) Φ S = optP (bnds .leaf 0 0 lo hi mx) (fun _ => Φ (.chan none) S) := by
  have e : X C (.slc size (.const (.chan none)) lo hi mx) = M.lift ((bnds .leaf 0 0 lo hi mx).map fun _ => .chan none) := by
    funext S
    simp only [X, exec, M.bind, M.lift, Atom.ev]
    cases bnds .leaf 0 0 lo hi mx <;> rfl
  rw [e, wp_lift]
  cases bnds .leaf 0 0 lo hi mx <;> rfl
/-- up to a bound that is told, of a block that may be grown -/
theorem P_slcM (size b o : Nat) (len cap : Nat) (lo hi : Option Atom) (mx : Atom) {s : Bool} {c : List Value} (hb : S.heap.get b = some (.cells (some size) s c)) : wp (X C (.slc size (.const (.slice (some ⟨b, o, none⟩) len cap)) lo hi (some mx))) Φ S =
    optP (bnds .leaf len cap lo hi (some mx)) (fun q => condP (q.2.1 ≤ q.2.2) (Φ (if q.2.2 = q.1 then .chan none else slcR size b o 0 q.1 q.2.1 q.2.2) S)) := by
  have e : X C (.slc size (.const (.slice (some ⟨b, o, none⟩) len cap)) lo hi (some mx)) = (M.lift (bnds .leaf len cap lo hi (some mx))).bind fun q => (rd b).bind fun o' => match o' with
      | .cells x _ _ => if (x = none ∨ x = some size) ∧ q.2.1 ≤ q.2.2 then M.pure (if x.isSome = true ∧ q.2.2 = q.1 then .chan none else slcR size b o 0 q.1 q.2.1 q.2.2) else M.fail
      | .ro _ => if q.2.1 ≤ q.2.2 then M.pure (slcR size b o 0 q.1 q.2.1 q.2.2) else M.fail
      | _ => M.fail := by
    funext S
    simp only [X, exec, M.bind, M.lift, Atom.ev]
    cases bnds .leaf len cap lo hi (some mx) with
    | none => rfl
    | some q =>
      dsimp only
      cases rd b S with
      | none => rfl
      | some p =>
        obtain ⟨o', S'⟩ := p
        cases o' <;> first | rfl | skip
        rename_i x s c
        simp only [Option.isSome_some, true_and]
        rfl
  have lg : ∀ (q : Nat × Nat × Nat) (o' : Blk), Lg ((match o' with
      | .cells x _ _ => if (x = none ∨ x = some size) ∧ q.2.1 ≤ q.2.2 then M.pure (if x.isSome = true ∧ q.2.2 = q.1 then .chan none else slcR size b o 0 q.1 q.2.1 q.2.2) else M.fail
      | .ro _ => if q.2.1 ≤ q.2.2 then M.pure (slcR size b o 0 q.1 q.2.1 q.2.2) else M.fail
      | _ => M.fail) : M Value) := fun q o' => by
    cases o'
    · exact Lg.ite (Lg.pure _) Lg.fail
    · exact Lg.fail
    · exact Lg.fail
    · exact Lg.ite (Lg.pure _) Lg.fail
    · exact Lg.fail
  rw [e, wp_bind (Lg.lift _) (fun q => Lg.bind (Lg.rd _) (lg q)), wp_lift]
  congr 1
  funext q
  rw [wp_bind (Lg.rd _) (lg q), wp_rd, hb, optP_some]
  dsimp only
  by_cases h : q.2.1 ≤ q.2.2
  · rw [if_pos ⟨.inr rfl, h⟩, wp_pure]
    simp only [condP, h, true_and, Option.isSome_some]
  · rw [if_neg (fun hh => h hh.2), wp_fail]
    exact propext ⟨False.elim, fun k => h k.1⟩
theorem P_slc0 (size : Nat) (lo hi mx : Option Atom) : wp (X C (.slc size (.const (.slice none 0 0)) lo hi mx)) Φ S = optP (bnds .leaf 0 0 lo hi mx) (fun _ => Φ (.slice none 0 0) S) := by
  have e : X C (.slc size (.const (.slice none 0 0)) lo hi mx) = M.lift ((bnds .leaf 0 0 lo hi mx).map fun _ => .slice none 0 0) := by
    funext S
    simp only [X, exec, M.bind, M.lift, Atom.ev]
    cases bnds .leaf 0 0 lo hi mx <;> rfl
  rw [e, wp_lift]
  cases bnds .leaf 0 0 lo hi mx <;> rfl
theorem bnds_l (len cap : Nat) (k : IntKind) (i : Int) : bnds .leaf len cap (some (.const (.int k i))) none none = if 0 ≤ i ∧ i ≤ len then some (i.toNat, len, cap) else none := by
  simp only [bnds, bnd, Atom.ev, Option.bind_some, asInt]
  by_cases h : 0 ≤ i ∧ i ≤ (len : Int)
  · rw [if_pos h, if_pos h]
  · rw [if_neg h, if_neg h]
theorem bnds_h (len cap : Nat) (k : IntKind) (i : Int) : bnds .leaf len cap none (some (.const (.int k i))) none = if 0 ≤ i ∧ i ≤ cap then some (0, i.toNat, cap) else none := by
  simp only [bnds, bnd, Atom.ev, Option.bind_some, asInt]
  by_cases h : 0 ≤ i ∧ i ≤ (cap : Int)
  · rw [if_pos h, if_pos h]
  · rw [if_neg h, if_neg h]
theorem bnds_lh (len cap : Nat) (k k' : IntKind) (i j : Int) : bnds .leaf len cap (some (.const (.int k i))) (some (.const (.int k' j))) none = if (0 ≤ j ∧ j ≤ cap) ∧ 0 ≤ i ∧ i ≤ j then some (i.toNat, j.toNat, cap) else none := by
  simp only [bnds, bnd, Atom.ev, Option.bind_some, asInt]
  by_cases h : 0 ≤ j ∧ j ≤ cap
  · simp only [h, and_self, if_true, true_and]
    have : ((j.toNat : Nat) : Int) = j := Int.toNat_of_nonneg h.1
    rw [this]
    by_cases h2 : 0 ≤ i ∧ i ≤ j
    · rw [if_pos h2, if_pos h2]
    · rw [if_neg h2, if_neg h2]
  · simp only [h, if_false, false_and]
theorem bnds_0 (len cap : Nat) : bnds .leaf len cap none none none = some (0, len, cap) := rfl
/-! ## Cells of values -/
theorem cells_agg (l : List Value) : (Value.agg ⟨l⟩).cells = ⟨l⟩ := id rfl
theorem cells_int (k : IntKind) (n : Int) : (Value.int k n).cells = ⟨[.int k n]⟩ := id rfl
theorem cells_bool (b : Bool) : (Value.bool b).cells = ⟨[.bool b]⟩ := id rfl
theorem cells_str (s : ByteArray) : (Value.string s).cells = ⟨[.string s]⟩ := id rfl
theorem cells_ptr (p : Option Addr) : (Value.pointer p).cells = ⟨[.pointer p]⟩ := id rfl
theorem cells_sl (p : Option Addr) (n c : Nat) : (Value.slice p n c).cells = ⟨[.slice p n c]⟩ := id rfl
theorem cells_map (p : Option Nat) : (Value.map p).cells = ⟨[.map p]⟩ := id rfl
theorem cells_fn (f : Fn) (a b : Array Value) : (Value.func f a b).cells = ⟨[.func f a b]⟩ := id rfl
theorem cells_nf : Value.nilFunc.cells = ⟨[.nilFunc]⟩ := id rfl
theorem cells_tok : (Value.chan none).cells = ⟨[.chan none]⟩ := id rfl
theorem one_int (k : IntKind) (n : Int) : (Value.int k n).oneCell' = true := id rfl
theorem one_bool (b : Bool) : (Value.bool b).oneCell' = true := id rfl
theorem one_str (s : ByteArray) : (Value.string s).oneCell' = true := id rfl
theorem one_ptr (p : Option Addr) : (Value.pointer p).oneCell' = true := id rfl
theorem one_sl (p : Option Addr) (n c : Nat) : (Value.slice p n c).oneCell' = true := id rfl
theorem one_map (p : Option Nat) : (Value.map p).oneCell' = true := id rfl
theorem one_fn (f : Fn) (a b : Array Value) : (Value.func f a b).oneCell' = true := id rfl
theorem one_nf : Value.nilFunc.oneCell' = true := id rfl
theorem splice_z (c vs : List Value) : splice c 0 vs = overlay c vs := by cases c <;> rfl
theorem splice_c (a : Value) (c vs : List Value) (k : Nat) : splice (a :: c) (k + 1) vs = a :: splice c k vs := id rfl
theorem splice_1 (a : Value) (c vs : List Value) : splice (a :: c) 1 vs = a :: splice c 0 vs := id rfl
theorem splice_2 (a b : Value) (c vs : List Value) : splice (a :: b :: c) 2 vs = a :: b :: splice c 0 vs := id rfl
theorem splice_3 (a b d : Value) (c vs : List Value) : splice (a :: b :: d :: c) 3 vs = a :: b :: d :: splice c 0 vs := id rfl
theorem splice_4 (a b d e : Value) (c vs : List Value) : splice (a :: b :: d :: e :: c) 4 vs = a :: b :: d :: e :: splice c 0 vs := id rfl
theorem overlay_n (c : List Value) : overlay c [] = c := by cases c <;> rfl
theorem overlay_c (a v : Value) (c vs : List Value) : overlay (a :: c) (v :: vs) = v :: overlay c vs := id rfl
/-! ## Numbers of other kinds -/
theorem wrapU64 {n : Int} (h0 : 0 ≤ n) (h1 : n < 18446744073709551616) : IntKind.u64.wrap n = n := by
  simp [IntKind.wrap, IntKind.bits, IntKind.signed]
  omega
theorem wrapU32 {n : Int} (h0 : 0 ≤ n) (h1 : n < 4294967296) : IntKind.u32.wrap n = n := by
  simp [IntKind.wrap, IntKind.bits, IntKind.signed]
  omega
theorem wrapU16 {n : Int} (h0 : 0 ≤ n) (h1 : n < 65536) : IntKind.u16.wrap n = n := by
  simp [IntKind.wrap, IntKind.bits, IntKind.signed]
  omega
theorem wrapU8 {n : Int} (h0 : 0 ≤ n) (h1 : n < 256) : IntKind.u8.wrap n = n := by
  simp [IntKind.wrap, IntKind.bits, IntKind.signed]
  omega
theorem P_convI64 (k : IntKind) {n : Int} (h0 : -9223372036854775808 ≤ n) (h1 : n < 9223372036854775808) : wp (X C (.conv (.int .i64) (.const (.int k n)))) Φ S = Φ (.int .i64 n) S := by rw [P_conv, wrap64 h0 h1]
theorem P_convU64 (k : IntKind) {n : Int} (h0 : 0 ≤ n) (h1 : n < 18446744073709551616) : wp (X C (.conv (.int .u64) (.const (.int k n)))) Φ S = Φ (.int .u64 n) S := by rw [P_conv, wrapU64 h0 h1]
theorem P_convU32 (k : IntKind) {n : Int} (h0 : 0 ≤ n) (h1 : n < 4294967296) : wp (X C (.conv (.int .u32) (.const (.int k n)))) Φ S = Φ (.int .u32 n) S := by rw [P_conv, wrapU32 h0 h1]
theorem P_convU16 (k : IntKind) {n : Int} (h0 : 0 ≤ n) (h1 : n < 65536) : wp (X C (.conv (.int .u16) (.const (.int k n)))) Φ S = Φ (.int .u16 n) S := by rw [P_conv, wrapU16 h0 h1]
theorem P_convU8 (k : IntKind) {n : Int} (h0 : 0 ≤ n) (h1 : n < 256) : wp (X C (.conv (.int .u8) (.const (.int k n)))) Φ S = Φ (.int .u8 n) S := by rw [P_conv, wrapU8 h0 h1]
theorem P_addU64 {a b : Int} (h0 : 0 ≤ a + b) (h1 : a + b < 18446744073709551616) : wp (X C (.bin .add (.const (.int .u64 a)) (.const (.int .u64 b)))) Φ S = Φ (.int .u64 (a + b)) S := by rw [P_add, wrapU64 h0 h1]
theorem P_addU32 {a b : Int} (h0 : 0 ≤ a + b) (h1 : a + b < 4294967296) : wp (X C (.bin .add (.const (.int .u32 a)) (.const (.int .u32 b)))) Φ S = Φ (.int .u32 (a + b)) S := by rw [P_add, wrapU32 h0 h1]
theorem P_addU16 {a b : Int} (h0 : 0 ≤ a + b) (h1 : a + b < 65536) : wp (X C (.bin .add (.const (.int .u16 a)) (.const (.int .u16 b)))) Φ S = Φ (.int .u16 (a + b)) S := by rw [P_add, wrapU16 h0 h1]
theorem P_addU8 {a b : Int} (h0 : 0 ≤ a + b) (h1 : a + b < 256) : wp (X C (.bin .add (.const (.int .u8 a)) (.const (.int .u8 b)))) Φ S = Φ (.int .u8 (a + b)) S := by rw [P_add, wrapU8 h0 h1]
theorem P_subU64 {a b : Int} (h0 : 0 ≤ a - b) (h1 : a - b < 18446744073709551616) : wp (X C (.bin .sub (.const (.int .u64 a)) (.const (.int .u64 b)))) Φ S = Φ (.int .u64 (a - b)) S := by rw [P_sub, wrapU64 h0 h1]
theorem P_subU32 {a b : Int} (h0 : 0 ≤ a - b) (h1 : a - b < 4294967296) : wp (X C (.bin .sub (.const (.int .u32 a)) (.const (.int .u32 b)))) Φ S = Φ (.int .u32 (a - b)) S := by rw [P_sub, wrapU32 h0 h1]
theorem P_subU16 {a b : Int} (h0 : 0 ≤ a - b) (h1 : a - b < 65536) : wp (X C (.bin .sub (.const (.int .u16 a)) (.const (.int .u16 b)))) Φ S = Φ (.int .u16 (a - b)) S := by rw [P_sub, wrapU16 h0 h1]
theorem P_subU8 {a b : Int} (h0 : 0 ≤ a - b) (h1 : a - b < 256) : wp (X C (.bin .sub (.const (.int .u8 a)) (.const (.int .u8 b)))) Φ S = Φ (.int .u8 (a - b)) S := by rw [P_sub, wrapU8 h0 h1]
end Go.Wb
end
