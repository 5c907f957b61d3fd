/- The engine, part V: a function's code as a text over values: what comes behind is an argument, each operation is a box. -/
import Derived.Test.YtmepokefmpcnnaaEngS
set_option linter.unusedSimpArgs false
set_option linter.unusedVariables false
namespace Go.Wb
variable {ρ : Type} {α β : Type}

/-- an operation on values -/
def X (call : Tgt → List Value → M Value) (op : AOp) : M Value := exec call .leaf op
/-- an operation behind a guard -/
def G (w : Option Bool) (m : M Value) : M Value := match w with
  | none => M.fail
  | some true => m
  | some false => M.pure undef
/-- one of a region that draws: what it touched is noted -/
def dstep (j : Nat) (ts : List (Nat × Touch)) (m : M Value) (k : Value → List (Nat × Touch) → St → Option ρ) (S : St) : Option ρ := match m { heap := S.heap, next := S.next, log := [] } with
  | none => none
  | some (v, s') => k v (keepT j { log := s'.log, lo := S.next, hi := s'.next } ts) { heap := s'.heap, next := s'.next, log := s'.log ++ S.log }
def ifK (b : Option Bool) (x y : St → Option ρ) (S : St) : Option ρ := match b with
  | none => none
  | some true => x S
  | some false => y S
/-- behind the first of two, behind a block -/
def contS (kb : Env → St → Option ρ) (k : Ext → Env → St → Option ρ) (x : Ext) (e : Env) (S : St) : Option ρ := match x with
  | .normal => kb e S
  | x => k x e S
def contB (id : Nat) (k : Ext → Env → St → Option ρ) (x : Ext) (e : Env) (S : St) : Option ρ := match x with
  | .exit i => match Nat.beq i id with
    | true => k .normal e S
    | false => k (.exit i) e S
  | x => k x e S
/-- the touches are apart -/
def okK (b : Bool) (x : St → Option ρ) (S : St) : Option ρ := match b with
  | true => x S
  | false => none

section
variable (call : Tgt → List Value → M Value)
def valM (i : AInstr) (e : Env) : M Value := match i.guard with
  | none => exec call e i.op
  | some (t, want) => G ((e.get t).bind (wanted want)) (exec call e i.op)
/-- a plain move: nothing is seen of it -/
def movOf (i : AInstr) : Option (Nat × Atom) := match i.dst, i.guard, i.op with
  | some d, none, .mov a => some (d, a)
  | _, _, _ => none
def instrsV : List AInstr → Env → (Env → St → Option ρ) → St → Option ρ
  | [], e, k, S => k e S
  | i :: r, e, k, S => match movOf i with
    | some (d, a) => (match a.ev e with
      | none => none
      | some v => instrsV r (e.set d (some v)) k S)
    | none => M.k (valM call i e) (fun v S => instrsV r (putD e i.dst v) k S) S
def drawnV (ms : List Nat) : List AInstr → Nat → Env → List (Nat × Touch) → (Env → St → Option ρ) → St → Option ρ
  | [], _, e, ts, k, S => okK (apartAll ms ts) (fun S => k e S) S
  | i :: r, j, e, ts, k, S => dstep j ts (valM call i e) (fun v ts S => drawnV ms r (j + 1) (putD e i.dst v) ts k S) S
def codeV (fuel : Nat) : ACode → Env → (Ext → Env → St → Option ρ) → St → Option ρ
  | .skip, e, k, S => k .normal e S
  | .ops l, e, k, S => instrsV call l e (fun e S => k .normal e S) S
  | .drawn l ms, e, k, S => drawnV call ms l 0 e [] (fun e S => k .normal e S) S
  | .seq a b, e, k, S => codeV fuel a e (contS (fun e S => codeV fuel b e k S) k) S
  | .cond c a b, e, k, S => ifK ((c.ev e).bind asBool) (fun S => codeV fuel a e k S) (fun S => codeV fuel b e k S) S
  | .block id a, e, k, S => codeV fuel a e (contB id k) S
  | .loop a, e, k, S => M.k (iter (run call fuel a) fuel e) (fun r S => k r.1 r.2 S) S
  | .range f ps as bd, e, k, S => M.k (run call fuel (.range f ps as bd) e) (fun r S => k r.1 r.2 S) S
  | .exit id, e, k, S => k (.exit id) e S
  | .ret, e, k, S => k .ret e S
end
/-- a function's end -/
def tupV (k : Value → St → Option ρ) (vs : List Value) (S : St) : Option ρ := match vs with
  | [v] => k v S
  | vs => k (.tuple vs.toArray) S
def endV (rs : List ARes) (k : Value → St → Option ρ) (x : Ext) (e : Env) (S : St) : Option ρ := match x with
  | .exit _ => none
  | _ => M.k (resAll e rs) (tupV k) S

theorem k_fun_congr {m : M α} {k k' : α → St → Option ρ} (h : ∀ a, k a = k' a) : M.k m k = M.k m k' := by
  have : k = k' := funext h
  rw [this]
variable {call : Tgt → List Value → M Value}
theorem instr_valM (i : AInstr) (e : Env) : instr call i e = (valM call i e).bind fun v => M.pure (putD e i.dst v) := by
  unfold instr valM
  cases i.guard with
  | none => rfl
  | some g =>
    obtain ⟨t, want⟩ := g
    funext S
    simp only [M.bind, M.lift]
    cases (e.get t).bind (wanted want) with
    | none => rfl
    | some b => cases b <;> rfl
theorem instrsV_eq : ∀ (l : List AInstr) (e : Env) (k : Env → St → Option ρ) (S : St), instrsV call l e k S = M.k (instrs call l e) k S
  | [], e, k, S => rfl
  | i :: r, e, k, S => by
    have plain : M.k (valM call i e) (fun v S => instrsV call r (putD e i.dst v) k S) S = M.k (instrs call (i :: r) e) k S := by
      simp only [instrs, M.k_bind, instr_valM]
      refine M.k_congr fun v S' => ?_
      rw [instrsV_eq r]
      rfl
    simp only [instrsV]
    cases hm : movOf i with
    | none => exact plain
    | some p =>
      obtain ⟨d, a⟩ := p
      rw [← plain]
      unfold movOf at hm
      split at hm
      · rename_i d' a' h1 h2 h3
        simp only [Option.some.injEq, Prod.mk.injEq] at hm
        obtain ⟨rfl, rfl⟩ := hm
        simp only [valM, h1, h2, h3, exec, M.k, M.bind, M.lift]
        cases a'.ev e <;> rfl
      · cases hm
theorem drawnV_eq (ms : List Nat) : ∀ (l : List AInstr) (j : Nat) (e : Env) (ts : List (Nat × Touch)) (k : Env → St → Option ρ) (S : St), drawnV call ms l j e ts k S = M.k (drawnGo call l j e ts) (fun r => okK (apartAll ms r.2) (k r.1)) S
  | [], j, e, ts, k, S => rfl
  | i :: r, j, e, ts, k, S => by
    simp only [drawnV, dstep, M.k, drawnGo, instr_valM, M.bind]
    cases valM call i e { heap := S.heap, next := S.next, log := [] } with
    | none => rfl
    | some p =>
      obtain ⟨v, s'⟩ := p
      simp only [M.pure]
      rw [drawnV_eq ms r]
      rfl
theorem codeV_eq (fuel : Nat) : ∀ (c : ACode) (e : Env) (k : Ext → Env → St → Option ρ) (S : St), codeV call fuel c e k S = M.k (run call fuel c e) (fun r => k r.1 r.2) S
  | .skip, e, k, S => rfl
  | .exit id, e, k, S => rfl
  | .ret, e, k, S => rfl
  | .loop a, e, k, S => rfl
  | .range f ps as bd, e, k, S => rfl
  | .ops l, e, k, S => by
    simp only [codeV, run, instrsV_eq, M.k_bind]; rfl
  | .drawn l ms, e, k, S => by
    simp only [codeV, run, drawnA, drawnV_eq, M.k_bind]
    refine M.k_congr fun r S' => ?_
    cases apartAll ms r.2 <;> rfl
  | .seq a b, e, k, S => by
    simp only [codeV, run, M.k_bind]
    rw [codeV_eq fuel a]
    refine M.k_congr fun r S' => ?_
    obtain ⟨x, e'⟩ := r
    cases x with
    | normal => simp only [contS]; rw [codeV_eq fuel b]
    | exit id => rfl
    | ret => rfl
  | .cond c a b, e, k, S => by
    simp only [codeV, run, ifK, M.k_bind, M.k_lift]
    cases (c.ev e).bind asBool with
    | none => rfl
    | some t => cases t <;> simp only <;> rw [codeV_eq fuel]
  | .block id a, e, k, S => by
    simp only [codeV, run, M.k_bind]
    rw [codeV_eq fuel a]
    refine M.k_congr fun r S' => ?_
    obtain ⟨x, e'⟩ := r
    cases x with
    | normal => rfl
    | ret => rfl
    | exit i =>
      simp only [contB]
      by_cases h : i = id
      · subst h
        rw [if_pos rfl]
        have : Nat.beq i i = true := by simp
        rw [this]; rfl
      · rw [if_neg h]
        have : Nat.beq i id = false := by rw [Bool.eq_false_iff]; intro c; exact h (Nat.eq_of_beq_eq_true c)
        rw [this]; rfl
/-- a call of a function, by its code -/
theorem callV {F : Nat → Option AFn} {n : Nat} {f : FuncId} {af : AFunc} {args : List Value} (hF : F f = some (.go af)) (hl : args.length = af.nparams) (S : St) :
    callN F (n + 1) (.fn f) args S = codeV (callN F n) n af.body (argsEnv args 0 .leaf) (endV af.results fun v S => some (v, S)) S := by
  rw [codeV_eq]
  simp only [callN, hF, hl, if_true]
  simp only [M.bind, M.k]
  cases run (callN F n) n af.body (argsEnv args 0 .leaf) S with
  | none => rfl
  | some p =>
    obtain ⟨⟨x, e'⟩, S'⟩ := p
    have key : (M.bind (resAll e' af.results) fun vs => match vs with | [v] => M.pure v | vs => M.pure (.tuple vs.toArray)) S' = M.k (resAll e' af.results) (tupV fun v S => some (v, S)) S' := by
      simp only [M.bind, M.k]
      cases resAll e' af.results S' with
      | none => rfl
      | some q => obtain ⟨vs, S2⟩ := q; simp only [tupV]; split <;> rfl
    cases x with
    | exit id => rfl
    | normal => simp only [endV]; rw [← key]; rfl
    | ret => simp only [endV]; rw [← key]; rfl
def sL : ACode → ACode | .seq a _ => a | c => c
def sR : ACode → ACode | .seq _ b => b | c => c
def cA : ACode → ACode | .cond _ a _ => a | c => c
def cB : ACode → ACode | .cond _ _ b => b | c => c
def bB : ACode → ACode | .block _ a => a | c => c
def lB : ACode → ACode | .loop a => a | c => c
def rA : ACode → ACode | .range _ _ a _ => a | c => c
def rB : ACode → ACode | .range _ _ _ b => b | c => c
def goOf : Option AFn → AFunc | some (.go a) => a | _ => { nparams := 0, results := [], body := .skip }
def bodyOf (o : Option AFn) : ACode := (goOf o).body
end Go.Wb
