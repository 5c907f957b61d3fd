/- The engine, part K2: the evaluator with what comes behind as an argument: its open branches stand at the head. -/
import Derived.Test.YtmepokefmpcnnaaEngK
set_option linter.unusedSimpArgs false
set_option linter.unusedVariables false
namespace Go.Wb
variable {ρ : Type} {α β : Type}

/-- a computation, and what comes behind -/
def M.k (m : M α) (k : α → St → Option ρ) (S : St) : Option ρ := match m S with
  | none => none
  | some (a, S') => k a S'
theorem M.k_bind (m : M α) (f : α → M β) (k : β → St → Option ρ) (S : St) : M.k (m.bind f) k S = M.k m (fun a => M.k (f a) k) S := by
  simp only [M.k, M.bind]
  cases m S with
  | none => rfl
  | some r => rfl
theorem M.k_pure (a : α) (k : α → St → Option ρ) (S : St) : M.k (M.pure a) k S = k a S := rfl
theorem M.k_fail (k : α → St → Option ρ) (S : St) : M.k M.fail k S = none := rfl
theorem M.k_lift (o : Option α) (k : α → St → Option ρ) (S : St) : M.k (M.lift o) k S = match o with | none => none | some a => k a S := by cases o <;> rfl

theorem M.k_congr {m : M α} {k k' : α → St → Option ρ} {S : St} (h : ∀ a S, k a S = k' a S) : M.k m k S = M.k m k' S := by
  have : k = k' := by funext a S; exact h a S
  rw [this]

def noCall : Tgt → List Value → M Value := fun _ _ => M.fail

section
variable (callK : Tgt → List Value → (Value → St → Option ρ) → St → Option ρ)
def execK (e : Env) (op : AOp) (k : Value → St → Option ρ) (S : St) : Option ρ := match op with
  | .call f args => match f.ev e with
    | none => none
    | some g => match evs e args with
      | none => none
      | some l => match target g l with
        | none => none
        | some t => callK t.1 t.2 k S
  | .pick c a b => match (c.ev e).bind asBool with
    | none => none
    | some t => match t with
      | true => match a.ev e with
        | none => none
        | some v => k v S
      | false => match b.ev e with
        | none => none
        | some v => k v S
  | op => M.k (exec noCall e op) k S
def instrK (i : AInstr) (e : Env) (k : Env → St → Option ρ) (S : St) : Option ρ := match i.guard with
  | none => execK callK e i.op (fun v => k (putD e i.dst v)) S
  | some (t, want) => match (e.get t).bind (wanted want) with
    | none => none
    | some b => match b with
      | true => execK callK e i.op (fun v => k (putD e i.dst v)) S
      | false => k (putD e i.dst undef) S
def instrsK : List AInstr → Env → (Env → St → Option ρ) → St → Option ρ
  | [], e, k => k e
  | i :: r, e, k => instrK callK i e fun e' => instrsK r e' k
def drawnGoK : List AInstr → Nat → Env → List (Nat × Touch) → (Env × List (Nat × Touch) → St → Option ρ) → St → Option ρ
  | [], _, e, ts, k, S => k (e, ts) S
  | i :: r, n, e, ts, k, S => instrK callK i e (fun e' s' => drawnGoK r (n + 1) e' (keepT n { log := s'.log, lo := S.next, hi := s'.next } ts) k { heap := s'.heap, next := s'.next, log := s'.log ++ S.log })
      { heap := S.heap, next := S.next, log := [] }
def iterK (body : Env → (Ext × Env → St → Option ρ) → St → Option ρ) : Nat → Env → (Ext × Env → St → Option ρ) → St → Option ρ
  | 0, _, _, _ => none
  | n + 1, e, k, S => body e (fun r => match r.1 with
    | .normal => iterK body n r.2 k
    | _ => k r) S
def codeK (fuel : Nat) : ACode → Env → (Ext × Env → St → Option ρ) → St → Option ρ
  | .skip, e, k => k (.normal, e)
  | .ops l, e, k => instrsK callK l e fun e' => k (.normal, e')
  | .drawn l ps, e, k => drawnGoK callK l 0 e [] fun r => match apartAll ps r.2 with
    | true => k (.normal, r.1)
    | false => fun _ => none
  | .seq a b, e, k => codeK fuel a e fun r => match r.1 with
    | .normal => codeK fuel b r.2 k
    | _ => k r
  | .cond c a b, e, k => fun S => match (c.ev e).bind asBool with
    | none => none
    | some t => match t with
      | true => codeK fuel a e k S
      | false => codeK fuel b e k S
  | .block id a, e, k => codeK fuel a e fun r => match r.1 with
    | .exit i => if i = id then k (.normal, r.2) else k r
    | _ => k r
  | .loop a, e, k => iterK (codeK fuel a) fuel e k
  | .range f params assign body, e, k => fun S => match f.ev e with
    | none => none
    | some g => M.k (nw (.loop params assign body e none)) (fun l S => match target g [.func (.yield l) #[] #[]] with
      | none => none
      | some t => callK t.1 t.2 (fun _ => M.k (rd l) fun o => match o with
        | .loop _ _ _ _ p => M.k (wr l none) fun _ => match p with
          | none => k (.normal, e)
          | some x => k (x, e)
        | _ => fun _ => none) S) S
  | .exit id, e, k => k (.exit id, e)
  | .ret, e, k => k (.ret, e)
end

def callK (F : Nat → Option AFn) : Nat → Tgt → List Value → (Value → St → Option ρ) → St → Option ρ
  | 0, _, _, _, _ => none
  | n + 1, .fn f, args, k, S => match F f with
    | none => none
    | some (.ext x) => M.k (extA x args) k S
    | some (.sum g) => match g args with
      | none => none
      | some v => k v S
    | some (.go af) => if args.length = af.nparams then
        codeK (callK F n) n af.body (argsEnv args 0 .leaf) (fun r => match r.1 with
          | .exit _ => fun _ => none
          | _ => M.k (resAll r.2 af.results) fun vs => match vs with
            | [v] => k v
            | vs => k (.tuple vs.toArray)) S
      else none
  | n + 1, .yield l, args, k, S => M.k (rd l) (fun o => match o with
    | .loop params assign body e none => if args.length = params.length then
        M.k (wr l none) fun _ => codeK (callK F n) n assign (zipSet params args e) fun r => match r.1 with
          | .normal => codeK (callK F n) n body r.2 fun r => match r.1 with
            | .normal => M.k (wr l (some (.loop params assign body e none))) fun _ => k (.bool true)
            | x => M.k (wr l (some (.loop params assign body e (some x)))) fun _ => k (.bool false)
          | _ => fun _ => none
      else fun _ => none
    | _ => fun _ => none) S

section
variable {cK : Tgt → List Value → (Value → St → Option ρ) → St → Option ρ} {call : Tgt → List Value → M Value} (hc : ∀ t a k S, cK t a k S = M.k (call t a) k S)
include hc
theorem execK_eq (e : Env) (op : AOp) (k : Value → St → Option ρ) (S : St) : execK cK e op k S = M.k (exec call e op) k S := by
  cases op with
  | call f args =>
    simp only [execK, exec, M.k_bind, M.k_lift, M.k_pure]
    cases f.ev e with
    | none => rfl
    | some g =>
      simp only
      cases evs e args with
      | none => rfl
      | some l =>
        simp only
        cases target g l with
        | none => rfl
        | some t => simp only; rw [hc]; rfl
  | pick c a b =>
    simp only [execK, exec, M.k_bind, M.k_lift, M.k_pure]
    cases (c.ev e).bind asBool with
    | none => rfl
    | some t =>
      cases t
      · simp only [Bool.false_eq_true, if_false]; cases b.ev e <;> rfl
      · simp only [if_true]; cases a.ev e <;> rfl
  | _ => rfl
theorem instrK_eq (i : AInstr) (e : Env) (k : Env → St → Option ρ) (S : St) : instrK cK i e k S = M.k (instr call i e) k S := by
  unfold instrK instr
  cases i.guard with
  | none => simp only [execK_eq hc, M.k_bind]; rfl
  | some g =>
    obtain ⟨t, want⟩ := g
    simp only [M.k_bind, M.k_lift]
    cases (e.get t).bind (wanted want) with
    | none => rfl
    | some b =>
      cases b
      · simp only [Bool.false_eq_true, if_false, M.k_pure]
      · simp only [if_true, execK_eq hc, M.k_bind]; rfl
theorem instrsK_eq : ∀ (l : List AInstr) (e : Env) (k : Env → St → Option ρ) (S : St), instrsK cK l e k S = M.k (instrs call l e) k S
  | [], e, k, S => rfl
  | i :: r, e, k, S => by
    simp only [instrsK, instrs, M.k_bind, instrK_eq hc]
    congr 1
    funext e'
    funext S'
    exact instrsK_eq r e' k S'
theorem drawnGoK_eq : ∀ (l : List AInstr) (n : Nat) (e : Env) (ts : List (Nat × Touch)) (k : Env × List (Nat × Touch) → St → Option ρ) (S : St), drawnGoK cK l n e ts k S = M.k (drawnGo call l n e ts) k S
  | [], n, e, ts, k, S => rfl
  | i :: r, n, e, ts, k, S => by
    simp only [drawnGoK, instrK_eq hc]
    simp only [M.k, drawnGo]
    cases instr call i e { heap := S.heap, next := S.next, log := [] } with
    | none => rfl
    | some p =>
      obtain ⟨e', s'⟩ := p
      simp only
      rw [drawnGoK_eq r]
      rfl
theorem codeK_eq (fuel : Nat) : ∀ (c : ACode) (e : Env) (k : Ext × Env → St → Option ρ) (S : St), codeK cK fuel c e k S = M.k (run call fuel c e) k S
  | .skip, e, k, S => rfl
  | .exit id, e, k, S => rfl
  | .ret, e, k, S => rfl
  | .ops l, e, k, S => by
    simp only [codeK, run, instrsK_eq hc, M.k_bind]; rfl
  | .drawn l ps, e, k, S => by
    simp only [codeK, run, drawnA, drawnGoK_eq hc, M.k_bind]
    congr 1
    funext r
    funext S'
    cases apartAll ps r.2 <;> rfl
  | .seq a b, e, k, S => by
    simp only [codeK, run, M.k_bind]
    rw [codeK_eq fuel a]
    congr 1
    funext r
    funext S'
    obtain ⟨x, e'⟩ := r
    cases x with
    | normal => exact codeK_eq fuel b e' k S'
    | exit id => rfl
    | ret => rfl
  | .cond c a b, e, k, S => by
    simp only [codeK, run, M.k_bind, M.k_lift]
    cases (c.ev e).bind asBool with
    | none => rfl
    | some t =>
      cases t
      · exact codeK_eq fuel b e k S
      · exact codeK_eq fuel a e k S
  | .block id a, e, k, S => by
    simp only [codeK, run, M.k_bind]
    rw [codeK_eq fuel a]
    congr 1
    funext r
    funext S'
    obtain ⟨x, e'⟩ := r
    cases x with
    | normal => rfl
    | ret => rfl
    | exit i =>
      by_cases h : i = id
      · simp [h, M.k_pure]
      · simp [h, M.k_pure]
  | .loop a, e, k, S => by
    simp only [codeK, run]
    have key : ∀ (n : Nat) (e : Env) (k : Ext × Env → St → Option ρ) (S : St), iterK (codeK cK fuel a) n e k S = M.k (iter (run call fuel a) n e) k S := by
      intro n
      induction n with
      | zero => intro e k S; rfl
      | succ n ih =>
        intro e k S
        simp only [iterK, iter, M.k_bind]
        rw [codeK_eq fuel a]
        congr 1
        funext r
        funext S'
        obtain ⟨x, e'⟩ := r
        cases x with
        | normal => exact ih e' k S'
        | exit id => rfl
        | ret => rfl
    exact key fuel e k S
  | .range f params assign body, e, k, S => by
    simp only [codeK, run, M.k_bind, M.k_lift]
    cases f.ev e with
    | none => rfl
    | some g =>
      simp only
      congr 1
      funext l
      funext S'
      cases target g [.func (.yield l) #[] #[]] with
      | none => rfl
      | some t =>
        simp only [hc, M.k_bind, M.k_lift]
        refine M.k_congr fun v S2 => ?_
        simp only [M.k_bind]
        refine M.k_congr fun o S3 => ?_
        cases o with
        | cells x y z => rfl
        | map => rfl
        | ro => rfl
        | loop p1 p2 p3 p4 p =>
          simp only [M.k_bind]
          refine M.k_congr fun u S4 => ?_
          cases p <;> rfl
end

theorem callK_eq (F : Nat → Option AFn) : ∀ (n : Nat) (t : Tgt) (args : List Value) (k : Value → St → Option ρ) (S : St), callK F n t args k S = M.k (callN F n t args) k S := by
  intro n
  induction n with
  | zero => intro t args k S; rfl
  | succ n ih =>
    intro t args k S
    cases t with
    | fn f =>
      simp only [callK, callN]
      rcases hF : F f with _ | af | x | g
      · rfl
      · simp only
        by_cases hl : args.length = af.nparams
        · simp only [if_pos hl]
          rw [codeK_eq (ρ := ρ) ih]
          simp only [M.k_bind]
          congr 1
          funext r
          funext S'
          obtain ⟨x, e'⟩ := r
          have key : M.k (resAll e' af.results) (fun vs => match vs with | [v] => k v | vs => k (.tuple vs.toArray)) S' =
              M.k ((resAll e' af.results).bind fun vs => match vs with | [v] => M.pure v | vs => M.pure (.tuple vs.toArray)) k S' := by
            rw [M.k_bind]
            congr 1
            funext vs
            funext S2
            split <;> rfl
          cases x with
          | exit id => rfl
          | normal => exact key
          | ret => exact key
        · simp only [if_neg hl]; rfl
      · rfl
      · simp only [M.k_lift]; cases g args <;> rfl
    | yield l =>
      simp only [callK, callN, M.k_bind]
      congr 1
      funext o
      funext S'
      cases o with
      | cells x y z => rfl
      | map => rfl
      | ro => rfl
      | loop params assign body e p =>
        cases p with
        | some x => rfl
        | none =>
          simp only
          by_cases hl : args.length = params.length
          · simp only [if_pos hl, M.k_bind]
            refine M.k_congr fun u S2 => ?_
            rw [codeK_eq (ρ := ρ) ih, M.k_bind]
            refine M.k_congr fun r S3 => ?_
            obtain ⟨x, e'⟩ := r
            cases x with
            | exit id => rfl
            | ret => rfl
            | normal =>
              simp only [M.k_bind]
              rw [codeK_eq (ρ := ρ) ih]
              refine M.k_congr fun r S4 => ?_
              obtain ⟨x, e2⟩ := r
              cases x <;> rfl
          · simp only [if_neg hl]; rfl
end Go.Wb
