/- The engine, part M1: the machine's steps. -/
import Derived.Test.YtmepokefmpcnnaaEngC11
set_option linter.unusedSimpArgs false
set_option linter.unusedVariables false
namespace Go.Wb
variable {P : Program}

/-- a running frame -/
def Fr (fn : FuncId) (ro : Option Nat) (tmps : Array Value) (ds : List Deferred) (todo : List Item) : Frame := { fn, tmps, todo, defers := ds, mode := .run, kind := .normal, roundOf := ro }

section
variable {fn : FuncId} {ro : Option Nat} {tmps : Array Value} {ds : List Deferred} {k : List Item} {cs : List Frame} {w : World}
theorem st_skip : step P (lone (Fr fn ro tmps ds (.code .skip :: k)) cs w) = .next (lone (Fr fn ro tmps ds k) cs w) := step_lone_go (by simp [stepG, stepG.exec, Fr])
theorem st_label {l : Nat} : step P (lone (Fr fn ro tmps ds (.code (.label l) :: k)) cs w) = .next (lone (Fr fn ro tmps ds k) cs w) := step_lone_go (by simp [stepG, stepG.exec, Fr])
theorem st_inBlock {l : Nat} : step P (lone (Fr fn ro tmps ds (.inBlock l :: k)) cs w) = .next (lone (Fr fn ro tmps ds k) cs w) := step_lone_go (by simp [stepG, stepG.exec, Fr])
theorem st_inScope {c : Code} : step P (lone (Fr fn ro tmps ds (.inScope c :: k)) cs w) = .next (lone (Fr fn ro tmps ds k) cs w) := step_lone_go (by simp [stepG, stepG.exec, Fr])
theorem st_seq {x y : Code} : step P (lone (Fr fn ro tmps ds (.code (.seq x y) :: k)) cs w) = .next (lone (Fr fn ro tmps ds (.code x :: .code y :: k)) cs w) := step_lone_go (by simp [stepG, stepG.exec, Fr])
theorem st_cond {c : Operand} {x y : Code} {t : Bool} (h : evT tmps c = .bool t) : step P (lone (Fr fn ro tmps ds (.code (.cond c x y) :: k)) cs w) = .next (lone (Fr fn ro tmps ds (.code (if t then x else y) :: k)) cs w) :=
  step_lone_go (by
    have : (Fr fn ro tmps ds (.code (.cond c x y) :: k)).eval c = .bool t := by rw [eval_evT]; exact h
    simp only [Fr] at this
    simp [stepG, stepG.exec, Fr, this])
theorem st_block {id : Nat} {c : Code} : step P (lone (Fr fn ro tmps ds (.code (.block id c) :: k)) cs w) = .next (lone (Fr fn ro tmps ds (.code c :: .inBlock id :: k)) cs w) := step_lone_go (by simp [stepG, stepG.exec, Fr])
theorem st_scope {c : Code} : step P (lone (Fr fn ro tmps ds (.code (.scope c) :: k)) cs w) = .next (lone (Fr fn ro tmps ds (.code c :: .inScope c :: k)) cs w) := step_lone_go (by simp [stepG, stepG.exec, Fr])
theorem st_loop {c : Code} : step P (lone (Fr fn ro tmps ds (.code (.loop c) :: k)) cs w) = .next (lone (Fr fn ro tmps ds (.code c :: .inLoop c :: k)) cs w) := step_lone_go (by simp [stepG, stepG.exec, Fr])
theorem st_inLoop {c : Code} : step P (lone (Fr fn ro tmps ds (.inLoop c :: k)) cs w) = .next (lone (Fr fn ro tmps ds (.code c :: .inLoop c :: k)) cs w) := step_lone_go (by simp [stepG, stepG.exec, Fr])
theorem st_exit {id : Nat} {k' : List Item} (h : exitTo id k = some k') : step P (lone (Fr fn ro tmps ds (.code (.exit id) :: k)) cs w) = .next (lone (Fr fn ro tmps ds k') cs w) := step_lone_go (by simp [stepG, stepG.exec, Fr, h])
theorem st_region {id : Nat} {ops : Array Oper} : step P (lone (Fr fn ro tmps ds (.code (.region id ops false) :: k)) cs w) = .next (lone (Fr fn ro tmps ds (.inRegion ops (List.range ops.size) :: k)) cs w) :=
  step_lone_go (by simp [stepG, stepG.exec, Fr])
theorem st_draw {id : Nat} {ops : Array Oper} (hm : P.follows .mixedOrders = true) : step P (lone (Fr fn ro tmps ds (.code (.region id ops true) :: k)) cs w) =
    .next (lone (Fr fn ro tmps ds (.inRegion ops (Region.linearise .any ops (w.tape w.drawn (.order fn id))) :: k)) cs { w with drawn := w.drawn + 1 }) :=
  step_lone_go (by simp [stepG, stepG.exec, Fr, choose, Sem.run, Question.forced, Question.cut, Region.schedule, hm])
theorem st_regionEnd {ops : Array Oper} : step P (lone (Fr fn ro tmps ds (.inRegion ops [] :: k)) cs w) = .next (lone (Fr fn ro tmps ds k) cs w) := step_lone_go (by simp [stepG, stepG.exec, Fr])

def putT (tmps : Array Value) (d : Option Tmp) (v : Value) : Array Value := match d with | some d => tmps.setIfInBounds d v | none => tmps

theorem finish_op {ops : Array Oper} {i : Nat} {rest : List Nat} (v : Value) :
    (Fr fn ro tmps ds (.inRegion ops (i :: rest) :: k)).finish v = Fr fn ro (putT tmps ((ops[i]?).bind (·.dst)) v) ds (.inRegion ops rest :: k) := by
  cases h : (ops[i]?).bind (·.dst) <;> simp [Frame.finish, Fr, h, putT]

theorem st_unwanted {ops : Array Oper} {i : Nat} {rest : List Nat} (h : ((ops[i]?).map (Region.wanted · (yielded ops tmps))).getD false = false) :
    step P (lone (Fr fn ro tmps ds (.inRegion ops (i :: rest) :: k)) cs w) = .next (lone (Fr fn ro (putT tmps ((ops[i]?).bind (·.dst)) undef) ds (.inRegion ops rest :: k)) cs w) := by
  rw [← finish_op]
  exact step_lone_go (by
    have h' := h
    simp only [Fr] at *
    simp [stepG, stepG.exec, h'])

/-- what a computation that may call comes to -/
def CallTo (P : Program) (s : Sem Next) (w : World) (v' : Value) (w' : World) : Prop :=
  s.run P w = .ok (.value v') w' ∨ (s.run P w = .ok .skip w' ∧ v' = undef) ∨
  (∃ f a, s.run P w = .ok (.enter f a) w ∧ ∀ c cs, Steps P (lone (Frame.enter P f a .normal) (c :: cs) w) (lone (c.finish v') cs w')) ∨
  (∃ l f t a b, s.run P w = .ok (.round l f t a b) w ∧ ∀ c cs, Steps P (lone (Frame.round l f t a b .normal) (c :: cs) w) (lone (c.finish v') cs w'))

theorem steps_apply {fr : Frame} {s : Sem Next} {v' : Value} {w' w1 : World} (hg : stepG P true { frame := fr, callers := cs, status := .running, dying := none } w = stepG.apply P true fr cs none s w1)
    (hk : ∀ d r sv k', fr.todo ≠ .call d true r sv :: k') (h : CallTo P s w1 v' w') : Steps P (lone fr cs w) (lone (fr.finish v') cs w') := by
  have hkind : (match fr.todo with | .call _ true _ _ :: _ => CallKind.wrapped | _ => CallKind.normal) = .normal := by
    split
    · rename_i d r sv k' h; exact absurd h (hk _ _ _ _)
    · rfl
  rcases h with h | ⟨h, rfl⟩ | ⟨f, a, h, h2⟩ | ⟨l, f, t, a, b, h, h2⟩
  · exact .one (step_lone_go (by rw [hg]; simp [stepG.apply, h]))
  · exact .one (step_lone_go (by rw [hg]; simp [stepG.apply, h]))
  · refine .head (m₁ := lone (Frame.enter P f a .normal) (fr :: cs) w1) (step_lone_go ?_) (h2 fr cs)
    rw [hg]; simp [stepG.apply, h]
  · refine .head (m₁ := lone (Frame.round l f t a b .normal) (fr :: cs) w1) (step_lone_go ?_) (h2 fr cs)
    rw [hg]; simp [stepG.apply, h]

theorem stepG_oper {ops : Array Oper} {i : Nat} {rest : List Nat} {o : Oper} (ho : ops[i]? = some o) (hw : Region.wanted o (yielded ops tmps) = true) (hnd : ∀ c, o.op ≠ .defer c) :
    stepG P true { frame := Fr fn ro tmps ds (.inRegion ops (i :: rest) :: k), callers := cs, status := .running, dying := none } w =
      stepG.apply P true (Fr fn ro tmps ds (.inRegion ops (i :: rest) :: k)) cs none (execOp (evT tmps) o) w := by
  have he := eval_evT (Fr fn ro tmps ds (.inRegion ops (i :: rest) :: k))
  simp only [Fr] at he
  simp only [stepG, stepG.exec, stepG.oper, Frame.oper?, Fr, ho, Option.map_some, Option.getD_some, hw, if_true, he]
  split
  · rename_i h2
    exact absurd h2 (hnd _)
  · rfl

theorem steps_oper {ops : Array Oper} {i : Nat} {rest : List Nat} {o : Oper} {v' : Value} {w' : World} (ho : ops[i]? = some o) (hw : Region.wanted o (yielded ops tmps) = true) (hnd : ∀ c, o.op ≠ .defer c)
    (h : CallTo P (execOp (evT tmps) o) w v' w') : Steps P (lone (Fr fn ro tmps ds (.inRegion ops (i :: rest) :: k)) cs w) (lone (Fr fn ro (putT tmps o.dst v') ds (.inRegion ops rest :: k)) cs w') := by
  have := steps_apply (cs := cs) (stepG_oper (fn := fn) (ro := ro) (ds := ds) (rest := rest) (k := k) (cs := cs) (w := w) ho hw hnd) (by intro d r sv k' h; simp [Fr] at h) h
  rw [finish_op, ho] at this
  exact this
end
end Go.Wb
