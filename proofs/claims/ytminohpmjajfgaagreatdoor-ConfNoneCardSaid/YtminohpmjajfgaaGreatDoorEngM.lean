/- The engine: EngM1 EngM2 EngM3 EngM4 EngM5 EngM6 EngM7 EngM8 EngM9 EngM10 EngM11 EngM12 EngM13. It proves nothing of the program by itself; it has no conditions. -/
import Derived.Test.YtminohpmjajfgaaGreatDoorEngC
import Derived.Test.YtminohpmjajfgaaGreatDoorEngBA
import Derived.Orders
import Derived.RangeFuncRecord
import Derived.Laws.Externs
import Derived.Calls
import Derived.Lib.Bytealg
/- The engine, part M1: the machine's steps. -/
section
set_option linter.unusedSimpArgs false
set_option linter.unusedVariables false
namespace Go.Wb
set_option linter.unusedSectionVars false
variable [GloK]
variable {P : Program}

/-- a running frame -/
def Fr (fn : FuncId) (ro : Option Nat) (tmps : Array Value) (ds : List Deferred) (todo : List Item) : Frame := { fn, tmps, todo, defers := ds, mode := .run, kind := .normal, roundOf := ro }

section
variable {fn : FuncId} {ro : Option Nat} {tmps : Array Value} {ds : List Deferred} {k : List Item} {cs : List Frame} {w : World}
theorem st_skip : step P (lone (Fr fn ro tmps ds (.code .skip :: k)) cs w) = .next (lone (Fr fn ro tmps ds k) cs w) := step_lone_go (by simp [stepG, stepG.exec, Fr])
theorem st_label {l : Nat} : step P (lone (Fr fn ro tmps ds (.code (.label l) :: k)) cs w) = .next (lone (Fr fn ro tmps ds k) cs w) := step_lone_go (by simp [stepG, stepG.exec, Fr])
theorem st_inBlock {l : Nat} : step P (lone (Fr fn ro tmps ds (.inBlock l :: k)) cs w) = .next (lone (Fr fn ro tmps ds k) cs w) := step_lone_go (by simp [stepG, stepG.exec, Fr])
theorem st_inScope {c : Code} : step P (lone (Fr fn ro tmps ds (.inScope c :: k)) cs w) = .next (lone (Fr fn ro tmps ds k) cs w) := step_lone_go (by simp [stepG, stepG.exec, Fr])
theorem st_seq {x y : Code} : step P (lone (Fr fn ro tmps ds (.code (.seq x y) :: k)) cs w) = .next (lone (Fr fn ro tmps ds (.code x :: .code y :: k)) cs w) := step_lone_go (by simp [stepG, stepG.exec, Fr])
theorem st_cond {c : Operand} {x y : Code} {t : Bool} (h : evT tmps c = .bool t) : step P (lone (Fr fn ro tmps ds (.code (.cond c x y) :: k)) cs w) = .next (lone (Fr fn ro tmps ds (.code (if t then x else y) :: k)) cs w) :=
  step_lone_go (by
    have : (Fr fn ro tmps ds (.code (.cond c x y) :: k)).eval c = .bool t := by rw [eval_evT]; exact h
    simp only [Fr] at this
    simp [stepG, stepG.exec, Fr, this])
theorem st_block {id : Nat} {c : Code} : step P (lone (Fr fn ro tmps ds (.code (.block id c) :: k)) cs w) = .next (lone (Fr fn ro tmps ds (.code c :: .inBlock id :: k)) cs w) := step_lone_go (by simp [stepG, stepG.exec, Fr])
theorem st_scope {c : Code} : step P (lone (Fr fn ro tmps ds (.code (.scope c) :: k)) cs w) = .next (lone (Fr fn ro tmps ds (.code c :: .inScope c :: k)) cs w) := step_lone_go (by simp [stepG, stepG.exec, Fr])
theorem st_loop {c : Code} : step P (lone (Fr fn ro tmps ds (.code (.loop c) :: k)) cs w) = .next (lone (Fr fn ro tmps ds (.code c :: .inLoop c :: k)) cs w) := step_lone_go (by simp [stepG, stepG.exec, Fr])
theorem st_inLoop {c : Code} : step P (lone (Fr fn ro tmps ds (.inLoop c :: k)) cs w) = .next (lone (Fr fn ro tmps ds (.code c :: .inLoop c :: k)) cs w) := step_lone_go (by simp [stepG, stepG.exec, Fr])
theorem st_exit {id : Nat} {k' : List Item} (h : exitTo id k = some k') : step P (lone (Fr fn ro tmps ds (.code (.exit id) :: k)) cs w) = .next (lone (Fr fn ro tmps ds k') cs w) := step_lone_go (by simp [stepG, stepG.exec, Fr, h])
theorem st_region {id : Nat} {ops : Array Oper} : step P (lone (Fr fn ro tmps ds (.code (.region id ops false) :: k)) cs w) = .next (lone (Fr fn ro tmps ds (.inRegion ops (List.range ops.size) :: k)) cs w) :=
  step_lone_go (by simp [stepG, stepG.exec, Fr])
theorem st_draw {id : Nat} {ops : Array Oper} (hm : P.follows .mixedOrders = true) : step P (lone (Fr fn ro tmps ds (.code (.region id ops true) :: k)) cs w) =
    .next (lone (Fr fn ro tmps ds (.inRegion ops (Region.linearise .any ops (w.tape w.drawn (.order fn id))) :: k)) cs { w with drawn := w.drawn + 1 }) :=
  step_lone_go (by simp [stepG, stepG.exec, Fr, choose, Sem.run, Question.forced, Question.cut, Region.schedule, hm])
theorem st_regionEnd {ops : Array Oper} : step P (lone (Fr fn ro tmps ds (.inRegion ops [] :: k)) cs w) = .next (lone (Fr fn ro tmps ds k) cs w) := step_lone_go (by simp [stepG, stepG.exec, Fr])

def putT (tmps : Array Value) (d : Option Tmp) (v : Value) : Array Value := match d with | some d => tmps.setIfInBounds d v | none => tmps

theorem finish_op {ops : Array Oper} {i : Nat} {rest : List Nat} (v : Value) :
    (Fr fn ro tmps ds (.inRegion ops (i :: rest) :: k)).finish v = Fr fn ro (putT tmps ((ops[i]?).bind (·.dst)) v) ds (.inRegion ops rest :: k) := by
  cases h : (ops[i]?).bind (·.dst) <;> simp [Frame.finish, Fr, h, putT]

theorem st_unwanted {ops : Array Oper} {i : Nat} {rest : List Nat} (h : ((ops[i]?).map (Region.wanted · (yielded ops tmps))).getD false = false) :
    step P (lone (Fr fn ro tmps ds (.inRegion ops (i :: rest) :: k)) cs w) = .next (lone (Fr fn ro (putT tmps ((ops[i]?).bind (·.dst)) undef) ds (.inRegion ops rest :: k)) cs w) := by
  rw [← finish_op]
  exact step_lone_go (by
    have h' := h
    simp only [Fr] at *
    simp [stepG, stepG.exec, h'])

/-- what a computation that may call comes to -/
def CallAt (P : Program) (c : Frame) (cs : List Frame) (s : Sem Next) (w : World) (v' : Value) (w' : World) : Prop :=
  s.run P w = .ok (.value v') w' ∨ (s.run P w = .ok .skip w' ∧ v' = undef) ∨
  (∃ f a, s.run P w = .ok (.enter f a) w ∧ Steps P (lone (Frame.enter P f a .normal) (c :: cs) w) (lone (c.finish v') cs w')) ∨
  (∃ l f t a b, s.run P w = .ok (.round l f t a b) w ∧ Steps P (lone (Frame.round l f t a b .normal) (c :: cs) w) (lone (c.finish v') cs w'))

theorem steps_apply {fr : Frame} {s : Sem Next} {v' : Value} {w' w1 : World} (hg : stepG P true { frame := fr, callers := cs, status := .running, dying := none } w = stepG.apply P true fr cs none s w1)
    (hk : ∀ d r sv k', fr.todo ≠ .call d true r sv :: k') (h : CallAt P fr cs s w1 v' w') : Steps P (lone fr cs w) (lone (fr.finish v') cs w') := by
  have hkind : (match fr.todo with | .call _ true _ _ :: _ => CallKind.wrapped | _ => CallKind.normal) = .normal := by
    split
    · rename_i d r sv k' h; exact absurd h (hk _ _ _ _)
    · rfl
  rcases h with h | ⟨h, rfl⟩ | ⟨f, a, h, h2⟩ | ⟨l, f, t, a, b, h, h2⟩
  · exact .one (step_lone_go (by rw [hg]; simp [stepG.apply, h]))
  · exact .one (step_lone_go (by rw [hg]; simp [stepG.apply, h]))
  · refine .head (m₁ := lone (Frame.enter P f a .normal) (fr :: cs) w1) (step_lone_go ?_) h2
    rw [hg]; simp [stepG.apply, h]
  · refine .head (m₁ := lone (Frame.round l f t a b .normal) (fr :: cs) w1) (step_lone_go ?_) h2
    rw [hg]; simp [stepG.apply, h]

theorem stepG_oper {ops : Array Oper} {i : Nat} {rest : List Nat} {o : Oper} (ho : ops[i]? = some o) (hw : Region.wanted o (yielded ops tmps) = true) (hnd : ∀ c, o.op ≠ .defer c) :
    stepG P true { frame := Fr fn ro tmps ds (.inRegion ops (i :: rest) :: k), callers := cs, status := .running, dying := none } w =
      stepG.apply P true (Fr fn ro tmps ds (.inRegion ops (i :: rest) :: k)) cs none (execOp (evT tmps) o) w := by
  have he := eval_evT (Fr fn ro tmps ds (.inRegion ops (i :: rest) :: k))
  simp only [Fr] at he
  simp only [stepG, stepG.exec, stepG.oper, Frame.oper?, Fr, ho, Option.map_some, Option.getD_some, hw, if_true, he]
  split
  · rename_i h2
    exact absurd h2 (hnd _)
  · rfl

theorem steps_oper {ops : Array Oper} {i : Nat} {rest : List Nat} {o : Oper} {v' : Value} {w' : World} (ho : ops[i]? = some o) (hw : Region.wanted o (yielded ops tmps) = true) (hnd : ∀ c, o.op ≠ .defer c)
    (h : CallAt P (Fr fn ro tmps ds (.inRegion ops (i :: rest) :: k)) cs (execOp (evT tmps) o) w v' w') : Steps P (lone (Fr fn ro tmps ds (.inRegion ops (i :: rest) :: k)) cs w) (lone (Fr fn ro (putT tmps o.dst v') ds (.inRegion ops rest :: k)) cs w') := by
  have := steps_apply (cs := cs) (stepG_oper (fn := fn) (ro := ro) (ds := ds) (rest := rest) (k := k) (cs := cs) (w := w) ho hw hnd) (by intro d r sv k' h; simp [Fr] at h) h
  rw [finish_op, ho] at this
  exact this
end
end Go.Wb
end
/- The engine, part M2: instructions and straight regions. -/
section
set_option linter.unusedSimpArgs false
set_option linter.unusedVariables false
namespace Go.Wb
set_option linter.unusedSectionVars false
variable [GloK]
variable {P : Program} {r : Ren} {S S' : St} {w : World}

/-- the model's call of a target -/
def tgtSem (r : Ren) : Tgt → Array Value → Sem Next
  | .fn f, args => callFunc f args
  | .yield l, args => Instr.yield (r.to l) args
def tgtDom (r : Ren) : Tgt → Prop
  | .fn _ => True
  | .yield l => r.dom l

/-- calls, as the abstract evaluation makes them, are the model's -/
def CallOk (P : Program) (call : Tgt → List Value → M Value) : Prop := ∀ t args v S S', call t args S = some (v, S') → ∀ r w, Rel P r S w → Fresh r S S' → ∀ args' : Array Value, LRel r args args'.toList → tgtDom r t → ∀ c cs,
  ∃ D r' w' v', Sim P D r S w r' S' w' ∧ VRel r' v v' ∧ CallAt P c cs (tgtSem r t args') w v' w'

theorem target_ok {g g' : Value} {args : List Value} {args' : Array Value} {t : Tgt × List Value} (h : target g args = some t) (hg : VRel r g g') (ha : LRel r args args'.toList) :
    tgtDom r t.1 ∧ ∃ (fn : Fn) (first captured : Array Value) (all : Array Value), g' = .func fn first captured ∧ LRel r t.2 all.toList ∧ invoke (.fn fn captured) (first ++ args') = tgtSem r t.1 all := by
  unfold target at h
  split at h
  · rename_i f a c
    simp only [Option.some.injEq] at h; subst h
    cases hg
    rename_i a' c' h1 h2 h3 h4
    refine ⟨trivial, .func f, a', c', a' ++ args' ++ c', rfl, ?_, rfl⟩
    simp only [Array.toList_append]
    exact ((LRel.of h1 h2).append ha).append (LRel.of h3 h4)
  · rename_i l a c
    simp only [Option.some.injEq] at h; subst h
    cases hg
    rename_i hd
    refine ⟨hd, .yield (r.to l), #[], #[], args', rfl, ha, ?_⟩
    simp [invoke, tgtSem]
  · simp at h

section
variable {call : Tgt → List Value → M Value} {e e' : Env} {tmps : Array Value} {v : Value} {o : Oper} {aop : AOp}

theorem call_ok (hcall : CallOk P call) {c : Call} {f : Operand} (ho : o.op = .call c) (hcal : c.callee = .value f) (hc : compOp0 P o.op = some aop) (he : exec call e aop S = some (v, S')) (hr : Rel P r S w) (hE : EnvRel r e tmps) (hf : Fresh r S S') (fc : Frame) (cs : List Frame) :
    ∃ D r' w' v', Sim P D r S w r' S' w' ∧ VRel r' v v' ∧ CallAt P fc cs (execOp (evT tmps) o) w v' w' := by
  rw [ho] at hc
  simp only [compOp0, hcal, Option.bind_eq_bind, Option.bind_eq_some_iff, Option.some.injEq] at hc
  obtain ⟨a, ha, as, has, rfl⟩ := hc
  simp only [exec, M.bind_some, M.lift_some, M.pure_some] at he
  obtain ⟨g, _, ⟨h1, rfl⟩, l, _, ⟨h2, rfl⟩, t, _, ⟨h3, rfl⟩, v0, S1, h4, rfl, rfl⟩ := he
  have hg := atom_ok ha h1 hE
  have hl := atoms_ok hE has h2
  have hl' : LRel r l (c.args.map (evT tmps)).toList := by simpa using hl
  obtain ⟨hd, fn, first, captured, all, e1, e2, e3⟩ := target_ok h3 hg hl'
  obtain ⟨D, r', w', v', k1, k2, k3⟩ := hcall _ _ _ _ _ h4 r w hr hf all e2 hd fc cs
  refine ⟨D, r', w', v', k1, k2, ?_⟩
  have : execOp (evT tmps) o = tgtSem r t.1 all := by
    simp only [execOp, ho, resolve, hcal, e1, Deferred.ofValue, bind, Sem.bind, Pure.pure, e3]
  rw [this]; exact k3

theorem op_ok (hcall : CallOk P call) (hc : compOp P o.op = some aop) (he : exec call e aop S = some (v, S')) (hr : Rel P r S w) (hE : EnvRel r e tmps) (hf : Fresh r S S') (fc : Frame) (cs : List Frame) :
    ∃ D r' w' v', Sim P D r S w r' S' w' ∧ VRel r' v v' ∧ CallAt P fc cs (execOp (evT tmps) o) w v' w' := by
  by_cases h : ∃ c f, o.op = .call c ∧ c.callee = .value f
  · obtain ⟨c, f, ho, hcal⟩ := h
    rcases compOp_inv hc with hc | rfl
    · exact call_ok hcall ho hcal hc he hr hE hf fc cs
    · simp [exec, M.fail] at he
  · obtain ⟨D, r', w', v', k1, k2, k3⟩ := exec_ok hc (fun c f ho hcal => h ⟨c, f, ho, hcal⟩) he hr hE hf
    refine ⟨D, r', w', v', k1, k2, ?_⟩
    rcases k3 with k3 | k3
    · exact .inl k3
    · exact .inr (.inl k3)

theorem comp_noDefer (hc : compOp P o.op = some aop) : ∀ c, o.op ≠ .defer c := by
  intro c h
  rw [h] at hc
  simp [compOp, isDefer] at hc

/-- a guard, both sides -/
theorem guard_ok {ops : Array Oper} {j d : Nat} {want b : Bool} {oj : Oper} {gv : Value} (hj : ops[j]? = some oj) (hd : oj.dst = some d) (hg : e.get d = some gv) (hw : wanted want gv = some b) (hE : EnvRel r e tmps) (hog : o.guard = some (j, want)) :
    Region.wanted o (yielded ops tmps) = b := by
  obtain ⟨gv', h1, h2⟩ := hE.at_ d gv hg
  simp only [Region.wanted, hog, yielded, hj, Option.bind_some, hd, h1]
  cases gv <;> simp [wanted] at hw
  · obtain rfl := h2.bool_inv
    simp
    exact hw
  · obtain ⟨a', rfl, _⟩ := h2.tuple_inv
    subst hw
    rfl

theorem compInstr_some {n : Nat} {ops : Array Oper} {ai : AInstr} (h : compInstr P n ops o = some ai) : ai.dst = o.dst ∧ compOp P o.op = some ai.op ∧ (∀ d, o.dst = some d → d < n) ∧
    ((o.guard = none ∧ ai.guard = none) ∨ ∃ j want oj d, o.guard = some (j, want) ∧ ops[j]? = some oj ∧ oj.dst = some d ∧ ai.guard = some (d, want)) := by
  unfold compInstr at h
  split at h
  · rename_i g a hg ha
    split at h
    · rename_i hd
      simp only [Option.some.injEq] at h; subst h
      refine ⟨rfl, ha, ?_, ?_⟩
      · intro d hd2; rw [hd2] at hd; simpa using hd
      · unfold guardOf at hg
        split at hg
        · rename_i hgn
          simp at hg; subst hg
          exact .inl ⟨hgn, rfl⟩
        · rename_i j want hgs
          split at hg
          · rename_i oj hoj
            split at hg
            · rename_i d hdd
              simp at hg; subst hg
              exact .inr ⟨j, want, oj, d, hgs, hoj, hdd, rfl⟩
            · simp at hg
          · simp at hg
    · simp at h
  · simp at h

theorem EnvRel.putT {r : Ren} {e : Env} {tmps : Array Value} (k : EnvRel r e tmps) {d : Option Nat} (hd : ∀ x, d = some x → x < tmps.size) {v v' : Value} (hv : VRel r v v') : EnvRel r (putD e d v) (putT tmps d v') := by
  cases d with
  | none => exact k
  | some d => exact k.put (hd d rfl) hv
theorem putT_size (tmps : Array Value) (d : Option Nat) (v : Value) : (putT tmps d v).size = tmps.size := by cases d <;> simp [putT]

/-- one instruction -/
theorem instr_ok (hcall : CallOk P call) {n : Nat} {ops : Array Oper} {i : Nat} {ai : AInstr} (ho : ops[i]? = some o) (hc : compInstr P n ops o = some ai) (he : instr call ai e S = some (e', S')) (hr : Rel P r S w) (hE : EnvRel r e tmps) (hf : Fresh r S S') (fn : FuncId) (ro : Option Nat) (ds : List Deferred) (rest : List Nat) (k : List Item) (cs : List Frame) :
    ∃ v D r' w' v', e' = putD e o.dst v ∧ Sim P D r S w r' S' w' ∧ VRel r' v v' ∧ Steps P (lone (Fr fn ro tmps ds (.inRegion ops (i :: rest) :: k)) cs w) (lone (Fr fn ro (putT tmps o.dst v') ds (.inRegion ops rest :: k)) cs w') := by
  obtain ⟨h1, h2, h3, h4⟩ := compInstr_some hc
  have hnd := comp_noDefer h2
  rcases h4 with ⟨hg, hag⟩ | ⟨j, want, oj, d, hg, hoj, hdj, hag⟩
  · simp only [instr, hag, M.bind_some, M.pure_some] at he
    obtain ⟨v, S1, h5, rfl, rfl⟩ := he
    obtain ⟨D, r', w', v', k1, k2, k3⟩ := op_ok hcall h2 h5 hr hE hf (Fr fn ro tmps ds (.inRegion ops (i :: rest) :: k)) cs
    exact ⟨v, D, r', w', v', by rw [h1], k1, k2, steps_oper ho (by simp [Region.wanted, hg]) hnd k3⟩
  · simp only [instr, hag, M.bind_some, M.lift_some, Option.bind_eq_some_iff] at he
    obtain ⟨b, _, ⟨⟨gv, hgv, hw⟩, rfl⟩, he⟩ := he
    have hwant := guard_ok (o := o) hoj hdj hgv hw hE hg
    cases b with
    | true =>
      simp only [if_true, M.bind_some, M.pure_some] at he
      obtain ⟨v, S1, h5, rfl, rfl⟩ := he
      obtain ⟨D, r', w', v', k1, k2, k3⟩ := op_ok hcall h2 h5 hr hE hf (Fr fn ro tmps ds (.inRegion ops (i :: rest) :: k)) cs
      exact ⟨v, D, r', w', v', by rw [h1], k1, k2, steps_oper ho hwant hnd k3⟩
    | false =>
      simp only [Bool.false_eq_true, if_false] at he
      obtain ⟨rfl, rfl⟩ := M.pure_some.1 he
      refine ⟨undef, [], r, w, undef, by rw [h1], Sim.refl hr, undef_rel, ?_⟩
      have := st_unwanted (P := P) (fn := fn) (ro := ro) (tmps := tmps) (ds := ds) (k := k) (cs := cs) (w := w) (ops := ops) (i := i) (rest := rest) (by simp [ho, hwant])
      rw [ho] at this
      exact .one this

theorem sub_fresh {P : Program} {D : List (Nat × Bool)} {r r1 : Ren} {S S1 S2 : St} {w w1 : World} (h : Fresh r S S2) (h1 : S1.next ≤ S2.next) : Fresh r S S1 := h.left h1

theorem exec_next (hn : ∀ t a v S S', call t a S = some (v, S') → S.next ≤ S'.next) : True := trivial
end
end Go.Wb
end
/- The engine, part M3: straight regions; worlds that turn beside what is abstracted. -/
section
set_option linter.unusedSimpArgs false
set_option linter.unusedVariables false
namespace Go.Wb
set_option linter.unusedSectionVars false
variable [GloK]
variable {P : Program} {r : Ren} {S S' : St} {w : World}
section
variable {call : Tgt → List Value → M Value} {e e' : Env} {tmps : Array Value}

theorem compInstrs_cons {n : Nat} {ops : Array Oper} {o : Oper} {lst : List Oper} {l : List AInstr} (h : compInstrs P n ops (o :: lst) = some l) : ∃ ai l', l = ai :: l' ∧ compInstr P n ops o = some ai ∧ compInstrs P n ops lst = some l' := by
  simp only [compInstrs] at h
  split at h
  · rename_i a m ha hm
    exact ⟨a, m, by simpa using h.symm, ha, hm⟩
  · simp at h

theorem instrs_ok (hcall : CallOk P call) (hfr : ∀ t a, Framed (call t a)) {n : Nat} {ops : Array Oper} : ∀ (lst : List Oper) (i : Nat) (l : List AInstr) (e : Env) (S : St) (r : Ren) (w : World) (tmps : Array Value),
    compInstrs P n ops lst = some l → (∀ j o, lst[j]? = some o → ops[i + j]? = some o) → instrs call l e S = some (e', S') → n ≤ tmps.size → Rel P r S w → EnvRel r e tmps → Fresh r S S' → ∀ fn ro ds k cs,
    ∃ D r' w' tmps', Sim P D r S w r' S' w' ∧ EnvRel r' e' tmps' ∧ tmps'.size = tmps.size ∧ Steps P (lone (Fr fn ro tmps ds (.inRegion ops (List.range' i lst.length) :: k)) cs w) (lone (Fr fn ro tmps' ds k) cs w')
  | [], i, l, e, S, r, w, tmps, hc, hi, he, hn, hr, hE, hf, fn, ro, ds, k, cs => by
    simp only [compInstrs, Option.some.injEq] at hc; subst hc
    obtain ⟨rfl, rfl⟩ := M.pure_some.1 he
    exact ⟨[], r, w, tmps, Sim.refl hr, hE, rfl, .one st_regionEnd⟩
  | o :: lst, i, l, e, S, r, w, tmps, hc, hi, he, hn, hr, hE, hf, fn, ro, ds, k, cs => by
    obtain ⟨ai, l', rfl, ha, hl⟩ := compInstrs_cons hc
    simp only [instrs, M.bind_some] at he
    obtain ⟨e1, S1, h1, h2⟩ := he
    have hm2 := Framed.next (Framed.instrs hfr l' e1) h2
    have hoi : ops[i]? = some o := by have := hi 0 o rfl; simpa using this
    obtain ⟨v, D, r1, w1, v', he1, hs1, hv, hst⟩ := instr_ok hcall hoi ha h1 hr hE (hf.left hm2) fn ro ds (List.range' (i + 1) lst.length) k cs
    have hdst := (compInstr_some ha).2.2.1
    have hE1 : EnvRel r1 e1 (putT tmps o.dst v') := by rw [he1]; exact (hE.mono hs1.le).putT (fun x hx => Nat.lt_of_lt_of_le (hdst x hx) hn) hv
    obtain ⟨D2, r2, w2, tmps2, hs2, hE2, hsz, hst2⟩ := instrs_ok hcall hfr lst (i + 1) l' e1 S1 r1 w1 (putT tmps o.dst v') hl (fun j o' hj => by have := hi (j + 1) o' (by simpa using hj); rwa [show i + 1 + j = i + (j + 1) by omega])
      h2 (by rw [putT_size]; exact hn) hs1.rel hE1 (hf.right hs1) fn ro ds k cs
    refine ⟨_, r2, w2, tmps2, hs1.trans hf hr hs2, hE2, by rw [hsz, putT_size], ?_⟩
    simp only [List.length_cons, List.range'_succ]
    exact hst.trans hst2
end

/-! ### the world turns beside what is abstracted -/
theorem sim_ghost_new (h : Rel P r S w) {w' : World} {o : Obj} (hw : New w w' o) : Sim P [] r S w r S w' where
  le := .refl r
  rel := ⟨fun id b hb => by
    obtain ⟨h1, o1, h2, h3⟩ := h.at_ id b hb
    exact ⟨h1, o1, by rw [hw.there (Array.getElem?_eq_some_iff.1 h2).1]; exact h2, h3⟩, h.inj', h.glo⟩
  log := rfl
  next := Nat.le_refl _
  dom := fun id => ⟨fun h => .inl h, fun h => h.elim (fun h => h) fun ⟨a, b⟩ => by omega⟩
  size := by rw [hw.size]; omega
  os := hw.os
  tape := hw.tape
  output := hw.output
  frame := fun k hk _ => hw.there hk
  kept := fun id b hb _ => by
    obtain ⟨h1, o1, h2, h3⟩ := h.at_ id b hb
    exact hw.there (Array.getElem?_eq_some_iff.1 h2).1
  same := fun _ _ _ => rfl
  live := fun _ _ h => h

/-- a block that is not abstracted is turned: of Sim, all but that other blocks stay -/
structure Beside (w w' : World) (b : Nat) : Prop where
  size : w'.heap.size = w.heap.size
  there : ∀ k, k ≠ b → w'.heap[k]? = w.heap[k]?
  os : w'.os = w.os
  tape : w'.tape = w.tape
  output : w'.output = w.output
theorem Upd.beside {w w' : World} {b : Nat} {o : Obj} (h : Upd w w' b o) : Beside w w' b := ⟨h.size, h.there, h.os, h.tape, h.output⟩
theorem rel_beside (h : Rel P r S w) {w' : World} {b : Nat} (hw : Beside w w' b) (hb : ¬ Live r S b) : Rel P r S w' :=
  ⟨fun id bk hbk => by
    obtain ⟨h1, o1, h2, h3⟩ := h.at_ id bk hbk
    exact ⟨h1, o1, by rw [hw.there _ (fun c => hb (c ▸ Live.intro hbk))]; exact h2, h3⟩, h.inj', h.glo⟩

theorem setObj_upd {b : Nat} {o o' : Obj} (h : w.heap[b]? = some o) (hn : ∀ c e f, o ≠ .cells c e f) : ∃ w', (setObj b o').run P w = .ok () w' ∧ Upd w w' b o' := by
  have hb : b < w.heap.size := (Array.getElem?_eq_some_iff.1 h).1
  refine ⟨{ w with heap := w.heap.setIfInBounds b o' }, ?_, ⟨?_, ?_, ?_, rfl, rfl, rfl⟩⟩
  · unfold setObj
    simp only [Sem.run, h]
  · simp
  · simp [hb]
  · intro k hk
    simp only [Array.getElem?_setIfInBounds]
    rw [if_neg (fun c => hk c.symm)]
theorem run_getObj {b : Nat} {o : Obj} (h : w.heap[b]? = some o) (hn : ∀ c e f, o ≠ .cells c e f) : (getObj b).run P w = .ok o w := by
  unfold getObj
  simp only [Sem.run, h]
theorem run_getLoop {b : Nat} {L : Loop} (h : w.heap[b]? = some (.loop L)) : (Instr.getLoop b).run P w = .ok L w := by
  simp [Instr.getLoop, run_getObj h (by intros; simp)]

theorem loop_at (hr : Rel P r S w) {l : Nat} {ps : List Nat} {as bd : ACode} {env : Env} {pd : Option Ext} (h : S.heap.get l = some (.loop ps as bd env pd)) :
    r.dom l ∧ ∃ L, w.heap[r.to l]? = some (.loop L) ∧ L.params.toList = ps ∧ (∃ n, n ≤ L.tmps.size ∧ compCode P n L.assign = some as ∧ compCode P n L.body = some bd ∧ (∀ p ∈ ps, p < n)) ∧ EnvRel r env L.tmps ∧ PendOk L pd := by
  obtain ⟨h1, o, h2, h3⟩ := hr.at_ l _ h
  cases o <;> try exact h3.elim
  exact ⟨h1, _, h2, h3⟩

/-- a block is killed, and turned in the world -/
theorem sim_kill_upd (h : Rel P r S w) {S' : St} {D : List (Nat × Bool)} {id : Nat} {b0 : Blk} {w' : World} {o : Obj} (hb : S.heap.get id = some b0) (hh : S'.heap = S.heap.set id none) (hn : S'.next = S.next) (hl : S'.log = D ++ S.log) (hD : (id, true) ∈ D)
    (hu : Upd w w' (r.to id) o) (hro : b0.isRo = false := by first | rfl | assumption) : Sim P D r S w r S' w' where
  le := .refl r
  rel := by
    have A : ∀ i x, S'.heap.get i = some x → i ≠ id ∧ S.heap.get i = some x := by
      intro i x hx
      rw [hh, Tr.get_set] at hx
      split at hx
      · simp at hx
      · rename_i h; exact ⟨h, hx⟩
    refine ⟨fun i x hx => ?_, fun i j bi bj hi hj => h.inj' i j bi bj (A _ _ hi).2 (A _ _ hj).2, by rw [hh]; exact h.glo.set (.refl r) (ro_ne hb hro) _⟩
    obtain ⟨ne, hx⟩ := A i x hx
    obtain ⟨h1, o1, h2, h3⟩ := h.at_ i x hx
    exact ⟨h1, o1, by rw [hu.there _ (fun c => ne (h.inj _ _ _ _ hx hb c (.inr hro)))]; exact h2, h3⟩
  log := hl
  next := by omega
  dom := fun i => ⟨fun h => .inl h, fun h => h.elim (fun h => h) fun ⟨a, b⟩ => by omega⟩
  size := by rw [hu.size]; exact Nat.le_refl _
  os := hu.os
  tape := hu.tape
  output := hu.output
  frame := fun k _ hk => hu.there k fun c => hk (c ▸ Live.intro hb)
  kept := fun i x hx hi => hu.there _ fun c => hi (by rw [h.inj _ _ _ _ hx hb c (.inr hro)]; exact hD)
  same := fun i hi _ => by rw [hh, Tr.get_set, if_neg (fun c : i = id => hi (c ▸ hD))]
  live := fun k _ ⟨i, x, hx, e⟩ => by
    rw [hh, Tr.get_set] at hx
    split at hx
    · simp at hx
    · exact ⟨i, x, hx, e⟩

/-- a block is taken out, a computation goes on without it, and it is laid back -/
theorem sim_bracket (h : Rel P r S w) {S1 S2 S3 : St} {D0 D D3 : List (Nat × Bool)} {l : Nat} {b0 b3 : Blk} {w1 w2 w3 : World} {o3 : Obj} {r' : Ren} (hb : S.heap.get l = some b0)
    (hk : Sim P D0 r S w r S1 w1) (hkh : S1.heap = S.heap.set l none) (hkn : S1.next = S.next) (hm : Sim P D r S1 w1 r' S2 w2) (hf : Fresh r S S2)
    (h3h : S3.heap = S2.heap.set l (some b3)) (h3n : S3.next = S2.next) (h3l : S3.log = D3 ++ S2.log) (hD : (l, true) ∈ D3) (hu : Upd w2 w3 (r.to l) o3) (ho : BRel P r' l b3 o3) (hro : b0.isRo = false := by first | rfl | assumption) : Sim P (D3 ++ (D ++ D0)) r S w r' S3 w3 := by
  have hdl := (h.at_ l b0 hb).1
  have htol : r'.to l = r.to l := hm.le.to _ hdl
  have hlt : r.to l < w.heap.size := by
    obtain ⟨_, o, h2, _⟩ := h.at_ l b0 hb
    exact (Array.getElem?_eq_some_iff.1 h2).1
  have hlt1 : r.to l < w1.heap.size := Nat.lt_of_lt_of_le hlt hk.size
  have hnl1 : ¬ Live r S1 (r.to l) := by
    rintro ⟨i, x, hx, e⟩
    rw [hkh, Tr.get_set] at hx
    split at hx
    · simp at hx
    · rename_i ne; exact ne (h.inj _ _ _ _ hx hb e (.inr hro))
  have hnl2 : ¬ Live r' S2 (r.to l) := fun c => hnl1 (hm.live _ hlt1 c)
  have hall := hk.trans hf h hm
  exact {
    le := hm.le
    rel := by
      have A : ∀ i x, S3.heap.get i = some x → (i = l ∧ x = b3) ∨ (i ≠ l ∧ S2.heap.get i = some x) := by
        intro i x hx
        rw [h3h, Tr.get_set] at hx
        split at hx
        · rename_i e; exact .inl ⟨e, by simpa using hx.symm⟩
        · rename_i e; exact .inr ⟨e, hx⟩
      have B : ∀ i x, S2.heap.get i = some x → r'.to i ≠ r.to l := fun i x hx c => hnl2 ⟨i, x, hx, c⟩
      refine ⟨?_, ?_, by rw [h3h]; exact hm.rel.glo.set (.refl r') (fun c hc => hnl2 ⟨l, _, hc, htol⟩) _⟩
      · intro i x hx
        rcases A i x hx with ⟨rfl, rfl⟩ | ⟨ne, hx⟩
        · exact ⟨hm.le.dom _ hdl, o3, by rw [htol]; exact hu.here, ho⟩
        · obtain ⟨h1, o1, h2, h4⟩ := hm.rel.at_ i x hx
          exact ⟨h1, o1, by rw [hu.there _ (B i x hx)]; exact h2, h4⟩
      · intro i j bi bj hi hj hx e
        rcases A i bi hi with ⟨rfl, rfl⟩ | ⟨ni, hi⟩ <;> rcases A j bj hj with ⟨rfl, rfl⟩ | ⟨nj, hj⟩
        · rfl
        · rw [htol] at e; exact absurd e.symm (B j bj hj)
        · rw [htol] at e; exact absurd e (B i bi hi)
        · exact hm.rel.inj' i j bi bj hi hj hx e
    log := by rw [h3l, hm.log, hk.log]; simp
    next := by rw [h3n]; exact hall.next
    dom := fun id => by rw [h3n]; exact hall.dom id
    size := by rw [hu.size]; exact hall.size
    os := hu.os.trans hall.os
    tape := hu.tape.trans hall.tape
    output := hu.output.trans hall.output
    frame := fun k hk2 hnl => by rw [hu.there k (fun c => hnl (c ▸ Live.intro hb))]; exact hall.frame k hk2 hnl
    kept := fun id x hx hn => by
      have hne : id ≠ l := fun c => hn (by rw [c]; simp [hD])
      rw [hu.there _ (fun c => hne (h.inj _ _ _ _ hx hb c (.inr hro)))]
      exact hall.kept id x hx (fun c => hn (List.mem_append.2 (.inr c)))
    same := fun id hn hx => by
      rw [h3h, Tr.get_set, if_neg (fun c : id = l => hn (by rw [c]; simp [hD]))]
      exact hall.same id (fun c => hn (List.mem_append.2 (.inr c))) (by rw [h3n] at hx; exact hx)
    live := fun k hk2 ⟨i, x, hx, e⟩ => by
      rw [h3h, Tr.get_set] at hx
      split at hx
      · rename_i c; rw [← e, c, htol]; exact Live.intro hb
      · exact hall.live k hk2 ⟨i, x, hx, e⟩ }
end Go.Wb
end
/- The engine, part M4: regions that draw their order. -/
section
set_option linter.unusedSimpArgs false
set_option linter.unusedVariables false
namespace Go.Wb
set_option linter.unusedSectionVars false
variable [GloK]
variable {P : Program} {r : Ren} {S S' : St} {w : World}

/-! ### an operation looks at its operands alone -/
def Atom.tmps : Atom → List Nat | .tmp t => [t] | .const _ => []
theorem ev_congr {e e' : Env} {a : Atom} (h : ∀ t ∈ a.tmps, e.get t = e'.get t) : a.ev e = a.ev e' := by
  cases a with
  | tmp t => exact h t (by simp [Atom.tmps])
  | const v => rfl
def oTmps (l : List Operand) : List Nat := l.filterMap fun | .tmp t => some t | _ => none
theorem atom_tmps {x : Operand} {a : Atom} (h : atom x = some a) {t : Nat} (ht : t ∈ a.tmps) : x = .tmp t := by
  cases x with
  | tmp u => simp only [atom, Option.some.injEq] at h; subst h; simp [Atom.tmps] at ht; rw [ht]
  | const v =>
    simp only [atom] at h
    split at h
    · simp only [Option.some.injEq] at h; subst h; simp [Atom.tmps] at ht
    · simp at h
  | global g =>
    simp only [atom] at h
    split at h
    · simp only [Option.some.injEq] at h; subst h; simp [Atom.tmps] at ht
    · simp at h
  | func f => simp only [atom, Option.some.injEq] at h; subst h; simp [Atom.tmps] at ht
theorem mem_oTmps {l : List Operand} {t : Nat} : t ∈ oTmps l ↔ .tmp t ∈ l := by
  unfold oTmps
  rw [List.mem_filterMap]
  constructor
  · rintro ⟨x, hx, h⟩
    split at h
    · simp at h; subst h; exact hx
    · simp at h
  · intro h; exact ⟨_, h, rfl⟩

section
variable {e e' : Env} {l : List Operand} (H : ∀ t, .tmp t ∈ l → e.get t = e'.get t)
include H
theorem atom_congr {x : Operand} {a : Atom} (h : atom x = some a) (hx : x ∈ l) : a.ev e = a.ev e' := ev_congr fun t ht => H t (by rw [← atom_tmps h ht]; exact hx)
theorem atoms_congr : ∀ {xs : List Operand} {as : List Atom}, atoms xs = some as → (∀ x ∈ xs, x ∈ l) → evs e as = evs e' as
  | [], as, h, _ => by simp only [atoms, Option.some.injEq] at h; subst h; rfl
  | x :: xs, as, h, hm => by
    simp only [atoms] at h
    split at h
    · rename_i a m ha hm2
      simp only [Option.some.injEq] at h; subst h
      simp only [evs]
      rw [atom_congr H ha (hm x (by simp)), atoms_congr hm2 (fun y hy => hm y (by simp [hy]))]
    · simp at h
theorem parts_congr {place : Nat → Option (Nat × Nat)} : ∀ {parts : List (Nat × Operand)} {as : List (Nat × Nat × Atom)} {c : List Value}, partsS place parts = some as → (∀ p ∈ parts, p.2 ∈ l) → fillA e as c = fillA e' as c
  | [], as, c, h, _ => by simp only [partsS, Option.some.injEq] at h; subst h; rfl
  | (i, x) :: parts, as, c, h, hm => by
    simp only [partsS] at h
    split at h
    · rename_i o s a m hp ha hm2
      simp only [Option.some.injEq] at h; subst h
      simp only [fillA]
      rw [atom_congr H ha (hm (i, x) (by simp))]
      split
      · split
        · exact parts_congr hm2 (fun p hp => hm p (by simp [hp]))
        · rfl
      · rfl
    · simp at h
theorem atomO_congr {x : Option Operand} {a : Option Atom} (h : atomO x = some a) (hx : ∀ y, x = some y → y ∈ l) (d y : Nat) : bnd e a d y = bnd e' a d y := by
  cases x with
  | none => simp only [atomO, Option.some.injEq] at h; subst h; rfl
  | some x =>
    simp only [atomO, Option.map_eq_some_iff] at h
    obtain ⟨b, hb, rfl⟩ := h
    simp only [bnd, atom_congr H hb (hx x rfl)]
theorem bnds_congr {lo hi mx : Option Operand} {la ha ma : Option Atom} (h1 : atomO lo = some la) (h2 : atomO hi = some ha) (h3 : atomO mx = some ma) (m1 : ∀ y, lo = some y → y ∈ l) (m2 : ∀ y, hi = some y → y ∈ l) (m3 : ∀ y, mx = some y → y ∈ l) (len cap : Nat) :
    bnds e len cap la ha ma = bnds e' len cap la ha ma := by
  simp only [bnds, atomO_congr H h1 m1, atomO_congr H h2 m2, atomO_congr H h3 m3]
end

theorem exec_congr0 (call : Tgt → List Value → M Value) {o : Op} {aop : AOp} (hc : compOp0 P o = some aop) {e e' : Env} (H : ∀ t, .tmp t ∈ o.operands.toList → e.get t = e'.get t) : exec call e aop = exec call e' aop := by
  cases o <;> (try (simp [compOp0] at hc; done))
  case move x =>
    simp only [compOp0, Option.bind_eq_bind, Option.bind_eq_some_iff, Option.some.injEq] at hc
    obtain ⟨a, ha, rfl⟩ := hc
    simp only [exec, atom_congr H ha (by simp [Op.operands])]
  case assign x =>
    simp only [compOp0, Option.bind_eq_bind, Option.bind_eq_some_iff, Option.some.injEq] at hc
    obtain ⟨a, ha, rfl⟩ := hc
    simp only [exec, atom_congr H ha (by simp [Op.operands])]
  case pick c a b =>
    simp only [compOp0, Option.bind_eq_bind, Option.bind_eq_some_iff, Option.some.injEq] at hc
    obtain ⟨c', h1, a', h2, b', h3, rfl⟩ := hc
    simp only [exec, atom_congr H h1 (by simp [Op.operands]), atom_congr H h2 (by simp [Op.operands]), atom_congr H h3 (by simp [Op.operands])]
  case alloc t =>
    simp only [compOp0, Option.bind_eq_bind, Option.bind_eq_some_iff, Option.some.injEq] at hc
    obtain ⟨z, hz, rfl⟩ := hc
    rfl
  case box t x =>
    simp only [compOp0, Option.bind_eq_bind, Option.bind_eq_some_iff, Option.some.injEq] at hc
    obtain ⟨a, ha, rfl⟩ := hc
    simp only [exec, atom_congr H ha (by simp [Op.operands])]
  case build t parts =>
    simp only [compOp0, Option.bind_eq_bind, Option.bind_eq_some_iff] at hc
    obtain ⟨d, hd, hc⟩ := hc
    have hm : ∀ p ∈ parts.toList, p.2 ∈ (Op.build t parts).operands.toList := fun p hp => by simp only [Op.operands, List.toList_toArray, List.mem_map]; exact ⟨p, hp, rfl⟩
    split at hc
    · split at hc
      · simp only [Option.bind_eq_some_iff, Option.some.injEq] at hc
        obtain ⟨z, hz, m, hm2, rfl⟩ := hc
        simp only [exec, parts_congr H hm2 hm]
      · simp at hc
    · simp only [Option.bind_eq_some_iff, Option.some.injEq] at hc
      obtain ⟨s, hs, z, hz, m, hm2, rfl⟩ := hc
      simp only [exec, parts_congr H hm2 hm]
    · simp at hc
  case buildSlice t n parts =>
    simp only [compOp0, Option.bind_eq_bind, Option.bind_eq_some_iff] at hc
    obtain ⟨d, hd, hc⟩ := hc
    have hm : ∀ p ∈ parts.toList, p.2 ∈ (Op.buildSlice t n parts).operands.toList := fun p hp => by simp only [Op.operands, List.toList_toArray, List.mem_map]; exact ⟨p, hp, rfl⟩
    split at hc
    · simp only [Option.bind_eq_some_iff] at hc
      obtain ⟨s, hs, z, hz, hc⟩ := hc
      split at hc
      · simp only [Option.bind_eq_some_iff, Option.some.injEq] at hc
        obtain ⟨m, hm2, rfl⟩ := hc
        simp only [exec, parts_congr H hm2 hm]
      · simp at hc
    · simp at hc
  case load t x =>
    simp only [compOp0, Option.bind_eq_bind, Option.bind_eq_some_iff, Option.some.injEq] at hc
    obtain ⟨sh, h0, a, ha, rfl⟩ := hc
    simp only [exec, atom_congr H ha (by simp [Op.operands])]
  case store t x y =>
    simp only [compOp0, Option.bind_eq_bind, Option.bind_eq_some_iff, Option.some.injEq] at hc
    obtain ⟨n, h0, a, ha, b, hb, rfl⟩ := hc
    simp only [exec, atom_congr H ha (by simp [Op.operands]), atom_congr H hb (by simp [Op.operands])]
  case nilCheck x =>
    simp only [compOp0, Option.bind_eq_bind, Option.bind_eq_some_iff, Option.some.injEq] at hc
    obtain ⟨a, ha, rfl⟩ := hc
    simp only [exec, atom_congr H ha (by simp [Op.operands])]
  case sliceToArrayPointer t x =>
    simp only [compOp0, Option.bind_eq_bind, Option.bind_eq_some_iff] at hc
    obtain ⟨d, hd, hc⟩ := hc
    split at hc
    · split at hc
      · simp only [Option.bind_eq_some_iff, Option.some.injEq] at hc
        obtain ⟨a, ha, rfl⟩ := hc
        have hx := atom_congr H ha (by simp [Op.operands])
        simp only [exec, hx]
        rfl
      · simp at hc
    · simp at hc
  case binOp op t x y yt =>
    simp only [compOp0, Option.bind_eq_bind, Option.bind_eq_some_iff] at hc
    obtain ⟨d, hd, hc⟩ := hc
    split at hc <;> (try simp only [Option.bind_eq_some_iff, Option.some.injEq] at hc)
    · obtain ⟨a, ha, b, hb, rfl⟩ := hc; simp only [exec, atom_congr H ha (by simp [Op.operands]), atom_congr H hb (by simp [Op.operands])]
    · obtain ⟨a, ha, b, hb, rfl⟩ := hc; simp only [exec, atom_congr H ha (by simp [Op.operands]), atom_congr H hb (by simp [Op.operands])]
    · obtain ⟨k, hk, a, ha, b, hb, rfl⟩ := hc; simp only [exec, atom_congr H ha (by simp [Op.operands]), atom_congr H hb (by simp [Op.operands])]
    · obtain ⟨k, hk, a, ha, b, hb, rfl⟩ := hc; simp only [exec, atom_congr H ha (by simp [Op.operands]), atom_congr H hb (by simp [Op.operands])]
    · simp at hc
  case unOp op t x =>
    simp only [compOp0, Option.bind_eq_bind, Option.bind_eq_some_iff, Option.some.injEq] at hc
    obtain ⟨a, ha, rfl⟩ := hc
    simp only [exec, atom_congr H ha (by simp [Op.operands])]
  case convert s d x =>
    simp only [compOp0, Option.bind_eq_bind, Option.bind_eq_some_iff] at hc
    obtain ⟨a, ha, ds, hds, dd, hdd, hc⟩ := hc
    have : ∀ k, exec call e (.conv k a) = exec call e' (.conv k a) := fun k => by simp only [exec, atom_congr H ha (by simp [Op.operands])]
    split at hc <;> (try simp only [Option.bind_eq_bind, Option.bind_eq_some_iff] at hc)
    · simp at hc; subst hc; exact this _
    · simp at hc; subst hc; exact this _
    · obtain ⟨u, hu, hc⟩ := hc
      split at hc
      · simp at hc; subst hc; exact this _
      · simp at hc
    · obtain ⟨u, hu, hc⟩ := hc
      split at hc
      · simp at hc; subst hc; exact this _
      · simp at hc
    · obtain ⟨u, hu, hc⟩ := hc
      split at hc
      · simp at hc; subst hc; exact this _
      · simp at hc
    · simp at hc
  case makeInterface t x =>
    simp only [compOp0, Option.bind_eq_bind, Option.bind_eq_some_iff] at hc
    obtain ⟨d, hd, hc⟩ := hc
    split at hc
    · simp at hc
    · simp only [Option.bind_eq_some_iff, Option.some.injEq] at hc
      obtain ⟨a, ha, rfl⟩ := hc
      simp only [exec, atom_congr H ha (by simp [Op.operands])]
  case makeFunc fn first captured =>
    cases fn <;> (try (simp [compOp0] at hc; done))
    simp only [compOp0, Option.bind_eq_bind, Option.bind_eq_some_iff, Option.some.injEq] at hc
    obtain ⟨a, ha, b, hb, rfl⟩ := hc
    simp only [exec, atoms_congr H ha (fun x hx => by simp only [Op.operands, Array.toList_append, List.mem_append]; exact .inl hx), atoms_congr H hb (fun x hx => by simp only [Op.operands, Array.toList_append, List.mem_append]; exact .inr hx)]
  case makeSlice t a b =>
    simp only [compOp0, Option.bind_eq_bind, Option.bind_eq_some_iff] at hc
    obtain ⟨d, hd, hc⟩ := hc
    split at hc
    · simp only [Option.bind_eq_some_iff, Option.some.injEq] at hc
      obtain ⟨sz, hsz, bt, hbt, z, hz, a', ha, b', hb, rfl⟩ := hc
      simp only [exec, atom_congr H ha (by simp [Op.operands]), atom_congr H hb (by simp [Op.operands])]
    · simp at hc
  case slice t x lo hi mx =>
    simp only [compOp0, Option.bind_eq_bind, Option.bind_eq_some_iff] at hc
    obtain ⟨a, ha, la, hla, hia, hhi, ma, hma, hc⟩ := hc
    have hb := bnds_congr H hla hhi hma (fun y hy => by subst hy; simp [Op.operands]) (fun y hy => by subst hy; simp [Op.operands]) (fun y hy => by subst hy; simp [Op.operands])
    have hx := atom_congr H ha (by simp [Op.operands])
    split at hc
    · simp at hc
    simp only [Option.bind_eq_some_iff] at hc
    obtain ⟨d, hd, hc⟩ := hc
    split at hc
    · simp only [Option.bind_eq_some_iff, Option.some.injEq] at hc
      obtain ⟨s, hs, rfl⟩ := hc
      simp only [exec, hx, hb]
    · split at hc
      · rename_i _ _ hmx
        simp at hc; subst hc
        have hma' : ma = none := by simpa [atomO] using hma.symm
        subst hma'
        simp only [exec, hx, hb]
      · simp at hc
    · simp only [Option.bind_eq_some_iff, Option.some.injEq] at hc
      obtain ⟨s, hs, rfl⟩ := hc
      simp only [exec, hx, hb]
    · simp only [Option.bind_eq_some_iff] at hc
      obtain ⟨d2, hd2, hc⟩ := hc
      split at hc
      · simp only [Option.bind_eq_some_iff, Option.some.injEq] at hc
        obtain ⟨s, hs, rfl⟩ := hc
        simp only [exec, hx, hb]
      · simp at hc
    · simp at hc
  case fieldAddr t x f =>
    simp only [compOp0, Option.bind_eq_bind, Option.bind_eq_some_iff] at hc
    obtain ⟨d, hd, hc⟩ := hc
    split at hc
    · simp only [Option.bind_eq_some_iff] at hc
      obtain ⟨fd, hfd, sz, hsz, hc⟩ := hc
      split at hc
      · simp at hc
      · simp only [Option.bind_eq_some_iff, Option.some.injEq] at hc
        obtain ⟨a, ha, rfl⟩ := hc
        simp only [exec, atom_congr H ha (by simp [Op.operands])]
    · simp at hc
  case field t x f =>
    simp only [compOp0, Option.bind_eq_bind, Option.bind_eq_some_iff] at hc
    obtain ⟨d, hd, hc⟩ := hc
    split at hc
    · simp only [Option.bind_eq_some_iff, Option.some.injEq] at hc
      obtain ⟨fd, hfd, sh, hsh, a, ha, rfl⟩ := hc
      simp only [exec, atom_congr H ha (by simp [Op.operands])]
    · simp at hc
  case indexAddr t x i =>
    simp only [compOp0, Option.bind_eq_bind, Option.bind_eq_some_iff] at hc
    obtain ⟨d, hd, hc⟩ := hc
    split at hc
    · simp only [Option.bind_eq_some_iff, Option.some.injEq] at hc
      obtain ⟨s, hs, a, ha, b, hb, rfl⟩ := hc
      simp only [exec, atom_congr H ha (by simp [Op.operands]), atom_congr H hb (by simp [Op.operands])]
    · simp only [Option.bind_eq_some_iff, Option.some.injEq] at hc
      obtain ⟨s, hs, a, ha, b, hb, rfl⟩ := hc
      simp only [exec, atom_congr H ha (by simp [Op.operands]), atom_congr H hb (by simp [Op.operands])]
    · simp at hc
  case index t x i =>
    simp only [compOp0, Option.bind_eq_bind, Option.bind_eq_some_iff] at hc
    obtain ⟨d, hd, hc⟩ := hc
    split at hc
    · simp only [Option.bind_eq_some_iff, Option.some.injEq] at hc
      obtain ⟨s, hs, sh, hsh, a, ha, b, hb, rfl⟩ := hc
      simp only [exec, atom_congr H ha (by simp [Op.operands]), atom_congr H hb (by simp [Op.operands])]
    · simp only [Option.bind_eq_some_iff, Option.some.injEq] at hc
      obtain ⟨a, ha, b, hb, rfl⟩ := hc
      simp only [exec, atom_congr H ha (by simp [Op.operands]), atom_congr H hb (by simp [Op.operands])]
    · simp at hc
  case extract x i =>
    simp only [compOp0, Option.bind_eq_bind, Option.bind_eq_some_iff, Option.some.injEq] at hc
    obtain ⟨a, ha, rfl⟩ := hc
    simp only [exec, atom_congr H ha (by simp [Op.operands])]
  case panic x =>
    obtain rfl : AOp.panic = aop := by simpa [compOp0] using hc
    rfl
  case call c =>
    have harg : ∀ {i : Nat} {x : Operand}, c.args[i]? = some x → x ∈ (Op.call c).operands.toList := by
      intro i x h
      simp only [Op.operands, Call.operands, Array.toList_append, List.mem_append]
      exact .inr (by rw [Array.mem_toList_iff]; exact Array.mem_of_getElem? h)
    have hargs : ∀ x ∈ c.args.toList, x ∈ (Op.call c).operands.toList := by
      intro x h
      simp only [Op.operands, Call.operands, Array.toList_append, List.mem_append]
      exact .inr h
    cases hcal : c.callee with
    | value f =>
      simp only [compOp0, hcal, Option.bind_eq_bind, Option.bind_eq_some_iff, Option.some.injEq] at hc
      obtain ⟨a, ha, as, has, rfl⟩ := hc
      simp only [exec, atom_congr H ha (by simp [Op.operands, Call.operands, hcal]), atoms_congr H has hargs]
    | invoke a m => simp [compOp0, hcal] at hc
    | builtin b =>
      have hc : compBuiltin P b c.argTypes c.args = some aop := by simpa [compOp0, hcal] using hc
      cases b <;> (try (simp [compBuiltin] at hc; done))
      case len =>
        simp only [compBuiltin, Option.bind_eq_bind, Option.bind_eq_some_iff] at hc
        obtain ⟨x, hx, a, ha, t, ht, d, hd, hc⟩ := hc
        have : ∀ k, exec call e (.len k a) = exec call e' (.len k a) := fun k => by simp only [exec, atom_congr H ha (harg hx)]
        split at hc
        · simp at hc; subst hc; exact this _
        · simp at hc; subst hc; exact this _
        · simp at hc; subst hc; exact this _
        · simp only [Option.bind_eq_some_iff] at hc
          obtain ⟨d2, hd2, hc⟩ := hc
          split at hc
          · simp at hc; subst hc; exact this _
          · simp at hc
        · simp at hc; subst hc; exact this _
        · simp at hc
      case cap =>
        simp only [compBuiltin, Option.bind_eq_bind, Option.bind_eq_some_iff] at hc
        obtain ⟨x, hx, a, ha, t, ht, d, hd, hc⟩ := hc
        split at hc
        · simp at hc; subst hc; simp only [exec, atom_congr H ha (harg hx)]
        · simp at hc
      case append =>
        simp only [compBuiltin, Option.bind_eq_bind, Option.bind_eq_some_iff] at hc
        obtain ⟨s, hs, a, ha, x, hx, b, hb, st, hst, sd, hsd, xt, hxt, xd, hxd, hc⟩ := hc
        split at hc
        · split at hc
          · simp only [Option.bind_eq_bind, Option.bind_eq_some_iff, Option.some.injEq] at hc
            obtain ⟨sz, h1, bt, h2, rfl⟩ := hc
            simp only [exec, atom_congr H ha (harg hs), atom_congr H hb (harg hx)]
          · simp at hc
        · split at hc
          · simp only [Option.bind_eq_bind, Option.bind_eq_some_iff, Option.some.injEq] at hc
            obtain ⟨sz, h1, bt, h2, rfl⟩ := hc
            simp only [exec, atom_congr H ha (harg hs), atom_congr H hb (harg hx)]
          · simp at hc
        · simp only [Option.bind_eq_bind, Option.bind_eq_some_iff, Option.some.injEq] at hc
          obtain ⟨sz, h1, bt, h2, z, hz, rfl⟩ := hc
          simp only [exec, atom_congr H ha (harg hs), atom_congr H hb (harg hx)]
        · simp at hc
      case copy =>
        simp only [compBuiltin, Option.bind_eq_bind, Option.bind_eq_some_iff] at hc
        obtain ⟨s, hs, a, ha, x, hx, b, hb, st, hst, sd, hsd, hc⟩ := hc
        split at hc
        · simp only [Option.bind_eq_bind, Option.bind_eq_some_iff, Option.some.injEq] at hc
          obtain ⟨sz, h1, rfl⟩ := hc
          simp only [exec, atom_congr H ha (harg hs), atom_congr H hb (harg hx)]
        · simp at hc
      case clear =>
        simp only [compBuiltin, Option.bind_eq_bind, Option.bind_eq_some_iff] at hc
        obtain ⟨x, hx, a, ha, st, hst, sd, hsd, hc⟩ := hc
        split at hc
        · simp only [Option.bind_eq_bind, Option.bind_eq_some_iff, Option.some.injEq] at hc
          obtain ⟨z, hz, rfl⟩ := hc
          simp only [exec, atom_congr H ha (harg hx)]
        · simp at hc
      case max =>
        simp only [compBuiltin, Option.bind_eq_bind, Option.bind_eq_some_iff, Option.some.injEq] at hc
        obtain ⟨as, has, rfl⟩ := hc
        simp only [exec, atoms_congr H has hargs]
      case min =>
        simp only [compBuiltin, Option.bind_eq_bind, Option.bind_eq_some_iff, Option.some.injEq] at hc
        obtain ⟨as, has, rfl⟩ := hc
        simp only [exec, atoms_congr H has hargs]
      case delete =>
        simp only [compBuiltin, Option.bind_eq_bind, Option.bind_eq_some_iff] at hc
        obtain ⟨m, hm, a, ha, k, hk, b, hb, mt, hmt, md, hmd, hc⟩ := hc
        split at hc
        · simp only [Option.bind_eq_some_iff, Option.some.injEq] at hc
          obtain ⟨kk, hkk, rfl⟩ := hc
          simp only [exec, atom_congr H ha (harg hm), atom_congr H hb (harg hk)]
        · simp at hc
  case makeMap t h =>
    simp only [compOp0, Option.bind_eq_bind, Option.bind_eq_some_iff] at hc
    obtain ⟨d, hd, hc⟩ := hc
    split at hc
    · simp only [Option.bind_eq_some_iff, Option.some.injEq] at hc
      obtain ⟨a, ha, rfl⟩ := hc
      have : hintOk e a = hintOk e' a := by
        cases h with
        | none => simp only [atomO, Option.some.injEq] at ha; subst ha; rfl
        | some x =>
          simp only [atomO, Option.map_eq_some_iff] at ha
          obtain ⟨b, hb, rfl⟩ := ha
          simp only [hintOk, atom_congr H hb (by simp [Op.operands])]
      simp only [exec, this]
    · simp at hc
  case lookup t x i ok =>
    simp only [compOp0, Option.bind_eq_bind, Option.bind_eq_some_iff] at hc
    obtain ⟨d, hd, hc⟩ := hc
    split at hc
    · simp only [Option.bind_eq_some_iff, Option.some.injEq] at hc
      obtain ⟨kk, hkk, z, hz, a, ha, b, hb, rfl⟩ := hc
      simp only [exec, atom_congr H ha (by simp [Op.operands]), atom_congr H hb (by simp [Op.operands])]
    · simp at hc
  case mapEntry t m k =>
    simp only [compOp0, Option.bind_eq_bind, Option.bind_eq_some_iff] at hc
    obtain ⟨d, hd, hc⟩ := hc
    split at hc
    · simp only [Option.bind_eq_some_iff, Option.some.injEq] at hc
      obtain ⟨kk, hkk, z, hz, a, ha, b, hb, rfl⟩ := hc
      simp only [exec, atom_congr H ha (by simp [Op.operands]), atom_congr H hb (by simp [Op.operands])]
    · simp at hc
  case entryStore t m s x =>
    simp only [compOp0, Option.bind_eq_bind, Option.bind_eq_some_iff, Option.some.injEq] at hc
    obtain ⟨a, ha, b, hb, c, hcc, rfl⟩ := hc
    simp only [exec, atom_congr H ha (by simp [Op.operands]), atom_congr H hb (by simp [Op.operands]), atom_congr H hcc (by simp [Op.operands])]
  case mapUpdate t m k x =>
    simp only [compOp0, Option.bind_eq_bind, Option.bind_eq_some_iff] at hc
    obtain ⟨d, hd, hc⟩ := hc
    split at hc
    · simp only [Option.bind_eq_some_iff, Option.some.injEq] at hc
      obtain ⟨kk, hkk, a, ha, b, hb, c, hcc, rfl⟩ := hc
      simp only [exec, atom_congr H ha (by simp [Op.operands]), atom_congr H hb (by simp [Op.operands]), atom_congr H hcc (by simp [Op.operands])]
    · simp at hc
  case insert t m k x =>
    simp only [compOp0, Option.bind_eq_bind, Option.bind_eq_some_iff] at hc
    obtain ⟨d, hd, hc⟩ := hc
    split at hc
    · simp only [Option.bind_eq_some_iff, Option.some.injEq] at hc
      obtain ⟨kk, hkk, a, ha, b, hb, c, hcc, rfl⟩ := hc
      simp only [exec, atom_congr H ha (by simp [Op.operands]), atom_congr H hb (by simp [Op.operands]), atom_congr H hcc (by simp [Op.operands])]
    · simp at hc
  case range t x =>
    simp only [compOp0, Option.bind_eq_bind, Option.bind_eq_some_iff] at hc
    obtain ⟨d, hd, hc⟩ := hc
    split at hc
    · simp only [Option.bind_eq_some_iff, Option.some.injEq] at hc
      obtain ⟨a, ha, rfl⟩ := hc
      simp only [exec, atom_congr H ha (by simp [Op.operands])]
    · simp at hc
  case next x b =>
    simp only [compOp0, Option.bind_eq_bind] at hc
    split at hc
    · simp only [Option.bind_eq_some_iff, Option.some.injEq] at hc
      obtain ⟨a, ha, rfl⟩ := hc
      simp only [exec, atom_congr H ha (by simp [Op.operands])]
    · simp at hc
theorem exec_congr (call : Tgt → List Value → M Value) {o : Op} {aop : AOp} (hc : compOp P o = some aop) {e e' : Env} (H : ∀ t, .tmp t ∈ o.operands.toList → e.get t = e'.get t) : exec call e aop = exec call e' aop := by
  rcases compOp_inv hc with h | rfl
  · exact exec_congr0 call h H
  · rfl

theorem instr_congr (call : Tgt → List Value → M Value) {n : Nat} {ops : Array Oper} {o : Oper} {ai : AInstr} (hc : compInstr P n ops o = some ai) {e e' : Env} (H : ∀ t ∈ namesOf ops o, e.get t = e'.get t) {S : St} {e1 : Env} {S1 : St}
    (h : instr call ai e S = some (e1, S1)) : ∃ v, e1 = putD e o.dst v ∧ instr call ai e' S = some (putD e' o.dst v, S1) := by
  obtain ⟨h1, h2, h3, h4⟩ := compInstr_some hc
  have hx := exec_congr call h2 (e := e) (e' := e') fun t ht => H t (by
    unfold namesOf
    exact List.mem_append.2 (.inl (mem_oTmps.2 ht)))
  rcases h4 with ⟨hg, hag⟩ | ⟨j, want, oj, d, hg, hoj, hdj, hag⟩
  · simp only [instr, hag, M.bind_some, M.pure_some] at h ⊢
    obtain ⟨v, S2, h5, rfl, rfl⟩ := h
    exact ⟨v, by rw [h1], v, _, by rw [← hx]; exact h5, by rw [h1], rfl⟩
  · have hgd : e.get d = e'.get d := H d (by unfold namesOf; exact List.mem_append.2 (.inr (by simp [hg, hoj, hdj])))
    simp only [instr, hag, M.bind_some, M.lift_some, Option.bind_eq_some_iff] at h ⊢
    obtain ⟨b, _, ⟨⟨gv, hgv, hw⟩, rfl⟩, h⟩ := h
    cases b with
    | true =>
      simp only [if_true, M.bind_some, M.pure_some] at h
      obtain ⟨v, S2, h5, rfl, rfl⟩ := h
      exact ⟨v, by rw [h1], true, _, ⟨⟨gv, by rw [← hgd]; exact hgv, hw⟩, rfl⟩, by simp only [if_true, M.bind_some, M.pure_some]; exact ⟨v, _, by rw [← hx]; exact h5, by rw [h1], rfl⟩⟩
    | false =>
      simp only [Bool.false_eq_true, if_false] at h
      obtain ⟨rfl, rfl⟩ := M.pure_some.1 h
      exact ⟨undef, by rw [h1], false, _, ⟨⟨gv, by rw [← hgd]; exact hgv, hw⟩, rfl⟩, by simp only [Bool.false_eq_true, if_false]; exact M.pure_some.2 ⟨by rw [h1], rfl⟩⟩
end Go.Wb
end
/- The engine, part M5: a region that draws its order comes to one end, whatever the order. -/
section
set_option linter.unusedSimpArgs false
set_option linter.unusedVariables false
namespace Go.Wb
set_option linter.unusedSectionVars false
variable [GloK]
variable {P : Program}

/-- the run in the text's order, place by place -/
structure Trace (call : Tgt → List Value → M Value) (l : List AInstr) (E : Nat → Env) (H : Nat → St) (T : Nat → Touch) : Prop where
  step : ∀ k i, l[k]? = some i → instr call i (E k) { heap := (H k).heap, next := (H k).next, log := [] } = some (E (k + 1), { heap := (H (k + 1)).heap, next := (H (k + 1)).next, log := (T k).log })
  lo : ∀ k, k < l.length → (T k).lo = (H k).next ∧ (T k).hi = (H (k + 1)).next

def active (t : Touch) : Prop := t.log ≠ [] ∨ t.lo ≠ t.hi
theorem keepT_mem {i : Nat} {t : Touch} {ts : List (Nat × Touch)} {p : Nat × Touch} (h : p ∈ ts) : p ∈ keepT i t ts := by
  unfold keepT
  split
  · exact h
  · exact List.mem_cons_of_mem _ h
theorem keepT_self {i : Nat} {t : Touch} {ts : List (Nat × Touch)} (h : active t) : (i, t) ∈ keepT i t ts := by
  unfold keepT
  split
  · rename_i h1 h2
    rcases h with h | h
    · exact absurd h1 h
    · exact absurd (Nat.eq_of_beq_eq_true h2) h
  · simp
theorem keepT_inv {i : Nat} {t : Touch} {ts : List (Nat × Touch)} {p : Nat × Touch} (h : p ∈ keepT i t ts) : p = (i, t) ∨ p ∈ ts := by
  unfold keepT at h
  split at h
  · exact .inr h
  · simpa using h
theorem keepT_sorted {i : Nat} {t : Touch} {ts : List (Nat × Touch)} (h : ts.Pairwise (fun a b => b.1 < a.1)) (hb : ∀ p ∈ ts, p.1 < i) : (keepT i t ts).Pairwise (fun a b => b.1 < a.1) := by
  unfold keepT
  split
  · exact h
  · exact List.pairwise_cons.2 ⟨fun p hp => hb p hp, h⟩

theorem drawn_trace {call : Tgt → List Value → M Value} : ∀ (l : List AInstr) (n : Nat) (e e' : Env) (ts ts' : List (Nat × Touch)) (S S' : St), drawnGo call l n e ts S = some ((e', ts'), S') →
    ts.Pairwise (fun a b => b.1 < a.1) → (∀ p ∈ ts, p.1 < n) →
    ∃ (E : Nat → Env) (H : Nat → St) (T : Nat → Touch), Trace call l E H T ∧ E 0 = e ∧ (H 0).heap = S.heap ∧ (H 0).next = S.next ∧ E l.length = e' ∧ (H l.length).heap = S'.heap ∧ (H l.length).next = S'.next ∧
      (∀ k, k < l.length → active (T k) → (n + k, T k) ∈ ts') ∧ (∀ p ∈ ts, p ∈ ts') ∧ ts'.Pairwise (fun a b => b.1 < a.1) ∧ ∃ D, S'.log = D ++ S.log ∧ (∀ x, x ∈ D → ∃ k, k < l.length ∧ x ∈ (T k).log) ∧ (∀ k, k < l.length → ∀ x, x ∈ (T k).log → x ∈ D)
  | [], n, e, e', ts, ts', S, S', h, hs, hb => by
    obtain ⟨h1, rfl⟩ := M.pure_some.1 h
    obtain ⟨rfl, rfl⟩ : e' = e ∧ ts' = ts := by simpa using h1
    exact ⟨fun _ => e', fun _ => S', fun _ => ⟨[], 0, 0⟩, ⟨fun k i hk => by simp at hk, fun k hk => by simp at hk⟩, rfl, rfl, rfl, rfl, rfl, rfl, fun k hk => by simp at hk, fun p hp => hp, hs, [], rfl, by simp, fun k hk => by simp at hk⟩
  | i :: l, n, e, e', ts, ts', S, S', h, hs, hb => by
    simp only [drawnGo] at h
    cases h1 : instr call i e { heap := S.heap, next := S.next, log := [] } with
    | none => simp [h1] at h
    | some p =>
      obtain ⟨e1, s1⟩ := p
      simp only [h1] at h
      obtain ⟨E, H, T, hT, a1, a2, a3, a4, a5, a6, a7, a8, a9, D, a10, a11, a12⟩ := drawn_trace l (n + 1) e1 e' _ ts' _ S' h (keepT_sorted hs hb) (fun p hp => by
        rcases keepT_inv hp with rfl | hp
        · simp
        · have := hb p hp; omega)
      refine ⟨fun k => match k with | 0 => e | k + 1 => E k, fun k => match k with | 0 => S | k + 1 => H k, fun k => match k with | 0 => { log := s1.log, lo := S.next, hi := s1.next } | k + 1 => T k, ⟨?_, ?_⟩, rfl, rfl, rfl, by simpa using a4, by simpa using a5, by simpa using a6, ?_, ?_, a9, D ++ s1.log, by rw [a10]; simp, ?_, ?_⟩
      · intro k x hk
        cases k with
        | zero =>
          simp at hk; subst hk
          simp only [h1, a1, a2, a3]
        | succ k => exact hT.step k x (by simpa using hk)
      · intro k hk
        cases k with
        | zero => exact ⟨rfl, by simp [a3]⟩
        | succ k => exact hT.lo k (by simpa using hk)
      · intro k hk hact
        cases k with
        | zero => exact a8 _ (keepT_self hact)
        | succ k => have := a7 k (by simpa using hk) hact; rwa [show n + (k + 1) = n + 1 + k by omega]
      · intro p hp; exact a8 p (keepT_mem hp)
      · intro x hx
        rcases List.mem_append.1 hx with hx | hx
        · obtain ⟨k, hk, hx⟩ := a11 x hx
          exact ⟨k + 1, by simpa using hk, hx⟩
        · exact ⟨0, by simp, hx⟩
      · intro k hk x hx
        cases k with
        | zero => exact List.mem_append.2 (.inr hx)
        | succ k => exact List.mem_append.2 (.inl (a12 k (by simpa using hk) x hx))

theorem apartOne_ok {m : Nat} {t : Touch} : ∀ {l : List (Nat × Touch)}, apartOne m t l = true → ∀ p ∈ l, m.testBit p.1 = true ∨ (hits t p.2 = false ∧ hits p.2 t = false)
  | [], _, p, hp => by simp at hp
  | (i, u) :: l, h, p, hp => by
    simp only [apartOne, Bool.and_eq_true, Bool.or_eq_true, Bool.not_eq_true'] at h
    rcases List.mem_cons.1 hp with rfl | hp
    · exact h.1
    · exact apartOne_ok h.2 p hp
theorem apartAll_ok {ms : List Nat} : ∀ {l : List (Nat × Touch)}, apartAll ms l = true → l.Pairwise (fun a b => b.1 < a.1) → ∀ p ∈ l, ∀ q ∈ l, q.1 < p.1 → (ms.getD p.1 0).testBit q.1 = true ∨ (hits p.2 q.2 = false ∧ hits q.2 p.2 = false)
  | [], _, _, p, hp, _, _, _ => by simp at hp
  | (j, t) :: l, h, hs, p, hp, q, hq, hlt => by
    simp only [apartAll, Bool.and_eq_true] at h
    have hs' := List.pairwise_cons.1 hs
    rcases List.mem_cons.1 hp with rfl | hp
    · rcases List.mem_cons.1 hq with rfl | hq
      · omega
      · exact apartOne_ok h.1 q hq
    · rcases List.mem_cons.1 hq with rfl | hq
      · have := hs'.1 p hp; simp only at this hlt; omega
      · exact apartAll_ok h.2 hs'.2 p hp q hq hlt

/-- an id that an operation writes or makes -/
def owner (t : Touch) (id : Nat) : Prop := (id, true) ∈ t.log ∨ (t.lo ≤ id ∧ id < t.hi)
theorem hits_of {a b : Touch} {id : Nat} {x : Bool} (h : (id, x) ∈ a.log) (ho : owner b id) : hits a b = true := by
  unfold hits
  rw [List.any_eq_true]
  refine ⟨(id, x), h, ?_⟩
  rcases ho with ho | ho
  · simp only [Bool.or_eq_true, List.any_eq_true, Bool.and_eq_true]
    exact .inr ⟨(id, true), ho, by simp, by simp⟩
  · simp only [Bool.or_eq_true, Bool.and_eq_true]
    exact .inl ⟨by simpa using ho.1, by simpa using ho.2⟩

/-! ### what 'before' says -/
theorem fold_bits {f : Edge → Nat} : ∀ (l : List Edge) (s i : Nat), (l.foldl (fun s e => if Region.binds .any e then s ||| 2 ^ e.on ||| f e else s) s).testBit i = true →
    s.testBit i = true ∨ ∃ e ∈ l, Region.binds .any e = true ∧ (e.on = i ∨ (f e).testBit i = true)
  | [], s, i, h => .inl h
  | e :: l, s, i, h => by
    simp only [List.foldl_cons] at h
    rcases fold_bits l _ i h with h | ⟨e', he', h⟩
    · split at h
      · rename_i hb
        rw [Nat.testBit_or, Nat.testBit_or, Bool.or_eq_true, Bool.or_eq_true, Nat.testBit_two_pow] at h
        rcases h with (h | h) | h
        · exact .inl h
        · exact .inr ⟨e, by simp, hb, .inl (by simpa using h)⟩
        · exact .inr ⟨e, by simp, hb, .inr h⟩
      · exact .inl h
    · exact .inr ⟨e', by simp [he'], h⟩

structure OrderOk (ops : Array Oper) : Prop where
  back : ∀ j o, ops[j]? = some o → ∀ e ∈ o.after.toList, Region.binds .any e = true → e.on < j
  bits : ∀ j o, ops[j]? = some o → ∀ i, ((Region.before ops).getD j 0).testBit i = true → ∃ e ∈ o.after.toList, Region.binds .any e = true ∧ (e.on = i ∨ ((Region.before ops).getD e.on 0).testBit i = true)
  free : ∀ j oj i oi, ops[j]? = some oj → ops[i]? = some oi → i < j → ((Region.before ops).getD j 0).testBit i = true ∨
    ((∀ d, oi.dst = some d → d ∉ namesOf ops oj ∧ oj.dst ≠ some d) ∧ (∀ d, oj.dst = some d → d ∉ namesOf ops oi))
theorem orderOk_ok {ops : Array Oper} (h : orderOk ops = true) : OrderOk ops := by
  unfold orderOk at h
  simp only [List.all_eq_true, List.mem_range] at h
  have A : ∀ j oj, ops[j]? = some oj → j < ops.size := fun j oj hj => (Array.getElem?_eq_some_iff.1 hj).1
  refine ⟨?_, ?_, ?_⟩
  · intro j o hj e he hb
    have := h j (A j o hj)
    simp only [hj, Bool.and_eq_true, List.all_eq_true] at this
    have := this.1.1 e he
    simpa [hb] using this
  · intro j o hj i hi
    have := h j (A j o hj)
    simp only [hj, Bool.and_eq_true] at this
    have := Nat.eq_of_beq_eq_true this.1.2
    rw [this] at hi
    rcases fold_bits _ _ _ hi with hi | hi
    · simp at hi
    · exact hi
  · intro j oj i oi hj hi hlt
    have := h j (A j oj hj)
    simp only [hj, Bool.and_eq_true, List.all_eq_true, List.mem_range] at this
    have := this.2 i hlt
    simp only [hi, Bool.or_eq_true, Bool.and_eq_true] at this
    rcases this with this | ⟨k1, k2⟩
    · exact .inl this
    · refine .inr ⟨?_, ?_⟩
      · intro d hd
        simp only [hd, Bool.and_eq_true, Bool.not_eq_true', bne_iff_ne] at k1
        exact ⟨by simpa using k1.1, k1.2⟩
      · intro d hd
        simp only [hd, Bool.not_eq_true'] at k2
        simpa using k2
end Go.Wb
end
/- The engine, part M6: the orders of a region. -/
section
set_option linter.unusedSimpArgs false
set_option linter.unusedVariables false
namespace Go.Wb
set_option linter.unusedSectionVars false
variable [GloK]
variable {P : Program}

theorem filter_lt {α : Type} {p q : α → Bool} {a : α} : ∀ {l : List α}, a ∈ l → (∀ x, q x = true → p x = true) → p a = true → q a = false → (l.filter q).length < (l.filter p).length
  | [], h, _, _, _ => by simp at h
  | b :: l, h, hqp, hp, hq => by
    have hle : ∀ l : List α, (l.filter q).length ≤ (l.filter p).length := by
      intro l
      induction l with
      | nil => simp
      | cons c l ih =>
        simp only [List.filter_cons]
        by_cases hc : q c = true
        · rw [if_pos hc, if_pos (hqp c hc)]; simpa using ih
        · rw [if_neg hc]
          split
          · simp; omega
          · exact ih
    rcases List.mem_cons.1 h with rfl | h
    · simp only [List.filter_cons, hp, hq, if_true, Bool.false_eq_true, if_false, List.length_cons]
      have := hle l; omega
    · have := filter_lt (l := l) h hqp hp hq
      simp only [List.filter_cons]
      by_cases hc : q b = true
      · rw [if_pos hc, if_pos (hqp b hc)]; simpa using this
      · rw [if_neg hc]
        split
        · simp; omega
        · exact this

section
variable {call : Tgt → List Value → M Value} {n : Nat} {ops : Array Oper} {l : List AInstr} {E : Nat → Env} {H : Nat → St} {T : Nat → Touch}

/-- what is known of a region and of its run in the text's order -/
structure Known (P : Program) (call : Tgt → List Value → M Value) (n : Nat) (ops : Array Oper) (l : List AInstr) (E : Nat → Env) (H : Nat → St) (T : Nat → Touch) : Prop where
  hcall : CallOk P call
  framed : ∀ t a, Framed (call t a)
  len : l.length = ops.size
  comp : ∀ (i : Nat) (o : Oper), ops[i]? = some o → ∃ ai : AInstr, l[i]? = some ai ∧ compInstr P n ops o = some ai
  trace : Trace call l E H T
  order : OrderOk ops
  apart : ∀ i k : Nat, k < i → i < ops.size → ((Region.before ops).getD i 0).testBit k = true ∨ ((∀ id x, (id, x) ∈ (T i).log → ¬ owner (T k) id) ∧ (∀ id x, (id, x) ∈ (T k).log → ¬ owner (T i) id))

variable (K : Known P call n ops l E H T)
include K

theorem Known.stepAt {k : Nat} (hk : k < ops.size) : ∃ o ai, ops[k]? = some o ∧ l[k]? = some ai ∧ compInstr P n ops o = some ai ∧
    instr call ai (E k) { heap := (H k).heap, next := (H k).next, log := [] } = some (E (k + 1), { heap := (H (k + 1)).heap, next := (H (k + 1)).next, log := (T k).log }) := by
  obtain ⟨ai, h1, h2⟩ := K.comp k ops[k] (by simp [hk])
  exact ⟨ops[k], ai, by simp [hk], h1, h2, K.trace.step k ai h1⟩
theorem Known.next_le {k : Nat} (hk : k < ops.size) : (H k).next ≤ (H (k + 1)).next := by
  obtain ⟨o, ai, _, _, _, h⟩ := K.stepAt hk
  have := Framed.next (Framed.instr K.framed ai (E k)) h
  exact this
theorem Known.next_mono {a b : Nat} (hab : a ≤ b) (hb : b ≤ ops.size) : (H a).next ≤ (H b).next := by
  induction b with
  | zero => have : a = 0 := by omega
            subst this; exact Nat.le_refl _
  | succ b ih =>
    by_cases e : a = b + 1
    · subst e; exact Nat.le_refl _
    · exact Nat.le_trans (ih (by omega) (by omega)) (K.next_le (by omega))
theorem Known.range {k : Nat} (hk : k < ops.size) : (T k).lo = (H k).next ∧ (T k).hi = (H (k + 1)).next := K.trace.lo k (by rw [K.len]; exact hk)
theorem Known.heap_step {k : Nat} (hk : k < ops.size) {id : Nat} (ho : ¬ owner (T k) id) : (H (k + 1)).heap.get id = (H k).heap.get id := by
  obtain ⟨o, ai, _, _, _, h⟩ := K.stepAt hk
  obtain ⟨_, D, h1, h2, _⟩ := Framed.instr K.framed ai (E k) _ _ _ h
  simp only [List.append_nil] at h1
  obtain ⟨r1, r2⟩ := K.range hk
  refine h2 id (fun c => ho (.inl (by rw [h1]; exact c))) (fun c => ho (.inr (by rw [r1, r2]; exact c)))
theorem Known.env_step {k : Nat} {o : Oper} (hk : k < ops.size) (ho : ops[k]? = some o) : ∃ v, E (k + 1) = putD (E k) o.dst v := by
  obtain ⟨o', ai, ho', _, hc, h⟩ := K.stepAt hk
  obtain rfl : o = o' := by rw [ho] at ho'; simpa using ho'
  obtain ⟨v, hv, _⟩ := instr_congr call hc (e := E k) (e' := E k) (fun _ _ => rfl) h
  exact ⟨v, hv⟩
theorem Known.env_other {k : Nat} {o : Oper} (hk : k < ops.size) (ho : ops[k]? = some o) {t : Nat} (ht : o.dst ≠ some t) : (E (k + 1)).get t = (E k).get t := by
  obtain ⟨v, hv⟩ := K.env_step hk ho
  rw [hv]
  cases hd : o.dst with
  | none => rfl
  | some d => simp only [putD]; rw [Tr.get_set, if_neg (fun c : t = d => ht (by rw [hd, c]))]

theorem Known.lastHeap (id : Nat) : ∀ m, m ≤ ops.size → ((∀ k, k < m → ¬ owner (T k) id) ∧ (H m).heap.get id = (H 0).heap.get id) ∨
    ∃ k, k < m ∧ owner (T k) id ∧ (∀ j, j < m → owner (T j) id → j ≤ k) ∧ (H m).heap.get id = (H (k + 1)).heap.get id := by
  intro m
  induction m with
  | zero => intro _; exact .inl ⟨fun k hk => by omega, rfl⟩
  | succ m ih =>
    intro hm
    by_cases ho : owner (T m) id
    · exact .inr ⟨m, by omega, ho, fun j hj _ => by omega, rfl⟩
    · have hs := K.heap_step (k := m) (by omega) ho
      rcases ih (by omega) with ⟨h1, h2⟩ | ⟨k, h1, h2, h3, h4⟩
      · refine .inl ⟨fun k hk => ?_, by rw [hs, h2]⟩
        by_cases e : k = m
        · subst e; exact ho
        · exact h1 k (by omega)
      · refine .inr ⟨k, by omega, h2, fun j hj hjo => ?_, by rw [hs, h4]⟩
        by_cases e : j = m
        · subst e; exact absurd hjo ho
        · exact h3 j (by omega) hjo
theorem Known.lastEnv (t : Nat) : ∀ m, m ≤ ops.size → ((∀ k o, k < m → ops[k]? = some o → o.dst ≠ some t) ∧ (E m).get t = (E 0).get t) ∨
    ∃ k o, k < m ∧ ops[k]? = some o ∧ o.dst = some t ∧ (∀ j o', j < m → ops[j]? = some o' → o'.dst = some t → j ≤ k) ∧ (E m).get t = (E (k + 1)).get t := by
  intro m
  induction m with
  | zero => intro _; exact .inl ⟨fun k _ hk => by omega, rfl⟩
  | succ m ih =>
    intro hm
    have hop : ops[m]? = some ops[m] := by simp
    by_cases ho : ops[m].dst = some t
    · exact .inr ⟨m, _, by omega, hop, ho, fun j _ hj _ _ => by omega, rfl⟩
    · have hs := K.env_other (k := m) (by omega) hop ho
      rcases ih (by omega) with ⟨h1, h2⟩ | ⟨k, o, h1, h2, h3, h4, h5⟩
      · refine .inl ⟨fun k o hk hko => ?_, by rw [hs, h2]⟩
        by_cases e : k = m
        · subst e; rw [hop] at hko; simp at hko; subst hko; exact ho
        · exact h1 k o (by omega) hko
      · refine .inr ⟨k, o, by omega, h2, h3, fun j o' hj hjo hjd => ?_, by rw [hs, h5]⟩
        by_cases e : j = m
        · subst e; rw [hop] at hjo; simp at hjo; subst hjo; exact absurd hjd ho
        · exact h4 j o' (by omega) hjo hjd
omit K

/-- in the midst of a region: the operations of X have been carried out -/
structure Mid (P : Program) (ops : Array Oper) (E : Nat → Env) (H : Nat → St) (T : Nat → Touch) (r0 : Ren) (S0 : St) (w0 : World) (m0 : Nat) (X : Nat → Prop) (r : Ren) (w : World) (tmps : Array Value) (SX : St) (eX : Env) : Prop where
  inX : ∀ i, X i → i < ops.size
  closed : ∀ i o, X i → ops[i]? = some o → ∀ e ∈ o.after.toList, Region.binds .any e = true → X e.on
  rel : Rel P r SX w
  env : EnvRel r eX tmps
  msize : tmps.size = m0
  le : r0.le r
  dom : ∀ id, r.dom id ↔ r0.dom id ∨ ∃ i, X i ∧ (T i).lo ≤ id ∧ id < (T i).hi
  hsize : w0.heap.size ≤ w.heap.size
  os : w.os = w0.os
  tape : w.tape = w0.tape
  output : w.output = w0.output
  frame : ∀ k, k < w0.heap.size → ¬ Live r0 S0 k → w.heap[k]? = w0.heap[k]?
  kept : ∀ id b, S0.heap.get id = some b → (∀ i, X i → (id, true) ∉ (T i).log) → w.heap[r0.to id]? = w0.heap[r0.to id]?
  live : ∀ k, k < w0.heap.size → Live r SX k → Live r0 S0 k
  heap1 : ∀ id i, X i → owner (T i) id → (∀ k, X k → owner (T k) id → k ≤ i) → SX.heap.get id = (H (i + 1)).heap.get id
  heap0 : ∀ id, (∀ i, X i → ¬ owner (T i) id) → SX.heap.get id = (H 0).heap.get id
  env1 : ∀ t i o, X i → ops[i]? = some o → o.dst = some t → (∀ k o', X k → ops[k]? = some o' → o'.dst = some t → k ≤ i) → eX.get t = (E (i + 1)).get t
  env0 : ∀ t, (∀ i o, X i → ops[i]? = some o → o.dst ≠ some t) → eX.get t = (E 0).get t

include K
/-- all that is ahead of an operation by the edges has been carried out -/
theorem Known.preds {X : Nat → Prop} (hcl : ∀ i o, X i → ops[i]? = some o → ∀ e ∈ o.after.toList, Region.binds .any e = true → X e.on) :
    ∀ (j : Nat) (o : Oper), ops[j]? = some o → (∀ e ∈ o.after.toList, Region.binds .any e = true → X e.on) → ∀ i, ((Region.before ops).getD j 0).testBit i = true → X i := by
  intro j
  induction j using Nat.strongRecOn with
  | _ j ih =>
    intro o ho hX i hi
    obtain ⟨e, he, hb, h⟩ := K.order.bits j o ho i hi
    have hon := hX e he hb
    rcases h with rfl | h
    · exact hon
    · have hlt := K.order.back j o ho e he hb
      have hj : j < ops.size := (Array.getElem?_eq_some_iff.1 ho).1
      have hop : ops[e.on]? = some ops[e.on] := by simp
      exact ih e.on hlt ops[e.on] hop (fun e' he' hb' => hcl e.on _ hon hop e' he' hb') i h

theorem Known.step {r0 : Ren} {S0 : St} {w0 : World} {m0 : Nat} {X : Nat → Prop} {r : Ren} {w : World} {tmps : Array Value} {SX : St} {eX : Env} (hm0 : n ≤ m0) (h0 : Rel P r0 S0 w0) (hH0 : (H 0).heap = S0.heap) (hf0 : ∀ id, (H 0).next ≤ id → id < (H ops.size).next → ¬ r0.dom id)
    (M : Mid P ops E H T r0 S0 w0 m0 X r w tmps SX eX) {i : Nat} {o : Oper} (hi : ¬ X i) (ho : ops[i]? = some o) (hpre : ∀ e ∈ o.after.toList, Region.binds .any e = true → X e.on) (fn : FuncId) (ro : Option Nat) (ds : List Deferred) (rest : List Nat) (k0 : List Item) (cs : List Frame) :
    ∃ r' w' tmps' SX' eX', Mid P ops E H T r0 S0 w0 m0 (fun k => X k ∨ k = i) r' w' tmps' SX' eX' ∧
      Steps P (lone (Fr fn ro tmps ds (.inRegion ops (i :: rest) :: k0)) cs w) (lone (Fr fn ro tmps' ds (.inRegion ops rest :: k0)) cs w') := by
  have hin : i < ops.size := (Array.getElem?_eq_some_iff.1 ho).1
  have hbits := K.preds M.closed i o ho hpre
  -- operations that no edge orders against i
  have unord : ∀ k, k < ops.size → ((k < i ∧ ¬ X k) ∨ (i < k ∧ X k)) → (k < i ∧ ¬ ((Region.before ops).getD i 0).testBit k = true) ∨ (i < k ∧ ¬ ((Region.before ops).getD k 0).testBit i = true) := by
    intro k hk h
    rcases h with ⟨h1, h2⟩ | ⟨h1, h2⟩
    · exact .inl ⟨h1, fun c => h2 (hbits k c)⟩
    · refine .inr ⟨h1, fun c => hi ?_⟩
      have hop : ops[k]? = some ops[k] := by simp [hk]
      exact K.preds M.closed k _ hop (fun e he hb => M.closed k _ h2 hop e he hb) i c
  have sep : ∀ k, k < ops.size → ((k < i ∧ ¬ X k) ∨ (i < k ∧ X k)) → (∀ id x, (id, x) ∈ (T i).log → ¬ owner (T k) id) ∧ (∀ id x, (id, x) ∈ (T k).log → ¬ owner (T i) id) := by
    intro k hk h
    rcases unord k hk h with ⟨h1, h2⟩ | ⟨h1, h2⟩
    · exact (K.apart i k h1 hin).resolve_left h2
    · have := (K.apart k i h1 hk).resolve_left h2
      exact ⟨this.2, this.1⟩
  have free : ∀ k ok, ops[k]? = some ok → ((k < i ∧ ¬ X k) ∨ (i < k ∧ X k)) → ∀ d, ok.dst = some d → d ∉ namesOf ops o ∧ o.dst ≠ some d := by
    intro k ok hok h d hd
    have hk : k < ops.size := (Array.getElem?_eq_some_iff.1 hok).1
    rcases unord k hk h with ⟨h1, h2⟩ | ⟨h1, h2⟩
    · exact ((K.order.free i o k ok ho hok h1).resolve_left h2).1 d hd
    · have := (K.order.free k ok i o hok ho h1).resolve_left h2
      exact ⟨this.2 d hd, fun c => (this.1 d c).2 hd⟩
  have both : ∀ k, k < ops.size → k ≠ i → ((k < i ∧ ¬ X k) ∨ (i < k ∧ X k)) → ∀ id, owner (T i) id → ¬ owner (T k) id := by
    intro k hk hne h id h1 h2
    obtain ⟨s1, s2⟩ := sep k hk h
    rcases h1 with h1 | h1
    · exact s1 id true h1 h2
    · rcases h2 with h2 | h2
      · exact s2 id true h2 (.inr h1)
      · obtain ⟨a1, a2⟩ := K.range hin
        obtain ⟨b1, b2⟩ := K.range hk
        rcases Nat.lt_or_gt_of_ne hne with hlt | hlt
        · have := K.next_mono (a := k + 1) (b := i) (by omega) (by omega); omega
        · have := K.next_mono (a := i + 1) (b := k) (by omega) (by omega); omega
  -- the environment is as in the text's order where i looks
  have henv : ∀ t, t ∈ namesOf ops o → (E i).get t = eX.get t := by
    intro t ht
    rcases K.lastEnv t i (by omega) with ⟨h1, h2⟩ | ⟨k, ok, h1, h2, h3, h4, h5⟩
    · rw [h2]
      symm
      refine M.env0 t fun k ok hk hok hd => ?_
      rcases Nat.lt_or_ge k i with hlt | hge
      · exact h1 k ok hlt hok hd
      · have hne : k ≠ i := fun c => hi (c ▸ hk)
        exact (free k ok hok (.inr ⟨by omega, hk⟩) t hd).1 ht
    · have hXk : X k := by
        refine Classical.byContradiction fun c => ?_
        exact (free k ok h2 (.inl ⟨h1, c⟩) t h3).1 ht
      rw [h5]
      symm
      refine M.env1 t k ok hXk h2 h3 fun j oj hj hoj hdj => ?_
      rcases Nat.lt_or_ge j i with hlt | hge
      · exact h4 j oj hlt hoj hdj
      · have hne : j ≠ i := fun c => hi (c ▸ hj)
        exact absurd ht (free j oj hoj (.inr ⟨by omega, hj⟩) t hdj).1
  -- so is memory where i touches it
  have hheap : ∀ id x, (id, x) ∈ (T i).log → SX.heap.get id = (H i).heap.get id := by
    intro id x hx
    rcases K.lastHeap id i (by omega) with ⟨h1, h2⟩ | ⟨k, h1, h2, h3, h4⟩
    · rw [h2]
      refine M.heap0 id fun k hk ho' => ?_
      rcases Nat.lt_or_ge k i with hlt | hge
      · exact h1 k hlt ho'
      · have hne : k ≠ i := fun c => hi (c ▸ hk)
        exact (sep k (M.inX k hk) (.inr ⟨by omega, hk⟩)).1 id x hx ho'
    · have hXk : X k := by
        refine Classical.byContradiction fun c => ?_
        exact (sep k (by omega) (.inl ⟨h1, c⟩)).1 id x hx h2
      rw [h4]
      refine M.heap1 id k hXk h2 fun j hj hoj => ?_
      rcases Nat.lt_or_ge j i with hlt | hge
      · exact h3 j hlt hoj
      · have hne : j ≠ i := fun c => hi (c ▸ hj)
        exact absurd hoj ((sep j (M.inX j hj) (.inr ⟨by omega, hj⟩)).1 id x hx)
  obtain ⟨o', ai, ho', hl, hc, hrun⟩ := K.stepAt hin
  obtain rfl : o = o' := by rw [ho] at ho'; simpa using ho'
  obtain ⟨v, hv, hrun2⟩ := instr_congr call hc henv hrun
  obtain ⟨_, D, hD, hsame, hext⟩ := Framed.instr K.framed ai eX _ _ _ hrun2
  simp only [List.append_nil] at hD
  obtain ⟨S2, g1, g2, g3, g4, g5⟩ := hext { heap := SX.heap, next := (H i).next, log := [] } rfl fun id b hb => hheap id b (by rw [hD]; exact hb)
  simp only at g2 g3 g4 g5
  obtain ⟨ra, rb⟩ := K.range hin
  have relX : Rel P r { heap := SX.heap, next := (H i).next, log := [] } w := ⟨M.rel.at_, M.rel.inj', M.rel.glo⟩
  have hfresh : Fresh r { heap := SX.heap, next := (H i).next, log := [] } S2 := by
    intro id a b c
    simp only at a
    rw [g2] at b
    rcases (M.dom id).1 c with c | ⟨k, hk, c1, c2⟩
    · exact hf0 id (Nat.le_trans (K.next_mono (Nat.zero_le i) (by omega)) a) (Nat.lt_of_lt_of_le b (K.next_mono (by omega) (Nat.le_refl _))) c
    · have hkn := M.inX k hk
      obtain ⟨b1, b2⟩ := K.range hkn
      have hne : k ≠ i := fun c => hi (c ▸ hk)
      rcases Nat.lt_or_gt_of_ne hne with hlt | hlt
      · have := K.next_mono (a := k + 1) (b := i) (by omega) (by omega); omega
      · have := K.next_mono (a := i + 1) (b := k) (by omega) (by omega); omega
  obtain ⟨v2, D2, r', w', v', k1, k2, k3, k4⟩ := instr_ok (tmps := tmps) (w := w) (r := r) K.hcall ho hc g1 relX M.env hfresh fn ro ds rest k0 cs
  have hD2 : D2 = (T i).log := by
    have := k2.log
    simp only [List.append_nil] at this
    rw [g3] at this
    simp only [List.append_nil] at this
    rw [← this, hD]
  subst hD2
  have hown : ∀ id, owner (T i) id ↔ ((id, true) ∈ (T i).log ∨ ((H i).next ≤ id ∧ id < (H (i + 1)).next)) := by
    intro id; unfold owner; rw [ra, rb]
  refine ⟨r', w', putT tmps o.dst v', S2, putD eX o.dst v, ⟨?_, ?_, k2.rel, ?_, by rw [putT_size]; exact M.msize, M.le.trans k2.le, ?_, Nat.le_trans M.hsize k2.size, k2.os.trans M.os, k2.tape.trans M.tape, k2.output.trans M.output, ?_, ?_, ?_, ?_, ?_, ?_, ?_⟩, k4⟩
  · rintro k (hk | rfl)
    · exact M.inX k hk
    · exact hin
  · rintro k ok (hk | rfl) hok e he hb
    · exact .inl (M.closed k ok hk hok e he hb)
    · rw [ho] at hok; simp at hok; subst hok; exact .inl (hpre e he hb)
  · have hdst := (compInstr_some hc).2.2.1
    have hvv : putD eX o.dst v = putD eX o.dst v2 := k1
    rw [hvv]
    exact (M.env.mono k2.le).putT (fun x hx => Nat.lt_of_lt_of_le (hdst x hx) (by rw [M.msize]; exact hm0)) k3
  · intro id
    rw [k2.dom id, M.dom id]
    simp only
    rw [g2]
    constructor
    · rintro ((h | ⟨k, hk, h⟩) | h)
      · exact .inl h
      · exact .inr ⟨k, .inl hk, h⟩
      · exact .inr ⟨i, .inr rfl, by rw [ra, rb]; exact h⟩
    · rintro (h | ⟨k, hk | rfl, h⟩)
      · exact .inl (.inl h)
      · exact .inl (.inr ⟨k, hk, h⟩)
      · exact .inr (by rw [ra, rb] at h; exact h)
  · intro k hk hnl
    rw [k2.frame k (Nat.lt_of_lt_of_le hk M.hsize) (fun c => hnl (M.live k hk (by obtain ⟨a, b, c1, c2⟩ := c; exact ⟨a, b, c1, c2⟩)))]
    exact M.frame k hk hnl
  · intro id b hb hn
    have hd0 := (h0.at_ id b hb).1
    have hkeep := M.kept id b hb fun k hk => hn k (.inl hk)
    have hno : ∀ k, X k → ¬ owner (T k) id := by
      intro k hk ho'
      rcases ho' with h | h
      · exact hn k (.inl hk) h
      · obtain ⟨b1, b2⟩ := K.range (M.inX k hk)
        exact hf0 id (by have := K.next_mono (a := 0) (b := k) (by omega) (by have := M.inX k hk; omega); omega) (by have := K.next_mono (a := k + 1) (b := ops.size) (by have := M.inX k hk; omega) (Nat.le_refl _); omega) hd0
    have hSX : SX.heap.get id = some b := by rw [M.heap0 id hno, hH0]; exact hb
    have := k2.kept id b hSX (hn i (.inr rfl))
    rw [M.le.to _ hd0] at this
    rw [this]; exact hkeep
  · intro k hk hlv
    have := k2.live k (Nat.lt_of_lt_of_le hk M.hsize) hlv
    exact M.live k hk (by obtain ⟨a, b, c1, c2⟩ := this; exact ⟨a, b, c1, c2⟩)
  · rintro id j hj hoj hmax
    by_cases hoi : owner (T i) id
    · have hij : j = i := by
        rcases hj with hj | hj
        · by_cases e : j = i
          · exact e
          · have := hmax i (.inr rfl) hoi
            exact absurd hoj (both j (M.inX j hj) e (.inr ⟨by omega, hj⟩) id hoi)
        · exact hj
      subst hij
      exact g4 id (by rw [← hD]; exact (hown id).1 hoi)
    · rcases hj with hj | rfl
      · have hoi' := fun c => hoi ((hown id).2 c)
        rw [g5 id (fun c => hoi' (.inl (by rw [hD]; exact c))) (fun c => hoi' (.inr c))]
        exact M.heap1 id j hj hoj fun k hk hok => hmax k (.inl hk) hok
      · exact absurd hoj hoi
  · intro id hno
    have hoi' := fun c => hno i (.inr rfl) ((hown id).2 c)
    rw [g5 id (fun c => hoi' (.inl (by rw [hD]; exact c))) (fun c => hoi' (.inr c))]
    exact M.heap0 id fun k hk => hno k (.inl hk)
  · rintro t j oj hj hoj hdj hmax
    by_cases hd : o.dst = some t
    · have hij : j = i := by
        rcases hj with hj | hj
        · by_cases e : j = i
          · exact e
          · have := hmax i o (.inr rfl) ho hd
            exact absurd hd (free j oj hoj (.inr ⟨by omega, hj⟩) t hdj).2
        · exact hj
      subst hij
      rw [hv, hd]
      simp only [putD, Tr.get_set_same]
    · rcases hj with hj | rfl
      · have e1 : (putD eX o.dst v).get t = eX.get t := by
          cases hdd : o.dst with
          | none => rfl
          | some d => simp only [putD]; rw [Tr.get_set, if_neg (fun c : t = d => hd (by rw [hdd, c]))]
        rw [e1]
        exact M.env1 t j oj hj hoj hdj fun k ok hk hok hdk => hmax k ok (.inl hk) hok hdk
      · rw [ho] at hoj; simp at hoj; subst hoj; exact absurd hdj hd
  · intro t hno
    have hd : o.dst ≠ some t := hno i o (.inr rfl) ho
    have e1 : (putD eX o.dst v).get t = eX.get t := by
      cases hdd : o.dst with
      | none => rfl
      | some d => simp only [putD]; rw [Tr.get_set, if_neg (fun c : t = d => hd (by rw [hdd, c]))]
    rw [e1]
    exact M.env0 t fun k ok hk hok => hno k ok (.inl hk) hok

/-- all orders that the model may draw -/
theorem Known.go {r0 : Ren} {S0 : St} {w0 : World} {m0 : Nat} (hm0 : n ≤ m0) (h0 : Rel P r0 S0 w0) (hH0 : (H 0).heap = S0.heap) (hf0 : ∀ id, (H 0).next ≤ id → id < (H ops.size).next → ¬ r0.dom id) (fn : FuncId) (ro : Option Nat) (ds : List Deferred) (k0 : List Item) (cs : List Frame) :
    ∀ (fuel t : Nat) (listed : Array Bool) (r : Ren) (w : World) (tmps : Array Value) (SX : St) (eX : Env), listed.size = ops.size →
      ((List.range ops.size).filter fun i => listed[i]? ≠ some true).length ≤ fuel →
      Mid P ops E H T r0 S0 w0 m0 (fun i => listed[i]? = some true) r w tmps SX eX →
      ∃ r' w' tmps' SX' eX', Mid P ops E H T r0 S0 w0 m0 (fun i => i < ops.size) r' w' tmps' SX' eX' ∧
        Steps P (lone (Fr fn ro tmps ds (.inRegion ops (Region.linearise.go .any ops fuel t listed []) :: k0)) cs w) (lone (Fr fn ro tmps' ds k0) cs w') := by
  intro fuel
  -- where all are listed
  have done : ∀ (listed : Array Bool) (r : Ren) (w : World) (tmps : Array Value) (SX : St) (eX : Env), listed.size = ops.size → (∀ i, i < ops.size → listed[i]? = some true) →
      Mid P ops E H T r0 S0 w0 m0 (fun i => listed[i]? = some true) r w tmps SX eX → Mid P ops E H T r0 S0 w0 m0 (fun i => i < ops.size) r w tmps SX eX := by
    intro listed r w tmps SX eX hs hall M
    have : (fun i => listed[i]? = some true) = (fun i => i < ops.size) := by
      funext i; exact propext ⟨fun h => M.inX i h, fun h => hall i h⟩
    rw [← this]; exact M
  induction fuel with
  | zero =>
    intro t listed r w tmps SX eX hs hle M
    have hall : ∀ i, i < ops.size → listed[i]? = some true := by
      intro i hi
      refine Classical.byContradiction fun c => ?_
      have : i ∈ (List.range ops.size).filter fun i => listed[i]? ≠ some true := by simp [hi]; exact fun h => c h
      have := List.length_pos_of_mem this
      omega
    exact ⟨r, w, tmps, SX, eX, done listed r w tmps SX eX hs hall M, by simp only [Region.linearise.go, List.reverse_nil]; exact .one st_regionEnd⟩
  | succ fuel ih =>
    intro t listed r w tmps SX eX hs hle M
    simp only [Region.linearise.go]
    generalize hrs : (List.range ops.size).filter (fun i => !listed.getD i true && ((ops[i]?).map (·.after.all fun e => !Region.binds .any e || listed.getD e.on false)).getD false) = rs
    have hmem : ∀ i, i ∈ rs → i < ops.size ∧ listed[i]? = some false ∧ ∃ o, ops[i]? = some o ∧ ∀ e ∈ o.after.toList, Region.binds .any e = true → listed[e.on]? = some true := by
      intro i hi
      rw [← hrs, List.mem_filter] at hi
      obtain ⟨h1, h2⟩ := hi
      have h1 : i < ops.size := List.mem_range.1 h1
      simp only [Bool.and_eq_true, Bool.not_eq_true'] at h2
      obtain ⟨h2, h3⟩ := h2
      have hop : ops[i]? = some ops[i] := by simp
      refine ⟨h1, ?_, ops[i], hop, ?_⟩
      · have hls : listed[i]? = some listed[i] := by simp [hs, h1]
        rw [Array.getD_eq_getD_getElem?, hls] at h2
        rw [hls]; simpa using h2
      · intro e he hb
        rw [hop] at h3
        simp only [Option.map_some, Option.getD_some, Array.all_eq_true_iff_forall_mem] at h3
        have := h3 e (Array.mem_toList_iff.1 he)
        simp only [hb, Bool.not_true, Bool.false_or] at this
        rw [Array.getD_eq_getD_getElem?] at this
        cases hl : listed[e.on]? with
        | none => simp [hl] at this
        | some b => simp [hl] at this; rw [this]
    by_cases hempty : rs = []
    · -- then all are listed
      have hall : ∀ i, i < ops.size → listed[i]? = some true := by
        intro i
        induction i using Nat.strongRecOn with
        | _ i ih2 =>
          intro hi
          have hop : ops[i]? = some ops[i] := by simp
          have hls : listed[i]? = some listed[i] := by simp [hs, hi]
          cases hb : listed[i] with
          | true => rw [hls, hb]
          | false =>
            exfalso
            have : i ∈ rs := by
              rw [← hrs, List.mem_filter]
              refine ⟨List.mem_range.2 hi, ?_⟩
              rw [Array.getD_eq_getD_getElem?, hls, hb, hop]
              simp only [Option.getD_some, Bool.not_false, Bool.true_and, Option.map_some, Array.all_eq_true_iff_forall_mem]
              intro e he
              by_cases hbd : Region.binds .any e = true
              · have hlt := K.order.back i _ hop e (Array.mem_toList_iff.2 he) hbd
                have := ih2 e.on hlt (by omega)
                rw [Array.getD_eq_getD_getElem?, this]; simp
              · simp [hbd]
            rw [hempty] at this; simp at this
      rw [hempty]
      simp only [List.length_nil, List.getElem?_nil, List.reverse_nil]
      exact ⟨r, w, tmps, SX, eX, done listed r w tmps SX eX hs hall M, .one st_regionEnd⟩
    · have hpos : 0 < rs.length := List.length_pos_iff.2 hempty
      have hlt : t % rs.length < rs.length := Nat.mod_lt _ hpos
      obtain ⟨i, hi⟩ : ∃ i, rs[t % rs.length]? = some i := ⟨rs[t % rs.length], by simp [hlt]⟩
      rw [hi]
      simp only
      obtain ⟨hin, hli, o, ho, hpre⟩ := hmem i (List.mem_of_getElem? hi)
      obtain ⟨r1, w1, tmps1, S1, e1, M1, st1⟩ := K.step hm0 h0 hH0 hf0 M (i := i) (by rw [hli]; simp) ho hpre fn ro ds (Region.linearise.go .any ops fuel (t / rs.length) (listed.setIfInBounds i true) []) k0 cs
      have hX : (fun k => listed[k]? = some true ∨ k = i) = (fun k => (listed.setIfInBounds i true)[k]? = some true) := by
        funext k
        apply propext
        rw [Array.getElem?_setIfInBounds]
        by_cases e : i = k
        · subst e; simp [hs, hin]
        · rw [if_neg e]; exact ⟨fun h => h.resolve_right (fun c => e c.symm), .inl⟩
      rw [hX] at M1
      have hcount : ((List.range ops.size).filter fun k => (listed.setIfInBounds i true)[k]? ≠ some true).length ≤ fuel := by
        have hsub : ((List.range ops.size).filter fun k => (listed.setIfInBounds i true)[k]? ≠ some true).length < ((List.range ops.size).filter fun k => listed[k]? ≠ some true).length := by
          refine filter_lt (a := i) (List.mem_range.2 hin) ?_ ?_ ?_
          · intro k hk
            simp only [ne_eq, decide_not, Bool.not_eq_true', decide_eq_false_iff_not] at hk ⊢
            intro c
            rw [Array.getElem?_setIfInBounds] at hk
            split at hk
            · rename_i e; subst e; rw [if_pos (by omega)] at hk; exact hk rfl
            · exact hk c
          · simp [hli]
          · simp [hs, hin]
        omega
      obtain ⟨r2, w2, tmps2, S2, e2, M2, st2⟩ := ih (t / rs.length) (listed.setIfInBounds i true) r1 w1 tmps1 S1 e1 (by simp [hs]) hcount M1
      refine ⟨r2, w2, tmps2, S2, e2, M2, ?_⟩
      rw [linearise_go_acc, List.reverse_singleton, List.singleton_append]
      exact st1.trans st2
end
end Go.Wb
end
/- The engine, part M7: a region that draws, whole. -/
section
set_option linter.unusedSimpArgs false
set_option linter.unusedVariables false
namespace Go.Wb
set_option linter.unusedSectionVars false
variable [GloK]
variable {P : Program}

theorem compInstrs_at {n : Nat} {ops : Array Oper} : ∀ {lst : List Oper} {l : List AInstr}, compInstrs P n ops lst = some l → l.length = lst.length ∧ ∀ (i : Nat) (o : Oper), lst[i]? = some o → ∃ ai : AInstr, l[i]? = some ai ∧ compInstr P n ops o = some ai
  | [], l, h => by
    simp only [compInstrs, Option.some.injEq] at h; subst h
    exact ⟨rfl, fun i o h => by simp at h⟩
  | o :: lst, l, h => by
    obtain ⟨ai, l', rfl, ha, hl⟩ := compInstrs_cons h
    obtain ⟨h1, h2⟩ := compInstrs_at hl
    refine ⟨by simp [h1], fun i x hx => ?_⟩
    cases i with
    | zero => simp at hx; subst hx; exact ⟨ai, rfl, ha⟩
    | succ i => exact h2 i x (by simpa using hx)

theorem inactive_log {t : Touch} (h : ¬ active t) : t.log = [] ∧ t.lo = t.hi := by
  unfold active at h
  constructor
  · exact Classical.byContradiction fun c => h (.inl c)
  · exact Classical.byContradiction fun c => h (.inr c)

/-- for each number that is drawn -/
theorem drawn_any {call : Tgt → List Value → M Value} {n : Nat} {ops : Array Oper} {l : List AInstr} {e e' : Env} {S S' : St} {r : Ren} {w w1 : World} {tmps : Array Value} (hcall : CallOk P call) (hfr : ∀ t a, Framed (call t a))
    (hc : compInstrs P n ops ops.toList = some l) (ho : orderOk ops = true) (h : drawnA call l (Region.before ops).toList e S = some (e', S')) (hn : n ≤ tmps.size) (hr : Rel P r S w) (hE : EnvRel r e tmps) (hf : Fresh r S S') (hw1 : Drew w w1) (t : Nat) (fn : FuncId) (ro : Option Nat) (ds : List Deferred) (k : List Item) (cs : List Frame) :
    ∃ D r' w' tmps', Sim P D r S w r' S' w' ∧ EnvRel r' e' tmps' ∧ tmps'.size = tmps.size ∧ Steps P (lone (Fr fn ro tmps ds (.inRegion ops (Region.linearise .any ops t) :: k)) cs w1) (lone (Fr fn ro tmps' ds k) cs w') := by
  unfold drawnA at h
  rw [M.bind_some] at h
  obtain ⟨⟨e1, ts⟩, S1, hgo, h⟩ := h
  simp only at h
  split at h
  case isFalse => exact (M.fail_some.1 h).elim
  rename_i hap
  obtain ⟨rfl, rfl⟩ := M.pure_some.1 h
  obtain ⟨E, H, T, hT, a1, a2, a3, a4, a5, a6, a7, _, a9, D, a10, a11, a12⟩ := drawn_trace l 0 e e' [] ts S S' hgo List.Pairwise.nil (by simp)
  obtain ⟨hlen, hat⟩ := compInstrs_at hc
  have hlen : l.length = ops.size := by simpa using hlen
  have hno := hT.lo
  have K : Known P call n ops l E H T := {
    hcall := hcall
    framed := hfr
    len := hlen
    comp := fun i o hi => hat i o (by simpa using hi)
    trace := hT
    order := orderOk_ok ho
    apart := by
      intro i k hki hi
      have hmask : (Region.before ops).toList.getD i 0 = (Region.before ops).getD i 0 := by simp [Array.getD_eq_getD_getElem?, List.getD]
      by_cases hai : active (T i)
      · by_cases hak : active (T k)
        · have hp := a7 i (by omega) hai
          have hq := a7 k (by omega) hak
          rcases apartAll_ok hap a9 _ hp _ hq (by simpa using hki) with hb | ⟨h1, h2⟩
          · left
            simp only [Nat.zero_add] at hb
            rw [hmask] at hb
            exact hb
          · refine .inr ⟨fun id x hx hox => ?_, fun id x hx hox => ?_⟩
            · have := hits_of hx hox; rw [h1] at this; simp at this
            · have := hits_of hx hox; rw [h2] at this; simp at this
        · obtain ⟨l1, l2⟩ := inactive_log hak
          refine .inr ⟨fun id x hx hox => ?_, fun id x hx hox => by rw [l1] at hx; simp at hx⟩
          rcases hox with hox | hox
          · rw [l1] at hox; simp at hox
          · omega
      · obtain ⟨l1, l2⟩ := inactive_log hai
        refine .inr ⟨fun id x hx hox => by rw [l1] at hx; simp at hx, fun id x hx hox => ?_⟩
        rcases hox with hox | hox
        · rw [l1] at hox; simp at hox
        · omega }
  have hN : l.length = ops.size := hlen
  rw [hN] at a4 a5 a6
  have hf0 : ∀ id, (H 0).next ≤ id → id < (H ops.size).next → ¬ r.dom id := fun id x y => hf id (by rw [← a3]; exact x) (by rw [← a6]; exact y)
  have hnone : ∀ i : Nat, ¬ ((Array.replicate ops.size false)[i]? = some true) := by
    intro i c
    rw [Array.getElem?_replicate] at c
    split at c <;> simp at c
  have M0 : Mid P ops E H T r S w tmps.size (fun i => (Array.replicate ops.size false)[i]? = some true) r w1 tmps S e := {
    inX := fun i hi => absurd hi (hnone i)
    closed := fun i o hi => absurd hi (hnone i)
    rel := (sim_drew hr hw1).rel
    env := hE
    msize := rfl
    le := .refl r
    dom := fun id => ⟨.inl, fun h => h.elim (fun h => h) fun ⟨i, hi, _⟩ => absurd hi (hnone i)⟩
    hsize := by rw [hw1.heap]; exact Nat.le_refl _
    os := hw1.os
    tape := hw1.tape
    output := hw1.output
    frame := fun k _ _ => by rw [hw1.heap]
    kept := fun id b _ _ => by rw [hw1.heap]
    live := fun k _ h => h
    heap1 := fun id i hi => absurd hi (hnone i)
    heap0 := fun id _ => by rw [a2]
    env1 := fun t i o hi => absurd hi (hnone i)
    env0 := fun t _ => by rw [a1] }
  obtain ⟨r', w', tmps', SX, eX, M, st⟩ := K.go hn hr a2 hf0 fn ro ds k cs ops.size t (Array.replicate ops.size false) r w1 tmps S e (by simp) (by
    have := List.length_filter_le (fun i => decide ((Array.replicate ops.size false)[i]? ≠ some true)) (List.range ops.size)
    simpa using this) M0
  have hheap : ∀ id, S'.heap.get id = SX.heap.get id := by
    intro id
    rw [← a5]
    rcases K.lastHeap id ops.size (Nat.le_refl _) with ⟨h1, h2⟩ | ⟨k, h1, h2, h3, h4⟩
    · rw [h2]; exact (M.heap0 id fun i hi => h1 i hi).symm
    · rw [h4]; exact (M.heap1 id k h1 h2 fun j hj hoj => h3 j hj hoj).symm
  have henv : ∀ t, e'.get t = eX.get t := by
    intro t
    rw [← a4]
    rcases K.lastEnv t ops.size (Nat.le_refl _) with ⟨h1, h2⟩ | ⟨k, o, h1, h2, h3, h4, h5⟩
    · rw [h2]; exact (M.env0 t fun i o hi => h1 i o hi).symm
    · rw [h5]; exact (M.env1 t k o h1 h2 h3 fun j o' hj => h4 j o' hj).symm
  have hlive : ∀ k, Live r' S' k → Live r' SX k := fun k ⟨id, b, hb, e⟩ => ⟨id, b, by rw [← hheap]; exact hb, e⟩
  have hcover : ∀ m, m ≤ ops.size → ∀ id, (H 0).next ≤ id → id < (H m).next → ∃ i, i < m ∧ (H i).next ≤ id ∧ id < (H (i + 1)).next := by
    intro m
    induction m with
    | zero => intro _ id x y; omega
    | succ m ih =>
      intro hm id x y
      by_cases c : id < (H m).next
      · obtain ⟨i, h1, h2⟩ := ih (by omega) id x c
        exact ⟨i, by omega, h2⟩
      · exact ⟨m, by omega, by omega, y⟩
  refine ⟨D, r', w', tmps', ?_, ?_, M.msize, st⟩
  · exact {
      le := M.le
      rel := ⟨fun id b hb => M.rel.at_ id b (by rw [← hheap]; exact hb), fun i j bi bj hi hj => M.rel.inj' i j bi bj (by rw [← hheap]; exact hi) (by rw [← hheap]; exact hj), M.rel.glo.keep (.refl r') fun i c hc => by rw [hheap]; exact hc⟩
      log := a10
      next := by rw [← a3, ← a6]; exact K.next_mono (Nat.zero_le _) (Nat.le_refl _)
      dom := fun id => by
        rw [M.dom id]
        constructor
        · rintro (h | ⟨i, hi, h1, h2⟩)
          · exact .inl h
          · obtain ⟨b1, b2⟩ := K.range hi
            have x1 := K.next_mono (a := 0) (b := i) (by omega) (by omega)
            have x2 := K.next_mono (a := i + 1) (b := ops.size) (by omega) (Nat.le_refl _)
            exact .inr ⟨by omega, by omega⟩
        · rintro (h | ⟨h1, h2⟩)
          · exact .inl h
          · obtain ⟨i, hi, x1, x2⟩ := hcover ops.size (Nat.le_refl _) id (by omega) (by omega)
            obtain ⟨b1, b2⟩ := K.range hi
            exact .inr ⟨i, hi, by omega, by omega⟩
      size := M.hsize
      os := M.os
      tape := M.tape
      output := M.output
      frame := M.frame
      kept := fun id b hb hnD => M.kept id b hb fun i hi c => hnD (a12 i (by omega) _ c)
      same := fun id hnD hx => by
        rw [← a5]
        rcases K.lastHeap id ops.size (Nat.le_refl _) with ⟨h1, h2⟩ | ⟨k, h1, h2, h3, h4⟩
        · rw [h2, a2]
        · exfalso
          rcases h2 with h2 | h2
          · exact hnD (a12 k (by omega) _ h2)
          · obtain ⟨b1, b2⟩ := K.range h1
            have x1 := K.next_mono (a := 0) (b := k) (by omega) (by omega)
            have x2 := K.next_mono (a := k + 1) (b := ops.size) (by omega) (Nat.le_refl _)
            exact hx ⟨by omega, by omega⟩
      live := fun k hk c => M.live k hk (hlive k c) }
  · refine ⟨fun t v hv => ?_, M.env.glo⟩
    exact M.env.at_ t v (by rw [← henv]; exact hv)
end Go.Wb
end
/- The engine, part M8: code. -/
section
set_option linter.unusedSimpArgs false
set_option linter.unusedVariables false
namespace Go.Wb
set_option linter.unusedSectionVars false
variable [GloK]
variable {P : Program} {lb : Nat}

def RoOk (r : Ren) (S : St) (w : World) : Option Nat → Prop
  | none => True
  | some l => ¬ Live r S l ∧ ∃ L, w.heap[l]? = some (.loop L)
def mkD (b : Nat) : Deferred := { target := .collected b, args := #[] }
def DsOk (lb : Nat) (w : World) (ds : List Deferred) : Prop := lb ≤ w.heap.size ∧ ∃ rs : List Nat, ds = rs.map mkD ∧ rs.Nodup ∧ ∀ b ∈ rs, w.heap[b]? = some (.deferred (some [])) ∧ lb ≤ b
def ArrTodo (x : Ext) (k k' : List Item) : Prop := match x with
  | .normal => k' = k
  | .exit id => ∃ k2, k' = .code (.exit id) :: k2 ∧ exitTo id k2 = exitTo id k
  | .ret => ∃ k2, k' = .code .ret :: k2

theorem ro_next {D : List (Nat × Bool)} {r r' : Ren} {S S' : St} {w w' : World} {ro : Option Nat} (hs : Sim P D r S w r' S' w') (h : RoOk r S w ro) : RoOk r' S' w' ro := by
  cases ro with
  | none => trivial
  | some l =>
    obtain ⟨h1, L, h2⟩ := h
    have hlt := (Array.getElem?_eq_some_iff.1 h2).1
    exact ⟨fun c => h1 (hs.live l hlt c), L, by rw [hs.frame l hlt h1]; exact h2⟩
theorem deferred_dead {r : Ren} {S : St} {w : World} {b : Nat} {x : Option (List Deferred)} (hr : Rel P r S w) (h : w.heap[b]? = some (.deferred x)) : ¬ Live r S b := by
  rintro ⟨id, bk, hb, rfl⟩
  obtain ⟨_, o, h2, h3⟩ := hr.at_ id bk hb
  rw [h] at h2
  obtain rfl : Obj.deferred x = o := by simpa using h2
  cases bk <;> exact h3
theorem ds_next {D : List (Nat × Bool)} {r r' : Ren} {S S' : St} {w w' : World} {ds : List Deferred} (hr : Rel P r S w) (hs : Sim P D r S w r' S' w') (h : DsOk lb w ds) : DsOk lb w' ds := by
  obtain ⟨h0, rs, h1, h2, h3⟩ := h
  refine ⟨Nat.le_trans h0 hs.size, rs, h1, h2, fun b hb => ?_⟩
  obtain ⟨this, hlb⟩ := h3 b hb
  rw [hs.frame b (Array.getElem?_eq_some_iff.1 this).1 (deferred_dead hr this)]
  exact ⟨this, hlb⟩

theorem arr_pass {x : Ext} {i : Item} {k k' : List Item} (hi : ∀ id, exitTo id (i :: k) = exitTo id k) (hx : x ≠ .normal) (h : ArrTodo x (i :: k) k') : ArrTodo x k k' := by
  cases x with
  | normal => exact absurd rfl hx
  | exit id => obtain ⟨k2, h1, h2⟩ := h; exact ⟨k2, h1, by rw [h2, hi]⟩
  | ret => exact h

/-- what a run of code comes to -/
def CodeRes (P : Program) (lb : Nat) (c : Code) (r : Ren) (S : St) (w : World) (tmps : Array Value) (x : Ext) (e' : Env) (S' : St) (fn : FuncId) (ro : Option Nat) (ds : List Deferred) (k : List Item) (cs : List Frame) : Prop :=
  ∃ D r' w' tmps' ds', Sim P D r S w r' S' w' ∧ EnvRel r' e' tmps' ∧ tmps'.size = tmps.size ∧ DsOk lb w' ds' ∧ (ro ≠ none → ds' = ds) ∧
    ∃ k', ArrTodo x k k' ∧ Steps P (lone (Fr fn ro tmps ds (.code c :: k)) cs w) (lone (Fr fn ro tmps' ds' k') cs w')

section
variable {call : Tgt → List Value → M Value}

theorem codeOf_exit {x : Ext} (h : x ≠ .normal) : ∃ c, codeOf x = some c ∧ ∀ k, ArrTodo x k (.code c :: k) := by
  cases x with
  | normal => exact absurd rfl h
  | exit id => exact ⟨_, rfl, fun k => ⟨k, rfl, rfl⟩⟩
  | ret => exact ⟨_, rfl, fun k => ⟨k, rfl⟩⟩


/-- one step enters a loop over a function: the record, and at an outermost loop the block for its deferred calls -/
theorem enter_loop {fn : FuncId} {ro : Option Nat} {tmps : Array Value} {ps : Array Tmp} {as bd : Code} {r : Ren} {S : St} {w : World} {ds : List Deferred} (hr : Rel P r S w) (hro : RoOk r S w ro) (hds : DsOk lb w ds) :
    ∃ w1 w2 dl mark, (Instr.enterLoop fn tmps ps as bd ro).run P w = .ok (w1.heap.size, mark) w2 ∧ (∃ D, D = [] ∧ Sim P D r S w r S w1) ∧
      New w1 w2 (.loop { state := .ready, pending := none, fn, tmps, params := ps, assign := as, body := bd, defers := dl }) ∧ DsOk lb w2 (mark ++ ds) ∧ (ro ≠ none → mark = []) := by
  cases ro with
  | some l =>
    obtain ⟨hl, L, hL⟩ := hro
    have hnew := alloc_new w (.loop { state := .ready, pending := none, fn, tmps, params := ps, assign := as, body := bd, defers := L.defers })
    refine ⟨w, _, L.defers, [], ?_, ⟨[], rfl, Sim.refl hr⟩, hnew, ?_, fun _ => rfl⟩
    · simp [Instr.enterLoop, Sem.run_bind, run_getLoop hL, Result.andThen_ok, run_newObj]
    · obtain ⟨h0, rs, h1, h2, h3⟩ := hds
      exact ⟨by rw [hnew.size]; omega, rs, h1, h2, fun b hb => by rw [hnew.there (Array.getElem?_eq_some_iff.1 (h3 b hb).1).1]; exact h3 b hb⟩
  | none =>
    have hn1 := alloc_new w (.deferred (some []))
    have hn2 := alloc_new { w with heap := w.heap.push (.deferred (some [])) } (.loop { state := .ready, pending := none, fn, tmps, params := ps, assign := as, body := bd, defers := w.heap.size })
    refine ⟨_, _, w.heap.size, [mkD w.heap.size], ?_, ⟨[], rfl, sim_ghost_new hr hn1⟩, hn2, ?_, fun h => absurd rfl h⟩
    · simp only [Instr.enterLoop, Sem.run_bind, Result.andThen_ok, run_newObj, mkD, Sem.run_pure]
    · obtain ⟨h0, rs, h1, h2, h3⟩ := hds
      refine ⟨by rw [hn2.size, hn1.size]; omega, w.heap.size :: rs, by simp [h1], ?_, ?_⟩
      · refine List.nodup_cons.2 ⟨fun c => ?_, h2⟩
        have := (Array.getElem?_eq_some_iff.1 (h3 _ c).1).1
        omega
      · intro b hb
        rcases List.mem_cons.1 hb with rfl | hb
        · rw [hn2.there (by rw [hn1.size]; omega)]; exact ⟨hn1.here, h0⟩
        · have hlt := (Array.getElem?_eq_some_iff.1 (h3 b hb).1).1
          rw [hn2.there (by rw [hn1.size]; omega), hn1.there hlt]; exact h3 b hb

theorem end_loop {l : Nat} {L : Loop} {w : World} (h : w.heap[l]? = some (.loop L)) (hb : L.state ≠ .busy) : ∃ w', (Instr.endLoop l).run P w = .ok L.pending w' ∧ Upd w w' l (.loop { L with state := .exhausted }) := by
  obtain ⟨w', h1, h2⟩ := setObj_upd (P := P) (o' := .loop { L with state := .exhausted }) h (by intros; simp)
  refine ⟨w', ?_, h2⟩
  have hb' : (L.state == .busy) = false := by
    cases hs : L.state <;> first | rfl | exact absurd hs hb
  simp only [Instr.endLoop, Sem.run_bind, run_getLoop h, Result.andThen_ok, hb', Bool.false_eq_true, if_false, Sem.run_pure, h1]

theorem st_endRange {fn : FuncId} {ro : Option Nat} {tmps : Array Value} {ds : List Deferred} {k : List Item} {cs : List Frame} {w w' : World} {l : Nat} {jump : Option Code} (h : (Instr.endLoop l).run P w = .ok jump w') :
    step P (lone (Fr fn ro tmps ds (.endRangeFunc l :: k)) cs w) = .next (lone (Fr fn ro tmps ds ((jump.map Item.code).toList ++ k)) cs w') :=
  step_lone_go (by simp [stepG, stepG.exec, Fr, Sem.runT_eq, h, GStep.bare_after])

theorem steps_range {fn : FuncId} {ro : Option Nat} {tmps : Array Value} {ds mark : List Deferred} {k : List Item} {cs : List Frame} {w w2 w' : World} {l : Nat} {g : Operand} {ps : Array Tmp} {as bd : Code} {v' : Value}
    (he : (Instr.enterLoop fn tmps ps as bd ro).run P w = .ok (l, mark) w2) {s : Sem Next}
    (hs : (do let d ← resolve (evT tmps) { callee := .value g, args := #[.const (.func (.yield l) #[] #[])], argTypes := #[] } 0; invoke d.target d.args) = s) (h : CallAt P (Fr fn ro tmps (mark ++ ds) (.inRangeFunc l :: k)) cs s w2 v' w') :
    Steps P (lone (Fr fn ro tmps ds (.code (.rangeFunc g ps as bd) :: k)) cs w) (lone (Fr fn ro tmps (mark ++ ds) (.endRangeFunc l :: k)) cs w') := by
  have hev := eval_evT (Fr fn ro tmps (mark ++ ds) (.inRangeFunc l :: k))
  have hg : (stepG P true { frame := Fr fn ro tmps ds (.code (.rangeFunc g ps as bd) :: k), callers := cs, status := .running, dying := none } w).bare =
      (stepG.apply P true (Fr fn ro tmps (mark ++ ds) (.inRangeFunc l :: k)) cs none s w2).bare := by
    subst hs
    simp only [Fr] at hev
    simp [stepG, stepG.exec, Fr, Sem.runT_eq, he, GStep.bare_after, hev]
  have hfin : (Fr fn ro tmps (mark ++ ds) (.inRangeFunc l :: k)).finish v' = Fr fn ro tmps (mark ++ ds) (.endRangeFunc l :: k) := by simp [Frame.finish, Fr]
  rw [← hfin]
  rcases h with h | ⟨h, rfl⟩ | ⟨f, a, h, h2⟩ | ⟨l', f, t, a, b, h, h2⟩
  · exact .one (step_lone_go (by rw [hg]; simp [stepG.apply, h]))
  · exact .one (step_lone_go (by rw [hg]; simp [stepG.apply, h]))
  · refine .head (m₁ := lone (Frame.enter P f a .normal) (Fr fn ro tmps (mark ++ ds) (.inRangeFunc l :: k) :: cs) w2) (step_lone_go ?_) h2
    rw [hg]; simp [stepG.apply, h, Fr]
  · refine .head (m₁ := lone (Frame.round l' f t a b .normal) (Fr fn ro tmps (mark ++ ds) (.inRangeFunc l :: k) :: cs) w2) (step_lone_go ?_) h2
    rw [hg]; simp [stepG.apply, h, Fr]

theorem code_ok (hm : P.follows .mixedOrders = true) (hcall : CallOk P call) (hfr : ∀ t a, Framed (call t a)) (fuel : Nat) : ∀ (c : Code) (n : Nat) (ac : ACode), compCode P n c = some ac →
    ∀ (e : Env) (S : St) (x : Ext) (e' : Env) (S' : St), run call fuel ac e S = some ((x, e'), S') → ∀ (r : Ren) (w : World) (tmps : Array Value), n ≤ tmps.size → Rel P r S w → EnvRel r e tmps → Fresh r S S' →
    ∀ fn ro ds, RoOk r S w ro → DsOk lb w ds → ∀ k cs, CodeRes P lb c r S w tmps x e' S' fn ro ds k cs := by
  intro c
  induction c with
  | skip =>
    intro n ac hc e S x e' S' h r w tmps hn hr hE hf fn ro ds hro hds k cs
    simp only [compCode, Option.some.injEq] at hc; subst hc
    obtain ⟨h1, rfl⟩ := M.pure_some.1 h
    obtain ⟨rfl, rfl⟩ : x = .normal ∧ e' = e := by simpa using h1
    exact ⟨[], r, w, tmps, ds, Sim.refl hr, hE, rfl, hds, fun _ => rfl, ⟨k, rfl, .one st_skip⟩⟩
  | label l =>
    intro n ac hc e S x e' S' h r w tmps hn hr hE hf fn ro ds hro hds k cs
    simp only [compCode, Option.some.injEq] at hc; subst hc
    obtain ⟨h1, rfl⟩ := M.pure_some.1 h
    obtain ⟨rfl, rfl⟩ : x = .normal ∧ e' = e := by simpa using h1
    exact ⟨[], r, w, tmps, ds, Sim.refl hr, hE, rfl, hds, fun _ => rfl, ⟨k, rfl, .one st_label⟩⟩
  | goto l => intro n ac hc; simp [compCode] at hc
  | refuse s => intro n ac hc; simp [compCode] at hc
  | exit id =>
    intro n ac hc e S x e' S' h r w tmps hn hr hE hf fn ro ds hro hds k cs
    simp only [compCode, Option.some.injEq] at hc; subst hc
    obtain ⟨h1, rfl⟩ := M.pure_some.1 h
    obtain ⟨rfl, rfl⟩ : x = .exit id ∧ e' = e := by simpa using h1
    exact ⟨[], r, w, tmps, ds, Sim.refl hr, hE, rfl, hds, fun _ => rfl, ⟨_, ⟨k, rfl, rfl⟩, .refl _ _⟩⟩
  | ret =>
    intro n ac hc e S x e' S' h r w tmps hn hr hE hf fn ro ds hro hds k cs
    simp only [compCode, Option.some.injEq] at hc; subst hc
    obtain ⟨h1, rfl⟩ := M.pure_some.1 h
    obtain ⟨rfl, rfl⟩ : x = .ret ∧ e' = e := by simpa using h1
    exact ⟨[], r, w, tmps, ds, Sim.refl hr, hE, rfl, hds, fun _ => rfl, ⟨_, ⟨k, rfl⟩, .refl _ _⟩⟩
  | region id ops draw =>
    intro n ac hc e S x e' S' h r w tmps hn hr hE hf fn ro ds hro hds k cs
    simp only [compCode] at hc
    split at hc
    · simp at hc
    rename_i l hl
    split at hc
    · rename_i hd
      split at hc
      · rename_i hord
        simp only [Option.some.injEq] at hc; subst hc
        simp only [run, M.bind_some] at h
        obtain ⟨e1, S1, h1, h2⟩ := h
        obtain ⟨h3, rfl⟩ := M.pure_some.1 h2
        obtain ⟨rfl, rfl⟩ : x = .normal ∧ e' = e1 := by simpa using h3
        obtain ⟨D, r', w', tmps', k1, k2, k3, k4⟩ := drawn_any hcall hfr hl hord h1 hn hr hE hf (w1 := { w with drawn := w.drawn + 1 }) ⟨rfl, rfl, rfl, rfl⟩ (w.tape w.drawn (.order fn id)) fn ro ds k cs
        refine ⟨D, r', w', tmps', ds, k1, k2, k3, ds_next hr k1 hds, fun _ => rfl, ⟨k, rfl, ?_⟩⟩
        rw [hd]
        exact .head (st_draw hm) k4
      · simp at hc
    · rename_i hd
      have hd : draw = false := by simpa using hd
      simp only [Option.some.injEq] at hc; subst hc
      simp only [run, M.bind_some] at h
      obtain ⟨e1, S1, h1, h2⟩ := h
      obtain ⟨h3, rfl⟩ := M.pure_some.1 h2
      obtain ⟨rfl, rfl⟩ : x = .normal ∧ e' = e1 := by simpa using h3
      obtain ⟨D, r', w', tmps', k1, k2, k3, k4⟩ := instrs_ok hcall hfr ops.toList 0 l e S r w tmps hl (fun j o hj => by simpa using hj) h1 hn hr hE hf fn ro ds k cs
      refine ⟨D, r', w', tmps', ds, k1, k2, k3, ds_next hr k1 hds, fun _ => rfl, ⟨k, rfl, ?_⟩⟩
      rw [hd]
      have := k4
      rw [← List.range_eq_range', Array.length_toList] at this
      exact .head st_region this
  | seq a b iha ihb =>
    intro n ac hc e S x e' S' h r w tmps hn hr hE hf fn ro ds hro hds k cs
    simp only [compCode] at hc
    split at hc
    · rename_i ca cb hca hcb
      simp only [Option.some.injEq] at hc; subst hc
      simp only [run, M.bind_some] at h
      obtain ⟨⟨x1, e1⟩, S1, h1, h2⟩ := h
      by_cases hx1 : x1 = .normal
      · subst hx1
        simp only at h2
        have hmono := Framed.next (Framed.run hfr fuel cb e1) h2
        obtain ⟨D1, r1, w1, tmps1, ds1, k1, k2, k3, k4, k5, k6⟩ := iha n ca hca e S .normal e1 S1 h1 r w tmps hn hr hE (hf.left hmono) fn ro ds hro hds (.code b :: k) cs
        obtain ⟨D2, r2, w2, tmps2, ds2, m1, m2, m3, m4, m5, m6⟩ := ihb n cb hcb e1 S1 x e' S' h2 r1 w1 tmps1 (by rw [k3]; exact hn) k1.rel k2 (hf.right k1) fn ro ds1 (ro_next k1 hro) k4 k cs
        refine ⟨_, r2, w2, tmps2, ds2, k1.trans hf hr m1, m2, by rw [m3, k3], m4, fun hne => by rw [m5 hne, k5 hne], ?_⟩
        obtain ⟨k1', q1, q2⟩ := k6
        obtain rfl : k1' = .code b :: k := q1
        obtain ⟨k2', q3, q4⟩ := m6
        exact ⟨k2', q3, .head st_seq (q2.trans q4)⟩
      · have h2' : M.pure (x1, e1) S1 = some ((x, e'), S') := by
          cases x1 with
          | normal => exact absurd rfl hx1
          | exit id => exact h2
          | ret => exact h2
        obtain ⟨h3, rfl⟩ := M.pure_some.1 h2'
        obtain ⟨rfl, rfl⟩ : x = x1 ∧ e' = e1 := by simpa using h3
        obtain ⟨D1, r1, w1, tmps1, ds1, k1, k2, k3, k4, k5, k6⟩ := iha n ca hca e S x e' S' h1 r w tmps hn hr hE hf fn ro ds hro hds (.code b :: k) cs
        refine ⟨D1, r1, w1, tmps1, ds1, k1, k2, k3, k4, k5, ?_⟩
        obtain ⟨k', q1, q2⟩ := k6
        exact ⟨k', arr_pass (fun id => by simp [exitTo]) hx1 q1, .head st_seq q2⟩
    · simp at hc
  | cond c a b iha ihb =>
    intro n ac hc e S x e' S' h r w tmps hn hr hE hf fn ro ds hro hds k cs
    simp only [compCode] at hc
    split at hc
    · rename_i cc ca cb hcc hca hcb
      simp only [Option.some.injEq] at hc; subst hc
      simp only [run, M.bind_some, M.lift_some, Option.bind_eq_some_iff] at h
      obtain ⟨t, _, ⟨⟨v, hv, hb⟩, rfl⟩, h⟩ := h
      obtain rfl := asBool_inv hb
      have hev := (atom_ok hcc hv hE).bool_inv
      cases t with
      | true =>
        obtain ⟨D1, r1, w1, tmps1, ds1, k1, k2, k3, k4, k5, k6⟩ := iha n ca hca e _ x e' S' h r w tmps hn hr hE hf fn ro ds hro hds k cs
        refine ⟨D1, r1, w1, tmps1, ds1, k1, k2, k3, k4, k5, ?_⟩
        obtain ⟨k', q1, q2⟩ := k6
        exact ⟨k', q1, .head (st_cond hev) q2⟩
      | false =>
        obtain ⟨D1, r1, w1, tmps1, ds1, k1, k2, k3, k4, k5, k6⟩ := ihb n cb hcb e _ x e' S' h r w tmps hn hr hE hf fn ro ds hro hds k cs
        refine ⟨D1, r1, w1, tmps1, ds1, k1, k2, k3, k4, k5, ?_⟩
        obtain ⟨k', q1, q2⟩ := k6
        exact ⟨k', q1, .head (st_cond hev) q2⟩
    · simp at hc
  | scope a iha =>
    intro n ac hc e S x e' S' h r w tmps hn hr hE hf fn ro ds hro hds k cs
    simp only [compCode] at hc
    obtain ⟨D1, r1, w1, tmps1, ds1, k1, k2, k3, k4, k5, k6⟩ := iha n ac hc e S x e' S' h r w tmps hn hr hE hf fn ro ds hro hds (.inScope a :: k) cs
    refine ⟨D1, r1, w1, tmps1, ds1, k1, k2, k3, k4, k5, ?_⟩
    obtain ⟨k', q1, q2⟩ := k6
    by_cases hx : x = .normal
    · subst hx
      obtain rfl : k' = .inScope a :: k := q1
      exact ⟨k, rfl, .head st_scope (q2.trans (.one st_inScope))⟩
    · exact ⟨k', arr_pass (fun id => by simp [exitTo]) hx q1, .head st_scope q2⟩
  | block id a iha =>
    intro n ac hc e S x e' S' h r w tmps hn hr hE hf fn ro ds hro hds k cs
    simp only [compCode] at hc
    split at hc
    · rename_i ca hca
      simp only [Option.some.injEq] at hc; subst hc
      simp only [run, M.bind_some] at h
      obtain ⟨⟨x1, e1⟩, S1, h1, h2⟩ := h
      have h3 : S' = S1 ∧ e' = e1 ∧ ((x1 = .exit id ∧ x = .normal) ∨ ((x1 ≠ .exit id) ∧ x = x1)) := by
        cases x1 with
        | normal => obtain ⟨h3, rfl⟩ := M.pure_some.1 h2; simp at h3; exact ⟨rfl, h3.2, .inr ⟨by simp, h3.1⟩⟩
        | ret => obtain ⟨h3, rfl⟩ := M.pure_some.1 h2; simp at h3; exact ⟨rfl, h3.2, .inr ⟨by simp, h3.1⟩⟩
        | exit i =>
          simp only at h2
          split at h2
          · rename_i hi; subst hi
            obtain ⟨h3, rfl⟩ := M.pure_some.1 h2; simp at h3; exact ⟨rfl, h3.2, .inl ⟨rfl, h3.1⟩⟩
          · rename_i hi
            obtain ⟨h3, rfl⟩ := M.pure_some.1 h2; simp at h3; exact ⟨rfl, h3.2, .inr ⟨by simpa using hi, h3.1⟩⟩
      obtain ⟨rfl, rfl, h3⟩ := h3
      obtain ⟨D1, r1, w1, tmps1, ds1, k1, k2, k3, k4, k5, k6⟩ := iha n ca hca e S x1 e' S' h1 r w tmps hn hr hE hf fn ro ds hro hds (.inBlock id :: k) cs
      refine ⟨D1, r1, w1, tmps1, ds1, k1, k2, k3, k4, k5, ?_⟩
      obtain ⟨k', q1, q2⟩ := k6
      rcases h3 with ⟨rfl, rfl⟩ | ⟨hne, rfl⟩
      · obtain ⟨k2', rfl, q3⟩ := q1
        refine ⟨k, rfl, .head st_block (q2.trans (.one (st_exit ?_)))⟩
        rw [q3]; simp [exitTo]
      · cases x with
        | normal =>
          obtain rfl : k' = .inBlock id :: k := q1
          exact ⟨k, rfl, .head st_block (q2.trans (.one st_inBlock))⟩
        | ret => exact ⟨k', q1, .head st_block q2⟩
        | exit i =>
          obtain ⟨k2', rfl, q3⟩ := q1
          have hi : ¬ (id == i) = true := by simp; intro c; exact hne (by rw [c])
          exact ⟨_, ⟨k2', rfl, by rw [q3]; simp [exitTo, hi]⟩, .head st_block q2⟩
    · simp at hc
  | loop a iha =>
    intro n ac hc e S x e' S' h r w tmps hn hr hE hf fn ro ds hro hds k cs
    simp only [compCode] at hc
    split at hc
    · rename_i ca hca
      simp only [Option.some.injEq] at hc; subst hc
      simp only [run] at h
      have key : ∀ (m : Nat) (e : Env) (S : St) (r : Ren) (w : World) (tmps : Array Value) (ds : List Deferred), iter (run call fuel ca) m e S = some ((x, e'), S') → n ≤ tmps.size → Rel P r S w → EnvRel r e tmps → Fresh r S S' → RoOk r S w ro → DsOk lb w ds →
          ∃ D r' w' tmps' ds', Sim P D r S w r' S' w' ∧ EnvRel r' e' tmps' ∧ tmps'.size = tmps.size ∧ DsOk lb w' ds' ∧ (ro ≠ none → ds' = ds) ∧
            ∃ k', ArrTodo x k k' ∧ Steps P (lone (Fr fn ro tmps ds (.code a :: .inLoop a :: k)) cs w) (lone (Fr fn ro tmps' ds' k') cs w') := by
        intro m
        induction m with
        | zero => intro e S r w tmps ds h; exact (M.fail_some.1 h).elim
        | succ m ih =>
          intro e S r w tmps ds h hn hr hE hf hro hds
          simp only [iter, M.bind_some] at h
          obtain ⟨⟨x1, e1⟩, S1, h1, h2⟩ := h
          by_cases hx1 : x1 = .normal
          · subst hx1
            simp only at h2
            have hmono := Framed.next (Framed.iter (fun e => Framed.run hfr fuel ca e) m e1) h2
            obtain ⟨D1, r1, w1, tmps1, ds1, k1, k2, k3, k4, k5, k6⟩ := iha n ca hca e S .normal e1 S1 h1 r w tmps hn hr hE (hf.left hmono) fn ro ds hro hds (.inLoop a :: k) cs
            obtain ⟨D2, r2, w2, tmps2, ds2, m1, m2, m3, m4, m5, m6⟩ := ih e1 S1 r1 w1 tmps1 ds1 h2 (by rw [k3]; exact hn) k1.rel k2 (hf.right k1) (ro_next k1 hro) k4
            refine ⟨_, r2, w2, tmps2, ds2, k1.trans hf hr m1, m2, by rw [m3, k3], m4, fun hne => by rw [m5 hne, k5 hne], ?_⟩
            obtain ⟨k1', q1, q2⟩ := k6
            obtain rfl : k1' = .inLoop a :: k := q1
            obtain ⟨k2', q3, q4⟩ := m6
            exact ⟨k2', q3, (q2.trans (.one st_inLoop)).trans q4⟩
          · have h2' : M.pure (x1, e1) S1 = some ((x, e'), S') := by
              cases x1 with
              | normal => exact absurd rfl hx1
              | exit id => exact h2
              | ret => exact h2
            obtain ⟨h3, rfl⟩ := M.pure_some.1 h2'
            obtain ⟨rfl, rfl⟩ : x = x1 ∧ e' = e1 := by simpa using h3
            obtain ⟨D1, r1, w1, tmps1, ds1, k1, k2, k3, k4, k5, k6⟩ := iha n ca hca e S x e' S' h1 r w tmps hn hr hE hf fn ro ds hro hds (.inLoop a :: k) cs
            refine ⟨D1, r1, w1, tmps1, ds1, k1, k2, k3, k4, k5, ?_⟩
            obtain ⟨k', q1, q2⟩ := k6
            exact ⟨k', arr_pass (fun id => by simp [exitTo]) hx1 q1, q2⟩
      obtain ⟨D1, r1, w1, tmps1, ds1, k1, k2, k3, k4, k5, k6⟩ := key fuel e S r w tmps ds h hn hr hE hf hro hds
      refine ⟨D1, r1, w1, tmps1, ds1, k1, k2, k3, k4, k5, ?_⟩
      obtain ⟨k', q1, q2⟩ := k6
      exact ⟨k', q1, .head st_loop q2⟩
    · simp at hc
  | rangeFunc f ps assign body iha ihb =>
    intro n ac hc e S x e' S' h r w tmps hn hr hE hf fn ro ds hro hds k cs
    simp only [compCode] at hc
    split at hc
    · rename_i af ca cb haf hca hcb
      split at hc
      · rename_i hps
        simp only [Option.some.injEq] at hc; subst hc
        simp only [run, M.bind_some, M.lift_some, Option.bind_eq_some_iff] at h
        obtain ⟨gv, Sa, ⟨hgv, hSa⟩, l, S1, hnw, tt, Sb, ⟨htt, hSb⟩, v0, S2, hcl, o, S3, hrd, h⟩ := h
        subst Sa Sb
        have hlS : l = S.next ∧ S1 = { heap := S.heap.set S.next (some (.loop ps.toList ca cb e none)), next := S.next + 1, log := S.log } := by
          simp only [nw, Option.some.injEq, Prod.mk.injEq] at hnw
          exact ⟨hnw.1.symm, hnw.2.symm⟩
        obtain ⟨rfl, rfl⟩ := hlS
        simp only [rd] at hrd
        split at hrd
        · simp at hrd
        rename_i o' hget
        simp only [Option.some.injEq, Prod.mk.injEq] at hrd
        obtain ⟨rfl, rfl⟩ := hrd
        split at h
        · rename_i _ _ _ _ _ ps' as' bd' env' p
          simp only [M.bind_some] at h
          obtain ⟨_, S4, hwr, h⟩ := h
          simp only [wr, Option.some.injEq, Prod.mk.injEq, true_and] at hwr
          subst hwr
          have hx : S' = { heap := S2.heap.set S.next none, next := S2.next, log := (S.next, true) :: (S.next, false) :: S2.log } ∧ e' = e ∧ x = p.getD .normal := by
            cases p with
            | none => obtain ⟨h3, rfl⟩ := M.pure_some.1 h; simp at h3; exact ⟨rfl, h3.2, h3.1⟩
            | some y => obtain ⟨h3, rfl⟩ := M.pure_some.1 h; simp at h3; exact ⟨rfl, h3.2, h3.1⟩
          obtain ⟨rfl, rfl, hxp⟩ := hx
          have hmono := Framed.next (hfr _ _) hcl
          simp only at hmono
          obtain ⟨w1, w2, dl, mark, q1, ⟨D0, rfl, q2⟩, q3, q4, q5⟩ := enter_loop (fn := fn) (ro := ro) (tmps := tmps) (ps := ps) (as := assign) (bd := body) hr hro hds
          have hdn : ¬ r.dom S.next := hf S.next (Nat.le_refl _) (by show S.next < S2.next; omega)
          have hle : r.le (r.add S.next w1.heap.size 0 0 none) := Ren.le_add hdn
          have q6 : Sim P [] r S w1 (r.add S.next w1.heap.size 0 0 none) _ w2 := sim_new q2.rel (S' := { heap := S.heap.set S.next (some (.loop ps.toList ca cb e' none)), next := S.next + 1, log := S.log }) (D := []) (base := 0) (size := 0) (ext := none) hdn rfl rfl rfl q3
            ⟨rfl, ⟨n, hn, hca, hcb, by intro p hp; have := List.all_eq_true.1 hps p hp; simpa using this⟩, hE.mono hle, rfl, rfl⟩
          have hf1 : Fresh r S { heap := S.heap.set S.next (some (.loop ps.toList ca cb e' none)), next := S.next + 1, log := S.log } := hf.left (by show S.next + 1 ≤ S2.next; exact hmono)
          have q7 := q2.trans hf1 hr q6
          have hgr := (atom_ok haf hgv hE).mono hle
          have hyr : LRel (r.add S.next w1.heap.size 0 0 none) [.func (.yield S.next) #[] #[]] [.func (.yield w1.heap.size) #[] #[]] := by
            have : VRel (r.add S.next w1.heap.size 0 0 none) (.func (.yield S.next) #[] #[]) (.func (.yield ((r.add S.next w1.heap.size 0 0 none).to S.next)) #[] #[]) := .yield (Ren.add_dom ..)
            rw [Ren.add_to] at this
            exact .cons this .nil
          obtain ⟨hd, fnv, first, captured, all, e1, e2, e3⟩ := target_ok htt hgr (args' := #[.func (.yield w1.heap.size) #[] #[]]) hyr
          have hf2 : Fresh (r.add S.next w1.heap.size 0 0 none) { heap := S.heap.set S.next (some (.loop ps.toList ca cb e' none)), next := S.next + 1, log := S.log } S2 := Fresh.right (S2 := S2) hf q7
          obtain ⟨D2, r2, w3, v', k1, k2, k3⟩ := hcall _ _ _ _ _ hcl _ w2 q6.rel hf2 all e2 hd (Fr fn ro tmps (mark ++ ds) (.inRangeFunc w1.heap.size :: k)) cs
          have q8 := q7.trans (S2 := S2) hf hr k1
          have q9 : Sim P [(S.next, false)] r2 S2 w3 r2 { heap := S2.heap, next := S2.next, log := (S.next, false) :: S2.log } w3 := sim_log k1.rel rfl rfl rfl
          obtain ⟨hdl, L, hL, hLp, _, _, hpd⟩ := loop_at (S := S2) k1.rel hget
          have hto : r2.to S.next = w1.heap.size := by rw [k1.le.to _ (Ren.add_dom ..), Ren.add_to]
          rw [hto] at hL
          have hnb : L.state ≠ .busy := by
            cases p with
            | none => rw [hpd.1]; simp
            | some y => rw [hpd.1]; simp
          obtain ⟨w4, hend, hup⟩ := end_loop (P := P) hL hnb
          have q10 := sim_kill_upd (S' := { heap := S2.heap.set S.next none, next := S2.next, log := (S.next, true) :: (S.next, false) :: S2.log }) (D := [(S.next, true)]) q9.rel (id := S.next) hget rfl rfl rfl (by simp) (by rw [hto]; exact hup)
          have q11 := (q8.trans (S2 := { heap := S2.heap, next := S2.next, log := (S.next, false) :: S2.log }) hf hr q9).trans hf hr q10
          refine ⟨_, r2, w4, tmps, mark ++ ds, q11, hE.mono q11.le, rfl, ?_, fun hne => by rw [q5 hne]; rfl, ?_⟩
          · exact ds_next q9.rel q10 (ds_next k1.rel q9 (ds_next q6.rel k1 q4))
          · refine ⟨(L.pending.map Item.code).toList ++ k, ?_, (steps_range (cs := cs) (k := k) (ds := ds) q1 ?_ k3).trans (.one (st_endRange hend))⟩
            · rw [hxp]
              cases p with
              | none => rw [hpd.2]; rfl
              | some y =>
                obtain ⟨_, hy, hp⟩ := hpd
                obtain ⟨c, hc1, hc2⟩ := codeOf_exit hy
                rw [hp, hc1]; exact hc2 k
            · simp only [resolve, e1, Deferred.ofValue, bind, Sem.bind, Pure.pure]
              have : Array.map (evT tmps) #[Operand.const (Value.func (Fn.yield w1.heap.size) #[] #[])] = #[Value.func (Fn.yield w1.heap.size) #[] #[]] := by simp [evT]
              rw [this]
              exact e3
        · exact (M.fail_some.1 h).elim
      · simp at hc
    · simp at hc
end
end Go.Wb
end
/- The engine, part M9: calls. -/
section
set_option linter.unusedSimpArgs false
set_option linter.unusedVariables false
namespace Go.Wb
set_option linter.unusedSectionVars false
variable [GloK]
variable {P : Program} {r : Ren} {S S' : St} {w : World}

/-- a dead block turns: one that is new since, or one that lives at the start and has been touched -/
theorem sim_beside {D : List (Nat × Bool)} {r' : Ren} {w' w'' : World} {b : Nat} (h : Rel P r S w) (hs : Sim P D r S w r' S' w') (hw : Beside w' w'' b) (hb : ¬ Live r' S' b)
    (hc : w.heap.size ≤ b ∨ ∃ id bk, S.heap.get id = some bk ∧ r.to id = b ∧ (id, true) ∈ D ∧ bk.isRo = false) : Sim P D r S w r' S' w'' where
  le := hs.le
  rel := rel_beside hs.rel hw hb
  log := hs.log
  next := hs.next
  dom := hs.dom
  size := by rw [hw.size]; exact hs.size
  os := hw.os.trans hs.os
  tape := hw.tape.trans hs.tape
  output := hw.output.trans hs.output
  frame := fun k hk hnl => by
    rw [hw.there k]
    · exact hs.frame k hk hnl
    · rintro rfl
      rcases hc with hc | ⟨id, bk, h1, rfl, _⟩
      · omega
      · exact hnl (Live.intro h1)
  kept := fun id bk hbk hn => by
    rw [hw.there]
    · exact hs.kept id bk hbk hn
    · intro e
      rcases hc with hc | ⟨i, x, h1, h2, h3⟩
      · obtain ⟨_, o, h4, _⟩ := h.at_ id bk hbk
        have := (Array.getElem?_eq_some_iff.1 h4).1
        omega
      · rw [h.inj _ _ _ _ hbk h1 (by rw [e, h2]) (.inr h3.2)] at hn
        exact hn h3.1
  same := hs.same
  live := hs.live

/-- a block that was taken out is laid back -/
theorem sim_layback (h : Rel P r S w) {S2 S3 : St} {D D3 : List (Nat × Bool)} {l : Nat} {b0 b3 : Blk} {w2 w3 : World} {o3 : Obj} {r' : Ren} (hb : S.heap.get l = some b0)
    (hall : Sim P D r S w r' S2 w2) (hnl2 : ¬ Live r' S2 (r.to l))
    (h3h : S3.heap = S2.heap.set l (some b3)) (h3n : S3.next = S2.next) (h3l : S3.log = D3 ++ S2.log) (hD : (l, true) ∈ D3) (hu : Upd w2 w3 (r.to l) o3) (ho : BRel P r' l b3 o3) (hro : b0.isRo = false := by first | rfl | assumption) : Sim P (D3 ++ D) r S w r' S3 w3 := by
  have hdl := (h.at_ l b0 hb).1
  have htol : r'.to l = r.to l := hall.le.to _ hdl
  exact {
    le := hall.le
    rel := by
      have A : ∀ i x, S3.heap.get i = some x → (i = l ∧ x = b3) ∨ (i ≠ l ∧ S2.heap.get i = some x) := by
        intro i x hx
        rw [h3h, Tr.get_set] at hx
        split at hx
        · rename_i e; exact .inl ⟨e, by simpa using hx.symm⟩
        · rename_i e; exact .inr ⟨e, hx⟩
      have B : ∀ i x, S2.heap.get i = some x → r'.to i ≠ r.to l := fun i x hx c => hnl2 ⟨i, x, hx, c⟩
      refine ⟨?_, ?_, by rw [h3h]; exact hall.rel.glo.set (.refl r') (fun c hc => hnl2 ⟨l, _, hc, htol⟩) _⟩
      · intro i x hx
        rcases A i x hx with ⟨rfl, rfl⟩ | ⟨ne, hx⟩
        · exact ⟨hall.le.dom _ hdl, o3, by rw [htol]; exact hu.here, ho⟩
        · obtain ⟨h1, o1, h2, h4⟩ := hall.rel.at_ i x hx
          exact ⟨h1, o1, by rw [hu.there _ (B i x hx)]; exact h2, h4⟩
      · intro i j bi bj hi hj hx e
        rcases A i bi hi with ⟨rfl, rfl⟩ | ⟨ni, hi⟩ <;> rcases A j bj hj with ⟨rfl, rfl⟩ | ⟨nj, hj⟩
        · rfl
        · rw [htol] at e; exact absurd e.symm (B j bj hj)
        · rw [htol] at e; exact absurd e (B i bi hi)
        · exact hall.rel.inj' i j bi bj hi hj hx e
    log := by rw [h3l, hall.log, List.append_assoc]
    next := by rw [h3n]; exact hall.next
    dom := fun id => by rw [h3n]; exact hall.dom id
    size := by rw [hu.size]; exact hall.size
    os := hu.os.trans hall.os
    tape := hu.tape.trans hall.tape
    output := hu.output.trans hall.output
    frame := fun k hk2 hnl => by rw [hu.there k (fun c => hnl (c ▸ Live.intro hb))]; exact hall.frame k hk2 hnl
    kept := fun id x hx hn => by
      have hne : id ≠ l := fun c => hn (by rw [c]; simp [hD])
      rw [hu.there _ (fun c => hne (h.inj _ _ _ _ hx hb c (.inr hro)))]
      exact hall.kept id x hx (fun c => hn (List.mem_append.2 (.inr c)))
    same := fun id hn hx => by
      rw [h3h, Tr.get_set, if_neg (fun c : id = l => hn (by rw [c]; simp [hD]))]
      exact hall.same id (fun c => hn (List.mem_append.2 (.inr c))) (by rw [h3n] at hx; exact hx)
    live := fun k hk2 ⟨i, x, hx, e⟩ => by
      rw [h3h, Tr.get_set] at hx
      split at hx
      · rename_i c; rw [← e, c, htol]; exact Live.intro hb
      · exact hall.live k hk2 ⟨i, x, hx, e⟩ }

/-! ### results -/
def resG (tmps : Array Value) : ResultVar → Sem Value
  | .tmp t => pure (tmps.getD t undef)
  | .cell a t => do loadVar t (← asAddr (tmps.getD a undef))
theorem resV_ok {e : Env} {tmps : Array Value} {rv : ResultVar} {l : List ARes} {v : Value} (hc : compRes P [rv] = some l) : ∃ a, l = [a] ∧ (resV e a S = some (v, S') → Rel P r S w → EnvRel r e tmps →
    ∃ D v', VRel r v v' ∧ Sim P D r S w r S' w ∧ S'.next = S.next ∧ Sem.run P (resG tmps rv) w = .ok v' w) := by
  cases rv with
  | tmp t =>
    simp only [compRes, Option.some.injEq] at hc
    refine ⟨.tmp t, hc.symm, fun h hr hE => ?_⟩
    simp only [resV] at h
    obtain ⟨hv, rfl⟩ := M.lift_some.1 h
    obtain ⟨v', h1, h2⟩ := hE.at_ _ _ hv
    exact ⟨[], v', h2, Sim.refl hr, rfl, by simp [resG, Array.getD_eq_getD_getElem?, h1]⟩
  | cell t ty =>
    simp only [compRes] at hc
    cases hsh : shOf P ty with
    | none => simp [hsh] at hc
    | some sh =>
      simp only [hsh, Option.some.injEq] at hc
      refine ⟨.cell t sh, hc.symm, fun h hr hE => ?_⟩
      simp only [resV, M.bind_some, M.lift_some] at h
      obtain ⟨xv, Sa, ⟨hx, hSa⟩, h⟩ := h
      subst Sa
      split at h
      · rename_i p
        obtain ⟨v0, h1, h2⟩ := hE.at_ _ _ hx
        obtain ⟨hsp, hd, rfl⟩ := h2.ptr_inv
        obtain ⟨hg1, hg2⟩ := run_isAgg (w := w) hsh
        have hgd : tmps.getD t undef = .pointer (some ⟨r.to p.block, r.base p.block + p.off, none⟩) := by simp [Array.getD_eq_getD_getElem?, h1]
        cases sh with
        | one =>
          simp only at h
          obtain ⟨v', k2, k3, k4⟩ := ld1_ok h hr
          refine ⟨_, v', k2, k4, ?_, ?_⟩
          · have := (Framed.ld1 _ _ _ _ _ h)
            have := k4.log
            exact (by
              simp only [ld1, M.bind_some, rd_some] at h
              obtain ⟨o, S1, ⟨h1, rfl⟩, h2⟩ := h
              split at h2
              · obtain ⟨_, rfl⟩ := M.lift_some.1 h2; rfl
              · obtain ⟨_, rfl⟩ := M.lift_some.1 h2; rfl
              · exact (M.fail_some.1 h2).elim)
          · simp only [resG, hgd, asAddr, loadVar, Sem.run_bind, Sem.run_pure, Result.andThen_ok, hg1, if_false, Bool.false_eq_true, k3]
        | agg n =>
          simp only [M.bind_some, M.pure_some] at h
          obtain ⟨_, _, h1, rfl, rfl⟩ := h
          obtain ⟨l', k2, _, k3, k5, k4⟩ := ldCells_ok h1 hr
          refine ⟨_, _, k2.agg, k4, k5, ?_⟩
          simp only [resG, hgd, asAddr, loadVar, Sem.run_bind, Sem.run_pure, Result.andThen_ok, hg1, if_true, run_sizeOf (hg2 n rfl), k3 w rfl]
      · exact (M.fail_some.1 h).elim

theorem resAll_ok {e : Env} {tmps : Array Value} : ∀ (rvs : List ResultVar) (l : List ARes) (vs : List Value) (S S' : St), compRes P rvs = some l → resAll e l S = some (vs, S') → Rel P r S w → EnvRel r e tmps →
    ∃ D vs', LRel r vs vs' ∧ Sim P D r S w r S' w ∧ S'.next = S.next ∧
      Sem.run P (rvs.mapM (resG tmps)) w = .ok vs' w
  | [], l, vs, S, S', hc, h, hr, hE => by
    simp only [compRes, Option.some.injEq] at hc; subst hc
    simp only [resAll] at h
    obtain ⟨rfl, rfl⟩ := M.pure_some.1 h
    exact ⟨[], [], .nil, Sim.refl hr, rfl, by simp⟩
  | rv :: rvs, l, vs, S, S', hc, h, hr, hE => by
    have : ∃ a l', l = a :: l' ∧ compRes P [rv] = some [a] ∧ compRes P rvs = some l' := by
      cases rv with
      | tmp t =>
        simp only [compRes] at hc ⊢
        split at hc
        · rename_i l' hl'
          exact ⟨_, l', by simpa using hc.symm, rfl, hl'⟩
        · simp at hc
      | cell a t =>
        simp only [compRes] at hc ⊢
        split at hc
        · rename_i sh l' hsh hl'
          exact ⟨_, l', by simpa using hc.symm, by simp [hsh], hl'⟩
        · simp at hc
    obtain ⟨a, l', rfl, h1, h2⟩ := this
    simp only [resAll, M.bind_some, M.pure_some] at h
    obtain ⟨v, S1, h3, vs1, S2, h4, rfl, rfl⟩ := h
    obtain ⟨a', ha', hok⟩ := resV_ok (r := r) (w := w) (S := S) (S' := S1) (e := e) (tmps := tmps) (v := v) h1
    obtain rfl : a = a' := by simpa using ha'
    obtain ⟨D, v', k1, k2, k3, k4⟩ := hok h3 hr hE
    obtain ⟨D2, vs', m1, m2, m3, m4⟩ := resAll_ok rvs l' vs1 S1 S' h2 h4 k2.rel hE
    refine ⟨_, v' :: vs', .cons k1 m1, k2.trans (fresh_of_next (by rw [m3, k3])) hr m2, by rw [m3, k3], ?_⟩
    rw [List.mapM_cons]
    simp only [Sem.run_bind, Sem.run_pure]
    rw [k4]
    simp only [Result.andThen_ok]
    rw [m4]
    simp only [Result.andThen_ok]

theorem results_ok {e : Env} {tmps : Array Value} {fn : Func} {l : List ARes} {vs : List Value} (hc : compRes P fn.results.toList = some l) (h : resAll e l S = some (vs, S')) (hr : Rel P r S w) (hE : EnvRel r e tmps) :
    ∃ D v', VRel r (match (generalizing := false) vs with | [v] => v | vs => .tuple vs.toArray) v' ∧ Sim P D r S w r S' w ∧ S'.next = S.next ∧ (results fn tmps).run P w = .ok v' w := by
  obtain ⟨D, vs', k1, k2, k3, k4⟩ := resAll_ok _ _ _ _ _ hc h hr hE
  have hrun : (results fn tmps).run P w = .ok (if h : vs'.toArray.size = 1 then vs'.toArray[0] else .tuple vs'.toArray) w := by
    have : results fn tmps = (do let vs ← fn.results.mapM (resG tmps); pure (if h : vs.size = 1 then vs[0] else .tuple vs)) := rfl
    rw [this, Array.mapM_eq_mapM_toList]
    simp only [Sem.run_bind, Sem.run_map]
    rw [k4]
    rfl
  refine ⟨D, _, ?_, k2, k3, hrun⟩
  cases k1 with
  | nil => exact LRel.tuple .nil
  | cons hv ht =>
    cases ht with
    | nil => simpa using hv
    | cons hv2 ht =>
      have := LRel.tuple (LRel.cons hv (LRel.cons hv2 ht))
      simpa using this
end Go.Wb
end
/- The engine, part M10: functions and rounds. -/
section
set_option linter.unusedSimpArgs false
set_option linter.unusedVariables false
namespace Go.Wb
set_option linter.unusedSectionVars false
variable [GloK]
variable {P : Program} {r : Ren} {S S' : St} {w : World}

theorem argsEnv_ok {r : Ren} {l l' : List Value} (h : LRel r l l') : ∀ (i : Nat) (e : Env) (tmps : Array Value), EnvRel r e tmps → (∀ j v, l'[j]? = some v → tmps[i + j]? = some v) → EnvRel r (argsEnv l i e) tmps := by
  induction h with
  | nil => intro i e tmps hE _; exact hE
  | @cons v v' l l' hv ht ih =>
    intro i e tmps hE hat
    simp only [argsEnv]
    refine ih (i + 1) _ tmps ?_ fun j x hx => by
      have := hat (j + 1) x (by simpa using hx)
      rwa [show i + 1 + j = i + (j + 1) by omega]
    refine ⟨?_, hE.glo⟩
    intro t x hx
    rw [Tr.get_set] at hx
    split at hx
    · rename_i e1
      obtain rfl : v = x := by simpa using hx
      exact ⟨v', by rw [e1]; simpa using hat 0 v' rfl, hv⟩
    · exact hE.at_ t x hx

theorem zipSet_ok {r : Ren} : ∀ (ps : List Nat) {l l' : List Value} (e : Env) (tmps : Array Value), LRel r l l' → EnvRel r e tmps → (∀ p ∈ ps, p < tmps.size) →
    EnvRel r (zipSet ps l e) ((ps.zip l').foldl (fun t x => t.setIfInBounds x.1 x.2) tmps) ∧ ((ps.zip l').foldl (fun t x => t.setIfInBounds x.1 x.2) tmps).size = tmps.size
  | [], l, l', e, tmps, h, hE, hp => by simpa [zipSet] using hE
  | p :: ps, [], l', e, tmps, h, hE, hp => by
    cases h
    simpa [zipSet] using hE
  | p :: ps, v :: l, l', e, tmps, h, hE, hp => by
    cases h with
    | cons hv ht =>
      simp only [zipSet, List.zip_cons_cons, List.foldl_cons]
      have := zipSet_ok ps (e.set p (some v)) (tmps.setIfInBounds p _) ht (hE.put (hp p (by simp)) hv) (fun q hq => by simpa using hp q (by simp [hq]))
      refine ⟨this.1, by rw [this.2]; simp⟩

/-- the rounds' blocks of a frame that returns -/
theorem unwind_ok {D : List (Nat × Bool)} {r' : Ren} {S1 : St} (h : Rel P r S w) : ∀ (rs : List Nat) (w' : World), Sim P D r S w r' S1 w' → rs.Nodup → (∀ b ∈ rs, w'.heap[b]? = some (.deferred (some [])) ∧ w.heap.size ≤ b) →
    ∃ w'', Sim P D r S w r' S1 w'' ∧ ∀ (fr : Frame) (cs : List Frame), fr.mode = .returning → fr.defers = rs.map mkD → Steps P (lone fr cs w') (lone { fr with defers := [] } cs w'')
  | [], w', hs, _, _ => ⟨w', hs, fun fr cs _ hd => by
      have : ({ fr with defers := [] } : Frame) = fr := by cases fr; simp at hd ⊢; exact hd
      rw [this]; exact .refl _ _⟩
  | b :: rs, w', hs, hn, hb => by
    obtain ⟨hb1, hb2⟩ := hb b (by simp)
    have hrun := run_takeDeferred (P := P) hb1
    have hblt := (Array.getElem?_eq_some_iff.1 hb1).1
    have hup : Beside w' (w'.putObj b (.deferred none)) b := ⟨by simp, fun k hk => World.putObj_heap_other hk, rfl, rfl, rfl⟩
    have hs' := sim_beside h hs hup (deferred_dead hs.rel hb1) (.inl hb2)
    obtain ⟨w'', h1, h2⟩ := unwind_ok h rs _ hs' (List.nodup_cons.1 hn).2 (fun c hc => by
      have hne : c ≠ b := fun e => (List.nodup_cons.1 hn).1 (e ▸ hc)
      rw [World.putObj_heap_other hne]
      exact hb c (by simp [hc]))
    refine ⟨w'', h1, fun fr cs hm hd => ?_⟩
    refine .head (m₁ := lone { fr with defers := rs.map mkD } cs (w'.putObj b (.deferred none))) (step_lone_go ?_) ?_
    · simp [stepG, unwind, hm, hd, mkD, Sem.runT_eq, hrun, GStep.bare_after]
    · have := h2 { fr with defers := rs.map mkD } cs hm rfl
      exact this

section
variable {call : Tgt → List Value → M Value}

theorem st_end_normal {fn : FuncId} {tmps : Array Value} {ds : List Deferred} {cs : List Frame} {w : World} :
    step P (lone (Fr fn none tmps ds []) cs w) = .next (lone { Fr fn none tmps ds [] with mode := .returning } cs w) := step_lone_go (by simp [stepG, stepG.exec, Fr])
theorem st_end_ret {fn : FuncId} {tmps : Array Value} {ds : List Deferred} {k : List Item} {cs : List Frame} {w : World} :
    step P (lone (Fr fn none tmps ds (.code .ret :: k)) cs w) = .next (lone { Fr fn none tmps ds (.code .ret :: k) with mode := .returning } cs w) := step_lone_go (by simp [stepG, stepG.exec, Fr])

/-- a function, run to its end -/
theorem go_ok (hm : P.follows .mixedOrders = true) (hcall : CallOk P call) (hfr : ∀ t a, Framed (call t a)) {fuel : Nat} {f : FuncId} {fn : Func} {c : Code} {ac : ACode} {rs : List ARes} (hf : P.funcs[f]? = some fn) (hb : fn.body = some c)
    (hc : compCode P fn.ntmps c = some ac) (hrs : compRes P fn.results.toList = some rs) {args : List Value} {args' : Array Value} {x : Ext} {e' : Env} {S1 : St} {vs : List Value}
    (h1 : run call fuel ac (argsEnv args 0 .leaf) S = some ((x, e'), S1)) (hx : ∀ id, x ≠ .exit id) (h2 : resAll e' rs S1 = some (vs, S')) (hr : Rel P r S w) (hfresh : Fresh r S S') (ha : LRel r args args'.toList) (cs : List Frame) :
    ∃ D r' w' v', Sim P D r S w r' S' w' ∧ VRel r' (match (generalizing := false) vs with | [v] => v | vs => .tuple vs.toArray) v' ∧
      ∃ fr, Steps P (lone (Frame.enter P f args' .normal) cs w) (lone fr cs w') ∧ fr.fn = f ∧ fr.leaving P w' (.returned v') := by
  have hent : Frame.enter P f args' .normal = Fr f none (args' ++ Array.replicate (fn.ntmps - args'.size) undef) [] [.code c] := by
    simp [Frame.enter, hf, hb, Fr]
  have hE : EnvRel r (argsEnv args 0 .leaf) (args' ++ Array.replicate (fn.ntmps - args'.size) undef) := by
    refine argsEnv_ok ha 0 .leaf _ ⟨fun t v hv => by rw [Tr.get_leaf] at hv; simp at hv, hr.glo.glo⟩ fun j v hv => ?_
    have hj : j < args'.size := by simpa using (List.getElem?_eq_some_iff.1 hv).1
    rw [Nat.zero_add, Array.getElem?_append_left hj, ← Array.getElem?_toList]
    exact hv
  have hm2 := Framed.next (Framed.resAll e' rs) h2
  obtain ⟨D, r1, w1, tmps1, ds1, k1, k2, k3, k4, k5, k6⟩ := code_ok (lb := w.heap.size) hm hcall hfr fuel c fn.ntmps ac hc _ S x e' S1 h1 r w _ (by simp; omega) hr hE (hfresh.left hm2) f none [] trivial ⟨Nat.le_refl _, [], rfl, by simp, by simp⟩ [] cs
  obtain ⟨_, rs1, hds, hnd, hdef⟩ := k4
  obtain ⟨w2, hs2, hst2⟩ := unwind_ok hr rs1 w1 k1 hnd hdef
  obtain ⟨D3, v', m1, m2, m3, m4⟩ := results_ok hrs h2 hs2.rel k2
  refine ⟨_, r1, w2, v', hs2.trans hfresh hr m2, m1, ?_⟩
  rw [hent]
  obtain ⟨k', q1, q2⟩ := k6
  have hmode : ∃ todo, Steps P (lone (Fr f none tmps1 ds1 k') cs w1) (lone { Fr f none tmps1 ds1 todo with mode := .returning } cs w1) := by
    cases x with
    | normal =>
      obtain rfl : k' = [] := q1
      exact ⟨_, .one st_end_normal⟩
    | ret =>
      obtain ⟨k2', rfl⟩ := q1
      exact ⟨_, .one st_end_ret⟩
    | exit id => exact absurd rfl (hx id)
  obtain ⟨todo, hst⟩ := hmode
  refine ⟨_, (q2.trans hst).trans (hst2 _ cs rfl hds), rfl, rfl, rfl, rfl, fn, hf, m4⟩

theorem st_beginRound {l : Nat} {L : Loop} {fn : FuncId} {tmps : Array Value} {ds : List Deferred} {k : List Item} {cs : List Frame} {w : World} (h : w.heap[l]? = some (.loop L)) (hL : L.state = .ready) :
    step P (lone (Fr fn (some l) tmps ds (.beginRound :: k)) cs w) = .next (lone (Fr fn (some l) tmps ds k) cs (w.putObj l (.loop { L with state := .busy }))) :=
  step_lone_go (by simp [stepG, stepG.exec, Fr, stepG.apply, Sem.run_bind, run_beginRound h hL, Result.andThen_ok, Frame.finish])
theorem st_round_end {l : Nat} {L : Loop} {fn : FuncId} {tmps : Array Value} {ds : List Deferred} {c : Frame} {cs : List Frame} {w : World} (h : w.heap[l]? = some (.loop L)) :
    step P (lone (Fr fn (some l) tmps ds []) (c :: cs) w) = .next (lone (c.finish (.bool true)) cs (w.putObj l (.loop { L with state := .ready, pending := none }))) :=
  step_lone_go (by
    have := run_endRound (P := P) none h
    simp only [Option.isNone_none, if_true] at this
    simp [stepG, stepG.exec, Fr, Sem.runT_eq, this, GStep.bare_after, doReturn])
theorem st_round_ret {l : Nat} {L : Loop} {fn : FuncId} {tmps : Array Value} {ds : List Deferred} {k : List Item} {c : Frame} {cs : List Frame} {w : World} (h : w.heap[l]? = some (.loop L)) :
    step P (lone (Fr fn (some l) tmps ds (.code .ret :: k)) (c :: cs) w) = .next (lone (c.finish (.bool false)) cs (w.putObj l (.loop { L with state := .done, pending := some .ret }))) :=
  step_lone_go (by
    have := run_endRound (P := P) (some .ret) h
    simp only [Option.isNone_some, Bool.false_eq_true, if_false] at this
    simp [stepG, stepG.exec, Fr, Sem.runT_eq, this, GStep.bare_after, doReturn])
theorem st_round_exit {l id : Nat} {L : Loop} {fn : FuncId} {tmps : Array Value} {ds : List Deferred} {k : List Item} {c : Frame} {cs : List Frame} {w : World} (hk : exitTo id k = none) (h : w.heap[l]? = some (.loop L)) :
    step P (lone (Fr fn (some l) tmps ds (.code (.exit id) :: k)) (c :: cs) w) = .next (lone (c.finish (.bool false)) cs (w.putObj l (.loop { L with state := .done, pending := some (.exit id) }))) :=
  step_lone_go (by
    have := run_endRound (P := P) (some (.exit id)) h
    simp only [Option.isNone_some, Bool.false_eq_true, if_false] at this
    simp [stepG, stepG.exec, Fr, hk, Sem.runT_eq, this, GStep.bare_after, doReturn])

/-- a round ends -/
theorem st_round {x : Ext} {l : Nat} {L : Loop} {fn : FuncId} {tmps : Array Value} {ds : List Deferred} {k : List Item} {c : Frame} {cs : List Frame} {w : World} (hx : ArrTodo x [] k) (h : w.heap[l]? = some (.loop L)) :
    ∃ p : Option Ext, (p = match x with | .normal => none | y => some y) ∧ ∃ L', PendOk L' p ∧ L'.params = L.params ∧ L'.tmps = L.tmps ∧ L'.assign = L.assign ∧ L'.body = L.body ∧ ∀ c cs,
      step P (lone (Fr fn (some l) tmps ds k) (c :: cs) w) = .next (lone (c.finish (.bool p.isNone)) cs (w.putObj l (.loop L'))) := by
  cases x with
  | normal =>
    obtain rfl : k = [] := hx
    exact ⟨none, rfl, { L with state := .ready, pending := none }, ⟨rfl, rfl⟩, rfl, rfl, rfl, rfl, fun c cs => st_round_end h⟩
  | ret =>
    obtain ⟨k2, rfl⟩ := hx
    exact ⟨some .ret, rfl, { L with state := .done, pending := some .ret }, ⟨rfl, by simp, rfl⟩, rfl, rfl, rfl, rfl, fun c cs => st_round_ret h⟩
  | exit id =>
    obtain ⟨k2, rfl, hk⟩ := hx
    exact ⟨some (.exit id), rfl, { L with state := .done, pending := some (.exit id) }, ⟨rfl, by simp, rfl⟩, rfl, rfl, rfl, rfl, fun c cs => st_round_exit (by rw [hk]; rfl) h⟩
end
end Go.Wb
end
/- The engine, part M11: a round; the calls. -/
section
set_option linter.unusedSimpArgs false
set_option linter.unusedVariables false
namespace Go.Wb
set_option linter.unusedSectionVars false
variable [GloK]
variable {P : Program} {r : Ren} {S S' : St} {w : World}
section
variable {call : Tgt → List Value → M Value}

theorem putObj_upd {b : Nat} {o : Obj} (h : b < w.heap.size) : Upd w (w.putObj b o) b o := ⟨by simp, World.putObj_heap_same h, fun k hk => World.putObj_heap_other hk, rfl, rfl, rfl⟩

def pendOf : Ext → Option Ext
  | .normal => none
  | x => some x

theorem yield_ok (hm : P.follows .mixedOrders = true) (hcall : CallOk P call) (hfr : ∀ t a, Framed (call t a)) {fuel l : Nat} {ps : List Nat} {as bd : ACode} {env e1 e2 : Env} {args : List Value} {args' : Array Value} {S2 S3 : St} {x : Ext} {p : Option Ext}
    (hb : S.heap.get l = some (.loop ps as bd env none)) (hlen : args.length = ps.length)
    (h1 : run call fuel as (zipSet ps args env) { heap := S.heap.set l none, next := S.next, log := (l, true) :: (l, false) :: S.log } = some ((.normal, e1), S2))
    (h2 : run call fuel bd e1 S2 = some ((x, e2), S3)) (hp : p = pendOf x)
    (hr : Rel P r S w) (hf : Fresh r S S3) (ha : LRel r args args'.toList) (c : Frame) (cs : List Frame) :
    ∃ D r' w', Sim P D r S w r' { heap := S3.heap.set l (some (.loop ps as bd env p)), next := S3.next, log := (l, true) :: S3.log } w' ∧ CallAt P c cs (Instr.yield (r.to l) args') w (.bool p.isNone) w' := by
  obtain ⟨hdl, L, hL, hLp, ⟨n, hn, hca, hcb, hps⟩, hE, hst, hpn⟩ := loop_at hr hb
  have hlt := (Array.getElem?_eq_some_iff.1 hL).1
  have hk : Sim P [(l, true), (l, false)] r S w r { heap := S.heap.set l none, next := S.next, log := (l, true) :: (l, false) :: S.log } w := sim_kill hr rfl rfl rfl (by simp) (ro_ne hb rfl)
  have hnl1 : ¬ Live r { heap := S.heap.set l none, next := S.next, log := (l, true) :: (l, false) :: S.log } (r.to l) := by
    rintro ⟨i, y, hy, e⟩
    simp only [Tr.get_set] at hy
    split at hy
    · simp at hy
    · rename_i ne; exact ne (hr.inj _ _ _ _ hy hb e (.inr rfl))
  have hm1 := Framed.next (Framed.run hfr fuel as _) h1
  have hm2 := Framed.next (Framed.run hfr fuel bd _) h2
  obtain ⟨hE0, hsz0⟩ := zipSet_ok ps env L.tmps ha hE (fun q hq => Nat.lt_of_lt_of_le (hps q hq) hn)
  -- the assignment
  obtain ⟨D1, r1, w1, tmps1, ds1, a1, a2, a3, a4, a5, a6⟩ := code_ok (lb := 0) hm hcall hfr fuel L.assign n as hca _ _ .normal e1 S2 h1 r w _ (by rw [hsz0]; exact hn) hk.rel hE0 (fun id c d => hf id c (Nat.lt_of_lt_of_le d hm2)) L.fn (some (r.to l)) [] ⟨hnl1, L, hL⟩ ⟨Nat.zero_le _, [], rfl, by simp, by simp⟩ [.beginRound, .code L.body] (c :: cs)
  obtain rfl : ds1 = [] := a5 (by simp)
  have hL1 : w1.heap[r.to l]? = some (.loop L) := by rw [a1.frame _ hlt hnl1]; exact hL
  have hlt1 := (Array.getElem?_eq_some_iff.1 hL1).1
  have hnl2 : ¬ Live r1 S2 (r.to l) := fun c => hnl1 (a1.live _ hlt c)
  have hA1 : Sim P _ r S w r1 S2 w1 := hk.trans (S2 := S2) (fun id c d => hf id c (Nat.lt_of_lt_of_le d hm2)) hr a1
  -- the round begins
  have hbs : Beside w1 (w1.putObj (r.to l) (.loop { L with state := .busy })) (r.to l) := (putObj_upd hlt1).beside
  have hA2 := sim_beside hr hA1 hbs hnl2 (.inr ⟨l, _, hb, rfl, by simp, rfl⟩)
  have hL2 : (w1.putObj (r.to l) (.loop { L with state := .busy })).heap[r.to l]? = some (.loop { L with state := .busy }) := World.putObj_heap_same hlt1
  have hlt2 := (Array.getElem?_eq_some_iff.1 hL2).1
  -- the body
  obtain ⟨D2, r2, w3, tmps2, ds2, b1, b2, b3, b4, b5, b6⟩ := code_ok (lb := 0) hm hcall hfr fuel L.body n bd hcb _ _ x e2 S3 h2 r1 _ tmps1 (by rw [a3, hsz0]; exact hn) hA2.rel a2 (hf.right hA2) L.fn (some (r.to l)) [] ⟨hnl2, _, hL2⟩ ⟨Nat.zero_le _, [], rfl, by simp, by simp⟩ [] (c :: cs)
  obtain rfl : ds2 = [] := b5 (by simp)
  have hL3 : w3.heap[r.to l]? = some (.loop { L with state := .busy }) := by rw [b1.frame _ hlt2 hnl2]; exact hL2
  have hlt3 := (Array.getElem?_eq_some_iff.1 hL3).1
  have hnl3 : ¬ Live r2 S3 (r.to l) := fun c => hnl2 (b1.live _ hlt2 c)
  have hA3 := hA2.trans hf hr b1
  -- its end
  have hend : ∃ L', PendOk L' p ∧ L'.params = L.params ∧ L'.tmps = L.tmps ∧ L'.assign = L.assign ∧ L'.body = L.body ∧
      Steps P (lone (Frame.round (r.to l) L.fn ((ps.zip args'.toList).foldl (fun t x => t.setIfInBounds x.1 x.2) L.tmps) L.assign L.body .normal) (c :: cs) w) (lone (c.finish (.bool p.isNone)) cs (w3.putObj (r.to l) (.loop L'))) := by
    have hL' : ∃ L', PendOk L' p ∧ L'.params = L.params ∧ L'.tmps = L.tmps ∧ L'.assign = L.assign ∧ L'.body = L.body ∧ ∀ k, ArrTodo x [] k → ∀ c cs,
        step P (lone (Fr L.fn (some (r.to l)) tmps2 [] k) (c :: cs) w3) = .next (lone (c.finish (.bool p.isNone)) cs (w3.putObj (r.to l) (.loop L'))) := by
      subst hp
      cases x with
      | normal => exact ⟨{ L with state := .ready, pending := none }, ⟨rfl, rfl⟩, rfl, rfl, rfl, rfl, fun k hk c cs => by obtain rfl : k = [] := hk; exact st_round_end (L := { L with state := .busy }) hL3⟩
      | ret => exact ⟨{ L with state := .done, pending := some .ret }, ⟨rfl, by simp, rfl⟩, rfl, rfl, rfl, rfl, fun k hk c cs => by obtain ⟨k2, rfl⟩ := hk; exact st_round_ret (L := { L with state := .busy }) hL3⟩
      | exit id => exact ⟨{ L with state := .done, pending := some (.exit id) }, ⟨rfl, by simp, rfl⟩, rfl, rfl, rfl, rfl, fun k hk c cs => by
          obtain ⟨k2, rfl, hk2⟩ := hk; exact st_round_exit (L := { L with state := .busy }) (by rw [hk2]; rfl) hL3⟩
    obtain ⟨L', q1, q2, q3, q4, q5, q6⟩ := hL'
    refine ⟨L', q1, q2, q3, q4, q5, ?_⟩
    obtain ⟨k1, m1, m2⟩ := a6
    obtain rfl : k1 = [.beginRound, .code L.body] := m1
    obtain ⟨k2, m3, m4⟩ := b6
    have e0 : Frame.round (r.to l) L.fn ((ps.zip args'.toList).foldl (fun t x => t.setIfInBounds x.1 x.2) L.tmps) L.assign L.body .normal =
      Fr L.fn (some (r.to l)) ((ps.zip args'.toList).foldl (fun t x => t.setIfInBounds x.1 x.2) L.tmps) [] (.code L.assign :: [.beginRound, .code L.body]) := rfl
    rw [e0]
    exact ((m2.trans (.one (st_beginRound hL1 hst))).trans m4).trans (.one (q6 k2 m3 c cs))
  obtain ⟨L', q1, q2, q3, q4, q5, q6⟩ := hend
  have hfin := sim_layback (S3 := { heap := S3.heap.set l (some (.loop ps as bd env p)), next := S3.next, log := (l, true) :: S3.log }) (D3 := [(l, true)]) hr hb hA3 hnl3 rfl rfl rfl (by simp) (putObj_upd (o := .loop L') hlt3)
    ⟨by rw [q2]; exact hLp, ⟨n, by rw [q3]; exact hn, by rw [q4]; exact hca, by rw [q5]; exact hcb, hps⟩, by rw [q3]; exact hE.mono hA3.le, q1⟩
  refine ⟨_, r2, _, hfin, .inr (.inr (.inr ⟨r.to l, L.fn, _, L.assign, L.body, ?_, q6⟩))⟩
  have hsz : args'.size = L.params.size := by
    have := ha.length
    rw [← Array.length_toList, ← this, hlen, ← hLp, Array.length_toList]
  rw [run_yield hL hsz]
  congr 2
  rw [← Array.foldl_toList, Array.toList_zip, hLp]
end
end Go.Wb
end
/- The engine, part M12: functions without a body. -/
section
set_option linter.unusedSimpArgs false
set_option linter.unusedVariables false
namespace Go.Wb
set_option linter.unusedSectionVars false
variable [GloK]
variable {P : Program} {r : Ren} {S S' : St} {w : World}

theorem row1 : Extern.allNextRows.lookup "internal/bytealg.IndexByteString" = none := by rfl
theorem row2 : Extern.allNextRows.lookup "" = none := by rfl
theorem row3 : Extern.allNextRows.lookup "slices.overlaps" = none := by rfl
theorem row4 : Extern.allGenericRows.lookup "slices.overlaps" = none := by rfl
theorem row5 : Extern.allTypedRows.lookup "slices.overlaps" = some Extern.SlicesOverlaps.overlaps := by rfl
theorem row6 : Extern.allGenericRows.lookup "internal/bytealg.IndexByteString" = none := by rfl
theorem row7 : Extern.allTypedRows.lookup "internal/bytealg.IndexByteString" = none := by rfl
theorem row8 : Extern.allRows.lookup "internal/bytealg.IndexByteString" = some Extern.BytealgIndexByte.indexByte := by rfl

theorem findByte_eq (c : UInt8) : ∀ (l : List UInt8) (i : Int), findByte c l i = match (List.range l.length).find? (fun j => l[j]! == c) with | some j => i + j | none => -1
  | [], i => rfl
  | b :: l, i => by
    rw [findByte, List.length_cons, List.range_succ_eq_map, List.find?_cons]
    by_cases h : b == c
    · simp [h]
    · have h' : (b == c) = false := by simpa using h
      simp only [h', Bool.false_eq_true, if_false]
      rw [findByte_eq c l (i + 1), List.find?_map]
      have e : ((fun j => (b :: l)[j]! == c) ∘ Nat.succ) = fun j => l[j]! == c := by funext j; simp
      rw [e]
      have e0 : ((b :: l)[0]! == c) = false := by simpa using h
      simp only [e0]
      cases List.find? (fun j => l[j]! == c) (List.range l.length) with
      | none => rfl
      | some j => show i + 1 + (j : Int) = i + ((j + 1 : Nat) : Int); omega
theorem firstIdx_eq (s : ByteArray) (c : UInt8) : findByte c s.data.toList 0 = firstIdx s c := by
  rw [findByte_eq, firstIdx]
  have e1 : s.data.toList.length = s.size := by rw [Array.length_toList]; rfl
  rw [e1]
  have e2 : (fun j : Nat => s.data.toList[j]! == c) = fun i : Nat => s[i]! == c := by
    funext j
    congr 1
    by_cases hj : j < s.data.size
    · rw [getElem!_pos s.data.toList j (by simpa using hj), getElem!_pos s j hj]
      rw [Array.getElem_toList]; rfl
    · rw [getElem!_neg s.data.toList j (by simpa using hj), getElem!_neg s j hj]
  rw [e2]
  cases List.find? (fun i : Nat => s[i]! == c) (List.range s.size) <;> simp

theorem run_viewAt {b : Nat} {rc : Array Value} {el : TypeId} {fz : Nat × Nat} (h : w.heap[b]? = some (.cells rc el fz)) (o : Nat) (sp) : (noView ⟨b, o, sp⟩).run P w = .ok () w := by
  simp [noView, viewAt, shape, Sem.run, Sem.run_bind, World.shape?, h, Result.andThen_ok]
theorem run_frozen {b o : Nat} {rc : Array Value} {el : TypeId} {lo : Nat} (h : w.heap[b]? = some (.cells rc el (lo, lo))) (sp) : (frozen ⟨b, o, sp⟩).run P w = .ok false w := by
  simp only [frozen, Sem.run, World.frozen?, h]
  congr 1
  simp
theorem run_stringish {b o : Nat} {rc : Array Value} {el : TypeId} {lo : Nat} (h : w.heap[b]? = some (.cells rc el (lo, lo))) (sp) : (stringish ⟨b, o, sp⟩).run P w = .ok false w := by
  have := run_frozen (P := P) (o := rc.size) h none
  simp only [stringish, Sem.run_bind, run_frozen h, Result.andThen_ok, Bool.false_eq_true, if_false]
  simp only [shape, Sem.run, World.shape?, h, Result.andThen_ok]
  exact this
theorem run_mayBeOne {b o b' o' : Nat} {rc rc' : Array Value} {el el' : TypeId} {lo lo' : Nat} (h : w.heap[b]? = some (.cells rc el (lo, lo))) (h' : w.heap[b']? = some (.cells rc' el' (lo', lo'))) (sp sp') : (mayBeOne ⟨b, o, sp⟩ ⟨b', o', sp'⟩).run P w = .ok false w := by
  simp [mayBeOne, Sem.run_bind, run_stringish h, run_stringish h', Result.andThen_ok]

theorem overlaps_ok {params results : Array TypeId} {t : TypeId} {e : TypeId} {size : Nat} {args : List Value} {args' : Array Value} {v : Value} (hp : params[0]? = some t) (hu : P.underlying t = some (.slice e)) (hs : sizeT P e = some size)
    (h : extA (.overlaps size) args S = some (v, S')) (hr : Rel P r S w) (ha : LRel r args args'.toList) :
    ∃ D, Sim P D r S w r S' w ∧ VRel r v v ∧ (Extern.SlicesOverlaps.overlaps params results args').run P w = .ok v w := by
  have hform : ∃ a la ca b lb cb, args = [.slice a la ca, .slice b lb cb] := by
    rcases args with _ | ⟨x, _ | ⟨y, _ | ⟨z, args⟩⟩⟩
    · exact ((M.fail_some (S := S) (x := (v, S'))).1 h).elim
    · cases x <;> exact ((M.fail_some (S := S) (x := (v, S'))).1 h).elim
    · cases x <;> cases y <;> first | exact ⟨_, _, _, _, _, _, rfl⟩ | exact ((M.fail_some (S := S) (x := (v, S'))).1 h).elim
    · cases x <;> cases y <;> exact ((M.fail_some (S := S) (x := (v, S'))).1 h).elim
  obtain ⟨a, la, ca, b, lb, cb, rfl⟩ := hform
  simp only [extA] at h
  · obtain ⟨al'⟩ := args'
    cases ha with
    | cons hx ht =>
      cases ht with
      | cons hy ht =>
        cases ht
        split at h
        · rename_i a b
          obtain ⟨hsp1, hd1, o1, c1, rfl, _, _, _, ho1⟩ := hx.slc_inv
          obtain ⟨hsp2, hd2, o2, c2, rfl, _, _, _, ho2⟩ := hy.slc_inv
          split at h
          · rename_i hz
            obtain ⟨rfl, rfl⟩ := M.pure_some.1 h
            refine ⟨[], Sim.refl hr, .bool _, ?_⟩
            conv => lhs; arg 2; whnf
            simp only [hp, Sem.run_bind, run_underlying hu, run_sizeOf hs, Result.andThen_ok]
            rw [if_pos hz]; simp
          · rename_i hz
            simp only [M.bind_some, rd_some] at h
            obtain ⟨x, S1, ⟨hx1, rfl⟩, y, S2, ⟨hy1, rfl⟩, h⟩ := h
            simp only at hy1
            split at h
            · rename_i x1 c1' x2 c2'
              obtain ⟨h3, rfl⟩ := M.pure_some.1 h
              obtain ⟨_, rc1, el1, lo1, hi1, l1, m1, _, _, _, _, _, m2⟩ := cells_at hr hx1
              obtain ⟨_, rc2, el2, lo2, hi2, l2, n1, _, _, _, _, _, n2⟩ := cells_at hr hy1
              obtain rfl := m2 rfl
              obtain rfl := n2 rfl
              have e1 : o1 = r.base a.block + a.off := ho1.elim id fun q => absurd (.inl q.1) hz
              have e2 : o2 = r.base b.block + b.off := ho2.elim id fun q => absurd (.inr (.inl q.1)) hz
              subst h3
              refine ⟨[(b.block, false), (a.block, false)], sim_log hr rfl rfl rfl, .bool _, ?_⟩
              conv => lhs; arg 2; whnf
              simp only [hp, Sem.run_bind, run_underlying hu, run_sizeOf hs, Result.andThen_ok]
              rw [if_neg hz]
              by_cases hab : a.block = b.block
              · have hbb : r.to a.block = r.to b.block := by rw [hab]
                simp only [hbb, bne_self_eq_false, Bool.false_and, Bool.false_eq_true, if_false, Sem.run_bind, Sem.run_pure, Result.andThen_ok, run_frozen m1, run_frozen n1]
                have e3 : r.base a.block = r.base b.block := by rw [hab]
                simp [e1, e2, e3, hab, Nat.add_assoc]
              · have hbb : ¬ r.to a.block = r.to b.block := fun c => hab (hr.inj _ _ _ _ hx1 hy1 c (.inr rfl))
                have hbn : (r.to a.block != r.to b.block) = true := by simpa using hbb
                have hbn2 : (r.to a.block == r.to b.block) = false := by simpa using hbb
                have hbn3 : (a.block == b.block) = false := by simpa using hab
                simp [hbn, hbn2, hbn3, Sem.run_bind, run_frozen m1, run_frozen n1, run_viewAt m1, run_viewAt n1, run_mayBeOne m1 n1, Result.andThen_ok]
            · exact (M.fail_some.1 h).elim
        · rename_i hnn
          obtain ⟨rfl, rfl⟩ := M.pure_some.1 h
          refine ⟨[], Sim.refl hr, .bool _, ?_⟩
          cases a with
          | none =>
            obtain ⟨rfl, rfl, rfl⟩ := hx.slcNil_inv
            cases hy <;> (conv => lhs; arg 2; whnf) <;> simp [hp, Sem.run_bind, run_underlying hu, run_sizeOf hs, Result.andThen_ok]
          | some a =>
            cases b with
            | none =>
              obtain ⟨rfl, rfl, rfl⟩ := hy.slcNil_inv
              obtain ⟨_, _, o1, c1, rfl, _⟩ := hx.slc_inv
              conv => lhs; arg 2; whnf
              simp [hp, Sem.run_bind, run_underlying hu, run_sizeOf hs, Result.andThen_ok]
            | some b => exact absurd rfl (hnn a b rfl)
end Go.Wb
end
/- The engine, part M13: all calls; a run that is found true. -/
section
set_option linter.unusedSimpArgs false
set_option linter.unusedVariables false
namespace Go.Wb
set_option linter.unusedSectionVars false
variable [GloK]
variable {P : Program} {r : Ren} {S S' : St} {w : World}

theorem rowC1 : Extern.allNextRows.lookup "internal/bytealg.CountString" = none := by rfl
theorem rowC2 : Extern.allGenericRows.lookup "internal/bytealg.CountString" = none := by rfl
theorem rowC3 : Extern.allTypedRows.lookup "internal/bytealg.CountString" = none := by rfl
theorem rowC4 : Extern.allRows.lookup "internal/bytealg.CountString" = some Extern.BytealgCount.count := by rfl
theorem rowM1 : Extern.allNextRows.lookup "internal/bytealg.abigen_runtime_cmpstring" = none := by rfl
theorem rowM2 : Extern.allGenericRows.lookup "internal/bytealg.abigen_runtime_cmpstring" = none := by rfl
theorem rowM3 : Extern.allTypedRows.lookup "internal/bytealg.abigen_runtime_cmpstring" = none := by rfl
theorem rowM4 : Extern.allRows.lookup "internal/bytealg.abigen_runtime_cmpstring" = some Extern.BytealgCompare.compare := by rfl
theorem countB_go (c : UInt8) : ∀ (l : List UInt8) (n : Nat), countB c l n = n + Lib.countByte l c
  | [], n => by simp [countB, Lib.countByte]
  | b :: l, n => by
    have e : Lib.countByte (b :: l) c = Lib.countByte l c + if b == c then 1 else 0 := by unfold Lib.countByte; rw [List.count_cons]
    rw [e]
    simp only [countB]
    split
    · rw [countB_go c l]; omega
    · rw [countB_go c l]; omega
theorem countB_eq (c : Int) (l : List UInt8) : ((countB (UInt8.ofNat c.toNat) l 0 : Nat) : Int) = (Lib.countByte l c.toNat.toUInt8 : Nat) := by
  rw [countB_go, Nat.zero_add]
theorem cmpB_eq : ∀ (a b : List UInt8), cmpB a b = Lib.compareBytes a b
  | [], [] => rfl
  | [], _ :: _ => rfl
  | _ :: _, [] => rfl
  | a :: r, b :: t => by
    simp only [cmpB, Lib.compareBytes]
    by_cases h : a = b
    · subst h
      simp only [BEq.rfl, if_true, UInt8.lt_irrefl, if_false]
      exact cmpB_eq r t
    · rw [if_neg (by simpa using h)]
      by_cases h2 : a < b
      · have h3 : a.toNat < b.toNat := UInt8.lt_iff_toNat_lt.1 h2
        rw [if_pos h2, if_pos (by rw [Nat.blt_eq]; exact h3)]
      · have h3 : b < a := UInt8.lt_of_le_of_ne (UInt8.not_lt.1 h2) (Ne.symm h)
        have h4 : ¬ a.toNat < b.toNat := fun k => h2 (UInt8.lt_iff_toNat_lt.2 k)
        rw [if_neg h2, if_pos h3, if_neg (by rw [Nat.blt_eq]; exact h4)]
theorem compFunc_ext {fn : Func} {k : XK} (h : compFunc P fn = some (.ext k)) : fn.body = none ∧
    ((k = .indexByte ∧ fn.name = "internal/bytealg.IndexByteString" ∧ fn.origin = "") ∨ (k = .countByte ∧ fn.name = "internal/bytealg.CountString" ∧ fn.origin = "") ∨
      (k = .cmpStr ∧ fn.name = "internal/bytealg.abigen_runtime_cmpstring" ∧ fn.origin = "") ∨
      ∃ size t e, k = .overlaps size ∧ fn.origin = "slices.overlaps" ∧ noRow fn.name = true ∧ fn.params[0]? = some t ∧ P.underlying t = some (.slice e) ∧ sizeT P e = some size) := by
  unfold compFunc at h
  split at h
  · rename_i hb
    refine ⟨hb, ?_⟩
    split at h
    · rename_i hn
      simp only [Option.some.injEq, AFn.ext.injEq] at h
      exact .inl ⟨h.symm, hn.1, hn.2⟩
    · split at h
      · rename_i hn
        simp only [Option.some.injEq, AFn.ext.injEq] at h
        exact .inr (.inl ⟨h.symm, hn.1, hn.2⟩)
      · split at h
        · rename_i hn
          simp only [Option.some.injEq, AFn.ext.injEq] at h
          exact .inr (.inr (.inl ⟨h.symm, hn.1, hn.2⟩))
        · split at h
          · rename_i hn
            split at h
            · simp at h
            · rename_i t ht
              split at h
              · rename_i e he
                cases hs : sizeT P e with
                | none => simp [hs] at h
                | some s =>
                  simp only [hs, Option.map_some, Option.some.injEq, AFn.ext.injEq] at h
                  exact .inr (.inr (.inr ⟨s, t, e, h.symm, hn.1, hn.2, ht, he, hs⟩))
              · simp at h
          · simp at h
  · split at h
    · simp at h
    · split at h <;> simp at h

theorem compFunc_go {fn : Func} {af : AFunc} (h : compFunc P fn = some (.go af)) : ∃ c, fn.body = some c ∧ fn.name ≠ "runtime.NumGoroutine" ∧ compCode P fn.ntmps c = some af.body ∧ compRes P fn.results.toList = some af.results ∧ af.nparams = fn.params.size + fn.nfree := by
  unfold compFunc at h
  split at h
  · split at h
    · simp at h
    · split at h
      · simp at h
      · split at h
        · simp at h
        · split at h
          · split at h
            · simp at h
            · split at h
              · rename_i e he
                cases hs : sizeT P e <;> simp [hs] at h
              · simp at h
          · simp at h
  · rename_i c hb
    split at h
    · simp at h
    · rename_i hn
      split at h
      · rename_i a rs ha hr
        simp only [Option.some.injEq, AFn.go.injEq] at h
        subst h
        exact ⟨c, hb, hn, ha, hr, rfl⟩
      · simp at h

theorem ext_ok {f : FuncId} {fn : Func} {k : XK} {args : List Value} {args' : Array Value} {v : Value} (hf : P.funcs[f]? = some fn) (hc : compFunc P fn = some (.ext k)) (h : extA k args S = some (v, S')) (hr : Rel P r S w) (ha : LRel r args args'.toList) :
    ∃ D v', Sim P D r S w r S' w ∧ VRel r v v' ∧ (callFunc f args').run P w = .ok (.value v') w := by
  obtain ⟨hb, hk⟩ := compFunc_ext hc
  have hbn : fn.body.isNone = true := by simp [hb]
  rcases hk with ⟨rfl, hname, horig⟩ | ⟨rfl, hname, horig⟩ | ⟨rfl, hname, horig⟩ | ⟨size, t, e, rfl, horig, hno, hp, hu, hs⟩
  · have hn : Extern.findNext fn = none := by
      simp only [Extern.findNext, hname, horig, row1, row2]
      rfl
    have he : Extern.find fn = some Extern.BytealgIndexByte.indexByte := by
      simp only [Extern.find, hname, row6, row7, row8]
      rfl
    have hform : ∃ s c, args = [.string s, .int .u8 c] := by
      rcases args with _ | ⟨x, _ | ⟨y, _ | ⟨z, args⟩⟩⟩
      · exact ((M.fail_some (S := S) (x := (v, S'))).1 h).elim
      · cases x <;> exact ((M.fail_some (S := S) (x := (v, S'))).1 h).elim
      · cases x <;> cases y <;> first | exact ((M.fail_some (S := S) (x := (v, S'))).1 h).elim | skip
        rename_i s k c
        cases k <;> first | exact ((M.fail_some (S := S) (x := (v, S'))).1 h).elim | exact ⟨_, _, rfl⟩
      · cases x <;> cases y <;> first | exact ((M.fail_some (S := S) (x := (v, S'))).1 h).elim | skip
        rename_i s k c
        cases k <;> exact ((M.fail_some (S := S) (x := (v, S'))).1 h).elim
    obtain ⟨s, c, rfl⟩ := hform
    simp only [extA] at h
    obtain ⟨rfl, rfl⟩ := M.pure_some.1 h
    have hargs : args' = #[.string s, .int .u8 c] := by
      obtain ⟨l⟩ := args'
      cases ha with
      | cons h1 h2 =>
        cases h2 with
        | cons h2 h3 =>
          cases h3
          cases h1; cases h2
          rfl
    subst hargs
    refine ⟨[], _, Sim.refl hr, .int _ _, ?_⟩
    rw [run_callFunc_extern hf (by rw [hname]; rfl) hbn hn he, run_indexByte_string]
    rw [firstIdx_eq]
    rfl
  · have hn : Extern.findNext fn = none := by
      simp only [Extern.findNext, hname, horig, rowC1, row2]
      rfl
    have he : Extern.find fn = some Extern.BytealgCount.count := by
      simp only [Extern.find, hname, rowC2, rowC3, rowC4]
      rfl
    have hform : ∃ s c, args = [.string s, .int .u8 c] := by
      rcases args with _ | ⟨x, _ | ⟨y, _ | ⟨z, args⟩⟩⟩
      · exact ((M.fail_some (S := S) (x := (v, S'))).1 h).elim
      · cases x <;> exact ((M.fail_some (S := S) (x := (v, S'))).1 h).elim
      · cases x <;> cases y <;> first | exact ((M.fail_some (S := S) (x := (v, S'))).1 h).elim | skip
        rename_i s k c
        cases k <;> first | exact ((M.fail_some (S := S) (x := (v, S'))).1 h).elim | exact ⟨_, _, rfl⟩
      · cases x <;> cases y <;> first | exact ((M.fail_some (S := S) (x := (v, S'))).1 h).elim | skip
        rename_i s k c
        cases k <;> exact ((M.fail_some (S := S) (x := (v, S'))).1 h).elim
    obtain ⟨s, c, rfl⟩ := hform
    simp only [extA] at h
    obtain ⟨rfl, rfl⟩ := M.pure_some.1 h
    have hargs : args' = #[.string s, .int .u8 c] := by
      obtain ⟨l⟩ := args'
      cases ha with
      | cons h1 h2 =>
        cases h2 with
        | cons h2 h3 =>
          cases h3
          cases h1; cases h2
          rfl
    subst hargs
    refine ⟨[], _, Sim.refl hr, .int _ _, ?_⟩
    rw [run_callFunc_extern hf (by rw [hname]; rfl) hbn hn he, Lib.run_countString, countB_eq]
    rfl
  · have hn : Extern.findNext fn = none := by
      simp only [Extern.findNext, hname, horig, rowM1, row2]
      rfl
    have he : Extern.find fn = some Extern.BytealgCompare.compare := by
      simp only [Extern.find, hname, rowM2, rowM3, rowM4]
      rfl
    have hform : ∃ s t, args = [.string s, .string t] := by
      rcases args with _ | ⟨x, _ | ⟨y, _ | ⟨z, args⟩⟩⟩
      · exact ((M.fail_some (S := S) (x := (v, S'))).1 h).elim
      · cases x <;> exact ((M.fail_some (S := S) (x := (v, S'))).1 h).elim
      · cases x <;> cases y <;> first | exact ((M.fail_some (S := S) (x := (v, S'))).1 h).elim | exact ⟨_, _, rfl⟩
      · cases x <;> cases y <;> exact ((M.fail_some (S := S) (x := (v, S'))).1 h).elim
    obtain ⟨s, c, rfl⟩ := hform
    simp only [extA] at h
    obtain ⟨rfl, rfl⟩ := M.pure_some.1 h
    have hargs : args' = #[.string s, .string c] := by
      obtain ⟨l⟩ := args'
      cases ha with
      | cons h1 h2 =>
        cases h2 with
        | cons h2 h3 =>
          cases h3
          cases h1; cases h2
          rfl
    subst hargs
    refine ⟨[], _, Sim.refl hr, .int _ _, ?_⟩
    rw [run_callFunc_extern hf (by rw [hname]; rfl) hbn hn he, Lib.run_compareString, cmpB_eq]
    rfl
  · simp only [noRow, Bool.and_eq_true, bne_iff_ne, ne_eq, Option.isNone_iff_eq_none] at hno
    obtain ⟨⟨⟨⟨hne, h1⟩, h2⟩, h3⟩, h4⟩ := hno
    have hn : Extern.findNext fn = none := by
      simp only [Extern.findNext, horig, h1, row3]
      rfl
    have he : Extern.find fn = some (Extern.SlicesOverlaps.overlaps fn.params fn.resultTypes) := by
      simp only [Extern.find, horig, h2, h3, h4, row4, row5]
      rfl
    obtain ⟨D, k1, k2, k3⟩ := overlaps_ok (results := fn.resultTypes) hp hu hs h hr ha
    refine ⟨D, v, k1, k2, ?_⟩
    rw [run_callFunc_extern hf (by simpa using hne) hbn hn he, k3]
    rfl

/-- new blocks alone -/
structure Grew (w w' : World) : Prop where
  os : w'.os = w.os
  tape : w'.tape = w.tape
  output : w'.output = w.output
  size : w.heap.size ≤ w'.heap.size
  old : ∀ k, k < w.heap.size → w'.heap[k]? = w.heap[k]?
theorem sim_grew (h : Rel P r S w) {w' : World} (hg : Grew w w') : Sim P [] r S w r S w' where
  le := .refl r
  rel := ⟨fun id b hb => by
    obtain ⟨h1, o1, h2, h3⟩ := h.at_ id b hb
    exact ⟨h1, o1, by rw [hg.old _ (Array.getElem?_eq_some_iff.1 h2).1]; exact h2, h3⟩, h.inj', h.glo⟩
  log := rfl
  next := Nat.le_refl _
  dom := fun id => ⟨fun h => .inl h, fun h => h.elim (fun h => h) fun ⟨a, b⟩ => by omega⟩
  size := hg.size
  os := hg.os
  tape := hg.tape
  output := hg.output
  frame := fun k hk _ => hg.old k hk
  kept := fun id b hb _ => by
    obtain ⟨h1, o1, h2, h3⟩ := h.at_ id b hb
    exact hg.old _ (Array.getElem?_eq_some_iff.1 h2).1
  same := fun _ _ _ => rfl
  live := fun _ _ h => h

/-- what a function answers, as a plain law of its plain arguments: and it touches nothing that was there -/
def SumOk (P : Program) (f : FuncId) (g : List Value → Option Value) : Prop := ∀ args v, g args = some v → ∀ (r : Ren) (w : World) (args' : Array Value), GloAt w → LRel r args args'.toList → ∀ c cs,
  ∃ w', Grew w w' ∧ plain v = true ∧ CallAt P c cs (callFunc f args') w v w'

/-- a function is what a primitive says -/
def ExtOk (P : Program) (f : FuncId) (k : XK) : Prop := ∀ args v S S', extA k args S = some (v, S') → ∀ r w, Rel P r S w → Fresh r S S' → ∀ args' : Array Value, LRel r args args'.toList → ∀ c cs,
  ∃ D r' w' v', Sim P D r S w r' S' w' ∧ VRel r' v v' ∧ CallAt P c cs (callFunc f args') w v' w'
/-- a table of functions: each as it is compiled, or by a law that has been proved of it -/
def TabOk (P : Program) (F : Nat → Option AFn) : Prop := ∀ f af, F f = some af → (∃ fn, P.funcs[f]? = some fn ∧ compFunc P fn = some af) ∨ (∃ g, af = .sum g ∧ SumOk P f g) ∨ ∃ k, af = .ext k ∧ ExtOk P f k

theorem comp_noSum {fn : Func} {g : List Value → Option Value} (h : compFunc P fn = some (.sum g)) : False := by
  unfold compFunc at h
  split at h
  · split at h
    · simp at h
    · split at h
      · simp at h
      · split at h
        · simp at h
        · split at h
          · split at h
            · simp at h
            · split at h
              · rename_i e he
                cases hs : sizeT P e <;> simp [hs] at h
              · simp at h
          · simp at h
  · split at h
    · simp at h
    · split at h <;> simp at h
theorem TabOk.comp {F : Nat → Option AFn} (hF : TabOk P F) {f : Nat} {af : AFunc} (h : F f = some (.go af)) : ∃ fn, P.funcs[f]? = some fn ∧ compFunc P fn = some (.go af) := by
  rcases hF f _ h with h | ⟨g, h, _⟩ | ⟨k, h, _⟩
  · exact h
  · cases h
  · cases h
theorem TabOk.ext {F : Nat → Option AFn} (hF : TabOk P F) {f : Nat} {k : XK} (h : F f = some (.ext k)) : ExtOk P f k := by
  rcases hF f _ h with ⟨fn, h1, h2⟩ | ⟨g, h, _⟩ | ⟨k', h, h2⟩
  · intro args v S S' he r w hr _ args' ha c cs
    obtain ⟨D, v', k1, k2, k3⟩ := ext_ok h1 h2 he hr ha
    exact ⟨D, r, w, v', k1, k2, .inl k3⟩
  · cases h
  · cases h; exact h2
theorem TabOk.sum {F : Nat → Option AFn} (hF : TabOk P F) {f : Nat} {g : List Value → Option Value} (h : F f = some (.sum g)) : SumOk P f g := by
  rcases hF f _ h with ⟨fn, _, h2⟩ | ⟨g', h, k⟩ | ⟨k, h, _⟩
  · exact (comp_noSum h2).elim
  · obtain rfl : g = g' := by simpa using h
    exact k
  · cases h

theorem callN_ok (hm : P.follows .mixedOrders = true) {F : Nat → Option AFn} (hF : TabOk P F) : ∀ n, CallOk P (callN F n) := by
  intro n
  induction n with
  | zero => intro t args v S S' h; exact (M.fail_some.1 h).elim
  | succ n ih =>
    intro t args v S S' h r w hr hf args' ha hd fc cs
    cases t with
    | fn f =>
      rcases hk : F f with _ | af | k | g
      · simp only [callN, hk] at h
        exact (M.fail_some.1 h).elim
      rotate_left
      · simp only [callN, hk] at h
        exact hF.ext hk args v S S' h r w hr hf args' ha fc cs
      · simp only [callN, hk] at h
        obtain ⟨hg, rfl⟩ := M.lift_some.1 h
        obtain ⟨w', k1, k2, k3⟩ := hF.sum hk args v hg r w args' hr.gat ha fc cs
        exact ⟨[], r, w', v, sim_grew hr k1, plain_rel k2, k3⟩
      · simp only [callN, hk] at h
        obtain ⟨fn, h1, h2⟩ := hF.comp hk
        obtain ⟨c, hb, hname, hc, hrs, hnp⟩ := compFunc_go h2
        split at h
        · rename_i hlen
          simp only [M.bind_some] at h
          obtain ⟨⟨x, e'⟩, S1, h3, h4⟩ := h
          have h5 : (∀ id, x ≠ .exit id) ∧ ∃ vs, resAll e' af.results S1 = some (vs, S') ∧ v = (match (generalizing := false) vs with | [v] => v | vs => .tuple vs.toArray) := by
            have key : ∀ {vs : List Value} {S2 : St}, resAll e' af.results S1 = some (vs, S2) → (match vs with | [v] => M.pure v | vs => M.pure (.tuple vs.toArray) : M Value) S2 = some (v, S') →
                ∃ vs, resAll e' af.results S1 = some (vs, S') ∧ v = (match (generalizing := false) vs with | [v] => v | vs => .tuple vs.toArray) := by
              intro vs S2 q1 q2
              split at q2
              · obtain ⟨rfl, rfl⟩ := M.pure_some.1 q2; exact ⟨_, q1, rfl⟩
              · rename_i hne
                obtain ⟨rfl, rfl⟩ := M.pure_some.1 q2
                refine ⟨_, q1, ?_⟩
                split
                · exact absurd rfl (hne _)
                · rfl
            cases x with
            | exit id => exact (M.fail_some.1 h4).elim
            | normal =>
              simp only [M.bind_some] at h4
              obtain ⟨vs, S2, q1, q2⟩ := h4
              exact ⟨fun id => by simp, key q1 q2⟩
            | ret =>
              simp only [M.bind_some] at h4
              obtain ⟨vs, S2, q1, q2⟩ := h4
              exact ⟨fun id => by simp, key q1 q2⟩
          obtain ⟨hx, vs, h6, rfl⟩ := h5
          obtain ⟨D, r', w', v', k1, k2, k3⟩ := go_ok hm ih (Framed.callN F n) h1 hb hc hrs h3 hx h6 hr hf ha (fc :: cs)
          refine ⟨D, r', w', v', k1, k2, .inr (.inr (.inl ⟨f, args', ?_, ?_⟩))⟩
          · simp [tgtSem, callFunc, h1, hname, hb]
          · obtain ⟨fr, m1, _, m2⟩ := k3
            exact m1.trans (.one (step_leave_returned m2))
        · exact (M.fail_some.1 h).elim
    | yield l =>
      simp only [callN, M.bind_some, rd_some] at h
      obtain ⟨o, S0, ⟨hg, rfl⟩, h⟩ := h
      split at h
      · rename_i ps as bd env
        split at h
        · rename_i hlen
          simp only [M.bind_some] at h
          obtain ⟨_, Sw, hw, ⟨x1, e1⟩, S2, h1, h⟩ := h
          simp only [wr, Option.some.injEq, Prod.mk.injEq, true_and] at hw
          subst hw
          cases x1 with
          | normal =>
            simp only [M.bind_some] at h
            obtain ⟨⟨x, e2⟩, S3, h2, h⟩ := h
            have h7 : S' = { heap := S3.heap.set l (some (.loop ps as bd env (pendOf x))), next := S3.next, log := (l, true) :: S3.log } ∧ v = .bool (pendOf x).isNone := by
              cases x with
              | normal =>
                simp only [M.bind_some] at h
                obtain ⟨_, Sx, hwx, h⟩ := h
                simp only [wr, Option.some.injEq, Prod.mk.injEq, true_and] at hwx
                subst hwx
                obtain ⟨rfl, rfl⟩ := M.pure_some.1 h
                exact ⟨rfl, rfl⟩
              | ret =>
                simp only [M.bind_some] at h
                obtain ⟨_, Sx, hwx, h⟩ := h
                simp only [wr, Option.some.injEq, Prod.mk.injEq, true_and] at hwx
                subst hwx
                obtain ⟨rfl, rfl⟩ := M.pure_some.1 h
                exact ⟨rfl, rfl⟩
              | exit id =>
                simp only [M.bind_some] at h
                obtain ⟨_, Sx, hwx, h⟩ := h
                simp only [wr, Option.some.injEq, Prod.mk.injEq, true_and] at hwx
                subst hwx
                obtain ⟨rfl, rfl⟩ := M.pure_some.1 h
                exact ⟨rfl, rfl⟩
            obtain ⟨rfl, rfl⟩ := h7
            obtain ⟨D, r', w', k1, k2⟩ := yield_ok hm ih (Framed.callN F n) hg hlen h1 h2 rfl hr hf ha fc cs
            exact ⟨D, r', w', _, k1, .bool _, k2⟩
          | ret => exact (M.fail_some.1 h).elim
          | exit id => exact (M.fail_some.1 h).elim
        · exact (M.fail_some.1 h).elim
      · exact (M.fail_some.1 h).elim

/-- a call that the evaluation carries through from an abstract start -/
theorem callN_calls (hm : P.follows .mixedOrders = true) {F : Nat → Option AFn} (hF : TabOk P F) {n : Nat} {f : FuncId} {args : List Value} {v : Value} (h : callN F n (.fn f) args S = some (v, S')) (hr : Rel P r S w) (hf : Fresh r S S') {args' : Array Value} (ha : LRel r args args'.toList)
    (hgo : ∀ k, F f ≠ some (.ext k)) (hgs : ∀ g, F f ≠ some (.sum g)) (cs : List Frame) :
    ∃ D r' w' v', Sim P D r S w r' S' w' ∧ VRel r' v v' ∧ ∃ fr, Steps P (lone (Frame.enter P f args' .normal) cs w) (lone fr cs w') ∧ fr.fn = f ∧ fr.leaving P w' (.returned v') := by
  cases n with
  | zero => exact (M.fail_some.1 h).elim
  | succ n =>
    rcases hk : F f with _ | af | k | g
    · simp only [callN, hk] at h
      exact (M.fail_some.1 h).elim
    rotate_left
    · exact absurd hk (hgo k)
    · exact absurd hk (hgs g)
    · simp only [callN, hk] at h
      obtain ⟨fn, h1, h2⟩ := hF.comp hk
      obtain ⟨c, hb, hname, hc, hrs, hnp⟩ := compFunc_go h2
      split at h
      · rename_i hlen
        simp only [M.bind_some] at h
        obtain ⟨⟨x, e'⟩, S1, h3, h4⟩ := h
        have h5 : (∀ id, x ≠ .exit id) ∧ ∃ vs, resAll e' af.results S1 = some (vs, S') ∧ v = (match (generalizing := false) vs with | [v] => v | vs => .tuple vs.toArray) := by
          have key : ∀ {vs : List Value} {S2 : St}, resAll e' af.results S1 = some (vs, S2) → (match vs with | [v] => M.pure v | vs => M.pure (.tuple vs.toArray) : M Value) S2 = some (v, S') →
              ∃ vs, resAll e' af.results S1 = some (vs, S') ∧ v = (match (generalizing := false) vs with | [v] => v | vs => .tuple vs.toArray) := by
            intro vs S2 q1 q2
            split at q2
            · obtain ⟨rfl, rfl⟩ := M.pure_some.1 q2; exact ⟨_, q1, rfl⟩
            · rename_i hne
              obtain ⟨rfl, rfl⟩ := M.pure_some.1 q2
              refine ⟨_, q1, ?_⟩
              split
              · exact absurd rfl (hne _)
              · rfl
          cases x with
          | exit id => exact (M.fail_some.1 h4).elim
          | normal =>
            simp only [M.bind_some] at h4
            obtain ⟨vs, S2, q1, q2⟩ := h4
            exact ⟨fun id => by simp, key q1 q2⟩
          | ret =>
            simp only [M.bind_some] at h4
            obtain ⟨vs, S2, q1, q2⟩ := h4
            exact ⟨fun id => by simp, key q1 q2⟩
        obtain ⟨hx, vs, h6, rfl⟩ := h5
        exact go_ok hm (callN_ok hm hF n) (Framed.callN F n) h1 hb hc hrs h3 hx h6 hr hf ha cs
      · exact (M.fail_some.1 h).elim
end Go.Wb
end
