/- The engine, part M2: instructions and straight regions. -/
import Derived.Test.YtmepokefmpcnnaaEngM1
set_option linter.unusedSimpArgs false
set_option linter.unusedVariables false
namespace Go.Wb
variable {P : Program} {r : Ren} {S S' : St} {w : World}

/-- the model's call of a target -/
def tgtSem (r : Ren) : Tgt → Array Value → Sem Next
  | .fn f, args => callFunc f args
  | .yield l, args => Instr.yield (r.to l) args
def tgtDom (r : Ren) : Tgt → Prop
  | .fn _ => True
  | .yield l => r.dom l

/-- calls, as the abstract evaluation makes them, are the model's -/
def CallOk (P : Program) (call : Tgt → List Value → M Value) : Prop := ∀ t args v S S', call t args S = some (v, S') → ∀ r w, Rel P r S w → Fresh r S S' → ∀ args' : Array Value, LRel r args args'.toList → tgtDom r t →
  ∃ D r' w' v', Sim P D r S w r' S' w' ∧ VRel r' v v' ∧ CallTo P (tgtSem r t args') w v' w'

theorem target_ok {g g' : Value} {args : List Value} {args' : Array Value} {t : Tgt × List Value} (h : target g args = some t) (hg : VRel r g g') (ha : LRel r args args'.toList) :
    tgtDom r t.1 ∧ ∃ (fn : Fn) (first captured : Array Value) (all : Array Value), g' = .func fn first captured ∧ LRel r t.2 all.toList ∧ invoke (.fn fn captured) (first ++ args') = tgtSem r t.1 all := by
  unfold target at h
  split at h
  · rename_i f a c
    simp only [Option.some.injEq] at h; subst h
    cases hg
    rename_i a' c' h1 h2 h3 h4
    refine ⟨trivial, .func f, a', c', a' ++ args' ++ c', rfl, ?_, rfl⟩
    simp only [Array.toList_append]
    exact ((LRel.of h1 h2).append ha).append (LRel.of h3 h4)
  · rename_i l a c
    simp only [Option.some.injEq] at h; subst h
    cases hg
    rename_i hd
    refine ⟨hd, .yield (r.to l), #[], #[], args', rfl, ha, ?_⟩
    simp [invoke, tgtSem]
  · simp at h

section
variable {call : Tgt → List Value → M Value} {e e' : Env} {tmps : Array Value} {v : Value} {o : Oper} {aop : AOp}

theorem call_ok (hcall : CallOk P call) {c : Call} {f : Operand} (ho : o.op = .call c) (hcal : c.callee = .value f) (hc : compOp0 P o.op = some aop) (he : exec call e aop S = some (v, S')) (hr : Rel P r S w) (hE : EnvRel r e tmps) (hf : Fresh r S S') :
    ∃ D r' w' v', Sim P D r S w r' S' w' ∧ VRel r' v v' ∧ CallTo P (execOp (evT tmps) o) w v' w' := by
  rw [ho] at hc
  simp only [compOp0, hcal, Option.bind_eq_bind, Option.bind_eq_some_iff, Option.some.injEq] at hc
  obtain ⟨a, ha, as, has, rfl⟩ := hc
  simp only [exec, M.bind_some, M.lift_some, M.pure_some] at he
  obtain ⟨g, _, ⟨h1, rfl⟩, l, _, ⟨h2, rfl⟩, t, _, ⟨h3, rfl⟩, v0, S1, h4, rfl, rfl⟩ := he
  have hg := atom_ok ha h1 hE
  have hl := atoms_ok hE has h2
  have hl' : LRel r l (c.args.map (evT tmps)).toList := by simpa using hl
  obtain ⟨hd, fn, first, captured, all, e1, e2, e3⟩ := target_ok h3 hg hl'
  obtain ⟨D, r', w', v', k1, k2, k3⟩ := hcall _ _ _ _ _ h4 r w hr hf all e2 hd
  refine ⟨D, r', w', v', k1, k2, ?_⟩
  have : execOp (evT tmps) o = tgtSem r t.1 all := by
    simp only [execOp, ho, resolve, hcal, e1, Deferred.ofValue, bind, Sem.bind, Pure.pure, e3]
  rw [this]; exact k3

theorem op_ok (hcall : CallOk P call) (hc : compOp P o.op = some aop) (he : exec call e aop S = some (v, S')) (hr : Rel P r S w) (hE : EnvRel r e tmps) (hf : Fresh r S S') :
    ∃ D r' w' v', Sim P D r S w r' S' w' ∧ VRel r' v v' ∧ CallTo P (execOp (evT tmps) o) w v' w' := by
  by_cases h : ∃ c f, o.op = .call c ∧ c.callee = .value f
  · obtain ⟨c, f, ho, hcal⟩ := h
    rcases compOp_inv hc with hc | rfl
    · exact call_ok hcall ho hcal hc he hr hE hf
    · simp [exec, M.fail] at he
  · obtain ⟨D, r', w', v', k1, k2, k3⟩ := exec_ok hc (fun c f ho hcal => h ⟨c, f, ho, hcal⟩) he hr hE hf
    refine ⟨D, r', w', v', k1, k2, ?_⟩
    rcases k3 with k3 | k3
    · exact .inl k3
    · exact .inr (.inl k3)

theorem comp_noDefer (hc : compOp P o.op = some aop) : ∀ c, o.op ≠ .defer c := by
  intro c h
  rw [h] at hc
  simp [compOp, isDefer] at hc

/-- a guard, both sides -/
theorem guard_ok {ops : Array Oper} {j d : Nat} {want b : Bool} {oj : Oper} {gv : Value} (hj : ops[j]? = some oj) (hd : oj.dst = some d) (hg : e.get d = some gv) (hw : wanted want gv = some b) (hE : EnvRel r e tmps) (hog : o.guard = some (j, want)) :
    Region.wanted o (yielded ops tmps) = b := by
  obtain ⟨gv', h1, h2⟩ := hE d gv hg
  simp only [Region.wanted, hog, yielded, hj, Option.bind_some, hd, h1]
  cases gv <;> simp [wanted] at hw
  · obtain rfl := h2.bool_inv
    simp
    exact hw
  · obtain ⟨a', rfl, _⟩ := h2.tuple_inv
    subst hw
    rfl

theorem compInstr_some {n : Nat} {ops : Array Oper} {ai : AInstr} (h : compInstr P n ops o = some ai) : ai.dst = o.dst ∧ compOp P o.op = some ai.op ∧ (∀ d, o.dst = some d → d < n) ∧
    ((o.guard = none ∧ ai.guard = none) ∨ ∃ j want oj d, o.guard = some (j, want) ∧ ops[j]? = some oj ∧ oj.dst = some d ∧ ai.guard = some (d, want)) := by
  unfold compInstr at h
  split at h
  · rename_i g a hg ha
    split at h
    · rename_i hd
      simp only [Option.some.injEq] at h; subst h
      refine ⟨rfl, ha, ?_, ?_⟩
      · intro d hd2; rw [hd2] at hd; simpa using hd
      · unfold guardOf at hg
        split at hg
        · rename_i hgn
          simp at hg; subst hg
          exact .inl ⟨hgn, rfl⟩
        · rename_i j want hgs
          split at hg
          · rename_i oj hoj
            split at hg
            · rename_i d hdd
              simp at hg; subst hg
              exact .inr ⟨j, want, oj, d, hgs, hoj, hdd, rfl⟩
            · simp at hg
          · simp at hg
    · simp at h
  · simp at h

theorem EnvRel.putT {r : Ren} {e : Env} {tmps : Array Value} (k : EnvRel r e tmps) {d : Option Nat} (hd : ∀ x, d = some x → x < tmps.size) {v v' : Value} (hv : VRel r v v') : EnvRel r (putD e d v) (putT tmps d v') := by
  cases d with
  | none => exact k
  | some d => exact k.put (hd d rfl) hv
theorem putT_size (tmps : Array Value) (d : Option Nat) (v : Value) : (putT tmps d v).size = tmps.size := by cases d <;> simp [putT]

/-- one instruction -/
theorem instr_ok (hcall : CallOk P call) {n : Nat} {ops : Array Oper} {i : Nat} {ai : AInstr} (ho : ops[i]? = some o) (hc : compInstr P n ops o = some ai) (he : instr call ai e S = some (e', S')) (hr : Rel P r S w) (hE : EnvRel r e tmps) (hf : Fresh r S S') :
    ∃ v D r' w' v', e' = putD e o.dst v ∧ Sim P D r S w r' S' w' ∧ VRel r' v v' ∧ ∀ fn ro ds rest k cs, Steps P (lone (Fr fn ro tmps ds (.inRegion ops (i :: rest) :: k)) cs w) (lone (Fr fn ro (putT tmps o.dst v') ds (.inRegion ops rest :: k)) cs w') := by
  obtain ⟨h1, h2, h3, h4⟩ := compInstr_some hc
  have hnd := comp_noDefer h2
  rcases h4 with ⟨hg, hag⟩ | ⟨j, want, oj, d, hg, hoj, hdj, hag⟩
  · simp only [instr, hag, M.bind_some, M.pure_some] at he
    obtain ⟨v, S1, h5, rfl, rfl⟩ := he
    obtain ⟨D, r', w', v', k1, k2, k3⟩ := op_ok hcall h2 h5 hr hE hf
    exact ⟨v, D, r', w', v', by rw [h1], k1, k2, fun fn ro ds rest k cs => steps_oper ho (by simp [Region.wanted, hg]) hnd k3⟩
  · simp only [instr, hag, M.bind_some, M.lift_some, Option.bind_eq_some_iff] at he
    obtain ⟨b, _, ⟨⟨gv, hgv, hw⟩, rfl⟩, he⟩ := he
    have hwant := guard_ok (o := o) hoj hdj hgv hw hE hg
    cases b with
    | true =>
      simp only [if_true, M.bind_some, M.pure_some] at he
      obtain ⟨v, S1, h5, rfl, rfl⟩ := he
      obtain ⟨D, r', w', v', k1, k2, k3⟩ := op_ok hcall h2 h5 hr hE hf
      exact ⟨v, D, r', w', v', by rw [h1], k1, k2, fun fn ro ds rest k cs => steps_oper ho hwant hnd k3⟩
    | false =>
      simp only [Bool.false_eq_true, if_false] at he
      obtain ⟨rfl, rfl⟩ := M.pure_some.1 he
      refine ⟨undef, [], r, w, undef, by rw [h1], Sim.refl hr, undef_rel, fun fn ro ds rest k cs => ?_⟩
      have := st_unwanted (P := P) (fn := fn) (ro := ro) (tmps := tmps) (ds := ds) (k := k) (cs := cs) (w := w) (ops := ops) (i := i) (rest := rest) (by simp [ho, hwant])
      rw [ho] at this
      exact .one this

theorem sub_fresh {P : Program} {D : List (Nat × Bool)} {r r1 : Ren} {S S1 S2 : St} {w w1 : World} (h : Fresh r S S2) (h1 : S1.next ≤ S2.next) : Fresh r S S1 := h.left h1

theorem exec_next (hn : ∀ t a v S S', call t a S = some (v, S') → S.next ≤ S'.next) : True := trivial
end
end Go.Wb
