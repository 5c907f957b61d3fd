/- The engine, part M10: functions and rounds. -/
import Derived.Test.YtmepokefmpcnnaaEngM9
set_option linter.unusedSimpArgs false
set_option linter.unusedVariables false
namespace Go.Wb
variable {P : Program} {r : Ren} {S S' : St} {w : World}

theorem argsEnv_ok {r : Ren} {l l' : List Value} (h : LRel r l l') : ∀ (i : Nat) (e : Env) (tmps : Array Value), EnvRel r e tmps → (∀ j v, l'[j]? = some v → tmps[i + j]? = some v) → EnvRel r (argsEnv l i e) tmps := by
  induction h with
  | nil => intro i e tmps hE _; exact hE
  | @cons v v' l l' hv ht ih =>
    intro i e tmps hE hat
    simp only [argsEnv]
    refine ih (i + 1) _ tmps ?_ fun j x hx => by
      have := hat (j + 1) x (by simpa using hx)
      rwa [show i + 1 + j = i + (j + 1) by omega]
    intro t x hx
    rw [Tr.get_set] at hx
    split at hx
    · rename_i e1
      obtain rfl : v = x := by simpa using hx
      exact ⟨v', by rw [e1]; simpa using hat 0 v' rfl, hv⟩
    · exact hE t x hx

theorem zipSet_ok {r : Ren} : ∀ (ps : List Nat) {l l' : List Value} (e : Env) (tmps : Array Value), LRel r l l' → EnvRel r e tmps → (∀ p ∈ ps, p < tmps.size) →
    EnvRel r (zipSet ps l e) ((ps.zip l').foldl (fun t x => t.setIfInBounds x.1 x.2) tmps) ∧ ((ps.zip l').foldl (fun t x => t.setIfInBounds x.1 x.2) tmps).size = tmps.size
  | [], l, l', e, tmps, h, hE, hp => by simpa [zipSet] using hE
  | p :: ps, [], l', e, tmps, h, hE, hp => by
    cases h
    simpa [zipSet] using hE
  | p :: ps, v :: l, l', e, tmps, h, hE, hp => by
    cases h with
    | cons hv ht =>
      simp only [zipSet, List.zip_cons_cons, List.foldl_cons]
      have := zipSet_ok ps (e.set p (some v)) (tmps.setIfInBounds p _) ht (hE.put (hp p (by simp)) hv) (fun q hq => by simpa using hp q (by simp [hq]))
      refine ⟨this.1, by rw [this.2]; simp⟩

/-- the rounds' blocks of a frame that returns -/
theorem unwind_ok {D : List (Nat × Bool)} {r' : Ren} {S1 : St} (h : Rel P r S w) : ∀ (rs : List Nat) (w' : World), Sim P D r S w r' S1 w' → rs.Nodup → (∀ b ∈ rs, w'.heap[b]? = some (.deferred (some [])) ∧ w.heap.size ≤ b) →
    ∃ w'', Sim P D r S w r' S1 w'' ∧ ∀ (fr : Frame) (cs : List Frame), fr.mode = .returning → fr.defers = rs.map mkD → Steps P (lone fr cs w') (lone { fr with defers := [] } cs w'')
  | [], w', hs, _, _ => ⟨w', hs, fun fr cs _ hd => by
      have : ({ fr with defers := [] } : Frame) = fr := by cases fr; simp at hd ⊢; exact hd
      rw [this]; exact .refl _ _⟩
  | b :: rs, w', hs, hn, hb => by
    obtain ⟨hb1, hb2⟩ := hb b (by simp)
    have hrun := run_takeDeferred (P := P) hb1
    have hblt := (Array.getElem?_eq_some_iff.1 hb1).1
    have hup : Beside w' (w'.putObj b (.deferred none)) b := ⟨by simp, fun k hk => World.putObj_heap_other hk, rfl, rfl, rfl⟩
    have hs' := sim_beside h hs hup (deferred_dead hs.rel hb1) (.inl hb2)
    obtain ⟨w'', h1, h2⟩ := unwind_ok h rs _ hs' (List.nodup_cons.1 hn).2 (fun c hc => by
      have hne : c ≠ b := fun e => (List.nodup_cons.1 hn).1 (e ▸ hc)
      rw [World.putObj_heap_other hne]
      exact hb c (by simp [hc]))
    refine ⟨w'', h1, fun fr cs hm hd => ?_⟩
    refine .head (m₁ := lone { fr with defers := rs.map mkD } cs (w'.putObj b (.deferred none))) (step_lone_go ?_) ?_
    · simp [stepG, unwind, hm, hd, mkD, Sem.runT_eq, hrun, GStep.bare_after]
    · have := h2 { fr with defers := rs.map mkD } cs hm rfl
      exact this

section
variable {call : Tgt → List Value → M Value}

theorem st_end_normal {fn : FuncId} {tmps : Array Value} {ds : List Deferred} {cs : List Frame} {w : World} :
    step P (lone (Fr fn none tmps ds []) cs w) = .next (lone { Fr fn none tmps ds [] with mode := .returning } cs w) := step_lone_go (by simp [stepG, stepG.exec, Fr])
theorem st_end_ret {fn : FuncId} {tmps : Array Value} {ds : List Deferred} {k : List Item} {cs : List Frame} {w : World} :
    step P (lone (Fr fn none tmps ds (.code .ret :: k)) cs w) = .next (lone { Fr fn none tmps ds (.code .ret :: k) with mode := .returning } cs w) := step_lone_go (by simp [stepG, stepG.exec, Fr])

/-- a function, run to its end -/
theorem go_ok (hm : P.follows .mixedOrders = true) (hcall : CallOk P call) (hfr : ∀ t a, Framed (call t a)) {fuel : Nat} {f : FuncId} {fn : Func} {c : Code} {ac : ACode} {rs : List ARes} (hf : P.funcs[f]? = some fn) (hb : fn.body = some c)
    (hc : compCode P fn.ntmps c = some ac) (hrs : compRes P fn.results.toList = some rs) {args : List Value} {args' : Array Value} {x : Ext} {e' : Env} {S1 : St} {vs : List Value}
    (h1 : run call fuel ac (argsEnv args 0 .leaf) S = some ((x, e'), S1)) (hx : ∀ id, x ≠ .exit id) (h2 : resAll e' rs S1 = some (vs, S')) (hr : Rel P r S w) (hfresh : Fresh r S S') (ha : LRel r args args'.toList) :
    ∃ D r' w' v', Sim P D r S w r' S' w' ∧ VRel r' (match (generalizing := false) vs with | [v] => v | vs => .tuple vs.toArray) v' ∧
      ∀ cs, ∃ fr, Steps P (lone (Frame.enter P f args' .normal) cs w) (lone fr cs w') ∧ fr.fn = f ∧ fr.leaving P w' (.returned v') := by
  have hent : Frame.enter P f args' .normal = Fr f none (args' ++ Array.replicate (fn.ntmps - args'.size) undef) [] [.code c] := by
    simp [Frame.enter, hf, hb, Fr]
  have hE : EnvRel r (argsEnv args 0 .leaf) (args' ++ Array.replicate (fn.ntmps - args'.size) undef) := by
    refine argsEnv_ok ha 0 .leaf _ (fun t v hv => by rw [Tr.get_leaf] at hv; simp at hv) fun j v hv => ?_
    have hj : j < args'.size := by simpa using (List.getElem?_eq_some_iff.1 hv).1
    rw [Nat.zero_add, Array.getElem?_append_left hj, ← Array.getElem?_toList]
    exact hv
  have hm2 := Framed.next (Framed.resAll e' rs) h2
  obtain ⟨D, r1, w1, tmps1, ds1, k1, k2, k3, k4, k5, k6⟩ := code_ok (lb := w.heap.size) hm hcall hfr fuel c fn.ntmps ac hc _ S x e' S1 h1 r w _ (by simp; omega) hr hE (hfresh.left hm2) f none [] trivial ⟨Nat.le_refl _, [], rfl, by simp, by simp⟩
  obtain ⟨_, rs1, hds, hnd, hdef⟩ := k4
  obtain ⟨w2, hs2, hst2⟩ := unwind_ok hr rs1 w1 k1 hnd hdef
  obtain ⟨D3, v', m1, m2, m3, m4⟩ := results_ok hrs h2 hs2.rel k2
  refine ⟨_, r1, w2, v', hs2.trans hfresh hr m2, m1, fun cs => ?_⟩
  rw [hent]
  obtain ⟨k', q1, q2⟩ := k6 [] cs
  have hmode : ∃ todo, Steps P (lone (Fr f none tmps1 ds1 k') cs w1) (lone { Fr f none tmps1 ds1 todo with mode := .returning } cs w1) := by
    cases x with
    | normal =>
      obtain rfl : k' = [] := q1
      exact ⟨_, .one st_end_normal⟩
    | ret =>
      obtain ⟨k2', rfl⟩ := q1
      exact ⟨_, .one st_end_ret⟩
    | exit id => exact absurd rfl (hx id)
  obtain ⟨todo, hst⟩ := hmode
  refine ⟨_, (q2.trans hst).trans (hst2 _ cs rfl hds), rfl, rfl, rfl, rfl, fn, hf, m4⟩

theorem st_beginRound {l : Nat} {L : Loop} {fn : FuncId} {tmps : Array Value} {ds : List Deferred} {k : List Item} {cs : List Frame} {w : World} (h : w.heap[l]? = some (.loop L)) (hL : L.state = .ready) :
    step P (lone (Fr fn (some l) tmps ds (.beginRound :: k)) cs w) = .next (lone (Fr fn (some l) tmps ds k) cs (w.putObj l (.loop { L with state := .busy }))) :=
  step_lone_go (by simp [stepG, stepG.exec, Fr, stepG.apply, Sem.run_bind, run_beginRound h hL, Result.andThen_ok, Frame.finish])
theorem st_round_end {l : Nat} {L : Loop} {fn : FuncId} {tmps : Array Value} {ds : List Deferred} {c : Frame} {cs : List Frame} {w : World} (h : w.heap[l]? = some (.loop L)) :
    step P (lone (Fr fn (some l) tmps ds []) (c :: cs) w) = .next (lone (c.finish (.bool true)) cs (w.putObj l (.loop { L with state := .ready, pending := none }))) :=
  step_lone_go (by
    have := run_endRound (P := P) none h
    simp only [Option.isNone_none, if_true] at this
    simp [stepG, stepG.exec, Fr, Sem.runT_eq, this, GStep.bare_after, doReturn])
theorem st_round_ret {l : Nat} {L : Loop} {fn : FuncId} {tmps : Array Value} {ds : List Deferred} {k : List Item} {c : Frame} {cs : List Frame} {w : World} (h : w.heap[l]? = some (.loop L)) :
    step P (lone (Fr fn (some l) tmps ds (.code .ret :: k)) (c :: cs) w) = .next (lone (c.finish (.bool false)) cs (w.putObj l (.loop { L with state := .done, pending := some .ret }))) :=
  step_lone_go (by
    have := run_endRound (P := P) (some .ret) h
    simp only [Option.isNone_some, Bool.false_eq_true, if_false] at this
    simp [stepG, stepG.exec, Fr, Sem.runT_eq, this, GStep.bare_after, doReturn])
theorem st_round_exit {l id : Nat} {L : Loop} {fn : FuncId} {tmps : Array Value} {ds : List Deferred} {k : List Item} {c : Frame} {cs : List Frame} {w : World} (hk : exitTo id k = none) (h : w.heap[l]? = some (.loop L)) :
    step P (lone (Fr fn (some l) tmps ds (.code (.exit id) :: k)) (c :: cs) w) = .next (lone (c.finish (.bool false)) cs (w.putObj l (.loop { L with state := .done, pending := some (.exit id) }))) :=
  step_lone_go (by
    have := run_endRound (P := P) (some (.exit id)) h
    simp only [Option.isNone_some, Bool.false_eq_true, if_false] at this
    simp [stepG, stepG.exec, Fr, hk, Sem.runT_eq, this, GStep.bare_after, doReturn])

/-- a round ends -/
theorem st_round {x : Ext} {l : Nat} {L : Loop} {fn : FuncId} {tmps : Array Value} {ds : List Deferred} {k : List Item} {c : Frame} {cs : List Frame} {w : World} (hx : ArrTodo x [] k) (h : w.heap[l]? = some (.loop L)) :
    ∃ p : Option Ext, (p = match x with | .normal => none | y => some y) ∧ ∃ L', PendOk L' p ∧ L'.params = L.params ∧ L'.tmps = L.tmps ∧ L'.assign = L.assign ∧ L'.body = L.body ∧ ∀ c cs,
      step P (lone (Fr fn (some l) tmps ds k) (c :: cs) w) = .next (lone (c.finish (.bool p.isNone)) cs (w.putObj l (.loop L'))) := by
  cases x with
  | normal =>
    obtain rfl : k = [] := hx
    exact ⟨none, rfl, { L with state := .ready, pending := none }, ⟨rfl, rfl⟩, rfl, rfl, rfl, rfl, fun c cs => st_round_end h⟩
  | ret =>
    obtain ⟨k2, rfl⟩ := hx
    exact ⟨some .ret, rfl, { L with state := .done, pending := some .ret }, ⟨rfl, by simp, rfl⟩, rfl, rfl, rfl, rfl, fun c cs => st_round_ret h⟩
  | exit id =>
    obtain ⟨k2, rfl, hk⟩ := hx
    exact ⟨some (.exit id), rfl, { L with state := .done, pending := some (.exit id) }, ⟨rfl, by simp, rfl⟩, rfl, rfl, rfl, rfl, fun c cs => st_round_exit (by rw [hk]; rfl) h⟩
end
end Go.Wb
