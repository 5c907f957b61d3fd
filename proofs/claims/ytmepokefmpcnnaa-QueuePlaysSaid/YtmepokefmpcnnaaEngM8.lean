/- The engine, part M8: code. -/
import Derived.Test.YtmepokefmpcnnaaEngM7
set_option linter.unusedSimpArgs false
set_option linter.unusedVariables false
namespace Go.Wb
variable {P : Program} {lb : Nat}

def RoOk (r : Ren) (S : St) (w : World) : Option Nat → Prop
  | none => True
  | some l => ¬ Live r S l ∧ ∃ L, w.heap[l]? = some (.loop L)
def mkD (b : Nat) : Deferred := { target := .collected b, args := #[] }
def DsOk (lb : Nat) (w : World) (ds : List Deferred) : Prop := lb ≤ w.heap.size ∧ ∃ rs : List Nat, ds = rs.map mkD ∧ rs.Nodup ∧ ∀ b ∈ rs, w.heap[b]? = some (.deferred (some [])) ∧ lb ≤ b
def ArrTodo (x : Ext) (k k' : List Item) : Prop := match x with
  | .normal => k' = k
  | .exit id => ∃ k2, k' = .code (.exit id) :: k2 ∧ exitTo id k2 = exitTo id k
  | .ret => ∃ k2, k' = .code .ret :: k2

theorem ro_next {D : List (Nat × Bool)} {r r' : Ren} {S S' : St} {w w' : World} {ro : Option Nat} (hs : Sim P D r S w r' S' w') (h : RoOk r S w ro) : RoOk r' S' w' ro := by
  cases ro with
  | none => trivial
  | some l =>
    obtain ⟨h1, L, h2⟩ := h
    have hlt := (Array.getElem?_eq_some_iff.1 h2).1
    exact ⟨fun c => h1 (hs.live l hlt c), L, by rw [hs.frame l hlt h1]; exact h2⟩
theorem deferred_dead {r : Ren} {S : St} {w : World} {b : Nat} {x : Option (List Deferred)} (hr : Rel P r S w) (h : w.heap[b]? = some (.deferred x)) : ¬ Live r S b := by
  rintro ⟨id, bk, hb, rfl⟩
  obtain ⟨_, o, h2, h3⟩ := hr.at_ id bk hb
  rw [h] at h2
  obtain rfl : Obj.deferred x = o := by simpa using h2
  cases bk <;> exact h3
theorem ds_next {D : List (Nat × Bool)} {r r' : Ren} {S S' : St} {w w' : World} {ds : List Deferred} (hr : Rel P r S w) (hs : Sim P D r S w r' S' w') (h : DsOk lb w ds) : DsOk lb w' ds := by
  obtain ⟨h0, rs, h1, h2, h3⟩ := h
  refine ⟨Nat.le_trans h0 hs.size, rs, h1, h2, fun b hb => ?_⟩
  obtain ⟨this, hlb⟩ := h3 b hb
  rw [hs.frame b (Array.getElem?_eq_some_iff.1 this).1 (deferred_dead hr this)]
  exact ⟨this, hlb⟩

theorem arr_pass {x : Ext} {i : Item} {k k' : List Item} (hi : ∀ id, exitTo id (i :: k) = exitTo id k) (hx : x ≠ .normal) (h : ArrTodo x (i :: k) k') : ArrTodo x k k' := by
  cases x with
  | normal => exact absurd rfl hx
  | exit id => obtain ⟨k2, h1, h2⟩ := h; exact ⟨k2, h1, by rw [h2, hi]⟩
  | ret => exact h

/-- what a run of code comes to -/
def CodeRes (P : Program) (lb : Nat) (c : Code) (r : Ren) (S : St) (w : World) (tmps : Array Value) (x : Ext) (e' : Env) (S' : St) (fn : FuncId) (ro : Option Nat) (ds : List Deferred) : Prop :=
  ∃ D r' w' tmps' ds', Sim P D r S w r' S' w' ∧ EnvRel r' e' tmps' ∧ tmps'.size = tmps.size ∧ DsOk lb w' ds' ∧ (ro ≠ none → ds' = ds) ∧
    ∀ k cs, ∃ k', ArrTodo x k k' ∧ Steps P (lone (Fr fn ro tmps ds (.code c :: k)) cs w) (lone (Fr fn ro tmps' ds' k') cs w')

section
variable {call : Tgt → List Value → M Value}

theorem codeOf_exit {x : Ext} (h : x ≠ .normal) : ∃ c, codeOf x = some c ∧ ∀ k, ArrTodo x k (.code c :: k) := by
  cases x with
  | normal => exact absurd rfl h
  | exit id => exact ⟨_, rfl, fun k => ⟨k, rfl, rfl⟩⟩
  | ret => exact ⟨_, rfl, fun k => ⟨k, rfl⟩⟩


/-- one step enters a loop over a function: the record, and at an outermost loop the block for its deferred calls -/
theorem enter_loop {fn : FuncId} {ro : Option Nat} {tmps : Array Value} {ps : Array Tmp} {as bd : Code} {r : Ren} {S : St} {w : World} {ds : List Deferred} (hr : Rel P r S w) (hro : RoOk r S w ro) (hds : DsOk lb w ds) :
    ∃ w1 w2 dl mark, (Instr.enterLoop fn tmps ps as bd ro).run P w = .ok (w1.heap.size, mark) w2 ∧ (∃ D, D = [] ∧ Sim P D r S w r S w1) ∧
      New w1 w2 (.loop { state := .ready, pending := none, fn, tmps, params := ps, assign := as, body := bd, defers := dl }) ∧ DsOk lb w2 (mark ++ ds) ∧ (ro ≠ none → mark = []) := by
  cases ro with
  | some l =>
    obtain ⟨hl, L, hL⟩ := hro
    have hnew := alloc_new w (.loop { state := .ready, pending := none, fn, tmps, params := ps, assign := as, body := bd, defers := L.defers })
    refine ⟨w, _, L.defers, [], ?_, ⟨[], rfl, Sim.refl hr⟩, hnew, ?_, fun _ => rfl⟩
    · simp [Instr.enterLoop, Sem.run_bind, run_getLoop hL, Result.andThen_ok, run_newObj]
    · obtain ⟨h0, rs, h1, h2, h3⟩ := hds
      exact ⟨by rw [hnew.size]; omega, rs, h1, h2, fun b hb => by rw [hnew.there (Array.getElem?_eq_some_iff.1 (h3 b hb).1).1]; exact h3 b hb⟩
  | none =>
    have hn1 := alloc_new w (.deferred (some []))
    have hn2 := alloc_new { w with heap := w.heap.push (.deferred (some [])) } (.loop { state := .ready, pending := none, fn, tmps, params := ps, assign := as, body := bd, defers := w.heap.size })
    refine ⟨_, _, w.heap.size, [mkD w.heap.size], ?_, ⟨[], rfl, sim_ghost_new hr hn1⟩, hn2, ?_, fun h => absurd rfl h⟩
    · simp only [Instr.enterLoop, Sem.run_bind, Result.andThen_ok, run_newObj, mkD, Sem.run_pure]
    · obtain ⟨h0, rs, h1, h2, h3⟩ := hds
      refine ⟨by rw [hn2.size, hn1.size]; omega, w.heap.size :: rs, by simp [h1], ?_, ?_⟩
      · refine List.nodup_cons.2 ⟨fun c => ?_, h2⟩
        have := (Array.getElem?_eq_some_iff.1 (h3 _ c).1).1
        omega
      · intro b hb
        rcases List.mem_cons.1 hb with rfl | hb
        · rw [hn2.there (by rw [hn1.size]; omega)]; exact ⟨hn1.here, h0⟩
        · have hlt := (Array.getElem?_eq_some_iff.1 (h3 b hb).1).1
          rw [hn2.there (by rw [hn1.size]; omega), hn1.there hlt]; exact h3 b hb

theorem end_loop {l : Nat} {L : Loop} {w : World} (h : w.heap[l]? = some (.loop L)) (hb : L.state ≠ .busy) : ∃ w', (Instr.endLoop l).run P w = .ok L.pending w' ∧ Upd w w' l (.loop { L with state := .exhausted }) := by
  obtain ⟨w', h1, h2⟩ := setObj_upd (P := P) (o' := .loop { L with state := .exhausted }) h (by intros; simp)
  refine ⟨w', ?_, h2⟩
  have hb' : (L.state == .busy) = false := by
    cases hs : L.state <;> first | rfl | exact absurd hs hb
  simp only [Instr.endLoop, Sem.run_bind, run_getLoop h, Result.andThen_ok, hb', Bool.false_eq_true, if_false, Sem.run_pure, h1]

theorem st_endRange {fn : FuncId} {ro : Option Nat} {tmps : Array Value} {ds : List Deferred} {k : List Item} {cs : List Frame} {w w' : World} {l : Nat} {jump : Option Code} (h : (Instr.endLoop l).run P w = .ok jump w') :
    step P (lone (Fr fn ro tmps ds (.endRangeFunc l :: k)) cs w) = .next (lone (Fr fn ro tmps ds ((jump.map Item.code).toList ++ k)) cs w') :=
  step_lone_go (by simp [stepG, stepG.exec, Fr, Sem.runT_eq, h, GStep.bare_after])

theorem steps_range {fn : FuncId} {ro : Option Nat} {tmps : Array Value} {ds mark : List Deferred} {k : List Item} {cs : List Frame} {w w2 w' : World} {l : Nat} {g : Operand} {ps : Array Tmp} {as bd : Code} {v' : Value}
    (he : (Instr.enterLoop fn tmps ps as bd ro).run P w = .ok (l, mark) w2) {s : Sem Next}
    (hs : (do let d ← resolve (evT tmps) { callee := .value g, args := #[.const (.func (.yield l) #[] #[])], argTypes := #[] } 0; invoke d.target d.args) = s) (h : CallTo P s w2 v' w') :
    Steps P (lone (Fr fn ro tmps ds (.code (.rangeFunc g ps as bd) :: k)) cs w) (lone (Fr fn ro tmps (mark ++ ds) (.endRangeFunc l :: k)) cs w') := by
  have hev := eval_evT (Fr fn ro tmps (mark ++ ds) (.inRangeFunc l :: k))
  have hg : (stepG P true { frame := Fr fn ro tmps ds (.code (.rangeFunc g ps as bd) :: k), callers := cs, status := .running, dying := none } w).bare =
      (stepG.apply P true (Fr fn ro tmps (mark ++ ds) (.inRangeFunc l :: k)) cs none s w2).bare := by
    subst hs
    simp only [Fr] at hev
    simp [stepG, stepG.exec, Fr, Sem.runT_eq, he, GStep.bare_after, hev]
  have hfin : (Fr fn ro tmps (mark ++ ds) (.inRangeFunc l :: k)).finish v' = Fr fn ro tmps (mark ++ ds) (.endRangeFunc l :: k) := by simp [Frame.finish, Fr]
  rw [← hfin]
  rcases h with h | ⟨h, rfl⟩ | ⟨f, a, h, h2⟩ | ⟨l', f, t, a, b, h, h2⟩
  · exact .one (step_lone_go (by rw [hg]; simp [stepG.apply, h]))
  · exact .one (step_lone_go (by rw [hg]; simp [stepG.apply, h]))
  · refine .head (m₁ := lone (Frame.enter P f a .normal) (Fr fn ro tmps (mark ++ ds) (.inRangeFunc l :: k) :: cs) w2) (step_lone_go ?_) (h2 _ cs)
    rw [hg]; simp [stepG.apply, h, Fr]
  · refine .head (m₁ := lone (Frame.round l' f t a b .normal) (Fr fn ro tmps (mark ++ ds) (.inRangeFunc l :: k) :: cs) w2) (step_lone_go ?_) (h2 _ cs)
    rw [hg]; simp [stepG.apply, h, Fr]

theorem code_ok (hm : P.follows .mixedOrders = true) (hcall : CallOk P call) (hfr : ∀ t a, Framed (call t a)) (fuel : Nat) : ∀ (c : Code) (n : Nat) (ac : ACode), compCode P n c = some ac →
    ∀ (e : Env) (S : St) (x : Ext) (e' : Env) (S' : St), run call fuel ac e S = some ((x, e'), S') → ∀ (r : Ren) (w : World) (tmps : Array Value), n ≤ tmps.size → Rel P r S w → EnvRel r e tmps → Fresh r S S' →
    ∀ fn ro ds, RoOk r S w ro → DsOk lb w ds → CodeRes P lb c r S w tmps x e' S' fn ro ds := by
  intro c
  induction c with
  | skip =>
    intro n ac hc e S x e' S' h r w tmps hn hr hE hf fn ro ds hro hds
    simp only [compCode, Option.some.injEq] at hc; subst hc
    obtain ⟨h1, rfl⟩ := M.pure_some.1 h
    obtain ⟨rfl, rfl⟩ : x = .normal ∧ e' = e := by simpa using h1
    exact ⟨[], r, w, tmps, ds, Sim.refl hr, hE, rfl, hds, fun _ => rfl, fun k cs => ⟨k, rfl, .one st_skip⟩⟩
  | label l =>
    intro n ac hc e S x e' S' h r w tmps hn hr hE hf fn ro ds hro hds
    simp only [compCode, Option.some.injEq] at hc; subst hc
    obtain ⟨h1, rfl⟩ := M.pure_some.1 h
    obtain ⟨rfl, rfl⟩ : x = .normal ∧ e' = e := by simpa using h1
    exact ⟨[], r, w, tmps, ds, Sim.refl hr, hE, rfl, hds, fun _ => rfl, fun k cs => ⟨k, rfl, .one st_label⟩⟩
  | goto l => intro n ac hc; simp [compCode] at hc
  | refuse s => intro n ac hc; simp [compCode] at hc
  | exit id =>
    intro n ac hc e S x e' S' h r w tmps hn hr hE hf fn ro ds hro hds
    simp only [compCode, Option.some.injEq] at hc; subst hc
    obtain ⟨h1, rfl⟩ := M.pure_some.1 h
    obtain ⟨rfl, rfl⟩ : x = .exit id ∧ e' = e := by simpa using h1
    exact ⟨[], r, w, tmps, ds, Sim.refl hr, hE, rfl, hds, fun _ => rfl, fun k cs => ⟨_, ⟨k, rfl, rfl⟩, .refl _ _⟩⟩
  | ret =>
    intro n ac hc e S x e' S' h r w tmps hn hr hE hf fn ro ds hro hds
    simp only [compCode, Option.some.injEq] at hc; subst hc
    obtain ⟨h1, rfl⟩ := M.pure_some.1 h
    obtain ⟨rfl, rfl⟩ : x = .ret ∧ e' = e := by simpa using h1
    exact ⟨[], r, w, tmps, ds, Sim.refl hr, hE, rfl, hds, fun _ => rfl, fun k cs => ⟨_, ⟨k, rfl⟩, .refl _ _⟩⟩
  | region id ops draw =>
    intro n ac hc e S x e' S' h r w tmps hn hr hE hf fn ro ds hro hds
    simp only [compCode] at hc
    split at hc
    · simp at hc
    rename_i l hl
    split at hc
    · rename_i hd
      split at hc
      · rename_i hord
        simp only [Option.some.injEq] at hc; subst hc
        simp only [run, M.bind_some] at h
        obtain ⟨e1, S1, h1, h2⟩ := h
        obtain ⟨h3, rfl⟩ := M.pure_some.1 h2
        obtain ⟨rfl, rfl⟩ : x = .normal ∧ e' = e1 := by simpa using h3
        obtain ⟨D, r', w', tmps', k1, k2, k3, k4⟩ := drawn_any hcall hfr hl hord h1 hn hr hE hf (w1 := { w with drawn := w.drawn + 1 }) ⟨rfl, rfl, rfl, rfl⟩ (w.tape w.drawn (.order fn id))
        refine ⟨D, r', w', tmps', ds, k1, k2, k3, ds_next hr k1 hds, fun _ => rfl, fun k cs => ⟨k, rfl, ?_⟩⟩
        rw [hd]
        exact .head (st_draw hm) (k4 fn ro ds k cs)
      · simp at hc
    · rename_i hd
      have hd : draw = false := by simpa using hd
      simp only [Option.some.injEq] at hc; subst hc
      simp only [run, M.bind_some] at h
      obtain ⟨e1, S1, h1, h2⟩ := h
      obtain ⟨h3, rfl⟩ := M.pure_some.1 h2
      obtain ⟨rfl, rfl⟩ : x = .normal ∧ e' = e1 := by simpa using h3
      obtain ⟨D, r', w', tmps', k1, k2, k3, k4⟩ := instrs_ok hcall hfr ops.toList 0 l e S r w tmps hl (fun j o hj => by simpa using hj) h1 hn hr hE hf
      refine ⟨D, r', w', tmps', ds, k1, k2, k3, ds_next hr k1 hds, fun _ => rfl, fun k cs => ⟨k, rfl, ?_⟩⟩
      rw [hd]
      have := k4 fn ro ds k cs
      rw [← List.range_eq_range', Array.length_toList] at this
      exact .head st_region this
  | seq a b iha ihb =>
    intro n ac hc e S x e' S' h r w tmps hn hr hE hf fn ro ds hro hds
    simp only [compCode] at hc
    split at hc
    · rename_i ca cb hca hcb
      simp only [Option.some.injEq] at hc; subst hc
      simp only [run, M.bind_some] at h
      obtain ⟨⟨x1, e1⟩, S1, h1, h2⟩ := h
      by_cases hx1 : x1 = .normal
      · subst hx1
        simp only at h2
        have hmono := Framed.next (Framed.run hfr fuel cb e1) h2
        obtain ⟨D1, r1, w1, tmps1, ds1, k1, k2, k3, k4, k5, k6⟩ := iha n ca hca e S .normal e1 S1 h1 r w tmps hn hr hE (hf.left hmono) fn ro ds hro hds
        obtain ⟨D2, r2, w2, tmps2, ds2, m1, m2, m3, m4, m5, m6⟩ := ihb n cb hcb e1 S1 x e' S' h2 r1 w1 tmps1 (by rw [k3]; exact hn) k1.rel k2 (hf.right k1) fn ro ds1 (ro_next k1 hro) k4
        refine ⟨_, r2, w2, tmps2, ds2, k1.trans hf hr m1, m2, by rw [m3, k3], m4, fun hne => by rw [m5 hne, k5 hne], fun k cs => ?_⟩
        obtain ⟨k1', q1, q2⟩ := k6 (.code b :: k) cs
        obtain rfl : k1' = .code b :: k := q1
        obtain ⟨k2', q3, q4⟩ := m6 k cs
        exact ⟨k2', q3, .head st_seq (q2.trans q4)⟩
      · have h2' : M.pure (x1, e1) S1 = some ((x, e'), S') := by
          cases x1 with
          | normal => exact absurd rfl hx1
          | exit id => exact h2
          | ret => exact h2
        obtain ⟨h3, rfl⟩ := M.pure_some.1 h2'
        obtain ⟨rfl, rfl⟩ : x = x1 ∧ e' = e1 := by simpa using h3
        obtain ⟨D1, r1, w1, tmps1, ds1, k1, k2, k3, k4, k5, k6⟩ := iha n ca hca e S x e' S' h1 r w tmps hn hr hE hf fn ro ds hro hds
        refine ⟨D1, r1, w1, tmps1, ds1, k1, k2, k3, k4, k5, fun k cs => ?_⟩
        obtain ⟨k', q1, q2⟩ := k6 (.code b :: k) cs
        exact ⟨k', arr_pass (fun id => by simp [exitTo]) hx1 q1, .head st_seq q2⟩
    · simp at hc
  | cond c a b iha ihb =>
    intro n ac hc e S x e' S' h r w tmps hn hr hE hf fn ro ds hro hds
    simp only [compCode] at hc
    split at hc
    · rename_i cc ca cb hcc hca hcb
      simp only [Option.some.injEq] at hc; subst hc
      simp only [run, M.bind_some, M.lift_some, Option.bind_eq_some_iff] at h
      obtain ⟨t, _, ⟨⟨v, hv, hb⟩, rfl⟩, h⟩ := h
      obtain rfl := asBool_inv hb
      have hev := (atom_ok hcc hv hE).bool_inv
      cases t with
      | true =>
        obtain ⟨D1, r1, w1, tmps1, ds1, k1, k2, k3, k4, k5, k6⟩ := iha n ca hca e _ x e' S' h r w tmps hn hr hE hf fn ro ds hro hds
        refine ⟨D1, r1, w1, tmps1, ds1, k1, k2, k3, k4, k5, fun k cs => ?_⟩
        obtain ⟨k', q1, q2⟩ := k6 k cs
        exact ⟨k', q1, .head (st_cond hev) q2⟩
      | false =>
        obtain ⟨D1, r1, w1, tmps1, ds1, k1, k2, k3, k4, k5, k6⟩ := ihb n cb hcb e _ x e' S' h r w tmps hn hr hE hf fn ro ds hro hds
        refine ⟨D1, r1, w1, tmps1, ds1, k1, k2, k3, k4, k5, fun k cs => ?_⟩
        obtain ⟨k', q1, q2⟩ := k6 k cs
        exact ⟨k', q1, .head (st_cond hev) q2⟩
    · simp at hc
  | scope a iha =>
    intro n ac hc e S x e' S' h r w tmps hn hr hE hf fn ro ds hro hds
    simp only [compCode] at hc
    obtain ⟨D1, r1, w1, tmps1, ds1, k1, k2, k3, k4, k5, k6⟩ := iha n ac hc e S x e' S' h r w tmps hn hr hE hf fn ro ds hro hds
    refine ⟨D1, r1, w1, tmps1, ds1, k1, k2, k3, k4, k5, fun k cs => ?_⟩
    obtain ⟨k', q1, q2⟩ := k6 (.inScope a :: k) cs
    by_cases hx : x = .normal
    · subst hx
      obtain rfl : k' = .inScope a :: k := q1
      exact ⟨k, rfl, .head st_scope (q2.trans (.one st_inScope))⟩
    · exact ⟨k', arr_pass (fun id => by simp [exitTo]) hx q1, .head st_scope q2⟩
  | block id a iha =>
    intro n ac hc e S x e' S' h r w tmps hn hr hE hf fn ro ds hro hds
    simp only [compCode] at hc
    split at hc
    · rename_i ca hca
      simp only [Option.some.injEq] at hc; subst hc
      simp only [run, M.bind_some] at h
      obtain ⟨⟨x1, e1⟩, S1, h1, h2⟩ := h
      have h3 : S' = S1 ∧ e' = e1 ∧ ((x1 = .exit id ∧ x = .normal) ∨ ((x1 ≠ .exit id) ∧ x = x1)) := by
        cases x1 with
        | normal => obtain ⟨h3, rfl⟩ := M.pure_some.1 h2; simp at h3; exact ⟨rfl, h3.2, .inr ⟨by simp, h3.1⟩⟩
        | ret => obtain ⟨h3, rfl⟩ := M.pure_some.1 h2; simp at h3; exact ⟨rfl, h3.2, .inr ⟨by simp, h3.1⟩⟩
        | exit i =>
          simp only at h2
          split at h2
          · rename_i hi; subst hi
            obtain ⟨h3, rfl⟩ := M.pure_some.1 h2; simp at h3; exact ⟨rfl, h3.2, .inl ⟨rfl, h3.1⟩⟩
          · rename_i hi
            obtain ⟨h3, rfl⟩ := M.pure_some.1 h2; simp at h3; exact ⟨rfl, h3.2, .inr ⟨by simpa using hi, h3.1⟩⟩
      obtain ⟨rfl, rfl, h3⟩ := h3
      obtain ⟨D1, r1, w1, tmps1, ds1, k1, k2, k3, k4, k5, k6⟩ := iha n ca hca e S x1 e' S' h1 r w tmps hn hr hE hf fn ro ds hro hds
      refine ⟨D1, r1, w1, tmps1, ds1, k1, k2, k3, k4, k5, fun k cs => ?_⟩
      obtain ⟨k', q1, q2⟩ := k6 (.inBlock id :: k) cs
      rcases h3 with ⟨rfl, rfl⟩ | ⟨hne, rfl⟩
      · obtain ⟨k2', rfl, q3⟩ := q1
        refine ⟨k, rfl, .head st_block (q2.trans (.one (st_exit ?_)))⟩
        rw [q3]; simp [exitTo]
      · cases x with
        | normal =>
          obtain rfl : k' = .inBlock id :: k := q1
          exact ⟨k, rfl, .head st_block (q2.trans (.one st_inBlock))⟩
        | ret => exact ⟨k', q1, .head st_block q2⟩
        | exit i =>
          obtain ⟨k2', rfl, q3⟩ := q1
          have hi : ¬ (id == i) = true := by simp; intro c; exact hne (by rw [c])
          exact ⟨_, ⟨k2', rfl, by rw [q3]; simp [exitTo, hi]⟩, .head st_block q2⟩
    · simp at hc
  | loop a iha =>
    intro n ac hc e S x e' S' h r w tmps hn hr hE hf fn ro ds hro hds
    simp only [compCode] at hc
    split at hc
    · rename_i ca hca
      simp only [Option.some.injEq] at hc; subst hc
      simp only [run] at h
      have key : ∀ (m : Nat) (e : Env) (S : St) (r : Ren) (w : World) (tmps : Array Value) (ds : List Deferred), iter (run call fuel ca) m e S = some ((x, e'), S') → n ≤ tmps.size → Rel P r S w → EnvRel r e tmps → Fresh r S S' → RoOk r S w ro → DsOk lb w ds →
          ∃ D r' w' tmps' ds', Sim P D r S w r' S' w' ∧ EnvRel r' e' tmps' ∧ tmps'.size = tmps.size ∧ DsOk lb w' ds' ∧ (ro ≠ none → ds' = ds) ∧
            ∀ k cs, ∃ k', ArrTodo x k k' ∧ Steps P (lone (Fr fn ro tmps ds (.code a :: .inLoop a :: k)) cs w) (lone (Fr fn ro tmps' ds' k') cs w') := by
        intro m
        induction m with
        | zero => intro e S r w tmps ds h; exact (M.fail_some.1 h).elim
        | succ m ih =>
          intro e S r w tmps ds h hn hr hE hf hro hds
          simp only [iter, M.bind_some] at h
          obtain ⟨⟨x1, e1⟩, S1, h1, h2⟩ := h
          by_cases hx1 : x1 = .normal
          · subst hx1
            simp only at h2
            have hmono := Framed.next (Framed.iter (fun e => Framed.run hfr fuel ca e) m e1) h2
            obtain ⟨D1, r1, w1, tmps1, ds1, k1, k2, k3, k4, k5, k6⟩ := iha n ca hca e S .normal e1 S1 h1 r w tmps hn hr hE (hf.left hmono) fn ro ds hro hds
            obtain ⟨D2, r2, w2, tmps2, ds2, m1, m2, m3, m4, m5, m6⟩ := ih e1 S1 r1 w1 tmps1 ds1 h2 (by rw [k3]; exact hn) k1.rel k2 (hf.right k1) (ro_next k1 hro) k4
            refine ⟨_, r2, w2, tmps2, ds2, k1.trans hf hr m1, m2, by rw [m3, k3], m4, fun hne => by rw [m5 hne, k5 hne], fun k cs => ?_⟩
            obtain ⟨k1', q1, q2⟩ := k6 (.inLoop a :: k) cs
            obtain rfl : k1' = .inLoop a :: k := q1
            obtain ⟨k2', q3, q4⟩ := m6 k cs
            exact ⟨k2', q3, (q2.trans (.one st_inLoop)).trans q4⟩
          · have h2' : M.pure (x1, e1) S1 = some ((x, e'), S') := by
              cases x1 with
              | normal => exact absurd rfl hx1
              | exit id => exact h2
              | ret => exact h2
            obtain ⟨h3, rfl⟩ := M.pure_some.1 h2'
            obtain ⟨rfl, rfl⟩ : x = x1 ∧ e' = e1 := by simpa using h3
            obtain ⟨D1, r1, w1, tmps1, ds1, k1, k2, k3, k4, k5, k6⟩ := iha n ca hca e S x e' S' h1 r w tmps hn hr hE hf fn ro ds hro hds
            refine ⟨D1, r1, w1, tmps1, ds1, k1, k2, k3, k4, k5, fun k cs => ?_⟩
            obtain ⟨k', q1, q2⟩ := k6 (.inLoop a :: k) cs
            exact ⟨k', arr_pass (fun id => by simp [exitTo]) hx1 q1, q2⟩
      obtain ⟨D1, r1, w1, tmps1, ds1, k1, k2, k3, k4, k5, k6⟩ := key fuel e S r w tmps ds h hn hr hE hf hro hds
      refine ⟨D1, r1, w1, tmps1, ds1, k1, k2, k3, k4, k5, fun k cs => ?_⟩
      obtain ⟨k', q1, q2⟩ := k6 k cs
      exact ⟨k', q1, .head st_loop q2⟩
    · simp at hc
  | rangeFunc f ps assign body iha ihb =>
    intro n ac hc e S x e' S' h r w tmps hn hr hE hf fn ro ds hro hds
    simp only [compCode] at hc
    split at hc
    · rename_i af ca cb haf hca hcb
      split at hc
      · rename_i hps
        simp only [Option.some.injEq] at hc; subst hc
        simp only [run, M.bind_some, M.lift_some, Option.bind_eq_some_iff] at h
        obtain ⟨gv, Sa, ⟨hgv, hSa⟩, l, S1, hnw, tt, Sb, ⟨htt, hSb⟩, v0, S2, hcl, o, S3, hrd, h⟩ := h
        subst Sa Sb
        have hlS : l = S.next ∧ S1 = { heap := S.heap.set S.next (some (.loop ps.toList ca cb e none)), next := S.next + 1, log := S.log } := by
          simp only [nw, Option.some.injEq, Prod.mk.injEq] at hnw
          exact ⟨hnw.1.symm, hnw.2.symm⟩
        obtain ⟨rfl, rfl⟩ := hlS
        simp only [rd] at hrd
        split at hrd
        · simp at hrd
        rename_i o' hget
        simp only [Option.some.injEq, Prod.mk.injEq] at hrd
        obtain ⟨rfl, rfl⟩ := hrd
        split at h
        · rename_i _ _ _ _ _ ps' as' bd' env' p
          simp only [M.bind_some] at h
          obtain ⟨_, S4, hwr, h⟩ := h
          simp only [wr, Option.some.injEq, Prod.mk.injEq, true_and] at hwr
          subst hwr
          have hx : S' = { heap := S2.heap.set S.next none, next := S2.next, log := (S.next, true) :: (S.next, false) :: S2.log } ∧ e' = e ∧ x = p.getD .normal := by
            cases p with
            | none => obtain ⟨h3, rfl⟩ := M.pure_some.1 h; simp at h3; exact ⟨rfl, h3.2, h3.1⟩
            | some y => obtain ⟨h3, rfl⟩ := M.pure_some.1 h; simp at h3; exact ⟨rfl, h3.2, h3.1⟩
          obtain ⟨rfl, rfl, hxp⟩ := hx
          have hmono := Framed.next (hfr _ _) hcl
          simp only at hmono
          obtain ⟨w1, w2, dl, mark, q1, ⟨D0, rfl, q2⟩, q3, q4, q5⟩ := enter_loop (fn := fn) (ro := ro) (tmps := tmps) (ps := ps) (as := assign) (bd := body) hr hro hds
          have hdn : ¬ r.dom S.next := hf S.next (Nat.le_refl _) (by show S.next < S2.next; omega)
          have hle : r.le (r.add S.next w1.heap.size 0 0 none) := Ren.le_add hdn
          have q6 : Sim P [] r S w1 (r.add S.next w1.heap.size 0 0 none) _ w2 := sim_new q2.rel (S' := { heap := S.heap.set S.next (some (.loop ps.toList ca cb e' none)), next := S.next + 1, log := S.log }) (D := []) (base := 0) (size := 0) (ext := none) hdn rfl rfl rfl q3
            ⟨rfl, ⟨n, hn, hca, hcb, by intro p hp; have := List.all_eq_true.1 hps p hp; simpa using this⟩, hE.mono hle, rfl, rfl⟩
          have hf1 : Fresh r S { heap := S.heap.set S.next (some (.loop ps.toList ca cb e' none)), next := S.next + 1, log := S.log } := hf.left (by show S.next + 1 ≤ S2.next; exact hmono)
          have q7 := q2.trans hf1 hr q6
          have hgr := (atom_ok haf hgv hE).mono hle
          have hyr : LRel (r.add S.next w1.heap.size 0 0 none) [.func (.yield S.next) #[] #[]] [.func (.yield w1.heap.size) #[] #[]] := by
            have : VRel (r.add S.next w1.heap.size 0 0 none) (.func (.yield S.next) #[] #[]) (.func (.yield ((r.add S.next w1.heap.size 0 0 none).to S.next)) #[] #[]) := .yield (Ren.add_dom ..)
            rw [Ren.add_to] at this
            exact .cons this .nil
          obtain ⟨hd, fnv, first, captured, all, e1, e2, e3⟩ := target_ok htt hgr (args' := #[.func (.yield w1.heap.size) #[] #[]]) hyr
          have hf2 : Fresh (r.add S.next w1.heap.size 0 0 none) { heap := S.heap.set S.next (some (.loop ps.toList ca cb e' none)), next := S.next + 1, log := S.log } S2 := Fresh.right (S2 := S2) hf q7
          obtain ⟨D2, r2, w3, v', k1, k2, k3⟩ := hcall _ _ _ _ _ hcl _ w2 q6.rel hf2 all e2 hd
          have q8 := q7.trans (S2 := S2) hf hr k1
          have q9 : Sim P [(S.next, false)] r2 S2 w3 r2 { heap := S2.heap, next := S2.next, log := (S.next, false) :: S2.log } w3 := sim_log k1.rel rfl rfl rfl
          obtain ⟨hdl, L, hL, hLp, _, _, hpd⟩ := loop_at (S := S2) k1.rel hget
          have hto : r2.to S.next = w1.heap.size := by rw [k1.le.to _ (Ren.add_dom ..), Ren.add_to]
          rw [hto] at hL
          have hnb : L.state ≠ .busy := by
            cases p with
            | none => rw [hpd.1]; simp
            | some y => rw [hpd.1]; simp
          obtain ⟨w4, hend, hup⟩ := end_loop (P := P) hL hnb
          have q10 := sim_kill_upd (S' := { heap := S2.heap.set S.next none, next := S2.next, log := (S.next, true) :: (S.next, false) :: S2.log }) (D := [(S.next, true)]) q9.rel (id := S.next) hget rfl rfl rfl (by simp) (by rw [hto]; exact hup)
          have q11 := (q8.trans (S2 := { heap := S2.heap, next := S2.next, log := (S.next, false) :: S2.log }) hf hr q9).trans hf hr q10
          refine ⟨_, r2, w4, tmps, mark ++ ds, q11, hE.mono q11.le, rfl, ?_, fun hne => by rw [q5 hne]; rfl, fun k cs => ?_⟩
          · exact ds_next q9.rel q10 (ds_next k1.rel q9 (ds_next q6.rel k1 q4))
          · refine ⟨(L.pending.map Item.code).toList ++ k, ?_, (steps_range (cs := cs) (k := k) (ds := ds) q1 ?_ k3).trans (.one (st_endRange hend))⟩
            · rw [hxp]
              cases p with
              | none => rw [hpd.2]; rfl
              | some y =>
                obtain ⟨_, hy, hp⟩ := hpd
                obtain ⟨c, hc1, hc2⟩ := codeOf_exit hy
                rw [hp, hc1]; exact hc2 k
            · simp only [resolve, e1, Deferred.ofValue, bind, Sem.bind, Pure.pure]
              have : Array.map (evT tmps) #[Operand.const (Value.func (Fn.yield w1.heap.size) #[] #[])] = #[Value.func (Fn.yield w1.heap.size) #[] #[]] := by simp [evT]
              rw [this]
              exact e3
        · exact (M.fail_some.1 h).elim
      · simp at hc
    · simp at hc
end
end Go.Wb
