/- The engine, part M3: straight regions; worlds that turn beside what is abstracted. -/
import Derived.Test.YtmepokefmpcnnaaEngM2
import Derived.Test.YtmepokefmpcnnaaEngF
set_option linter.unusedSimpArgs false
set_option linter.unusedVariables false
namespace Go.Wb
variable {P : Program} {r : Ren} {S S' : St} {w : World}
section
variable {call : Tgt → List Value → M Value} {e e' : Env} {tmps : Array Value}

theorem compInstrs_cons {n : Nat} {ops : Array Oper} {o : Oper} {lst : List Oper} {l : List AInstr} (h : compInstrs P n ops (o :: lst) = some l) : ∃ ai l', l = ai :: l' ∧ compInstr P n ops o = some ai ∧ compInstrs P n ops lst = some l' := by
  simp only [compInstrs] at h
  split at h
  · rename_i a m ha hm
    exact ⟨a, m, by simpa using h.symm, ha, hm⟩
  · simp at h

theorem instrs_ok (hcall : CallOk P call) (hfr : ∀ t a, Framed (call t a)) {n : Nat} {ops : Array Oper} : ∀ (lst : List Oper) (i : Nat) (l : List AInstr) (e : Env) (S : St) (r : Ren) (w : World) (tmps : Array Value),
    compInstrs P n ops lst = some l → (∀ j o, lst[j]? = some o → ops[i + j]? = some o) → instrs call l e S = some (e', S') → n ≤ tmps.size → Rel P r S w → EnvRel r e tmps → Fresh r S S' →
    ∃ D r' w' tmps', Sim P D r S w r' S' w' ∧ EnvRel r' e' tmps' ∧ tmps'.size = tmps.size ∧ ∀ fn ro ds k cs, Steps P (lone (Fr fn ro tmps ds (.inRegion ops (List.range' i lst.length) :: k)) cs w) (lone (Fr fn ro tmps' ds k) cs w')
  | [], i, l, e, S, r, w, tmps, hc, hi, he, hn, hr, hE, hf => by
    simp only [compInstrs, Option.some.injEq] at hc; subst hc
    obtain ⟨rfl, rfl⟩ := M.pure_some.1 he
    exact ⟨[], r, w, tmps, Sim.refl hr, hE, rfl, fun fn ro ds k cs => .one st_regionEnd⟩
  | o :: lst, i, l, e, S, r, w, tmps, hc, hi, he, hn, hr, hE, hf => by
    obtain ⟨ai, l', rfl, ha, hl⟩ := compInstrs_cons hc
    simp only [instrs, M.bind_some] at he
    obtain ⟨e1, S1, h1, h2⟩ := he
    have hm2 := Framed.next (Framed.instrs hfr l' e1) h2
    have hoi : ops[i]? = some o := by have := hi 0 o rfl; simpa using this
    obtain ⟨v, D, r1, w1, v', he1, hs1, hv, hst⟩ := instr_ok hcall hoi ha h1 hr hE (hf.left hm2)
    have hdst := (compInstr_some ha).2.2.1
    have hE1 : EnvRel r1 e1 (putT tmps o.dst v') := by rw [he1]; exact (hE.mono hs1.le).putT (fun x hx => Nat.lt_of_lt_of_le (hdst x hx) hn) hv
    obtain ⟨D2, r2, w2, tmps2, hs2, hE2, hsz, hst2⟩ := instrs_ok hcall hfr lst (i + 1) l' e1 S1 r1 w1 (putT tmps o.dst v') hl (fun j o' hj => by have := hi (j + 1) o' (by simpa using hj); rwa [show i + 1 + j = i + (j + 1) by omega])
      h2 (by rw [putT_size]; exact hn) hs1.rel hE1 (hf.right hs1)
    refine ⟨_, r2, w2, tmps2, hs1.trans hf hr hs2, hE2, by rw [hsz, putT_size], fun fn ro ds k cs => ?_⟩
    simp only [List.length_cons, List.range'_succ]
    exact (hst fn ro ds (List.range' (i + 1) lst.length) k cs).trans (hst2 fn ro ds k cs)
end

/-! ### the world turns beside what is abstracted -/
theorem sim_ghost_new (h : Rel P r S w) {w' : World} {o : Obj} (hw : New w w' o) : Sim P [] r S w r S w' where
  le := .refl r
  rel := ⟨fun id b hb => by
    obtain ⟨h1, o1, h2, h3⟩ := h.at_ id b hb
    exact ⟨h1, o1, by rw [hw.there (Array.getElem?_eq_some_iff.1 h2).1]; exact h2, h3⟩, h.inj'⟩
  log := rfl
  next := Nat.le_refl _
  dom := fun id => ⟨fun h => .inl h, fun h => h.elim (fun h => h) fun ⟨a, b⟩ => by omega⟩
  size := by rw [hw.size]; omega
  os := hw.os
  tape := hw.tape
  output := hw.output
  frame := fun k hk _ => hw.there hk
  kept := fun id b hb _ => by
    obtain ⟨h1, o1, h2, h3⟩ := h.at_ id b hb
    exact hw.there (Array.getElem?_eq_some_iff.1 h2).1
  same := fun _ _ _ => rfl
  live := fun _ _ h => h

/-- a block that is not abstracted is turned: of Sim, all but that other blocks stay -/
structure Beside (w w' : World) (b : Nat) : Prop where
  size : w'.heap.size = w.heap.size
  there : ∀ k, k ≠ b → w'.heap[k]? = w.heap[k]?
  os : w'.os = w.os
  tape : w'.tape = w.tape
  output : w'.output = w.output
theorem Upd.beside {w w' : World} {b : Nat} {o : Obj} (h : Upd w w' b o) : Beside w w' b := ⟨h.size, h.there, h.os, h.tape, h.output⟩
theorem rel_beside (h : Rel P r S w) {w' : World} {b : Nat} (hw : Beside w w' b) (hb : ¬ Live r S b) : Rel P r S w' :=
  ⟨fun id bk hbk => by
    obtain ⟨h1, o1, h2, h3⟩ := h.at_ id bk hbk
    exact ⟨h1, o1, by rw [hw.there _ (fun c => hb (c ▸ Live.intro hbk))]; exact h2, h3⟩, h.inj'⟩

theorem setObj_upd {b : Nat} {o o' : Obj} (h : w.heap[b]? = some o) (hn : ∀ c e f, o ≠ .cells c e f) : ∃ w', (setObj b o').run P w = .ok () w' ∧ Upd w w' b o' := by
  have hb : b < w.heap.size := (Array.getElem?_eq_some_iff.1 h).1
  refine ⟨{ w with heap := w.heap.setIfInBounds b o' }, ?_, ⟨?_, ?_, ?_, rfl, rfl, rfl⟩⟩
  · unfold setObj
    simp only [Sem.run, h]
  · simp
  · simp [hb]
  · intro k hk
    simp only [Array.getElem?_setIfInBounds]
    rw [if_neg (fun c => hk c.symm)]
theorem run_getObj {b : Nat} {o : Obj} (h : w.heap[b]? = some o) (hn : ∀ c e f, o ≠ .cells c e f) : (getObj b).run P w = .ok o w := by
  unfold getObj
  simp only [Sem.run, h]
theorem run_getLoop {b : Nat} {L : Loop} (h : w.heap[b]? = some (.loop L)) : (Instr.getLoop b).run P w = .ok L w := by
  simp [Instr.getLoop, run_getObj h (by intros; simp)]

theorem loop_at (hr : Rel P r S w) {l : Nat} {ps : List Nat} {as bd : ACode} {env : Env} {pd : Option Ext} (h : S.heap.get l = some (.loop ps as bd env pd)) :
    r.dom l ∧ ∃ L, w.heap[r.to l]? = some (.loop L) ∧ L.params.toList = ps ∧ (∃ n, n ≤ L.tmps.size ∧ compCode P n L.assign = some as ∧ compCode P n L.body = some bd ∧ (∀ p ∈ ps, p < n)) ∧ EnvRel r env L.tmps ∧ PendOk L pd := by
  obtain ⟨h1, o, h2, h3⟩ := hr.at_ l _ h
  cases o <;> try exact h3.elim
  exact ⟨h1, _, h2, h3⟩

/-- a block is killed, and turned in the world -/
theorem sim_kill_upd (h : Rel P r S w) {S' : St} {D : List (Nat × Bool)} {id : Nat} {b0 : Blk} {w' : World} {o : Obj} (hb : S.heap.get id = some b0) (hh : S'.heap = S.heap.set id none) (hn : S'.next = S.next) (hl : S'.log = D ++ S.log) (hD : (id, true) ∈ D)
    (hu : Upd w w' (r.to id) o) (hro : b0.isRo = false := by first | rfl | assumption) : Sim P D r S w r S' w' where
  le := .refl r
  rel := by
    have A : ∀ i x, S'.heap.get i = some x → i ≠ id ∧ S.heap.get i = some x := by
      intro i x hx
      rw [hh, Tr.get_set] at hx
      split at hx
      · simp at hx
      · rename_i h; exact ⟨h, hx⟩
    refine ⟨fun i x hx => ?_, fun i j bi bj hi hj => h.inj' i j bi bj (A _ _ hi).2 (A _ _ hj).2⟩
    obtain ⟨ne, hx⟩ := A i x hx
    obtain ⟨h1, o1, h2, h3⟩ := h.at_ i x hx
    exact ⟨h1, o1, by rw [hu.there _ (fun c => ne (h.inj _ _ _ _ hx hb c (.inr hro)))]; exact h2, h3⟩
  log := hl
  next := by omega
  dom := fun i => ⟨fun h => .inl h, fun h => h.elim (fun h => h) fun ⟨a, b⟩ => by omega⟩
  size := by rw [hu.size]; exact Nat.le_refl _
  os := hu.os
  tape := hu.tape
  output := hu.output
  frame := fun k _ hk => hu.there k fun c => hk (c ▸ Live.intro hb)
  kept := fun i x hx hi => hu.there _ fun c => hi (by rw [h.inj _ _ _ _ hx hb c (.inr hro)]; exact hD)
  same := fun i hi _ => by rw [hh, Tr.get_set, if_neg (fun c : i = id => hi (c ▸ hD))]
  live := fun k _ ⟨i, x, hx, e⟩ => by
    rw [hh, Tr.get_set] at hx
    split at hx
    · simp at hx
    · exact ⟨i, x, hx, e⟩

/-- a block is taken out, a computation goes on without it, and it is laid back -/
theorem sim_bracket (h : Rel P r S w) {S1 S2 S3 : St} {D0 D D3 : List (Nat × Bool)} {l : Nat} {b0 b3 : Blk} {w1 w2 w3 : World} {o3 : Obj} {r' : Ren} (hb : S.heap.get l = some b0)
    (hk : Sim P D0 r S w r S1 w1) (hkh : S1.heap = S.heap.set l none) (hkn : S1.next = S.next) (hm : Sim P D r S1 w1 r' S2 w2) (hf : Fresh r S S2)
    (h3h : S3.heap = S2.heap.set l (some b3)) (h3n : S3.next = S2.next) (h3l : S3.log = D3 ++ S2.log) (hD : (l, true) ∈ D3) (hu : Upd w2 w3 (r.to l) o3) (ho : BRel P r' l b3 o3) (hro : b0.isRo = false := by first | rfl | assumption) : Sim P (D3 ++ (D ++ D0)) r S w r' S3 w3 := by
  have hdl := (h.at_ l b0 hb).1
  have htol : r'.to l = r.to l := hm.le.to _ hdl
  have hlt : r.to l < w.heap.size := by
    obtain ⟨_, o, h2, _⟩ := h.at_ l b0 hb
    exact (Array.getElem?_eq_some_iff.1 h2).1
  have hlt1 : r.to l < w1.heap.size := Nat.lt_of_lt_of_le hlt hk.size
  have hnl1 : ¬ Live r S1 (r.to l) := by
    rintro ⟨i, x, hx, e⟩
    rw [hkh, Tr.get_set] at hx
    split at hx
    · simp at hx
    · rename_i ne; exact ne (h.inj _ _ _ _ hx hb e (.inr hro))
  have hnl2 : ¬ Live r' S2 (r.to l) := fun c => hnl1 (hm.live _ hlt1 c)
  have hall := hk.trans hf h hm
  exact {
    le := hm.le
    rel := by
      have A : ∀ i x, S3.heap.get i = some x → (i = l ∧ x = b3) ∨ (i ≠ l ∧ S2.heap.get i = some x) := by
        intro i x hx
        rw [h3h, Tr.get_set] at hx
        split at hx
        · rename_i e; exact .inl ⟨e, by simpa using hx.symm⟩
        · rename_i e; exact .inr ⟨e, hx⟩
      have B : ∀ i x, S2.heap.get i = some x → r'.to i ≠ r.to l := fun i x hx c => hnl2 ⟨i, x, hx, c⟩
      constructor
      · intro i x hx
        rcases A i x hx with ⟨rfl, rfl⟩ | ⟨ne, hx⟩
        · exact ⟨hm.le.dom _ hdl, o3, by rw [htol]; exact hu.here, ho⟩
        · obtain ⟨h1, o1, h2, h4⟩ := hm.rel.at_ i x hx
          exact ⟨h1, o1, by rw [hu.there _ (B i x hx)]; exact h2, h4⟩
      · intro i j bi bj hi hj hx e
        rcases A i bi hi with ⟨rfl, rfl⟩ | ⟨ni, hi⟩ <;> rcases A j bj hj with ⟨rfl, rfl⟩ | ⟨nj, hj⟩
        · rfl
        · rw [htol] at e; exact absurd e.symm (B j bj hj)
        · rw [htol] at e; exact absurd e (B i bi hi)
        · exact hm.rel.inj' i j bi bj hi hj hx e
    log := by rw [h3l, hm.log, hk.log]; simp
    next := by rw [h3n]; exact hall.next
    dom := fun id => by rw [h3n]; exact hall.dom id
    size := by rw [hu.size]; exact hall.size
    os := hu.os.trans hall.os
    tape := hu.tape.trans hall.tape
    output := hu.output.trans hall.output
    frame := fun k hk2 hnl => by rw [hu.there k (fun c => hnl (c ▸ Live.intro hb))]; exact hall.frame k hk2 hnl
    kept := fun id x hx hn => by
      have hne : id ≠ l := fun c => hn (by rw [c]; simp [hD])
      rw [hu.there _ (fun c => hne (h.inj _ _ _ _ hx hb c (.inr hro)))]
      exact hall.kept id x hx (fun c => hn (List.mem_append.2 (.inr c)))
    same := fun id hn hx => by
      rw [h3h, Tr.get_set, if_neg (fun c : id = l => hn (by rw [c]; simp [hD]))]
      exact hall.same id (fun c => hn (List.mem_append.2 (.inr c))) (by rw [h3n] at hx; exact hx)
    live := fun k hk2 ⟨i, x, hx, e⟩ => by
      rw [h3h, Tr.get_set] at hx
      split at hx
      · rename_i c; rw [← e, c, htol]; exact Live.intro hb
      · exact hall.live k hk2 ⟨i, x, hx, e⟩ }
end Go.Wb
