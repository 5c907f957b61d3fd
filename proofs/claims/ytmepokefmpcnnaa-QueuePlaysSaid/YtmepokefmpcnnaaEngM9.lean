/- The engine, part M9: calls. -/
import Derived.Test.YtmepokefmpcnnaaEngM8
import Derived.RangeFuncRecord
import Derived.Laws.Externs
set_option linter.unusedSimpArgs false
set_option linter.unusedVariables false
namespace Go.Wb
variable {P : Program} {r : Ren} {S S' : St} {w : World}

/-- a dead block turns: one that is new since, or one that lives at the start and has been touched -/
theorem sim_beside {D : List (Nat × Bool)} {r' : Ren} {w' w'' : World} {b : Nat} (h : Rel P r S w) (hs : Sim P D r S w r' S' w') (hw : Beside w' w'' b) (hb : ¬ Live r' S' b)
    (hc : w.heap.size ≤ b ∨ ∃ id bk, S.heap.get id = some bk ∧ r.to id = b ∧ (id, true) ∈ D ∧ bk.isRo = false) : Sim P D r S w r' S' w'' where
  le := hs.le
  rel := rel_beside hs.rel hw hb
  log := hs.log
  next := hs.next
  dom := hs.dom
  size := by rw [hw.size]; exact hs.size
  os := hw.os.trans hs.os
  tape := hw.tape.trans hs.tape
  output := hw.output.trans hs.output
  frame := fun k hk hnl => by
    rw [hw.there k]
    · exact hs.frame k hk hnl
    · rintro rfl
      rcases hc with hc | ⟨id, bk, h1, rfl, _⟩
      · omega
      · exact hnl (Live.intro h1)
  kept := fun id bk hbk hn => by
    rw [hw.there]
    · exact hs.kept id bk hbk hn
    · intro e
      rcases hc with hc | ⟨i, x, h1, h2, h3⟩
      · obtain ⟨_, o, h4, _⟩ := h.at_ id bk hbk
        have := (Array.getElem?_eq_some_iff.1 h4).1
        omega
      · rw [h.inj _ _ _ _ hbk h1 (by rw [e, h2]) (.inr h3.2)] at hn
        exact hn h3.1
  same := hs.same
  live := hs.live

/-- a block that was taken out is laid back -/
theorem sim_layback (h : Rel P r S w) {S2 S3 : St} {D D3 : List (Nat × Bool)} {l : Nat} {b0 b3 : Blk} {w2 w3 : World} {o3 : Obj} {r' : Ren} (hb : S.heap.get l = some b0)
    (hall : Sim P D r S w r' S2 w2) (hnl2 : ¬ Live r' S2 (r.to l))
    (h3h : S3.heap = S2.heap.set l (some b3)) (h3n : S3.next = S2.next) (h3l : S3.log = D3 ++ S2.log) (hD : (l, true) ∈ D3) (hu : Upd w2 w3 (r.to l) o3) (ho : BRel P r' l b3 o3) (hro : b0.isRo = false := by first | rfl | assumption) : Sim P (D3 ++ D) r S w r' S3 w3 := by
  have hdl := (h.at_ l b0 hb).1
  have htol : r'.to l = r.to l := hall.le.to _ hdl
  exact {
    le := hall.le
    rel := by
      have A : ∀ i x, S3.heap.get i = some x → (i = l ∧ x = b3) ∨ (i ≠ l ∧ S2.heap.get i = some x) := by
        intro i x hx
        rw [h3h, Tr.get_set] at hx
        split at hx
        · rename_i e; exact .inl ⟨e, by simpa using hx.symm⟩
        · rename_i e; exact .inr ⟨e, hx⟩
      have B : ∀ i x, S2.heap.get i = some x → r'.to i ≠ r.to l := fun i x hx c => hnl2 ⟨i, x, hx, c⟩
      constructor
      · intro i x hx
        rcases A i x hx with ⟨rfl, rfl⟩ | ⟨ne, hx⟩
        · exact ⟨hall.le.dom _ hdl, o3, by rw [htol]; exact hu.here, ho⟩
        · obtain ⟨h1, o1, h2, h4⟩ := hall.rel.at_ i x hx
          exact ⟨h1, o1, by rw [hu.there _ (B i x hx)]; exact h2, h4⟩
      · intro i j bi bj hi hj hx e
        rcases A i bi hi with ⟨rfl, rfl⟩ | ⟨ni, hi⟩ <;> rcases A j bj hj with ⟨rfl, rfl⟩ | ⟨nj, hj⟩
        · rfl
        · rw [htol] at e; exact absurd e.symm (B j bj hj)
        · rw [htol] at e; exact absurd e (B i bi hi)
        · exact hall.rel.inj' i j bi bj hi hj hx e
    log := by rw [h3l, hall.log, List.append_assoc]
    next := by rw [h3n]; exact hall.next
    dom := fun id => by rw [h3n]; exact hall.dom id
    size := by rw [hu.size]; exact hall.size
    os := hu.os.trans hall.os
    tape := hu.tape.trans hall.tape
    output := hu.output.trans hall.output
    frame := fun k hk2 hnl => by rw [hu.there k (fun c => hnl (c ▸ Live.intro hb))]; exact hall.frame k hk2 hnl
    kept := fun id x hx hn => by
      have hne : id ≠ l := fun c => hn (by rw [c]; simp [hD])
      rw [hu.there _ (fun c => hne (h.inj _ _ _ _ hx hb c (.inr hro)))]
      exact hall.kept id x hx (fun c => hn (List.mem_append.2 (.inr c)))
    same := fun id hn hx => by
      rw [h3h, Tr.get_set, if_neg (fun c : id = l => hn (by rw [c]; simp [hD]))]
      exact hall.same id (fun c => hn (List.mem_append.2 (.inr c))) (by rw [h3n] at hx; exact hx)
    live := fun k hk2 ⟨i, x, hx, e⟩ => by
      rw [h3h, Tr.get_set] at hx
      split at hx
      · rename_i c; rw [← e, c, htol]; exact Live.intro hb
      · exact hall.live k hk2 ⟨i, x, hx, e⟩ }

/-! ### results -/
def resG (tmps : Array Value) : ResultVar → Sem Value
  | .tmp t => pure (tmps.getD t undef)
  | .cell a t => do loadVar t (← asAddr (tmps.getD a undef))
theorem resV_ok {e : Env} {tmps : Array Value} {rv : ResultVar} {l : List ARes} {v : Value} (hc : compRes P [rv] = some l) : ∃ a, l = [a] ∧ (resV e a S = some (v, S') → Rel P r S w → EnvRel r e tmps →
    ∃ D v', VRel r v v' ∧ Sim P D r S w r S' w ∧ S'.next = S.next ∧ Sem.run P (resG tmps rv) w = .ok v' w) := by
  cases rv with
  | tmp t =>
    simp only [compRes, Option.some.injEq] at hc
    refine ⟨.tmp t, hc.symm, fun h hr hE => ?_⟩
    simp only [resV] at h
    obtain ⟨hv, rfl⟩ := M.lift_some.1 h
    obtain ⟨v', h1, h2⟩ := hE _ _ hv
    exact ⟨[], v', h2, Sim.refl hr, rfl, by simp [resG, Array.getD_eq_getD_getElem?, h1]⟩
  | cell t ty =>
    simp only [compRes] at hc
    cases hsh : shOf P ty with
    | none => simp [hsh] at hc
    | some sh =>
      simp only [hsh, Option.some.injEq] at hc
      refine ⟨.cell t sh, hc.symm, fun h hr hE => ?_⟩
      simp only [resV, M.bind_some, M.lift_some] at h
      obtain ⟨xv, Sa, ⟨hx, hSa⟩, h⟩ := h
      subst Sa
      split at h
      · rename_i p
        obtain ⟨v0, h1, h2⟩ := hE _ _ hx
        obtain ⟨hsp, hd, rfl⟩ := h2.ptr_inv
        obtain ⟨hg1, hg2⟩ := run_isAgg (w := w) hsh
        have hgd : tmps.getD t undef = .pointer (some ⟨r.to p.block, r.base p.block + p.off, none⟩) := by simp [Array.getD_eq_getD_getElem?, h1]
        cases sh with
        | one =>
          simp only at h
          obtain ⟨v', k2, k3, k4⟩ := ld1_ok h hr
          refine ⟨_, v', k2, k4, ?_, ?_⟩
          · have := (Framed.ld1 _ _ _ _ _ h)
            have := k4.log
            exact (by
              simp only [ld1, M.bind_some, rd_some] at h
              obtain ⟨o, S1, ⟨h1, rfl⟩, h2⟩ := h
              split at h2
              · obtain ⟨_, rfl⟩ := M.lift_some.1 h2; rfl
              · obtain ⟨_, rfl⟩ := M.lift_some.1 h2; rfl
              · exact (M.fail_some.1 h2).elim)
          · simp only [resG, hgd, asAddr, loadVar, Sem.run_bind, Sem.run_pure, Result.andThen_ok, hg1, if_false, Bool.false_eq_true, k3]
        | agg n =>
          simp only [M.bind_some, M.pure_some] at h
          obtain ⟨_, _, h1, rfl, rfl⟩ := h
          obtain ⟨l', k2, _, k3, k5, k4⟩ := ldCells_ok h1 hr
          refine ⟨_, _, k2.agg, k4, k5, ?_⟩
          simp only [resG, hgd, asAddr, loadVar, Sem.run_bind, Sem.run_pure, Result.andThen_ok, hg1, if_true, run_sizeOf (hg2 n rfl), k3 w rfl]
      · exact (M.fail_some.1 h).elim

theorem resAll_ok {e : Env} {tmps : Array Value} : ∀ (rvs : List ResultVar) (l : List ARes) (vs : List Value) (S S' : St), compRes P rvs = some l → resAll e l S = some (vs, S') → Rel P r S w → EnvRel r e tmps →
    ∃ D vs', LRel r vs vs' ∧ Sim P D r S w r S' w ∧ S'.next = S.next ∧
      Sem.run P (rvs.mapM (resG tmps)) w = .ok vs' w
  | [], l, vs, S, S', hc, h, hr, hE => by
    simp only [compRes, Option.some.injEq] at hc; subst hc
    simp only [resAll] at h
    obtain ⟨rfl, rfl⟩ := M.pure_some.1 h
    exact ⟨[], [], .nil, Sim.refl hr, rfl, by simp⟩
  | rv :: rvs, l, vs, S, S', hc, h, hr, hE => by
    have : ∃ a l', l = a :: l' ∧ compRes P [rv] = some [a] ∧ compRes P rvs = some l' := by
      cases rv with
      | tmp t =>
        simp only [compRes] at hc ⊢
        split at hc
        · rename_i l' hl'
          exact ⟨_, l', by simpa using hc.symm, rfl, hl'⟩
        · simp at hc
      | cell a t =>
        simp only [compRes] at hc ⊢
        split at hc
        · rename_i sh l' hsh hl'
          exact ⟨_, l', by simpa using hc.symm, by simp [hsh], hl'⟩
        · simp at hc
    obtain ⟨a, l', rfl, h1, h2⟩ := this
    simp only [resAll, M.bind_some, M.pure_some] at h
    obtain ⟨v, S1, h3, vs1, S2, h4, rfl, rfl⟩ := h
    obtain ⟨a', ha', hok⟩ := resV_ok (r := r) (w := w) (S := S) (S' := S1) (e := e) (tmps := tmps) (v := v) h1
    obtain rfl : a = a' := by simpa using ha'
    obtain ⟨D, v', k1, k2, k3, k4⟩ := hok h3 hr hE
    obtain ⟨D2, vs', m1, m2, m3, m4⟩ := resAll_ok rvs l' vs1 S1 S' h2 h4 k2.rel hE
    refine ⟨_, v' :: vs', .cons k1 m1, k2.trans (fresh_of_next (by rw [m3, k3])) hr m2, by rw [m3, k3], ?_⟩
    rw [List.mapM_cons]
    simp only [Sem.run_bind, Sem.run_pure]
    rw [k4]
    simp only [Result.andThen_ok]
    rw [m4]
    simp only [Result.andThen_ok]

theorem results_ok {e : Env} {tmps : Array Value} {fn : Func} {l : List ARes} {vs : List Value} (hc : compRes P fn.results.toList = some l) (h : resAll e l S = some (vs, S')) (hr : Rel P r S w) (hE : EnvRel r e tmps) :
    ∃ D v', VRel r (match (generalizing := false) vs with | [v] => v | vs => .tuple vs.toArray) v' ∧ Sim P D r S w r S' w ∧ S'.next = S.next ∧ (results fn tmps).run P w = .ok v' w := by
  obtain ⟨D, vs', k1, k2, k3, k4⟩ := resAll_ok _ _ _ _ _ hc h hr hE
  have hrun : (results fn tmps).run P w = .ok (if h : vs'.toArray.size = 1 then vs'.toArray[0] else .tuple vs'.toArray) w := by
    have : results fn tmps = (do let vs ← fn.results.mapM (resG tmps); pure (if h : vs.size = 1 then vs[0] else .tuple vs)) := rfl
    rw [this, Array.mapM_eq_mapM_toList]
    simp only [Sem.run_bind, Sem.run_map]
    rw [k4]
    rfl
  refine ⟨D, _, ?_, k2, k3, hrun⟩
  cases k1 with
  | nil => exact LRel.tuple .nil
  | cons hv ht =>
    cases ht with
    | nil => simpa using hv
    | cons hv2 ht =>
      have := LRel.tuple (LRel.cons hv (LRel.cons hv2 ht))
      simpa using this
end Go.Wb
