/- The engine, part C10: slice expressions, builtins; all operations but calls of functions. -/
import Derived.Test.YtmepokefmpcnnaaEngC9m
set_option linter.unusedSimpArgs false
set_option linter.unusedVariables false
namespace Go.Wb
variable {P : Program} {r : Ren} {S S' : St} {w : World}
theorem bnds_hi {e : Env} {la ha ma : Option Atom} {len cap : Nat} {b : Nat × Nat × Nat} (h : bnds e len cap la ha ma = some b) : b.2.1 = len ∨ b.2.1 ≤ b.2.2 := by
  unfold bnds at h
  split at h
  · simp at h
  · rename_i m hm
    split at h
    · simp at h
    · rename_i hh hhb
      split at h
      · simp at h
      · simp at h
        subst h
        simp only
        cases ha with
        | none => left; simpa [bnd] using hhb.symm
        | some a =>
          right
          simp only [bnd] at hhb
          split at hhb
          · split at hhb
            · simp at hhb; omega
            · simp at hhb
          · simp at hhb

section
variable {call : Tgt → List Value → M Value} {e : Env} {tmps : Array Value} {v : Value} {o : Oper} {aop : AOp}

theorem did_slice {t : TypeId} {x : Operand} {lo hi mx : Option Operand} (ho : o.op = .slice t x lo hi mx) (hc : compOp0 P o.op = some aop) (he : exec call e aop S = some (v, S')) (hr : Rel P r S w) (hE : EnvRel r e tmps) : Did P r S w S' v tmps o := by
  rw [ho] at hc
  simp only [compOp0, Option.bind_eq_bind, Option.bind_eq_some_iff] at hc
  obtain ⟨a, ha, la, hla, hia, hhi, ma, hma, hc⟩ := hc
  split at hc
  · simp at hc
  rename_i hmh
  simp only [Option.bind_eq_some_iff] at hc
  obtain ⟨d, hd, hc⟩ := hc
  have arr : ∀ {n el s : Nat}, sizeT P el = some s → aop = .slcA n s a la hia ma →
      (∀ p : Addr, evT tmps x = .pointer (some p) → (Instr.sliceAt t (evT tmps x) (lo.map (evT tmps)) (hi.map (evT tmps)) (mx.map (evT tmps))).run P w = (do
        let (l, h, m) ← Instr.sliceBounds false n n (lo.map (evT tmps)) (hi.map (evT tmps)) (mx.map (evT tmps))
        let size ← sizeOf el
        pure (.slice (some (if m = l then p else p.add (l * size))) (h - l) (m - l)) : Sem Value).run P w) → Did P r S w S' v tmps o := by
    intro n el s hs haop hrun
    subst haop
    simp only [exec, M.bind_some, M.lift_some] at he
    obtain ⟨xv, _, ⟨h1, rfl⟩, he⟩ := he
    cases xv <;> try (exact (M.fail_some.1 he).elim)
    rename_i p
    cases p with
    | none => exact (M.fail_some.1 he).elim
    | some p =>
      simp only [M.bind_some, M.lift_some, rd_some] at he
      obtain ⟨b, _, ⟨hb, rfl⟩, bk, S1, ⟨hbk, rfl⟩, he⟩ := he
      cases bk with
      | loop => exact (M.fail_some.1 he).elim
      | map => exact (M.fail_some.1 he).elim
      | ro => exact (M.fail_some.1 he).elim
      | cells ext str cs =>
        cases ext with
        | some z => exact (M.fail_some.1 he).elim
        | none =>
          obtain ⟨rfl, rfl⟩ := M.pure_some.1 he
          obtain ⟨hsp, hdm, hx⟩ := (atom_ok ha h1 hE).ptr_inv
          obtain ⟨hd2, rc, el2, lo2, hi2, l', k1, k2, k3, k4, k5, k6, k7⟩ := cells_at hr hbk
          obtain ⟨m', hb1, hb2, hb3, hb4⟩ := bnds_ok (P := P) (w := w) hE hla hhi hma hmh (Nat.le_refl n) hb false
          obtain rfl : m' = b.2.2 := by rcases hb4 with ⟨_, h, h'⟩ | h <;> omega
          obtain ⟨bk2, of, sp⟩ := p
          simp only at hsp hx hdm k2
          subst hsp
          refine ⟨_, r, w, .slice (some (if b.2.2 = b.1 then ⟨r.to bk2, r.base bk2 + of, none⟩ else (⟨r.to bk2, r.base bk2 + of, none⟩ : Addr).add (b.1 * s))) (b.2.1 - b.1) (b.2.2 - b.1), sim_log hr (D := [(bk2, false)]) rfl rfl rfl, ?_, .inl ?_⟩
          · split
            · exact .slc hdm (fun _ => rfl) (Nat.le_refl _) (fun z hz => by rw [k2] at hz; cases hz)
            · rw [add_none, Nat.add_assoc]
              exact .slc hdm (fun _ => rfl) (Nat.le_refl _) (fun z hz => by rw [k2] at hz; cases hz)
          · simp only [execOp, ho, Sem.run_bind, hrun _ hx, hb1, Result.andThen_ok, run_sizeOf hs, Sem.run_pure]
  split at hc
  · rename_i n el
    simp only [Option.bind_eq_some_iff, Option.some.injEq] at hc
    obtain ⟨s, hs, rfl⟩ := hc
    exact arr hs rfl fun p hp => by simp only [Instr.sliceAt, Sem.run_bind, run_underlying hd, Result.andThen_ok, hp, Instr.sureAddr, Sem.run_pure]
  · split at hc
    · obtain rfl : AOp.slcS a la hia = aop := by simpa using hc
      simp only [exec, M.bind_some, M.lift_some] at he
      obtain ⟨xv, _, ⟨h1, rfl⟩, he⟩ := he
      cases xv <;> try (exact (M.fail_some.1 he).elim)
      rename_i s
      simp only [M.bind_some, M.lift_some, M.pure_some] at he
      obtain ⟨b, _, ⟨hb, rfl⟩, rfl, rfl⟩ := he
      have hx := (atom_ok ha h1 hE).string_inv
      have hma' : ma = none := by simpa [atomO] using hma.symm
      subst hma'
      obtain ⟨m', hb1, hb2, hb3, hb4⟩ := bnds_ok (P := P) (w := w) hE hla hhi (mx := none) (ma := none) rfl (by simp) (Nat.le_refl s.size) hb false
      refine did_pure hr (.string _) ?_
      simp only [execOp, ho, Instr.sliceAt, Instr.slice, Sem.run_bind, run_underlying hd, Result.andThen_ok, hx, Option.map_none, Option.isSome_none, Bool.false_eq_true, if_false]
      simp only [Option.map_none] at hb1
      simp [hb1]
    · simp at hc
  · rename_i el
    simp only [Option.bind_eq_some_iff, Option.some.injEq] at hc
    obtain ⟨s, hs, rfl⟩ := hc
    simp only [exec, M.bind_some, M.lift_some] at he
    obtain ⟨xv, _, ⟨h1, rfl⟩, he⟩ := he
    have hrun : ∀ (q : Option Addr) (len cap : Nat), evT tmps x = .slice q len cap → (execOp (evT tmps) o).run P w = ((Instr.sliceBounds true len cap (lo.map (evT tmps)) (hi.map (evT tmps)) (mx.map (evT tmps))).run P w).andThen fun b w' =>
        .ok (.value (.slice (if b.2.2 = b.1 then q else q.map (·.add (b.1 * s))) (b.2.1 - b.1) (b.2.2 - b.1))) w' := by
      intro q len cap hq
      simp only [execOp, ho, Instr.sliceAt, Instr.slice, Sem.run_bind, run_underlying hd, Result.andThen_ok, hq]
      cases (Instr.sliceBounds true len cap (lo.map (evT tmps)) (hi.map (evT tmps)) (mx.map (evT tmps))).run P w with
      | halt h w' => rfl
      | ok b w' => simp only [Result.andThen_ok, run_sizeOf hs, Sem.run_pure]
    cases xv <;> try (exact (M.fail_some.1 he).elim)
    rename_i p len cap
    cases p with
    | none =>
      simp only [M.bind_some, M.lift_some, M.pure_some] at he
      obtain ⟨b, _, ⟨hb, rfl⟩, rfl, rfl⟩ := he
      obtain ⟨rfl, rfl, hx⟩ := (atom_ok ha h1 hE).slcNil_inv
      obtain ⟨m', hb1, hb2, hb3, hb4⟩ := bnds_ok (P := P) (w := w) hE hla hhi hma hmh (Nat.le_refl 0) hb true
      have hm0 : m' = 0 := by rcases hb4 with ⟨_, _, h⟩ | h <;> omega
      have hh0 : b.2.1 = 0 := by rcases bnds_hi hb with h | h <;> omega
      refine did_pure hr .slcNil ?_
      rw [hrun none 0 0 hx, hb1]
      simp only [Result.andThen_ok, hm0, hh0]
      have : b.1 = 0 := by omega
      simp [this]
    | some p =>
      simp only [M.bind_some, M.lift_some, rd_some] at he
      obtain ⟨b, _, ⟨hb, rfl⟩, bk, S1, ⟨hbk, rfl⟩, he⟩ := he
      cases bk with
      | loop => exact (M.fail_some.1 he).elim
      | map => exact (M.fail_some.1 he).elim
      | ro cs =>
        simp only at he
        split at he
        case isFalse => exact (M.fail_some.1 he).elim
        rename_i hhm
        obtain ⟨rfl, rfl⟩ := M.pure_some.1 he
        obtain ⟨hsp, hdm, o', c', hx, hcc, hex, hgr, hor⟩ := (atom_ok ha h1 hE).slc_inv
        obtain ⟨hd2, rc, el2, fz, l', k1, k2, k4, k5⟩ := ro_at hr hbk
        obtain ⟨m', hb1, hb2, hb3, hb4⟩ := bnds_ok (P := P) (w := w) hE hla hhi hma hmh hcc hb true
        obtain ⟨bk2, of, sp⟩ := p
        simp only at hsp hx hdm k2 hex hgr hor
        subst hsp
        have hmm : b.2.2 ≤ m' ∧ m' ≤ c' := by rcases hb4 with ⟨_, h1, h2⟩ | h1 <;> omega
        obtain ⟨rfl, rfl⟩ := hex k2
        obtain rfl : m' = b.2.2 := by rcases hb4 with ⟨_, h1, h2⟩ | h1 <;> omega
        refine ⟨_, r, w, .slice (if b.2.2 = b.1 then some ⟨r.to bk2, r.base bk2 + of, none⟩ else some ((⟨r.to bk2, r.base bk2 + of, none⟩ : Addr).add (b.1 * s))) (b.2.1 - b.1) (b.2.2 - b.1), sim_log hr (D := [(bk2, false)]) rfl rfl rfl, ?_, .inl ?_⟩
        · split
          · rename_i h
            exact .slc hdm (fun _ => rfl) (Nat.le_refl _) (fun z hz => by rw [k2] at hz; cases hz)
          · rename_i h; rw [add_none, Nat.add_assoc]
            exact .slc hdm (fun _ => rfl) (Nat.le_refl _) (fun z hz => by rw [k2] at hz; cases hz)
        · rw [hrun _ _ _ hx, hb1]
          simp only [Result.andThen_ok]
          split <;> rfl
      | cells ext str cs =>
        simp only at he
        split at he
        case isFalse => exact (M.fail_some.1 he).elim
        rename_i hcond
        obtain ⟨hext, hhm⟩ := hcond
        obtain ⟨rfl, rfl⟩ := M.pure_some.1 he
        obtain ⟨hsp, hdm, o', c', hx, hcc, hex, hgr, hor⟩ := (atom_ok ha h1 hE).slc_inv
        obtain ⟨hd2, rc, el2, lo2, hi2, l', k1, k2, k3, k4, k5, k6, k7⟩ := cells_at hr hbk
        obtain ⟨m', hb1, hb2, hb3, hb4⟩ := bnds_ok (P := P) (w := w) hE hla hhi hma hmh hcc hb true
        obtain ⟨bk2, of, sp⟩ := p
        simp only at hsp hx hdm k2 hex hgr hor
        subst hsp
        have hmm : b.2.2 ≤ m' ∧ m' ≤ c' := by rcases hb4 with ⟨_, h1, h2⟩ | h1 <;> omega
        refine ⟨_, r, w, .slice (if m' = b.1 then some ⟨r.to bk2, o', none⟩ else some ((⟨r.to bk2, o', none⟩ : Addr).add (b.1 * s))) (b.2.1 - b.1) (m' - b.1), sim_log hr (D := [(bk2, false)]) rfl rfl rfl, ?_, .inl ?_⟩
        · cases hext with
          | inl hext =>
            subst hext
            obtain ⟨rfl, rfl⟩ := hex k2
            obtain rfl : m' = b.2.2 := by rcases hb4 with ⟨_, h1, h2⟩ | h1 <;> omega
            split
            · rename_i h
              exact .slc hdm (fun _ => rfl) (Nat.le_refl _) (fun z hz => by rw [k2] at hz; cases hz)
            · rename_i h; rw [add_none, Nat.add_assoc]
              exact .slc hdm (fun _ => rfl) (Nat.le_refl _) (fun z hz => by rw [k2] at hz; cases hz)
          | inr hext =>
            subst hext
            obtain ⟨hg1, hg2⟩ := hgr s k2
            have hmul : m' * s ≤ c' * s := Nat.mul_le_mul_right _ hmm.2
            by_cases h : b.2.2 = b.1
            · -- nothing is left
              rw [if_pos h]
              have e1 : b.2.1 - b.1 = 0 := by omega
              have e2 : b.2.2 - b.1 = 0 := by omega
              rw [e1, e2]
              by_cases h' : m' = b.1
              · rw [if_pos h']
                exact .slc0 (c' := m' - b.1) hdm k2 hg2 (by rw [h']; simp; omega)
              · rw [if_neg h', add_none]
                refine .slc0 hdm k2 (by omega) ?_
                rw [Nat.sub_mul]
                have : b.1 * s ≤ m' * s := Nat.mul_le_mul_right _ (by omega)
                omega
            · rw [if_neg h, if_neg (by omega), add_none]
              have ho' : o' = r.base bk2 + of := by
                rcases hor with h2 | ⟨_, h2⟩
                · exact h2
                · omega
              rw [ho', Nat.add_assoc]
              refine .slc hdm (fun e => by rw [k2] at e; cases e) (by omega) (fun z hz => ?_)
              rw [k2] at hz
              obtain rfl : s = z := by simpa using hz
              show r.base bk2 + (of + b.1 * s) + (m' - b.1) * s ≤ r.size bk2
              rw [Nat.sub_mul]
              have : b.1 * s ≤ m' * s := Nat.mul_le_mul_right _ (by omega)
              omega
        · rw [hrun _ _ _ hx, hb1]
          simp only [Result.andThen_ok]
          congr 3
  · rename_i arrT
    simp only [Option.bind_eq_some_iff] at hc
    obtain ⟨d2, hd2, hc⟩ := hc
    split at hc
    · rename_i n el
      simp only [Option.bind_eq_some_iff, Option.some.injEq] at hc
      obtain ⟨s, hs, rfl⟩ := hc
      exact arr hs rfl fun p hp => by
        simp only [Instr.sliceAt, Instr.slice, Sem.run_bind, run_underlying hd, run_underlying hd2, Result.andThen_ok, hp, Go.asAddr, Sem.run_pure]
    · simp at hc
  · simp at hc

end
end Go.Wb
