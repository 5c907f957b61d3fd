/- The engine, part C11: builtins; all operations but calls of functions. -/
import Derived.Test.YtmepokefmpcnnaaEngC10
set_option linter.unusedSimpArgs false
set_option linter.unusedVariables false
namespace Go.Wb
variable {P : Program} {r : Ren} {S S' : St} {w : World}
section
variable {call : Tgt → List Value → M Value} {e : Env} {tmps : Array Value} {v : Value} {o : Oper} {aop : AOp}

theorem args_at {args : Array Operand} {i : Nat} {x : Operand} (h : args[i]? = some x) : (args.map (evT tmps))[i]? = some (evT tmps x) := by simp [h]

theorem did_len {c : Call} (hcal : c.callee = .builtin .len) (ho : o.op = .call c) (hc : compBuiltin P .len c.argTypes c.args = some aop) (he : exec call e aop S = some (v, S')) (hr : Rel P r S w) (hE : EnvRel r e tmps) : Did P r S w S' v tmps o := by
  have hrun : (execOp (evT tmps) o) = (do pure (.value (← Builtin.len_ c.argTypes o.type (c.args.map (evT tmps))))) := by simp [execOp, ho, resolve, hcal, invoke, builtin]
  simp only [compBuiltin, Option.bind_eq_bind, Option.bind_eq_some_iff] at hc
  obtain ⟨x, hx, a, ha, t, ht, d, hd, hc⟩ := hc
  have hx' := args_at (tmps := tmps) hx
  have key : ∀ (k : LenK), aop = .len k a → k ≠ .map → (∀ (xv : Value) (n : Nat), lenV k xv = some n → VRel r xv (evT tmps x) → (Builtin.len_ c.argTypes o.type (c.args.map (evT tmps))).run P w = .ok (goInt n) w) → Did P r S w S' v tmps o := by
    intro k hk hnm hl
    subst hk
    have he2 : ((M.lift (a.ev e)).bind fun x => (M.lift (lenV k x)).bind fun n => M.pure (.int .i64 n)) S = some (v, S') := by
      have : exec call e (.len k a) = ((M.lift (a.ev e)).bind fun x => (M.lift (lenV k x)).bind fun n => M.pure (.int .i64 n)) := by
        cases k <;> first | rfl | exact absurd rfl hnm
      rw [← this]; exact he
    simp only [M.bind_some, M.lift_some, M.pure_some] at he2
    obtain ⟨xv, _, ⟨h1, rfl⟩, n, _, ⟨h2, rfl⟩, rfl, rfl⟩ := he2
    refine did_pure hr (.int _ _) ?_
    rw [hrun]
    simp only [Sem.run_bind, hl xv n h2 (atom_ok ha h1 hE), Result.andThen_ok, Sem.run_pure, goInt]
  split at hc
  · obtain rfl : AOp.len .str a = aop := by simpa using hc
    refine key _ rfl (by simp) fun xv n h hxv => ?_
    cases xv <;> simp [lenV] at h
    subst h
    have := hxv.string_inv
    simp [Builtin.len_, ht, hx', run_underlying hd, this]
  · obtain rfl : AOp.len .slice a = aop := by simpa using hc
    refine key _ rfl (by simp) fun xv n h hxv => ?_
    have tok : xv = .chan none → (Builtin.len_ c.argTypes o.type (c.args.map (evT tmps))).run P w = .ok (goInt n) w := by
      intro e
      subst e
      obtain ⟨a', hxe⟩ := hxv.token_inv
      obtain rfl : 0 = n := by simpa [lenV] using h
      simp [Builtin.len_, ht, hx', run_underlying hd, hxe]
    cases xv
    case chan q => cases q with
      | none => exact tok rfl
      | some q => simp [lenV] at h
    all_goals try (simp [lenV] at h; done)
    rename_i p m cc
    obtain rfl : m = n := by simpa [lenV] using h
    cases p with
    | none => obtain ⟨rfl, rfl, hxe⟩ := hxv.slcNil_inv; simp [Builtin.len_, ht, hx', run_underlying hd, hxe]
    | some p => obtain ⟨_, _, o', c', hxe, _⟩ := hxv.slc_inv; simp [Builtin.len_, ht, hx', run_underlying hd, hxe]
  · rename_i n el
    obtain rfl : AOp.len (.arr n) a = aop := by simpa using hc
    refine key _ rfl (by simp) fun xv m h hxv => ?_
    simp [lenV] at h
    subst h
    simp [Builtin.len_, ht, hx', run_underlying hd]
  · rename_i arr
    simp only [Option.bind_eq_some_iff] at hc
    obtain ⟨d2, hd2, hc⟩ := hc
    split at hc
    · rename_i n el
      obtain rfl : AOp.len (.arr n) a = aop := by simpa using hc
      refine key _ rfl (by simp) fun xv m h hxv => ?_
      simp [lenV] at h
      subst h
      simp [Builtin.len_, ht, hx', run_underlying hd, run_underlying hd2]
    · simp at hc
  · obtain rfl : AOp.len .map a = aop := by simpa using hc
    simp only [exec, M.bind_some, M.lift_some] at he
    obtain ⟨xv, S0, ⟨h1, hS⟩, he⟩ := he
    subst hS
    have hxv := atom_ok ha h1 hE
    have other : ((M.lift (lenV .map xv)).bind fun n => M.pure (.int .i64 n) : M Value) S0 = some (v, S') → Did P r S0 w S' v tmps o := by
      intro he
      simp only [M.bind_some, M.lift_some, M.pure_some] at he
      obtain ⟨n, _, ⟨h, rfl⟩, rfl, rfl⟩ := he
      cases xv <;> simp [lenV] at h
      rename_i p
      cases p <;> simp [lenV] at h
      subst h
      refine did_pure hr (.int _ _) ?_
      rw [hrun]
      have hxe := hxv.mapNil_inv
      simp [Builtin.len_, ht, hx', run_underlying hd, hxe, goInt]
    cases xv with
    | map p =>
      cases p with
      | none => exact other he
      | some b =>
        simp only [M.bind_some, rd_some] at he
        obtain ⟨o1, _, ⟨hg, rfl⟩, he⟩ := he
        cases o1 with
        | map es cl =>
          obtain ⟨rfl, rfl⟩ := M.pure_some.1 he
          obtain ⟨_, hxe⟩ := hxv.map_inv
          obtain ⟨es', hw, hmr⟩ := map_at hr hg
          refine ⟨_, _, _, _, sim_log hr (D := [(b, false)]) rfl rfl rfl, .int _ _, .inl ?_⟩
          rw [hrun]
          have hl : es.length = es'.size := by simpa using hmr.length
          simp [Builtin.len_, ht, hx', run_underlying hd, hxe, run_getMap hw, hl, goInt]
        | cells => exact (M.fail_some.1 he).elim
        | loop => exact (M.fail_some.1 he).elim
        | ro => exact (M.fail_some.1 he).elim
    | _ => exact other he
  · simp at hc

theorem did_cap {c : Call} (hcal : c.callee = .builtin .cap) (ho : o.op = .call c) (hc : compBuiltin P .cap c.argTypes c.args = some aop) (he : exec call e aop S = some (v, S')) (hr : Rel P r S w) (hE : EnvRel r e tmps) : Did P r S w S' v tmps o := by
  have hrun : (execOp (evT tmps) o) = (do pure (.value (← Builtin.cap_ c.argTypes o.type (c.args.map (evT tmps))))) := by simp [execOp, ho, resolve, hcal, invoke, builtin]
  simp only [compBuiltin, Option.bind_eq_bind, Option.bind_eq_some_iff] at hc
  obtain ⟨x, hx, a, ha, t, ht, d, hd, hc⟩ := hc
  have hx' := args_at (tmps := tmps) hx
  split at hc
  · obtain rfl : AOp.cap a = aop := by simpa using hc
    simp only [exec, M.bind_some, M.lift_some] at he
    obtain ⟨xv, _, ⟨h1, rfl⟩, he⟩ := he
    have hxr := atom_ok ha h1 hE
    cases xv <;> try (exact (M.fail_some.1 he).elim)
    rename_i p n cc
    cases p with
    | none =>
      obtain ⟨rfl, rfl⟩ := M.pure_some.1 he
      obtain ⟨rfl, rfl, hxe⟩ := hxr.slcNil_inv
      exact did_pure hr (.int _ _) (by rw [hrun]; simp [Builtin.cap_, ht, hx', run_underlying hd, hxe, goInt])
    | some p =>
      simp only [M.bind_some, rd_some] at he
      obtain ⟨bk, S1, ⟨hb, rfl⟩, he⟩ := he
      cases bk with
      | loop => exact (M.fail_some.1 he).elim
      | map => exact (M.fail_some.1 he).elim
      | ro cs =>
        obtain ⟨rfl, rfl⟩ := M.pure_some.1 he
        obtain ⟨hsp, hdm, o', c', hxe, hcc, hex, hgr, hor⟩ := hxr.slc_inv
        obtain ⟨hd2, rc, el2, fz, l', k1, k2, _⟩ := ro_at hr hb
        obtain ⟨rfl, _⟩ := hex k2
        exact ⟨_, r, w, _, sim_log hr (D := [(p.block, false)]) rfl rfl rfl, .int _ _, .inl (by rw [hrun]; simp [Builtin.cap_, ht, hx', run_underlying hd, hxe, goInt])⟩
      | cells ext str cs =>
        cases ext with
        | some z => exact (M.fail_some.1 he).elim
        | none =>
          obtain ⟨rfl, rfl⟩ := M.pure_some.1 he
          obtain ⟨hsp, hdm, o', c', hxe, hcc, hex, hgr, hor⟩ := hxr.slc_inv
          obtain ⟨hd2, rc, el2, lo2, hi2, l', k1, k2, _⟩ := cells_at hr hb
          obtain ⟨rfl, _⟩ := hex k2
          exact ⟨_, r, w, _, sim_log hr (D := [(p.block, false)]) rfl rfl rfl, .int _ _, .inl (by rw [hrun]; simp [Builtin.cap_, ht, hx', run_underlying hd, hxe, goInt])⟩
  · simp at hc

theorem did_append {c : Call} (hcal : c.callee = .builtin .append) (ho : o.op = .call c) (hc : compBuiltin P .append c.argTypes c.args = some aop) (he : exec call e aop S = some (v, S')) (hr : Rel P r S w) (hE : EnvRel r e tmps) (hf : Fresh r S S') :
    Did P r S w S' v tmps o := by
  have hrun : (execOp (evT tmps) o) = (do pure (.value (← Builtin.append_ c.argTypes o.type (c.args.map (evT tmps))))) := by simp [execOp, ho, resolve, hcal, invoke, builtin]
  simp only [compBuiltin, Option.bind_eq_bind, Option.bind_eq_some_iff] at hc
  obtain ⟨s, hs, a, ha, x, hx, b, hb, st, hst, sd, hsd, xt, hxt, xd, hxd, hc⟩ := hc
  have hs' := args_at (tmps := tmps) hs
  have hx' := args_at (tmps := tmps) hx
  have two : ∀ (el sz bt : Nat) (hsl : P.underlying st = some (.slice el)) (hxd' : ∀ k, xd ≠ .int k) (hz : (zeroT P el).map (·.length) = sizeT P el) (h1 : sizeT P el = some sz) (h2 : bytesT P el = some bt), aop = .app sz bt el a b → Did P r S w S' v tmps o := by
    intro el sz bt hsl hxd' hz h1 h2 haop
    subst haop
    rw [h1] at hz
    simp only [Option.map_eq_some_iff] at hz
    obtain ⟨z, hz, hzl⟩ := hz
    obtain ⟨i, zv, hi, hiz, hz2, hz3⟩ := zeroT_info hz
    have e1 := sizeT_info h1 hi
    have e2 := bytesT_info h2 hi
    subst e1; subst e2
    have hzs : zv.cells.size = i.size := by rw [← hzl, ← hz2]; simp
    simp only [exec, M.bind_some, M.lift_some, M.pure_some] at he
    obtain ⟨sv, _, ⟨k1, rfl⟩, xv, _, ⟨k2, rfl⟩, v0, S1, h3, rfl, rfl⟩ := he
    have hsr := atom_ok ha k1 hE
    have hxr := atom_ok hb k2 hE
    unfold appendA at h3
    split at h3
    case h_2 => exact (M.fail_some.1 h3).elim
    rename_i base sLen sCap
    simp only [M.bind_some, M.lift_some] at h3
    obtain ⟨n, Sx, ⟨hn, hSx⟩, h3⟩ := h3
    subst hSx
    have hln := lenOf_ok (P := P) (w := w) hn hxr
    split at h3
    · rename_i hle
      have h3' := h3
      simp only [putA, M.bind_some] at h3'
      obtain ⟨l, S2, hnew, _⟩ := h3'
      obtain ⟨D, l', m1, m2, m3, m4, m5⟩ := firstN_ok (.inl hn) hnew hxr hr
      obtain ⟨D', w', base', sCap', q1, q2, q3, q4, q5⟩ := putA_ok h3 hsr hle hr hnew m3 m1 m4 m5
      refine ⟨D', r, w', _, q3, q4, .inl ?_⟩
      rw [hrun]
      simp only [Sem.run_bind, run_append_put hst hxt (q1 ▸ hs') hx' hsl hxd hxd' hi hln q2 (m2 w rfl) q5, Result.andThen_ok, Sem.run_pure]
    · rename_i hle
      have h3' := h3
      simp only [growA] at h3'
      split at h3'
      case isFalse => exact (M.fail_some.1 h3').elim
      simp only [M.bind_some] at h3'
      obtain ⟨l, S2, hnew, _⟩ := h3'
      obtain ⟨D, l', m1, m2, m3, m4, m5⟩ := firstN_ok (.inl hn) hnew hxr hr
      obtain ⟨⟨b1, b2⟩, base', sCap', q1, q⟩ := growA_ok h3 hsr hle hr hf hnew m3 m1 m4 m5
      rcases q with ⟨q2, D', r', w', q3, q4, q5⟩ | ⟨q2, old, q3, q4⟩
      · refine ⟨D', r', w', _, q3, q4, .inl ?_⟩
        rw [hrun]
        simp only [Sem.run_bind, run_append_put hst hxt (q1 ▸ hs') hx' hsl hxd hxd' hi hln q2 (m2 w rfl) q5, Result.andThen_ok, Sem.run_pure]
      · obtain ⟨newCap, rest, p1, p2, p3⟩ := run_append_grow (ty := o.type) hst hxt (q1 ▸ hs') hx' hsl hxd hxd' hi hiz hzs hln q2 m2 (q1 ▸ q3) b1 b2
        obtain ⟨D', r', q5, q6⟩ := q4 newCap rest el { w with drawn := w.drawn + 1 } p1 p2 ⟨rfl, rfl, rfl, rfl⟩
        refine ⟨D', r', _, _, q5, q6, .inl ?_⟩
        rw [hrun]
        simp only [Sem.run_bind, p3, Result.andThen_ok, Sem.run_pure]
  split at hc
  · split at hc
    · rename_i hz
      simp only [Option.bind_eq_bind, Option.bind_eq_some_iff, Option.some.injEq] at hc
      obtain ⟨sz, h1, bt, h2, h3⟩ := hc
      exact two _ sz bt hsd (fun k h => by cases h) hz h1 h2 h3.symm
    · simp at hc
  · split at hc
    · rename_i hz
      simp only [Option.bind_eq_bind, Option.bind_eq_some_iff, Option.some.injEq] at hc
      obtain ⟨sz, h1, bt, h2, h3⟩ := hc
      exact two _ sz bt hsd (fun k h => by cases h) hz h1 h2 h3.symm
    · simp at hc
  · rename_i el k
    simp only [Option.bind_eq_bind, Option.bind_eq_some_iff, Option.some.injEq] at hc
    obtain ⟨sz, h1, bt, h2, z, hz, rfl⟩ := hc
    obtain ⟨i, zv, hi, hiz, hz2, hz3⟩ := zeroT_info hz
    have e1 := sizeT_info h1 hi
    have e2 := bytesT_info h2 hi
    subst e1; subst e2
    simp only [exec, M.bind_some, M.lift_some, M.pure_some] at he
    obtain ⟨sv, _, ⟨k1, rfl⟩, xv, _, ⟨k2, rfl⟩, v0, S1, h3, rfl, rfl⟩ := he
    have hsr := atom_ok ha k1 hE
    have hxr := atom_ok hb k2 hE
    unfold appendZ at h3
    split at h3
    case h_2 => exact (M.fail_some.1 h3).elim
    rename_i base sLen sCap kk n
    split at h3
    case isFalse => exact (M.fail_some.1 h3).elim
    rename_i hcond
    obtain ⟨c1, c2, c3, c4⟩ := hcond
    have hxe := hxr.int_inv
    rw [hxe] at hx'
    have hzs : zv.cells.size = i.size := by rw [← c4, ← hz2]; simp
    have hlen : (rep n.toNat z).length = n.toNat * i.size := by rw [rep_length, c4]
    have hzr : LRel r (rep n.toNat z) (rep n.toNat zv.cells.toList) := by rw [← hz2]; exact rep_plain hz3 _
    split at h3
    · rename_i hle
      obtain ⟨D', w', base', sCap', q1, q2, q3, q4, q5⟩ := putA_ok h3 hsr hle hr rfl hlen hzr rfl (Sim.refl hr)
      refine ⟨D', r, w', _, q3, q4, .inl ?_⟩
      rw [hrun]
      simp only [Sem.run_bind, run_append_putZ hst hxt (q1 ▸ hs') hx' hsd hxd hi hiz c1 c2 c3 q2 hzs q5, Result.andThen_ok, Sem.run_pure]
    · rename_i hle
      obtain ⟨⟨b1, b2⟩, base', sCap', q1, q⟩ := growA_ok h3 hsr hle hr hf rfl hlen hzr rfl (Sim.refl hr)
      rcases q with ⟨q2, D', r', w', q3, q4, q5⟩ | ⟨q2, old, q3, q4⟩
      · refine ⟨D', r', w', _, q3, q4, .inl ?_⟩
        rw [hrun]
        simp only [Sem.run_bind, run_append_putZ hst hxt (q1 ▸ hs') hx' hsd hxd hi hiz c1 c2 c3 q2 hzs q5, Result.andThen_ok, Sem.run_pure]
      · obtain ⟨newCap, rest, p1, p2, p3⟩ := run_append_growZ (ty := o.type) hst hxt (q1 ▸ hs') hx' hsd hxd hi hiz hzs c1 c2 c3 q2 (q1 ▸ q3) b1 b2
        obtain ⟨D', r', q5, q6⟩ := q4 newCap rest el { w with drawn := w.drawn + 1 } p1 p2 ⟨rfl, rfl, rfl, rfl⟩
        refine ⟨D', r', _, _, q5, q6, .inl ?_⟩
        rw [hrun]
        simp only [Sem.run_bind, p3, Result.andThen_ok, Sem.run_pure]
  · simp at hc

theorem did_copy {c : Call} (hcal : c.callee = .builtin .copy) (ho : o.op = .call c) (hc : compBuiltin P .copy c.argTypes c.args = some aop) (he : exec call e aop S = some (v, S')) (hr : Rel P r S w) (hE : EnvRel r e tmps) (hf : Fresh r S S') :
    Did P r S w S' v tmps o := by
  have hrun : (execOp (evT tmps) o) = (do pure (.value (← Builtin.copy_ c.argTypes o.type (c.args.map (evT tmps))))) := by simp [execOp, ho, resolve, hcal, invoke, builtin]
  simp only [compBuiltin, Option.bind_eq_bind, Option.bind_eq_some_iff] at hc
  obtain ⟨dx, hdx, a, ha, x, hx, b, hb, st, hst, sd, hsd, hc⟩ := hc
  have hd' := args_at (tmps := tmps) hdx
  have hx' := args_at (tmps := tmps) hx
  split at hc
  · rename_i el
    simp only [Option.bind_eq_bind, Option.bind_eq_some_iff, Option.some.injEq] at hc
    obtain ⟨sz, h1, rfl⟩ := hc
    simp only [exec, M.bind_some, M.lift_some] at he
    obtain ⟨dv, _, ⟨k1, rfl⟩, xv, _, ⟨k2, rfl⟩, he⟩ := he
    have hdr := atom_ok ha k1 hE
    have hxr := atom_ok hb k2 hE
    cases dv <;> try (exact (M.fail_some.1 he).elim)
    rename_i base dLen dCap
    simp only [M.bind_some, M.lift_some] at he
    obtain ⟨n, Sx, ⟨hn, hSx⟩, cs, S1, hcs, he⟩ := he
    subst hSx
    have hln := lenOf_ok (P := P) (w := w) hn hxr
    obtain ⟨D, l', m1, m2, m3, m4, m5⟩ := firstN_ok (.inr ⟨n, hn, Nat.min_le_left _ _⟩) hcs hxr hr
    cases base with
    | none =>
      obtain ⟨rfl, rfl⟩ := M.pure_some.1 he
      obtain ⟨rfl, rfl, hde⟩ := hdr.slcNil_inv
      refine ⟨D, r, w, _, m5, .int _ _, .inl ?_⟩
      rw [hrun]
      have hm : (Builtin.firstCells sz (Nat.min n 0) (evT tmps x)).run P w = .ok l'.toArray w := m2 w rfl
      simp only [Builtin.copy_, hst, hd', hx', hde, Sem.run_bind, run_underlying hsd, Result.andThen_ok, hln, run_sizeOf h1, Sem.run_pure, goInt, hm]
    | some p =>
      simp only [M.bind_some, M.pure_some] at he
      obtain ⟨_, S2, hst2, rfl, rfl⟩ := he
      obtain ⟨hsp, hdm, o', c', hde, hcc, hex, hgr, hor⟩ := hdr.slc_inv
      obtain ⟨w', q1, q2⟩ := st_any (a' := (⟨r.to p.block, o', none⟩ : Addr)) hst2 m5.rel m1 (by
        rcases hor with rfl | ⟨rfl, _⟩
        · exact .inl rfl
        · right
          apply List.eq_nil_of_length_eq_zero
          rw [m3]; simp)
      have hn2 : S'.next = S1.next := by
        have := hst2
        simp only [stCells, M.bind_some, rd_some] at this
        obtain ⟨o, S3, ⟨_, rfl⟩, h6⟩ := this
        split at h6
        · split at h6
          · have := wr_some.1 h6; rw [this]
          · exact (M.fail_some.1 h6).elim
        · exact (M.fail_some.1 h6).elim
      refine ⟨_, r, w', _, m5.trans (fresh_of_next (hn2.trans m4)) hr q2, .int _ _, .inl ?_⟩
      rw [hrun]
      have hm : (Builtin.firstCells sz (Nat.min n dLen) (evT tmps x)).run P w = .ok l'.toArray w := m2 w rfl
      simp only [Builtin.copy_, hst, hd', hx', hde, Sem.run_bind, run_underlying hsd, Result.andThen_ok, hln, run_sizeOf h1, Sem.run_pure, goInt, hm, q1]
  · simp at hc

theorem did_clear {c : Call} (hcal : c.callee = .builtin .clear) (ho : o.op = .call c) (hc : compBuiltin P .clear c.argTypes c.args = some aop) (he : exec call e aop S = some (v, S')) (hr : Rel P r S w) (hE : EnvRel r e tmps) :
    Did P r S w S' v tmps o := by
  have hrun : (execOp (evT tmps) o) = (do pure (.value (← Builtin.clear_ c.argTypes o.type (c.args.map (evT tmps))))) := by simp [execOp, ho, resolve, hcal, invoke, builtin]
  simp only [compBuiltin, Option.bind_eq_bind, Option.bind_eq_some_iff] at hc
  obtain ⟨x, hx, a, ha, st, hst, sd, hsd, hc⟩ := hc
  have hx' := args_at (tmps := tmps) hx
  split at hc
  · rename_i el
    simp only [Option.bind_eq_bind, Option.bind_eq_some_iff, Option.some.injEq] at hc
    obtain ⟨z, hz, rfl⟩ := hc
    obtain ⟨i, zv, hi, hiz, hz2, hz3⟩ := zeroT_info hz
    simp only [exec, M.bind_some, M.lift_some] at he
    obtain ⟨xv, _, ⟨k1, rfl⟩, he⟩ := he
    have hxr := atom_ok ha k1 hE
    cases xv <;> try (exact (M.fail_some.1 he).elim)
    rename_i p n cc
    cases p with
    | none =>
      obtain ⟨rfl, rfl⟩ := M.pure_some.1 he
      obtain ⟨rfl, rfl, hxe⟩ := hxr.slcNil_inv
      exact did_pure hr undef_rel (by rw [hrun]; simp [Builtin.clear_, hst, hx', run_underlying hsd, hxe, undef])
    | some p =>
      simp only [M.bind_some, M.pure_some] at he
      obtain ⟨_, S1, h2, rfl, rfl⟩ := he
      obtain ⟨hsp, hdm, o', c', hxe, hcc, hex, hgr, hor⟩ := hxr.slc_inv
      have hzr : LRel r (rep n z) (rep n zv.cells.toList) := by rw [← hz2]; exact rep_plain hz3 _
      obtain ⟨w', q1, q2⟩ := st_any (a' := (⟨r.to p.block, o', none⟩ : Addr)) h2 hr hzr (by
        rcases hor with rfl | ⟨rfl, _⟩
        · exact .inl rfl
        · right; rfl)
      refine ⟨_, r, w', _, q2, undef_rel, .inl ?_⟩
      rw [hrun]
      cases n with
      | zero =>
        have hw' : w' = w := by
          simp [rep, storeCells] at q1; exact q1.symm
        subst hw'
        simp [Builtin.clear_, hst, hx', run_underlying hsd, hxe, undef]
      | succ n =>
        have hzc : (Builtin.zeroCells zv.cells (n + 1)).toList = rep (n + 1) zv.cells.toList := zeroCells_rep _ _
        simp only [Builtin.clear_, hst, hx', hxe, Sem.run_bind, run_underlying hsd, Result.andThen_ok, run_zeroValue hi hiz, hzc, q1, Sem.run_pure, undef]
  · simp at hc

theorem maxL_ok (gt : Bool) (f : Value → Value → Sem Value) (hf : ∀ x y z : Value, maxV gt x y = some z → ∀ w : World, (f x y).run P w = .ok z w) : ∀ (l l' : List Value) (x z x' : Value), maxL gt x l = some z → LRel r l l' → VRel r x x' →
    (l'.foldlM f x').run P w = .ok z w ∧ VRel r z z ∨ (l = [] ∧ l' = [] ∧ z = x)
  | [], l', x, z, x', h, hl, hx => by
    cases hl
    simp only [maxL, Option.some.injEq] at h
    exact .inr ⟨rfl, rfl, h.symm⟩
  | y :: l, l', x, z, x', h, hl, hx => by
    cases hl with
    | cons hy ht =>
      rename_i y' l2
      simp only [maxL] at h
      split at h
      · rename_i q hq
        have e : x' = x ∧ y' = y ∧ VRel r q q := by
          cases x <;> cases y <;> simp [maxV] at hq
          exact ⟨hx.int_inv, hy.int_inv, by rw [← hq.2]; exact .int _ _⟩
        obtain ⟨rfl, rfl, hqr⟩ := e
        simp only [List.foldlM_cons, Sem.run_bind, hf _ _ _ hq w, Result.andThen_ok]
        rcases maxL_ok gt f hf l l2 q z q h ht hqr with h1 | ⟨rfl, rfl, rfl⟩
        · exact .inl h1
        · exact .inl ⟨by simp, hqr⟩
      · simp at h

theorem did_max {c : Call} {gt : Bool} (hcal : c.callee = .builtin (if gt then .max else .min)) (ho : o.op = .call c) (hc : compBuiltin P (if gt then .max else .min) c.argTypes c.args = some aop) (he : exec call e aop S = some (v, S')) (hr : Rel P r S w) (hE : EnvRel r e tmps) :
    Did P r S w S' v tmps o := by
  have e1 : ((c.args.map (evT tmps)).toList) = c.args.toList.map (evT tmps) := by simp
  cases gt with
  | true =>
    simp only [if_true] at hcal hc
    have hrun : (execOp (evT tmps) o) = (do pure (.value (← Builtin.max_ c.argTypes o.type (c.args.map (evT tmps))))) := by simp [execOp, ho, resolve, hcal, invoke, builtin]
    simp only [compBuiltin, Option.bind_eq_bind, Option.bind_eq_some_iff, Option.some.injEq] at hc
    obtain ⟨as, has, rfl⟩ := hc
    simp only [exec, M.bind_some, M.lift_some] at he
    obtain ⟨l, _, ⟨hl, rfl⟩, he⟩ := he
    have hlr := atoms_ok hE has hl
    cases l with
    | nil => exact (M.fail_some.1 he).elim
    | cons x l =>
      simp only [M.bind_some, M.lift_some, M.pure_some] at he
      obtain ⟨z, _, ⟨hz, rfl⟩, rfl, rfl⟩ := he
      generalize hq : c.args.toList.map (evT tmps) = q at hlr
      cases hlr with
      | cons hx ht =>
        rename_i x' l'
        have hm := maxL_ok (P := P) (r := r) (w := w) true Builtin.max2 (fun x y z h w => by cases x <;> cases y <;> simp [maxV] at h; obtain ⟨rfl, rfl⟩ := h; simp [Builtin.max2]) l l' x v x' hz ht hx
        rcases hm with ⟨h1, h2⟩ | ⟨rfl, rfl, rfl⟩
        · refine did_pure hr h2 ?_
          rw [hrun]
          simp only [Builtin.max_, e1, hq, Sem.run_bind, h1, Result.andThen_ok, Sem.run_pure]
        · refine did_pure hr hx ?_
          rw [hrun]
          simp [Builtin.max_, hq]
  | false =>
    simp only [Bool.false_eq_true, if_false] at hcal hc
    have hrun : (execOp (evT tmps) o) = (do pure (.value (← Builtin.min_ c.argTypes o.type (c.args.map (evT tmps))))) := by simp [execOp, ho, resolve, hcal, invoke, builtin]
    simp only [compBuiltin, Option.bind_eq_bind, Option.bind_eq_some_iff, Option.some.injEq] at hc
    obtain ⟨as, has, rfl⟩ := hc
    simp only [exec, M.bind_some, M.lift_some] at he
    obtain ⟨l, _, ⟨hl, rfl⟩, he⟩ := he
    have hlr := atoms_ok hE has hl
    cases l with
    | nil => exact (M.fail_some.1 he).elim
    | cons x l =>
      simp only [M.bind_some, M.lift_some, M.pure_some] at he
      obtain ⟨z, _, ⟨hz, rfl⟩, rfl, rfl⟩ := he
      generalize hq : c.args.toList.map (evT tmps) = q at hlr
      cases hlr with
      | cons hx ht =>
        rename_i x' l'
        have hm := maxL_ok (P := P) (r := r) (w := w) false Builtin.min2 (fun x y z h w => by cases x <;> cases y <;> simp [maxV] at h; obtain ⟨rfl, rfl⟩ := h; simp [Builtin.min2]) l l' x v x' hz ht hx
        rcases hm with ⟨h1, h2⟩ | ⟨rfl, rfl, rfl⟩
        · refine did_pure hr h2 ?_
          rw [hrun]
          simp only [Builtin.min_, e1, hq, Sem.run_bind, h1, Result.andThen_ok, Sem.run_pure]
        · refine did_pure hr hx ?_
          rw [hrun]
          simp [Builtin.min_, hq]

/-- every operation but a call of a function value -/
theorem exec_ok0 (hc : compOp0 P o.op = some aop) (hncall : ∀ c f, o.op = .call c → c.callee ≠ .value f) (he : exec call e aop S = some (v, S')) (hr : Rel P r S w) (hE : EnvRel r e tmps) (hf : Fresh r S S') : Did P r S w S' v tmps o := by
  cases ho : o.op with
  | move x => exact did_mov (.inl ho) hc he hr hE
  | assign x => exact did_mov (.inr ho) hc he hr hE
  | pick c a b => exact did_pick ho hc he hr hE
  | alloc t => exact did_alloc ho hc he hr hf
  | box t x => exact did_box ho hc he hr hE hf
  | build t parts => exact did_build ho hc he hr hE
  | buildSlice t n parts => exact did_bslice ho hc he hr hE hf
  | load t a => exact did_load ho hc he hr hE
  | store t a x => exact did_store ho hc he hr hE
  | nilCheck x => exact did_nilchk ho hc he hr hE
  | binOp op xt x y yt => exact did_bin ho hc he hr hE
  | unOp op t x => exact did_un ho hc he hr hE
  | convert a b x => exact did_conv ho hc he hr hE hf
  | makeInterface t x => exact did_mkif ho hc he hr hE
  | makeFunc fn a b =>
    cases fn with
    | func f => exact did_mkfn ho hc he hr hE
    | _ => rw [ho] at hc; simp [compOp0] at hc
  | makeSlice t a b => exact did_mkslice ho hc he hr hE hf
  | slice t x l h m => exact did_slice ho hc he hr hE
  | fieldAddr t x f => exact did_fldA ho hc he hr hE
  | field t x f => exact did_fld ho hc he hr hE
  | indexAddr t x i => exact did_ixA ho hc he hr hE
  | index t x i => exact did_ix ho hc he hr hE
  | extract x i => exact did_ext ho hc he hr hE
  | makeMap t h => exact did_mkmap ho hc he hr hE hf
  | lookup t x i k => exact did_mget ho hc he hr hE
  | mapUpdate t m k x => exact did_mset ho hc he hr hE
  | mapEntry t m k => exact did_ment ho hc he hr hE
  | entryStore t m s x => exact did_mfill ho hc he hr hE
  | panic x =>
    rw [ho] at hc
    obtain rfl : AOp.panic = aop := by simpa [compOp0] using hc
    simp [exec, M.fail] at he
  | call c =>
    have hc' := hc
    rw [ho] at hc'
    cases hcal : c.callee with
    | value f => exact absurd hcal (hncall c f ho)
    | invoke a m => simp [compOp0, hcal] at hc'
    | builtin b =>
      have hc2 : compBuiltin P b c.argTypes c.args = some aop := by simpa [compOp0, hcal] using hc'
      cases b with
      | len => exact did_len hcal ho hc2 he hr hE
      | cap => exact did_cap hcal ho hc2 he hr hE
      | append => exact did_append hcal ho hc2 he hr hE hf
      | copy => exact did_copy hcal ho hc2 he hr hE hf
      | clear => exact did_clear hcal ho hc2 he hr hE
      | max => exact did_max (gt := true) hcal ho hc2 he hr hE
      | min => exact did_max (gt := false) hcal ho hc2 he hr hE
      | delete => exact did_mdel hcal ho hc2 he hr hE (fun h => args_at h)
      | _ => simp [compBuiltin] at hc2
  | _ => rw [ho] at hc; simp [compOp0] at hc
theorem compOp_inv {op : Op} (hc : compOp P op = some aop) : compOp0 P op = some aop ∨ aop = .panic := by
  unfold compOp at hc
  split at hc
  · simp at hc
  cases h : compOp0 P op with
  | none => rw [h] at hc; exact .inr (by simpa using hc.symm)
  | some a => rw [h] at hc; exact .inl (by simpa using hc)
theorem exec_ok (hc : compOp P o.op = some aop) (hncall : ∀ c f, o.op = .call c → c.callee ≠ .value f) (he : exec call e aop S = some (v, S')) (hr : Rel P r S w) (hE : EnvRel r e tmps) (hf : Fresh r S S') : Did P r S w S' v tmps o := by
  rcases compOp_inv hc with h | rfl
  · exact exec_ok0 h hncall he hr hE hf
  · simp [exec, M.fail] at he
end
end Go.Wb
