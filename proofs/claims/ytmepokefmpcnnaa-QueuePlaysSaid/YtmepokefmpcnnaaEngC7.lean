/- The engine, part C7: each operation but calls. -/
import Derived.Test.YtmepokefmpcnnaaEngC6
set_option linter.unusedSimpArgs false
set_option linter.unusedVariables false
namespace Go.Wb
variable {P : Program} {r : Ren} {S S' : St} {w : World}

theorem run_append_growZ {ats : Array TypeId} {args : Array Value} {st xt : TypeId} {e ty : TypeId} {k k' : IntKind} {i : TypeInfo} {base' : Option Addr} {sLen sCap : Nat} {n : Int} {z : Value} {old : List Value}
    (ha0 : ats[0]? = some st) (ha1 : ats[1]? = some xt) (hg0 : args[0]? = some (.slice base' sLen sCap)) (hg1 : args[1]? = some (.int k' n)) (hu : P.underlying st = some (.slice e)) (hx : P.underlying xt = some (.int k)) (hi : P.info? e = some i) (hz : i.zero = some z) (hzs : z.cells.size = i.size)
    (hn0 : 0 ≤ n) (hn1 : n < 281474976710656) (hnb : n * i.bytes ≤ 281474976710656) (hle : ¬ sLen + n.toNat ≤ sCap)
    (hold : ∀ w0 : World, w0.heap = w.heap → (Builtin.firstCells i.size sLen (.slice base' sLen sCap)).run P w0 = .ok old.toArray w0)
    (hb : 2 * ((sLen + n.toNat) * i.bytes) ≤ 281474976710656) (hb0 : i.bytes ≠ 0) :
    ∃ newCap rest, sLen + n.toNat ≤ newCap ∧ rest.length = (newCap - (sLen + n.toNat)) * i.size ∧
    (Builtin.append_ ats ty args).run P w =
      .ok (.slice (some ⟨w.heap.size, 0, none⟩) (sLen + n.toNat) newCap) { w with drawn := w.drawn + 1, heap := w.heap.push (.cells (old ++ rep n.toNat z.cells.toList ++ rest).toArray e) } := by
  have hw : IntKind.i64.wrap n = n := wrap64_id hn0 (by omega)
  have e48 : (2 : Int) ^ 48 = 281474976710656 := by decide
  have hnew : ∀ w : World, ((if n.toNat * i.size = 0 then pure #[] else do pure (Builtin.zeroCells (← zeroValue e).cells n.toNat) : Sem (Array Value))).run P w = .ok (rep n.toNat z.cells.toList).toArray w := by
    intro w
    split
    · rename_i h0
      have : rep n.toNat z.cells.toList = [] := by
        apply List.eq_nil_of_length_eq_zero
        rw [rep_length]; simp [hzs]; simpa using h0
      rw [this]; rfl
    · simp only [Sem.run_bind, run_zeroValue hi hz, Result.andThen_ok, Sem.run_pure]
      congr 1
      apply Array.ext'
      rw [zeroCells_rep]
  have hmul : sLen + n.toNat ≤ (sLen + n.toNat) * i.bytes := Nat.le_mul_of_pos_right _ (by omega)
  obtain ⟨newCap, hnc, hch⟩ := choose_cap (P := P) (w := w) (sLen + n.toNat) sCap e
  have hcap := nextcap_le (sLen + n.toNat) sCap (by omega)
  have hcap2 : Builtin.nextslicecap (sLen + n.toNat) sCap * i.bytes ≤ 2 ^ 48 := by
    have := Nat.mul_le_mul_right i.bytes hcap
    rw [Nat.mul_assoc] at this
    have e48 : (2 : Nat) ^ 48 = 281474976710656 := by decide
    omega
  have hmax : ¬ (((sLen + n.toNat : Nat) : Int) > IntKind.i64.max) := by
    have : IntKind.i64.max = 9223372036854775807 := by decide
    omega
  refine ⟨newCap, (Builtin.zeroCells z.cells (newCap - (sLen + n.toNat))).toList, hnc, ?_, ?_⟩
  · rw [zeroCells_rep, rep_length]; simp [hzs]
  · simp only [Builtin.append_, ha0, ha1, hg0, hg1, Sem.run_bind, run_underlying hu, Result.andThen_ok, run_size hi, run_underlying hx, Sem.run_pure, if_true, asIntOf, Go.asInt, hw, if_neg (Int.not_lt.2 hn0), run_typeInfo hi, e48, gt_iff_lt, if_neg (Int.not_lt.2 hnb), if_neg hle, Bool.not_true, Bool.false_eq_true, if_false,
      if_neg (Nat.not_lt.2 hcap2), hch, run_askRoom]
    rw [if_neg (by rintro ⟨h, _⟩; exact hmax h)]
    have h1 := hold { w with drawn := w.drawn + 1 } rfl
    have h2 := hnew { w with drawn := w.drawn + 1 }
    simp only [Result.andThen_ok, Sem.run_bind, run_typeInfo hi, if_neg (Nat.not_lt.2 hcap2), hch, run_askRoom, h1]
    rw [h2]
    simp only [Result.andThen_ok, run_zeroValue hi hz, newRow, Sem.run_bind, run_newObj, Sem.run_pure]
    congr 4
    apply Array.ext'
    simp

/-- an operation has been carried out: what the model does -/
def OpDid (P : Program) (s : Sem Next) (w : World) (v' : Value) (w' : World) : Prop := s.run P w = .ok (.value v') w' ∨ (s.run P w = .ok .skip w' ∧ v' = undef)
def Did (P : Program) (r : Ren) (S : St) (w : World) (S' : St) (v : Value) (tmps : Array Value) (o : Oper) : Prop :=
  ∃ D r' w' v', Sim P D r S w r' S' w' ∧ VRel r' v v' ∧ OpDid P (execOp (evT tmps) o) w v' w'

theorem did_pure {v v' : Value} {tmps : Array Value} {o : Oper} (hr : Rel P r S w) (hv : VRel r v v') (h : (execOp (evT tmps) o).run P w = .ok (.value v') w) : Did P r S w S v tmps o :=
  ⟨[], r, w, v', Sim.refl hr, hv, .inl h⟩

section
variable {call : Tgt → List Value → M Value} {e : Env} {tmps : Array Value} {v : Value} {o : Oper} {aop : AOp}

theorem did_mov {x : Operand} (ho : o.op = .move x ∨ o.op = .assign x) (hc : compOp0 P o.op = some aop) (he : exec call e aop S = some (v, S')) (hr : Rel P r S w) (hE : EnvRel r e tmps) : Did P r S w S' v tmps o := by
  have hc' : (atom x).bind (fun a => some (AOp.mov a)) = some aop := by rcases ho with ho | ho <;> rw [ho] at hc <;> exact hc
  obtain ⟨a, ha, h⟩ := Option.bind_eq_some_iff.1 hc'
  obtain rfl : AOp.mov a = aop := by simpa using h
  simp only [exec, M.bind_some, M.lift_some, M.pure_some] at he
  obtain ⟨_, _, ⟨h1, rfl⟩, rfl, rfl⟩ := he
  exact did_pure hr (atom_ok ha h1 hE) (by rcases ho with ho | ho <;> simp [execOp, ho])

theorem did_pick {c a b : Operand} (ho : o.op = .pick c a b) (hc : compOp0 P o.op = some aop) (he : exec call e aop S = some (v, S')) (hr : Rel P r S w) (hE : EnvRel r e tmps) : Did P r S w S' v tmps o := by
  rw [ho] at hc
  simp only [compOp0, Option.bind_eq_bind, Option.bind_eq_some_iff, Option.some.injEq] at hc
  obtain ⟨c', hc1, a', ha, b', hb, rfl⟩ := hc
  simp only [exec, M.bind_some, M.lift_some, M.pure_some, Option.bind_eq_some_iff] at he
  obtain ⟨t, _, ⟨⟨cv, hcv, hcb⟩, rfl⟩, _, _, ⟨h1, rfl⟩, rfl, rfl⟩ := he
  obtain rfl := asBool_inv hcb
  have hcr := (atom_ok hc1 hcv hE).bool_inv
  cases t with
  | true => exact did_pure hr (atom_ok ha (by simpa using h1) hE) (by simp [execOp, ho, hcr, Go.asBool])
  | false => exact did_pure hr (atom_ok hb (by simpa using h1) hE) (by simp [execOp, ho, hcr, Go.asBool])

theorem did_bin {op : BinOp} {xt yt : TypeId} {x y : Operand} (ho : o.op = .binOp op xt x y yt) (hc : compOp0 P o.op = some aop) (he : exec call e aop S = some (v, S')) (hr : Rel P r S w) (hE : EnvRel r e tmps) :
    Did P r S w S' v tmps o := by
  rw [ho] at hc
  have hc' : (∃ a b, atom x = some a ∧ atom y = some b ∧ aop = .bin op a b) ∨ (∃ k a b neg, eqKind P xt = some k ∧ atom x = some a ∧ atom y = some b ∧ aop = .eq neg k a b ∧ op = (if neg then .neq else .eql)) := by
    simp only [compOp0, Option.bind_eq_bind, Option.bind_eq_some_iff] at hc
    obtain ⟨d, hd, hc⟩ := hc
    split at hc <;> (try simp only [Option.bind_eq_some_iff, Option.some.injEq] at hc)
    · obtain ⟨a, ha, b, hb, rfl⟩ := hc; exact .inl ⟨a, b, ha, hb, rfl⟩
    · obtain ⟨a, ha, b, hb, rfl⟩ := hc; exact .inl ⟨a, b, ha, hb, rfl⟩
    · obtain ⟨k, hk, a, ha, b, hb, rfl⟩ := hc; exact .inr ⟨k, a, b, false, hk, ha, hb, rfl, rfl⟩
    · obtain ⟨k, hk, a, ha, b, hb, rfl⟩ := hc; exact .inr ⟨k, a, b, true, hk, ha, hb, rfl, rfl⟩
    · simp at hc
  rcases hc' with ⟨a, b, ha, hb, rfl⟩ | ⟨k, a, b, neg, hk, ha, hb, rfl, hop⟩
  · simp only [exec, M.bind_some, M.lift_some, M.pure_some] at he
    obtain ⟨xv, _, ⟨h1, rfl⟩, yv, _, ⟨h2, rfl⟩, _, _, ⟨h3, rfl⟩, rfl, rfl⟩ := he
    have hxr := atom_ok ha h1 hE
    have hyr := atom_ok hb h2 hE
    obtain ⟨e1, e2⟩ := binV_inv h3 hxr hyr
    obtain ⟨k1, k2, k3⟩ := binV_ok (P := P) (w := w) (t := xt) h3
    exact did_pure hr (k2 r) (by simp [execOp, ho, e1, e2, k1, k3])
  · simp only [exec, M.bind_some, M.lift_some, M.pure_some] at he
    obtain ⟨xv, _, ⟨h1, rfl⟩, yv, _, ⟨h2, rfl⟩, t, _, ⟨h3, rfl⟩, rfl, rfl⟩ := he
    obtain ⟨k1, k2, k3⟩ := eqV_ok (w := w) hk h3 (atom_ok ha h1 hE) (atom_ok hb h2 hE)
    cases neg with
    | false => simp at hop; exact did_pure hr (.bool _) (by simp [execOp, ho, hop, k1, k2])
    | true => simp at hop; exact did_pure hr (.bool _) (by simp [execOp, ho, hop, k1, k3])

theorem did_un {op : UnOp} {t : TypeId} {x : Operand} (ho : o.op = .unOp op t x) (hc : compOp0 P o.op = some aop) (he : exec call e aop S = some (v, S')) (hr : Rel P r S w) (hE : EnvRel r e tmps) : Did P r S w S' v tmps o := by
  rw [ho] at hc
  simp only [compOp0, Option.bind_eq_bind, Option.bind_eq_some_iff, Option.some.injEq] at hc
  obtain ⟨a, ha, rfl⟩ := hc
  simp only [exec, M.bind_some, M.lift_some, M.pure_some] at he
  obtain ⟨xv, _, ⟨h1, rfl⟩, _, _, ⟨h2, rfl⟩, rfl, rfl⟩ := he
  have e1 := unV_inv h2 (atom_ok ha h1 hE)
  obtain ⟨k1, k2⟩ := unV_ok (P := P) (w := w) h2
  exact did_pure hr (k2 r) (by simp [execOp, ho, e1, k1])

/-- a new block -/
theorem did_new {c : List Value} {b : Nat} {ext : Option Nat} {str : Bool} {rc : Array Value} {el : TypeId} {fz : Nat × Nat} {w' : World} (hr : Rel P r S w) (h : nw (.cells ext str c) S = some (b, S')) (hf : Fresh r S S')
    (hw : New w w' (.cells rc el fz)) {l' : List Value} (hl : LRel r c l') (hat : ∀ (i : Nat) (v : Value), l'[i]? = some v → rc[i]? = some v) (hfz : fz.1 = fz.2 ∨ rc.size ≤ fz.1) (hstr : str = false → fz.1 = fz.2) :
    b = S.next ∧ ∃ D r', Sim P D r S w r' S' w' ∧ r.le r' ∧ r'.dom b ∧ r'.to b = w.heap.size ∧ r'.base b = 0 ∧ r'.size b = rc.size ∧ r'.ext b = ext := by
  obtain ⟨rfl, rfl⟩ := nw_some.1 h
  have hd : ¬ r.dom S.next := hf _ (Nat.le_refl _) (by simp)
  have := sim_new (P := P) (D := []) (base := 0) (size := rc.size) (ext := ext) (b := .cells ext str c) (S' := { heap := S.heap.set S.next (some (.cells ext str c)), next := S.next + 1, log := S.log }) hr hd rfl rfl rfl hw
    ⟨Ren.add_ext .., fun _ => by rw [Ren.add_size], ⟨l', hl.mono (Ren.le_add hd), by rw [Ren.add_base]; simpa using hat⟩, hfz, hstr⟩
  exact ⟨rfl, [], _, this, Ren.le_add hd, Ren.add_dom .., Ren.add_to .., Ren.add_base .., Ren.add_size .., Ren.add_ext ..⟩
theorem alloc_new (w : World) (o : Obj) : New w { w with heap := w.heap.push o } o := ⟨rfl, rfl, rfl, rfl⟩
theorem ptr_of {r' : Ren} {b n : Nat} (hd : r'.dom b) (ht : r'.to b = n) (hb : r'.base b = 0) : VRel r' (.pointer (some ⟨b, 0, none⟩)) (.pointer (some ⟨n, 0, none⟩)) := by
  have := VRel.ptr (r := r') (b := b) (o := 0) hd
  rw [ht, hb] at this; exact this
theorem slc_of {r' : Ren} {b n m c : Nat} (hd : r'.dom b) (ht : r'.to b = n) (hb : r'.base b = 0) (he : r'.ext b = none) : VRel r' (.slice (some ⟨b, 0, none⟩) m c) (.slice (some ⟨n, 0, none⟩) m c) := by
  have := VRel.slc (r := r') (b := b) (o := 0) (n := m) (c := c) (c' := c) hd (fun _ => rfl) (Nat.le_refl _) (fun z hz => by rw [he] at hz; cases hz)
  rw [ht, hb] at this; exact this

theorem did_alloc {t : TypeId} (ho : o.op = .alloc t) (hc : compOp0 P o.op = some aop) (he : exec call e aop S = some (v, S')) (hr : Rel P r S w) (hf : Fresh r S S') : Did P r S w S' v tmps o := by
  rw [ho] at hc
  simp only [compOp0, Option.bind_eq_bind, Option.bind_eq_some_iff, Option.some.injEq] at hc
  obtain ⟨z, hz, rfl⟩ := hc
  simp only [exec, M.bind_some, M.pure_some] at he
  obtain ⟨b, S1, h1, rfl, rfl⟩ := he
  obtain ⟨zv, hz1, hz2, hz3⟩ := run_zero (w := w) hz
  obtain ⟨rfl, D, r', hs, hle, k1, k2, k3, k4, k5⟩ := did_new (w' := { w with heap := w.heap.push (.cells zv.cells t (0, 0)) }) hr h1 hf (alloc_new _ _) (l' := z) (by rw [← hz2]; exact (plain_rel hz3).cells) (by rw [← hz2]; simp) (.inl rfl) (fun _ => rfl)
  refine ⟨D, r', _, _, hs, ptr_of k1 k2 k3, .inl ?_⟩
  simp [execOp, ho, Instr.alloc, hz1, newVar, newRow]

theorem did_box {t : TypeId} {x : Operand} (ho : o.op = .box t x) (hc : compOp0 P o.op = some aop) (he : exec call e aop S = some (v, S')) (hr : Rel P r S w) (hE : EnvRel r e tmps) (hf : Fresh r S S') : Did P r S w S' v tmps o := by
  rw [ho] at hc
  simp only [compOp0, Option.bind_eq_bind, Option.bind_eq_some_iff, Option.some.injEq] at hc
  obtain ⟨a, ha, rfl⟩ := hc
  simp only [exec, M.bind_some, M.lift_some, M.pure_some] at he
  obtain ⟨xv, _, ⟨hx, rfl⟩, b, S1, h1, rfl, rfl⟩ := he
  have hxr := atom_ok ha hx hE
  obtain ⟨rfl, D, r', hs, hle, k1, k2, k3, k4, k5⟩ := did_new (w' := { w with heap := w.heap.push (.cells (evT tmps x).cells t (0, 0)) }) hr h1 hf (alloc_new _ _) (l' := (evT tmps x).cells.toList) hxr.cells (by simp) (.inl rfl) (fun _ => rfl)
  refine ⟨D, r', _, _, hs, ptr_of k1 k2 k3, .inl ?_⟩
  simp [execOp, ho, Instr.box, newVar, newRow]

theorem did_load {t : TypeId} {x : Operand} (ho : o.op = .load t x) (hc : compOp0 P o.op = some aop) (he : exec call e aop S = some (v, S')) (hr : Rel P r S w) (hE : EnvRel r e tmps) : Did P r S w S' v tmps o := by
  rw [ho] at hc
  simp only [compOp0, Option.bind_eq_bind, Option.bind_eq_some_iff, Option.some.injEq] at hc
  obtain ⟨sh, hsh, a, ha, rfl⟩ := hc
  simp only [exec, M.bind_some, M.lift_some] at he
  obtain ⟨xv, _, ⟨hx, rfl⟩, he⟩ := he
  split at he
  · rename_i p
    obtain ⟨hsp, hd, hxe⟩ := (atom_ok ha hx hE).ptr_inv
    obtain ⟨hg1, hg2⟩ := run_isAgg (w := w) hsh
    cases sh with
    | one =>
      simp only [M.bind_some, M.pure_some] at he
      obtain ⟨_, _, h1, rfl, rfl⟩ := he
      obtain ⟨v', h2, h3, h4⟩ := ld1_ok h1 hr
      refine ⟨_, _, _, v', h4, h2, .inl ?_⟩
      simp only [execOp, ho, hxe, Instr.loadAt, Instr.sureAddr, loadVar, Sem.run_bind, Sem.run_pure, Result.andThen_ok, hg1, if_false, Bool.false_eq_true, h3]
    | agg n =>
      simp only [M.bind_some, M.pure_some] at he
      obtain ⟨_, _, h1, rfl, rfl⟩ := he
      obtain ⟨l', h2, h5, h3, _, h4⟩ := ldCells_ok h1 hr
      refine ⟨_, _, _, _, h4, h2.agg, .inl ?_⟩
      simp only [execOp, ho, hxe, Instr.loadAt, Instr.sureAddr, loadVar, Sem.run_bind, Sem.run_pure, Result.andThen_ok, hg1, if_true, run_sizeOf (hg2 n rfl), h3 w rfl]
  · exact (M.fail_some.1 he).elim

theorem did_store {t : TypeId} {x y : Operand} (ho : o.op = .store t x y) (hc : compOp0 P o.op = some aop) (he : exec call e aop S = some (v, S')) (hr : Rel P r S w) (hE : EnvRel r e tmps) : Did P r S w S' v tmps o := by
  rw [ho] at hc
  simp only [compOp0, Option.bind_eq_bind, Option.bind_eq_some_iff, Option.some.injEq] at hc
  obtain ⟨n, hn, a, ha, b, hb, rfl⟩ := hc
  simp only [exec, M.bind_some, M.lift_some] at he
  obtain ⟨xv, _, ⟨hx, rfl⟩, yv, _, ⟨hy, rfl⟩, he⟩ := he
  split at he
  · rename_i p
    split at he
    · rename_i hsz
      obtain ⟨hsp, hd, hxe⟩ := (atom_ok ha hx hE).ptr_inv
      have hyr := atom_ok hb hy hE
      simp only [M.bind_some, M.pure_some] at he
      obtain ⟨_, _, h1, rfl, rfl⟩ := he
      obtain ⟨w', h2, h3⟩ := stCells_ok h1 hr hyr.cells
      refine ⟨_, _, w', _, h3, undef_rel, .inr ⟨?_, rfl⟩⟩
      have hsz' : (evT tmps y).cells.size = n := by rw [← hyr.cells_size]; exact hsz
      simp only [execOp, ho, hxe, Instr.storeAt, Instr.sureAddr, storeVar, Sem.run_bind, Sem.run_pure, Result.andThen_ok, run_sizeOf hn, hsz', ne_eq, not_true_eq_false, if_false, h2]
    · exact (M.fail_some.1 he).elim
  · exact (M.fail_some.1 he).elim

theorem did_nilchk {x : Operand} (ho : o.op = .nilCheck x) (hc : compOp0 P o.op = some aop) (he : exec call e aop S = some (v, S')) (hr : Rel P r S w) (hE : EnvRel r e tmps) : Did P r S w S' v tmps o := by
  rw [ho] at hc
  simp only [compOp0, Option.bind_eq_bind, Option.bind_eq_some_iff, Option.some.injEq] at hc
  obtain ⟨a, ha, rfl⟩ := hc
  simp only [exec, M.bind_some, M.lift_some] at he
  obtain ⟨xv, _, ⟨hx, rfl⟩, he⟩ := he
  have hxr := atom_ok ha hx hE
  split at he
  · obtain ⟨rfl, rfl⟩ := M.pure_some.1 he
    obtain ⟨hsp, hd, hxe⟩ := hxr.ptr_inv
    exact did_pure hr hxr (by simp [execOp, ho, hxe])
  · obtain ⟨rfl, rfl⟩ := M.pure_some.1 he
    generalize hq : evT tmps x = q at hxr
    cases hxr
    exact did_pure hr (.func ‹_› ‹_› ‹_› ‹_›) (by simp [execOp, ho, hq])
  · obtain ⟨rfl, rfl⟩ := M.pure_some.1 he
    generalize hq : evT tmps x = q at hxr
    cases hxr
    exact did_pure hr (.yield ‹_›) (by simp [execOp, ho, hq])
  · exact (M.fail_some.1 he).elim
end
end Go.Wb
