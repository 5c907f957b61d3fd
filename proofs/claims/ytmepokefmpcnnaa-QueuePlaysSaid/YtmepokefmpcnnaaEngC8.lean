/- The engine, part C8: the other operations but calls. -/
import Derived.Test.YtmepokefmpcnnaaEngC7
set_option linter.unusedSimpArgs false
set_option linter.unusedVariables false
namespace Go.Wb
variable {P : Program} {r : Ren} {S S' : St} {w : World}
section
variable {call : Tgt → List Value → M Value} {e : Env} {tmps : Array Value} {v : Value} {o : Oper} {aop : AOp}

theorem build_struct {t : TypeId} {fs : Array Field} {zv : Value} {z c2 : List Value} {parts : List (Nat × Operand)} {l : List (Nat × Nat × Atom)} (hu : P.underlying t = some (.struct fs))
    (hall : fs.toList.all (fun f => (sizeT P f.type).isSome) = true) (hz : (zeroValue t).run P w = .ok zv w) (hzl : zv.cells.toList = z) (hzp : plain zv = true)
    (hp : partsS (place1 P fs) parts = some l) (hf : fillA e l z = some c2) (hE : EnvRel r e tmps) :
    ∃ c2', (Instr.build t (parts.map fun (i, x) => (i, evT tmps x)).toArray).run P w = .ok (.agg c2') w ∧ LRel r c2 c2'.toList := by
  have hzr : LRel r z zv.cells.toList := by rw [← hzl]; exact (plain_rel hzp).cells
  obtain ⟨c2', h1, h2⟩ := fillA_ok hE hp hf hzr
  refine ⟨c2', ?_, h2⟩
  have hm : (fs.mapM fun f => do pure (f.offset, ← sizeOf f.type) : Sem (Array (Nat × Nat))).run P w = .ok (fs.toList.map fun f => (f.offset, (sizeT P f.type).getD 0)).toArray w := by
    rw [Array.mapM_eq_mapM_toList]
    have := run_mapM (P := P) (w := w) (g := fun f : Field => do pure (f.offset, ← sizeOf f.type)) (h := fun f => (f.offset, (sizeT P f.type).getD 0)) fs.toList (fun f hf => by
      have := List.all_eq_true.1 hall f hf
      obtain ⟨s, hs⟩ := Option.isSome_iff_exists.1 this
      simp [run_sizeOf hs, hs])
    simp only [Sem.run_map, this, Result.andThen_ok]
  have hpl : (fun i => (fs.toList.map fun f => (f.offset, (sizeT P f.type).getD 0)).toArray[i]?) = place1 P fs := by
    funext i
    simp only [place1, List.getElem?_toArray, List.getElem?_map, Array.getElem?_toList]
    cases hfi : fs[i]? with
    | none => rfl
    | some f =>
      have hmem : f ∈ fs.toList := by
        rw [Array.mem_toList_iff]; exact Array.mem_of_getElem? hfi
      obtain ⟨s, hs⟩ := Option.isSome_iff_exists.1 (List.all_eq_true.1 hall f hmem)
      simp [hs]
  simp only [Instr.build, Sem.run_bind, hz, Result.andThen_ok, run_underlying hu, hm]
  rw [hpl, h1]
  rfl

theorem did_build {t : TypeId} {parts : Array (Nat × Operand)} (ho : o.op = .build t parts) (hc : compOp0 P o.op = some aop) (he : exec call e aop S = some (v, S')) (hr : Rel P r S w) (hE : EnvRel r e tmps) : Did P r S w S' v tmps o := by
  rw [ho] at hc
  simp only [compOp0, Option.bind_eq_bind, Option.bind_eq_some_iff] at hc
  obtain ⟨d, hd, hc⟩ := hc
  have hparts : (parts.map fun (i, x) => (i, evT tmps x)) = (parts.toList.map fun (i, x) => (i, evT tmps x)).toArray := by
    apply Array.ext'; simp
  split at hc
  · rename_i fs
    split at hc
    · rename_i hall
      simp only [Option.bind_eq_some_iff, Option.some.injEq] at hc
      obtain ⟨z, hz, l, hl, rfl⟩ := hc
      simp only [exec, M.bind_some, M.lift_some, M.pure_some] at he
      obtain ⟨c2, _, ⟨hf, rfl⟩, rfl, rfl⟩ := he
      obtain ⟨zv, hz1, hz2, hz3⟩ := run_zero (w := w) hz
      obtain ⟨c2', h1, h2⟩ := build_struct hd hall hz1 hz2 hz3 hl hf hE
      refine did_pure hr (v' := .agg c2') (by simpa using h2.agg) ?_
      simp only [execOp, ho, hparts, Sem.run_bind, h1, Result.andThen_ok, Sem.run_pure]
    · simp at hc
  · rename_i n el
    simp only [Option.bind_eq_some_iff, Option.some.injEq] at hc
    obtain ⟨s, hs, z, hz, l, hl, rfl⟩ := hc
    simp only [exec, M.bind_some, M.lift_some, M.pure_some] at he
    obtain ⟨c2, _, ⟨hf, rfl⟩, rfl, rfl⟩ := he
    obtain ⟨zv, hz1, hz2, hz3⟩ := run_zero (w := w) hz
    have hzr : LRel r z zv.cells.toList := by rw [← hz2]; exact (plain_rel hz3).cells
    obtain ⟨c2', h1, h2⟩ := fillA_ok hE hl hf hzr
    refine did_pure hr (v' := .agg c2') (by simpa using h2.agg) ?_
    simp only [execOp, ho, hparts, Instr.build, Sem.run_bind, hz1, Result.andThen_ok, run_underlying hd, run_sizeOf hs, h1, Sem.run_pure]
  · simp at hc

theorem did_bslice {t : TypeId} {len : Nat} {parts : Array (Nat × Operand)} (ho : o.op = .buildSlice t len parts) (hc : compOp0 P o.op = some aop) (he : exec call e aop S = some (v, S')) (hr : Rel P r S w) (hE : EnvRel r e tmps) (hf : Fresh r S S') : Did P r S w S' v tmps o := by
  rw [ho] at hc
  simp only [compOp0, Option.bind_eq_bind, Option.bind_eq_some_iff] at hc
  obtain ⟨d, hd, hc⟩ := hc
  have hparts : (parts.map fun (i, x) => (i, evT tmps x)) = (parts.toList.map fun (i, x) => (i, evT tmps x)).toArray := by
    apply Array.ext'; simp
  split at hc
  · rename_i el
    simp only [Option.bind_eq_some_iff] at hc
    obtain ⟨s, hs, z, hz, hc⟩ := hc
    split at hc
    · rename_i hzl
      simp only [Option.bind_eq_some_iff, Option.some.injEq] at hc
      obtain ⟨l, hl, rfl⟩ := hc
      simp only [exec, M.bind_some, M.lift_some, M.pure_some] at he
      obtain ⟨c2, _, ⟨hfl, rfl⟩, b, S1, h1, rfl, rfl⟩ := he
      obtain ⟨i, zv, hi, hiz, hz2, hz3⟩ := zeroT_info hz
      have hzs : zv.cells.size = s := by rw [← hzl.1, ← hz2]; simp
      have hzr : LRel r (rep len z) (rep len z) := by rw [← hz2]; exact rep_plain hz3 len
      have hrl : ((Array.range (len * s)).map (fun x => zv.cells[x % zv.cells.size]!)).toList = rep len z := by
        rw [Array.toList_map, Array.toList_range, ← hz2, ← range_rep, hzs]
      have hzero : (if len * s = 0 then pure #[] else do pure (← zeroValue el).cells : Sem (Array Value)).run P w = .ok (if len * s = 0 then #[] else zv.cells) w := by
        split
        · rfl
        · simp [run_zeroValue hi hiz]
      have hcells : (Array.range (len * s)).map (fun x => (if len * s = 0 then #[] else zv.cells)[x % (if len * s = 0 then #[] else zv.cells).size]!) = (rep len z).toArray := by
        apply Array.ext'
        split
        · rename_i h0
          rw [h0]
          have : rep len z = [] := by apply List.eq_nil_of_length_eq_zero; rw [rep_length, hzl.1, h0]
          simp [this]
        · simp only [List.toList_toArray]; exact hrl
      obtain ⟨c2', k1, k2⟩ := fillA_ok hE (c' := (rep len z).toArray) hl hfl (by simpa using hzr)
      have hsmall : ¬ (len * s > 2 ^ 24) := by have e24 : (2 : Nat) ^ 24 = 16777216 := by decide
                                               omega
      obtain ⟨rfl, D, r', hsim, hle, m1, m2, m3, m4, m5⟩ := did_new (w' := { w with heap := w.heap.push (.cells c2' el (0, 0)) }) hr h1 hf (alloc_new _ _) k2 (by simp) (.inl rfl) (fun _ => rfl)
      refine ⟨D, r', _, _, hsim, slc_of m1 m2 m3 m5, .inl ?_⟩
      simp only [execOp, ho, hparts, Instr.buildSlice, Sem.run_bind, run_underlying hd, Result.andThen_ok, run_sizeOf hs, if_neg hsmall]
      by_cases h0 : len * s = 0
      · simp only [if_pos h0] at hcells
        rw [if_pos h0]
        simp only [Sem.run_bind, Sem.run_pure, Result.andThen_ok, hcells, k1, newRow, run_newObj]
      · simp only [if_neg h0] at hcells
        rw [if_neg h0]
        simp only [Sem.run_bind, Sem.run_pure, Result.andThen_ok, run_zeroValue hi hiz, hcells, k1, newRow, run_newObj]
    · simp at hc
  · simp at hc

theorem did_mkif {t : TypeId} {x : Operand} (ho : o.op = .makeInterface t x) (hc : compOp0 P o.op = some aop) (he : exec call e aop S = some (v, S')) (hr : Rel P r S w) (hE : EnvRel r e tmps) : Did P r S w S' v tmps o := by
  rw [ho] at hc
  simp only [compOp0, Option.bind_eq_bind, Option.bind_eq_some_iff] at hc
  obtain ⟨d, hd, hc⟩ := hc
  split at hc
  · simp at hc
  · rename_i hni
    simp only [Option.bind_eq_some_iff, Option.some.injEq] at hc
    obtain ⟨a, ha, rfl⟩ := hc
    simp only [exec, M.bind_some, M.lift_some, M.pure_some] at he
    obtain ⟨_, _, ⟨h1, rfl⟩, rfl, rfl⟩ := he
    refine did_pure hr (.iface (atom_ok ha h1 hE)) ?_
    simp only [execOp, ho, Instr.makeInterface, Sem.run_bind, run_underlying hd, Result.andThen_ok]
    cases d <;> first | rfl | exact absurd rfl (hni _)

theorem did_mkfn {f : FuncId} {first captured : Array Operand} (ho : o.op = .makeFunc (.func f) first captured) (hc : compOp0 P o.op = some aop) (he : exec call e aop S = some (v, S')) (hr : Rel P r S w) (hE : EnvRel r e tmps) : Did P r S w S' v tmps o := by
  rw [ho] at hc
  simp only [compOp0, Option.bind_eq_bind, Option.bind_eq_some_iff, Option.some.injEq] at hc
  obtain ⟨a, ha, b, hb, rfl⟩ := hc
  simp only [exec, M.bind_some, M.lift_some, M.pure_some] at he
  obtain ⟨_, _, ⟨h1, rfl⟩, _, _, ⟨h2, rfl⟩, rfl, rfl⟩ := he
  have k1 := atoms_ok hE ha h1
  have k2 := atoms_ok hE hb h2
  have e1 : ((first.toList.map (evT tmps)).toArray) = first.map (evT tmps) := by apply Array.ext'; simp
  have e2 : ((captured.toList.map (evT tmps)).toArray) = captured.map (evT tmps) := by apply Array.ext'; simp
  refine did_pure hr (k1.func k2) ?_
  simp [execOp, ho, Instr.makeFunc, e1, e2]

theorem did_ext {x : Operand} {i : Nat} (ho : o.op = .extract x i) (hc : compOp0 P o.op = some aop) (he : exec call e aop S = some (v, S')) (hr : Rel P r S w) (hE : EnvRel r e tmps) : Did P r S w S' v tmps o := by
  rw [ho] at hc
  simp only [compOp0, Option.bind_eq_bind, Option.bind_eq_some_iff, Option.some.injEq] at hc
  obtain ⟨a, ha, rfl⟩ := hc
  simp only [exec, M.bind_some, M.lift_some] at he
  obtain ⟨_, _, ⟨h1, rfl⟩, he⟩ := he
  split at he
  · simp only [M.bind_some, M.lift_some, M.pure_some] at he
    obtain ⟨_, _, ⟨h2, rfl⟩, rfl, rfl⟩ := he
    obtain ⟨a', hx, hl⟩ := (atom_ok ha h1 hE).tuple_inv
    obtain ⟨v', h3, h4⟩ := hl.get h2
    refine did_pure hr h4 ?_
    have h3' : a'[i]? = some v' := by simpa using h3
    simp [execOp, ho, hx, Instr.extract, h3']
  · exact (M.fail_some.1 he).elim

theorem did_fldA {t : TypeId} {x : Operand} {f : Nat} (ho : o.op = .fieldAddr t x f) (hc : compOp0 P o.op = some aop) (he : exec call e aop S = some (v, S')) (hr : Rel P r S w) (hE : EnvRel r e tmps) : Did P r S w S' v tmps o := by
  rw [ho] at hc
  simp only [compOp0, Option.bind_eq_bind, Option.bind_eq_some_iff] at hc
  obtain ⟨d, hd, hc⟩ := hc
  split at hc
  · rename_i fs
    simp only [Option.bind_eq_some_iff] at hc
    obtain ⟨fd, hfd, sz, hsz, hc⟩ := hc
    split at hc
    · simp at hc
    · rename_i hnz
      simp only [Option.bind_eq_some_iff, Option.some.injEq] at hc
      obtain ⟨a, ha, rfl⟩ := hc
      simp only [exec, M.bind_some, M.lift_some] at he
      obtain ⟨_, _, ⟨h1, rfl⟩, he⟩ := he
      split at he
      · rename_i p
        obtain ⟨rfl, rfl⟩ := M.pure_some.1 he
        obtain ⟨hsp, hdm, hx⟩ := (atom_ok ha h1 hE).ptr_inv
        refine did_pure hr (v' := .pointer (some ⟨r.to p.block, r.base p.block + (p.off + fd.offset), none⟩)) (.ptr hdm) ?_
        simp only [execOp, ho, hx, Instr.fieldAt, Sem.run_bind, run_underlying hd, Result.andThen_ok, hfd, Instr.sureAddr, Sem.run_pure, fieldPlace, run_sizeOf hsz, hnz, if_false, add_none, Nat.add_assoc]
      · exact (M.fail_some.1 he).elim
  · simp at hc

theorem did_fld {t : TypeId} {x : Operand} {f : Nat} (ho : o.op = .field t x f) (hc : compOp0 P o.op = some aop) (he : exec call e aop S = some (v, S')) (hr : Rel P r S w) (hE : EnvRel r e tmps) : Did P r S w S' v tmps o := by
  rw [ho] at hc
  simp only [compOp0, Option.bind_eq_bind, Option.bind_eq_some_iff] at hc
  obtain ⟨d, hd, hc⟩ := hc
  split at hc
  · rename_i fs
    simp only [Option.bind_eq_some_iff, Option.some.injEq] at hc
    obtain ⟨fd, hfd, sh, hsh, a, ha, rfl⟩ := hc
    simp only [exec, M.bind_some, M.lift_some] at he
    obtain ⟨_, _, ⟨h1, rfl⟩, he⟩ := he
    split at he
    · simp only [M.bind_some, M.lift_some, M.pure_some] at he
      obtain ⟨_, _, ⟨h2, rfl⟩, rfl, rfl⟩ := he
      obtain ⟨a', hx, hl⟩ := (atom_ok ha h1 hE).agg_inv
      obtain ⟨v', h3, h4⟩ := part_ok (w := w) hsh h2 hl
      refine did_pure hr h4 ?_
      simp only [execOp, ho, hx, Instr.field, Sem.run_bind, run_underlying hd, Result.andThen_ok, hfd, Go.asAgg, Sem.run_pure, h3]
    · exact (M.fail_some.1 he).elim
  · simp at hc

theorem did_ixA {t : TypeId} {x y : Operand} (ho : o.op = .indexAddr t x y) (hc : compOp0 P o.op = some aop) (he : exec call e aop S = some (v, S')) (hr : Rel P r S w) (hE : EnvRel r e tmps) : Did P r S w S' v tmps o := by
  rw [ho] at hc
  simp only [compOp0, Option.bind_eq_bind, Option.bind_eq_some_iff] at hc
  obtain ⟨d, hd, hc⟩ := hc
  split at hc
  · rename_i el
    simp only [Option.bind_eq_some_iff, Option.some.injEq] at hc
    obtain ⟨s, hs, a, ha, b, hb, rfl⟩ := hc
    simp only [exec, M.bind_some, M.lift_some, Option.bind_eq_some_iff] at he
    obtain ⟨_, _, ⟨h1, rfl⟩, i, _, ⟨⟨iv, h2, h3⟩, rfl⟩, he⟩ := he
    obtain ⟨ik, rfl⟩ := asInt_inv h3
    have hir := (atom_ok hb h2 hE).int_inv
    split at he
    · rename_i p len cap
      split at he
      · rename_i hi
        obtain ⟨rfl, rfl⟩ := M.pure_some.1 he
        obtain ⟨hsp, hdm, o', c', hx, hcc, hex, hgr, hor⟩ := (atom_ok ha h1 hE).slc_inv
        obtain rfl : o' = r.base p.block + p.off := by
          rcases hor with h | ⟨h, _⟩
          · exact h
          · omega
        refine did_pure hr (v' := .pointer (some ⟨r.to p.block, r.base p.block + (p.off + i.toNat * s), none⟩)) (.ptr hdm) ?_
        simp only [execOp, ho, hx, hir, Instr.indexAt, asIntOf, Sem.run_bind, Sem.run_pure, run_underlying hd, Result.andThen_ok, hi, and_self, if_true, run_sizeOf hs, add_none, Nat.add_assoc]
      · exact (M.fail_some.1 he).elim
    · exact (M.fail_some.1 he).elim
  · rename_i n el
    simp only [Option.bind_eq_some_iff, Option.some.injEq] at hc
    obtain ⟨s, hs, a, ha, b, hb, rfl⟩ := hc
    simp only [exec, M.bind_some, M.lift_some, Option.bind_eq_some_iff] at he
    obtain ⟨_, _, ⟨h1, rfl⟩, i, _, ⟨⟨iv, h2, h3⟩, rfl⟩, he⟩ := he
    obtain ⟨ik, rfl⟩ := asInt_inv h3
    have hir := (atom_ok hb h2 hE).int_inv
    split at he
    · rename_i p
      split at he
      · rename_i hi
        obtain ⟨rfl, rfl⟩ := M.pure_some.1 he
        obtain ⟨hsp, hdm, hx⟩ := (atom_ok ha h1 hE).ptr_inv
        refine did_pure hr (v' := .pointer (some ⟨r.to p.block, r.base p.block + (p.off + i.toNat * s), none⟩)) (.ptr hdm) ?_
        simp only [execOp, ho, hx, hir, Instr.indexAt, asIntOf, Sem.run_bind, Sem.run_pure, run_underlying hd, Result.andThen_ok, Instr.sureAddr, hi, and_self, if_true, run_sizeOf hs, add_none, Nat.add_assoc]
      · exact (M.fail_some.1 he).elim
    · exact (M.fail_some.1 he).elim
  · simp at hc

theorem did_ix {t : TypeId} {x y : Operand} (ho : o.op = .index t x y) (hc : compOp0 P o.op = some aop) (he : exec call e aop S = some (v, S')) (hr : Rel P r S w) (hE : EnvRel r e tmps) : Did P r S w S' v tmps o := by
  rw [ho] at hc
  simp only [compOp0, Option.bind_eq_bind, Option.bind_eq_some_iff] at hc
  obtain ⟨d, hd, hc⟩ := hc
  split at hc
  · rename_i n el
    simp only [Option.bind_eq_some_iff, Option.some.injEq] at hc
    obtain ⟨s, hs, sh, hsh, a, ha, b, hb, rfl⟩ := hc
    simp only [exec, M.bind_some, M.lift_some, Option.bind_eq_some_iff] at he
    obtain ⟨_, _, ⟨h1, rfl⟩, i, _, ⟨⟨iv, h2, h3⟩, rfl⟩, he⟩ := he
    obtain ⟨ik, rfl⟩ := asInt_inv h3
    have hir := (atom_ok hb h2 hE).int_inv
    split at he
    · split at he
      · rename_i hi
        simp only [M.bind_some, M.lift_some, M.pure_some] at he
        obtain ⟨_, _, ⟨h4, rfl⟩, rfl, rfl⟩ := he
        obtain ⟨a', hx, hl⟩ := (atom_ok ha h1 hE).agg_inv
        obtain ⟨v', h5, h6⟩ := part_ok (w := w) hsh h4 hl
        refine did_pure hr h6 ?_
        simp only [execOp, ho, hx, hir, Instr.index, asIntOf, Sem.run_bind, Sem.run_pure, run_underlying hd, Result.andThen_ok, hi, and_self, if_true, run_sizeOf hs, h5]
      · exact (M.fail_some.1 he).elim
    · exact (M.fail_some.1 he).elim
  · simp only [Option.bind_eq_some_iff, Option.some.injEq] at hc
    obtain ⟨a, ha, b, hb, rfl⟩ := hc
    simp only [exec, M.bind_some, M.lift_some, Option.bind_eq_some_iff] at he
    obtain ⟨_, _, ⟨h1, rfl⟩, i, _, ⟨⟨iv, h2, h3⟩, rfl⟩, he⟩ := he
    obtain ⟨ik, rfl⟩ := asInt_inv h3
    have hir := (atom_ok hb h2 hE).int_inv
    split at he
    · rename_i s
      split at he
      · rename_i hi
        simp only [M.bind_some, M.lift_some, M.pure_some] at he
        obtain ⟨bt, _, ⟨h4, rfl⟩, rfl, rfl⟩ := he
        have hx := (atom_ok ha h1 hE).string_inv
        have hb : s[i.toNat]? = some bt := by
          have h4' : s.data[i.toNat]? = some bt := by simpa using h4
          obtain ⟨hlt, hv⟩ := Array.getElem?_eq_some_iff.1 h4'
          have hlt' : i.toNat < s.size := by simpa using hlt
          rw [getElem?_pos s i.toNat hlt']
          exact congrArg some hv
        refine did_pure hr (.int _ _) ?_
        simp only [execOp, ho, hx, hir, Instr.index, asIntOf, Sem.run_bind, Sem.run_pure, run_underlying hd, Result.andThen_ok, hi, if_true, hb]
      · exact (M.fail_some.1 he).elim
    · exact (M.fail_some.1 he).elim
  · simp at hc
end
end Go.Wb
