/- The engine, part C9: conversions, slices, builtins. -/
import Derived.Test.YtmepokefmpcnnaaEngC8
set_option linter.unusedSimpArgs false
set_option linter.unusedVariables false
namespace Go.Wb
variable {P : Program} {r : Ren} {S S' : St} {w : World}

theorem did_new_ext {c : List Value} {b z : Nat} {str : Bool} {rc : Array Value} {el : TypeId} {fz : Nat × Nat} {w' : World} (hr : Rel P r S w) (h : nw (.cells (some z) str c) S = some (b, S')) (hf : Fresh r S S')
    (hw : New w w' (.cells rc el fz)) {l' : List Value} (hl : LRel r c l') (hat : ∀ (i : Nat) (v : Value), l'[i]? = some v → rc[i]? = some v) (hfz : fz.1 = fz.2 ∨ rc.size ≤ fz.1) (hstr : str = false → fz.1 = fz.2) {n c' : Nat}
    (hn : n ≤ c') (hc : c' * z ≤ rc.size) : ∃ D r', Sim P D r S w r' S' w' ∧ VRel r' (.slice (some ⟨b, 0, none⟩) n n) (.slice (some ⟨w.heap.size, 0, none⟩) n c') := by
  obtain ⟨rfl, D, r', hs, hle, k1, k2, k3, k4, k5⟩ := did_new hr h hf hw hl hat hfz hstr
  refine ⟨D, r', hs, ?_⟩
  have := VRel.slc (r := r') (b := S.next) (o := 0) (n := n) (c := n) (c' := c') k1 (by rw [k5]; intro h; cases h) hn (fun y hy => by rw [k5] at hy; cases hy; rw [k3, k4]; omega)
  rw [k2, k3] at this
  exact this

theorem bytes_run : ∀ (l : List Value) (out : List UInt8) (acc : ByteArray), bytesOf l = some out →
    (forIn (m := Sem) l acc fun c s => (match c with
      | .int .u8 n => pure (.yield (s.push (UInt8.ofNat n.toNat)))
      | x => do
        stuck "bytesToString: byte expected"
        pure (.yield s) : Sem (ForInStep ByteArray))).run P w = .ok ⟨acc.data ++ out.toArray⟩ w
  | [], out, acc, h => by
    simp only [bytesOf, Option.some.injEq] at h; subst h
    simp
  | v :: l, out, acc, h => by
    cases v <;> try (simp [bytesOf] at h; done)
    rename_i k n
    cases k <;> try (simp [bytesOf] at h; done)
    simp only [bytesOf] at h
    split at h
    · rename_i m hm
      simp only [Option.some.injEq] at h; subst h
      simp only [List.forIn_cons, Sem.run_bind, Sem.run_pure, Result.andThen_ok]
      rw [bytes_run l m _ hm]
      congr 2
      apply Array.ext'
      simp [ByteArray.push]
    · simp at h
theorem bytesOf_rel : ∀ {l l' : List Value} {out : List UInt8}, bytesOf l = some out → LRel r l l' → l' = l
  | [], _, _, _, hl => by cases hl; rfl
  | v :: l, _, out, h, hl => by
    cases hl with
    | cons hv ht =>
      cases v <;> try (simp [bytesOf] at h; done)
      rename_i k n
      cases k <;> try (simp [bytesOf] at h; done)
      simp only [bytesOf] at h
      split at h
      · rename_i m hm
        rw [hv.int_inv, bytesOf_rel hm ht]
      · simp at h

section
variable {call : Tgt → List Value → M Value} {e : Env} {tmps : Array Value} {v : Value} {o : Oper} {aop : AOp}

theorem freeze_upd {b : Nat} {rc : Array Value} {el : TypeId} {lo hi : Nat} (h : w.heap[b]? = some (.cells rc el (lo, hi))) (hf : lo = hi ∨ rc.size ≤ lo) (o : Nat) :
    ∃ lo' hi', (markStringish ⟨b, o, none⟩).run P w = .ok () (w.freeze { block := b, off := rc.size } 1) ∧ Upd w (w.freeze { block := b, off := rc.size } 1) b (.cells rc el (lo', hi')) ∧ rc.size ≤ lo' := by
  have hb : b < w.heap.size := (Array.getElem?_eq_some_iff.1 h).1
  have hs : w.shape? b = some (el, rc.size) := by simp [World.shape?, h]
  by_cases hlh : lo = hi
  · refine ⟨rc.size, rc.size + 1, ?_, ⟨?_, ?_, ?_, ?_, ?_, ?_⟩, Nat.le_refl _⟩
    · simp [markStringish, hs]
    · simp [World.freeze]
    · simp [World.freeze, Array.getElem?_modify, h, hlh]
    · intro k hk
      simp only [World.freeze, Nat.one_ne_zero, if_false, Array.getElem?_modify]
      rw [if_neg (fun c => hk c.symm)]
    · simp [World.freeze]
    · simp [World.freeze]
    · simp [World.freeze]
  · have hsz : rc.size ≤ lo := hf.resolve_left hlh
    refine ⟨min lo rc.size, max hi (rc.size + 1), ?_, ⟨?_, ?_, ?_, ?_, ?_, ?_⟩, by omega⟩
    · simp [markStringish, hs]
    · simp [World.freeze]
    · simp [World.freeze, Array.getElem?_modify, h, hlh]
    · intro k hk
      simp only [World.freeze, Nat.one_ne_zero, if_false, Array.getElem?_modify]
      rw [if_neg (fun c => hk c.symm)]
    · simp [World.freeze]
    · simp [World.freeze]
    · simp [World.freeze]

theorem did_conv {src dst : TypeId} {x : Operand} (ho : o.op = .convert src dst x) (hc : compOp0 P o.op = some aop) (he : exec call e aop S = some (v, S')) (hr : Rel P r S w) (hE : EnvRel r e tmps) (hf : Fresh r S S') : Did P r S w S' v tmps o := by
  rw [ho] at hc
  simp only [compOp0, Option.bind_eq_bind, Option.bind_eq_some_iff] at hc
  obtain ⟨a, ha, ds, hds, dd, hdd, hc⟩ := hc
  have hrun : (execOp (evT tmps) o) = (do pure (.value (← convert src dst (evT tmps x)))) := by simp [execOp, ho]
  split at hc
  · rename_i ks k
    obtain rfl : AOp.conv (.int k) a = aop := by simpa using hc
    simp only [exec, M.bind_some, M.lift_some] at he
    obtain ⟨xv, _, ⟨h1, rfl⟩, he⟩ := he
    cases xv <;> try (exact (M.fail_some.1 he).elim)
    obtain ⟨rfl, rfl⟩ := M.pure_some.1 he
    have hx := (atom_ok ha h1 hE).int_inv
    exact did_pure hr (.int _ _) (by rw [hrun]; simp [hx, convert, run_underlying hds, run_underlying hdd, Conv.intToInt])
  · obtain rfl : AOp.conv .same a = aop := by simpa using hc
    simp only [exec, M.bind_some, M.lift_some] at he
    obtain ⟨xv, _, ⟨h1, rfl⟩, he⟩ := he
    cases xv <;> try (exact (M.fail_some.1 he).elim)
    obtain ⟨rfl, rfl⟩ := M.pure_some.1 he
    have hx := (atom_ok ha h1 hE).string_inv
    exact did_pure hr (.string _) (by rw [hrun]; simp [hx, convert, run_underlying hds, run_underlying hdd])
  · rename_i e1 e2
    simp only [Option.bind_eq_bind, Option.bind_eq_some_iff] at hc
    obtain ⟨u, hu, hc⟩ := hc
    split at hc
    · rename_i hcond
      obtain rfl : src = dst := of_decide_eq_true hcond
      obtain rfl : AOp.conv .sameSl a = aop := by simpa using hc
      obtain rfl : e1 = e2 := by rw [hds] at hdd; simpa using hdd
      have hu' : P.underlying e1 = some (.int .u8) := hu
      simp only [exec, M.bind_some, M.lift_some] at he
      obtain ⟨xv, _, ⟨h1, rfl⟩, he⟩ := he
      cases xv <;> try (exact (M.fail_some.1 he).elim)
      rename_i p n c
      cases p with
      | none => exact (M.fail_some.1 he).elim
      | some p =>
        simp only [M.bind_some, rd_some] at he
        obtain ⟨bk, S1, ⟨hb, rfl⟩, he⟩ := he
        cases bk with
        | loop => exact (M.fail_some.1 he).elim
        | map => exact (M.fail_some.1 he).elim
        | ro => exact (M.fail_some.1 he).elim
        | cells ext str cs =>
          simp only [M.bind_some, wr_some, M.pure_some] at he
          obtain ⟨_, S2, rfl, rfl, rfl⟩ := he
          have hxr := atom_ok ha h1 hE
          obtain ⟨hsp, hdm, o', c', hx, hcc, hex, hgr, hor⟩ := hxr.slc_inv
          obtain ⟨hd, rc, el, lo, hi, l', k1, k2, k3, k4, k5, k6, k7⟩ := cells_at hr hb
          obtain ⟨lo', hi', m1, m2, m3⟩ := freeze_upd (P := P) k1 k6 o'
          refine ⟨_, r, _, _, sim_upd hr hb rfl rfl (D := [(p.block, true), (p.block, false)]) rfl (by simp) m2 ⟨k2, k3, ⟨l', k4, k5⟩, .inr m3, fun h => by cases h⟩, hxr, .inl ?_⟩
          rw [hrun, hx]
          simp only [convert, Sem.run_bind, run_underlying hds, run_underlying hdd, Result.andThen_ok, beq_self_eq_true, run_underlying hu', m1, Sem.run_pure]
    · simp at hc
  · rename_i el
    simp only [Option.bind_eq_bind, Option.bind_eq_some_iff] at hc
    obtain ⟨u, hu, hc⟩ := hc
    split at hc
    · obtain rfl : AOp.conv (.str2b el) a = aop := by simpa using hc
      simp only [exec, M.bind_some, M.lift_some] at he
      obtain ⟨xv, _, ⟨h1, rfl⟩, he⟩ := he
      cases xv <;> try (exact (M.fail_some.1 he).elim)
      rename_i s
      simp only [M.bind_some, M.pure_some] at he
      obtain ⟨b, S1, h2, rfl, rfl⟩ := he
      have hx := (atom_ok ha h1 hE).string_inv
      obtain ⟨cap, hcap, hch⟩ := choose_cap (P := P) (w := w) s.size 0 el
      let rc : Array Value := s.data.map (fun b => Value.int .u8 b.toNat) ++ Array.replicate (cap - s.size) (.int .u8 0)
      have hrc : rc.size = cap := by simp [rc]; omega
      let w1 : World := { w with drawn := w.drawn + 1, heap := w.heap.push (.cells rc el (0, 0)) }
      have hw1 : w1.heap[w.heap.size]? = some (.cells rc el (0, 0)) := by simp [w1]
      obtain ⟨lo', hi', m1, m2, m3⟩ := freeze_upd (P := P) hw1 (.inl rfl) 0
      have hnew : New w (w1.freeze { block := w.heap.size, off := rc.size } 1) (.cells rc el (lo', hi')) := by
        refine ⟨?_, m2.os, m2.tape, m2.output⟩
        apply Array.ext_getElem?
        intro k
        by_cases hk : k = w.heap.size
        · subst hk; rw [m2.here]; simp
        · rw [m2.there k hk]
          simp only [w1]
          rw [Array.getElem?_push, Array.getElem?_push, if_neg hk, if_neg hk]
      have hl : LRel r (s.data.toList.map fun b => Value.int .u8 b.toNat) (s.data.toList.map fun b => Value.int .u8 b.toNat) := by
        generalize s.data.toList = q
        induction q with
        | nil => exact .nil
        | cons a q ih => exact .cons (.int _ _) ih
      obtain ⟨D, r', hs, hv⟩ := did_new_ext hr h2 hf hnew hl (fun i v hv => by
        have hlt := (List.getElem?_eq_some_iff.1 hv).1
        simp at hlt
        simp only [rc]
        rw [Array.getElem?_append_left (by simpa using hlt)]
        simpa using hv) (.inr m3) (fun h => by cases h) hcap (by rw [hrc]; omega)
      refine ⟨D, r', _, _, hs, hv, .inl ?_⟩
      rw [hrun, hx]
      have m1' : (markStringish ⟨w.heap.size, 0, none⟩).run P { w with drawn := w.drawn + 1, heap := w.heap.push (.cells rc el (0, 0)) } = .ok () (w1.freeze { block := w.heap.size, off := rc.size } 1) := m1
      simp only [convert, Sem.run_bind, run_underlying hds, run_underlying hdd, Result.andThen_ok, run_underlying hu, Conv.stringToBytes, hch, newRow, run_newObj, Sem.run_pure]
      rw [show s.data.map (fun b => Value.int .u8 b.toNat) ++ Array.replicate (cap - s.size) (.int .u8 0) = rc from rfl, m1']
      rfl
    · simp at hc
  · rename_i el
    simp only [Option.bind_eq_bind, Option.bind_eq_some_iff] at hc
    obtain ⟨u, hu, hc⟩ := hc
    split at hc
    · obtain rfl : AOp.conv .b2str a = aop := by simpa using hc
      simp only [exec, M.bind_some, M.lift_some] at he
      obtain ⟨xv, _, ⟨h1, rfl⟩, he⟩ := he
      cases xv <;> try (exact (M.fail_some.1 he).elim)
      rename_i p n c
      cases p with
      | none =>
        obtain ⟨rfl, rfl⟩ := M.pure_some.1 he
        obtain ⟨rfl, rfl, hx⟩ := (atom_ok ha h1 hE).slcNil_inv
        exact did_pure hr (.string _) (by rw [hrun]; simp [hx, convert, run_underlying hds, run_underlying hdd, run_underlying hu, Conv.bytesToString])
      | some p =>
        simp only [M.bind_some, M.lift_some, M.pure_some] at he
        obtain ⟨cs, S1, h2, l, _, ⟨h3, rfl⟩, rfl, rfl⟩ := he
        obtain ⟨hsp, hdm, o', c', hx, hcc, hex, hgr, hor⟩ := (atom_ok ha h1 hE).slc_inv
        obtain ⟨l', m1, m2, m3, _, m5⟩ := ldCells_ok h2 hr
        obtain rfl := bytesOf_rel h3 m1
        refine ⟨_, r, w, _, m5, .string _, .inl ?_⟩
        have hload : (loadCells ⟨r.to p.block, o', none⟩ n).run P w = .ok l'.toArray w := by
          rcases hor with rfl | ⟨h0, _⟩
          · exact m3 w rfl
          · subst h0
            cases l' with
            | nil => simp [loadCells, loadCellsFrom]
            | cons _ _ => simp at m2
        have hb := bytes_run (P := P) (w := w) l' l ByteArray.empty h3
        have hxs : evT tmps x = .slice (some ⟨r.to p.block, o', none⟩) n c' := hx
        rw [hrun, hxs]
        simp only [convert, Sem.run_bind, run_underlying hds, run_underlying hdd, run_underlying hu, Result.andThen_ok, Conv.bytesToString, hload, List.forIn_toArray]
        erw [hb]
        have : ByteArray.empty.data ++ l.toArray = l.toArray := by show #[] ++ l.toArray = _; simp
        rw [this]
        rfl
    · simp at hc
  · simp at hc

theorem did_mkslice {t : TypeId} {x y : Operand} (ho : o.op = .makeSlice t x y) (hc : compOp0 P o.op = some aop) (he : exec call e aop S = some (v, S')) (hr : Rel P r S w) (hE : EnvRel r e tmps) (hf : Fresh r S S') : Did P r S w S' v tmps o := by
  rw [ho] at hc
  simp only [compOp0, Option.bind_eq_bind, Option.bind_eq_some_iff] at hc
  obtain ⟨d, hd, hc⟩ := hc
  split at hc
  · rename_i el
    simp only [Option.bind_eq_some_iff, Option.some.injEq] at hc
    obtain ⟨sz, hsz, bt, hbt, z, hz, a, ha, b, hb, rfl⟩ := hc
    simp only [exec, M.bind_some, M.lift_some, Option.bind_eq_some_iff] at he
    obtain ⟨ln, _, ⟨⟨lv, h1, h1'⟩, rfl⟩, cp, _, ⟨⟨cv, h2, h2'⟩, rfl⟩, he⟩ := he
    obtain ⟨k1, rfl⟩ := asInt_inv h1'
    obtain ⟨k2, rfl⟩ := asInt_inv h2'
    have hx1 := (atom_ok ha h1 hE).int_inv
    have hx2 := (atom_ok hb h2 hE).int_inv
    split at he
    · rename_i hcond
      obtain ⟨c1, c2, c3, c4, c5⟩ := hcond
      simp only [M.bind_some, M.pure_some] at he
      obtain ⟨nb, S1, h3, rfl, rfl⟩ := he
      obtain ⟨i, zv, hi, hiz, hz2, hz3⟩ := zeroT_info hz
      have hzs : zv.cells.size = sz := by rw [← c5, ← hz2]; simp
      have hbi := bytesT_info hbt hi
      have w1 : IntKind.i64.wrap ln = ln := wrap64_id c1 (by omega)
      have w2 : IntKind.i64.wrap cp = cp := wrap64_id (by omega) (by omega)
      have e48 : (2 : Int) ^ 48 = 281474976710656 := by decide
      have hzr : LRel r (rep cp.toNat z) (rep cp.toNat z) := by rw [← hz2]; exact rep_plain hz3 _
      have hcells : (Array.range (cp.toNat * sz)).map (fun x => (if cp.toNat * sz = 0 then #[] else zv.cells)[x % (if cp.toNat * sz = 0 then #[] else zv.cells).size]!) = (rep cp.toNat z).toArray := by
        apply Array.ext'
        split
        · rename_i h0
          rw [h0]
          have : rep cp.toNat z = [] := by apply List.eq_nil_of_length_eq_zero; rw [rep_length, c5, h0]
          simp [this]
        · simp only [List.toList_toArray]
          rw [Array.toList_map, Array.toList_range, ← hz2, ← range_rep, hzs]
      obtain ⟨rfl, D, r', hsim, hle, m1, m2, m3, m4, m5⟩ := did_new (w' := { w with heap := w.heap.push (.cells (rep cp.toNat z).toArray el (0, 0)) }) hr h3 hf (alloc_new _ _) hzr (by simp) (.inl rfl) (fun _ => rfl)
      refine ⟨D, r', _, _, hsim, slc_of m1 m2 m3 m5, .inl ?_⟩
      have t1 : (decide (cp < 0) || decide ((bt : Int) * cp > 2 ^ 48)) = false := by
        rw [e48]; simp; omega
      have t2 : ¬ (ln < 0) := by omega
      have t3 : ¬ (ln > cp) := by omega
      simp only [execOp, ho, hx1, hx2, Instr.makeSlice, Sem.run_bind, run_underlying hd, Result.andThen_ok, Go.asInt, asIntOf, Sem.run_pure, run_typeInfo hi, hbi, w1, w2, t1, t2, t3, decide_false, Bool.or_self, Bool.false_eq_true, if_false, run_askRoom, run_sizeOf hsz]
      by_cases h0 : cp.toNat * sz = 0
      · simp only [if_pos h0] at hcells
        rw [if_pos h0]
        simp only [Sem.run_bind, Sem.run_pure, Result.andThen_ok, hcells, newRow, run_newObj]
      · simp only [if_neg h0] at hcells
        rw [if_neg h0]
        simp only [Sem.run_bind, Sem.run_pure, Result.andThen_ok, run_zeroValue hi hiz, hcells, newRow, run_newObj]
    · exact (M.fail_some.1 he).elim
  · simp at hc
end
end Go.Wb
