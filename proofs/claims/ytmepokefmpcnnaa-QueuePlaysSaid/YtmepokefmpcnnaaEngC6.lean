/- The engine, part C6: the builtins. -/
import Derived.Test.YtmepokefmpcnnaaEngC5
set_option linter.unusedSimpArgs false
set_option linter.unusedVariables false
namespace Go.Wb
variable {P : Program} {r : Ren} {S S' : St} {w : World}

theorem zeroT_info {t : TypeId} {z : List Value} (h : zeroT P t = some z) : ∃ i v, P.info? t = some i ∧ i.zero = some v ∧ v.cells.toList = z ∧ plain v = true := by
  unfold zeroT at h
  cases hi : P.info? t with
  | none => simp [hi] at h
  | some i =>
    simp only [hi] at h
    cases hz : i.zero with
    | none => simp [hz] at h
    | some v =>
      simp only [hz] at h
      split at h
      · rename_i hp; exact ⟨i, v, rfl, hz, by simpa using h, hp⟩
      · simp at h
theorem sizeT_info {t : TypeId} {s : Nat} {i : TypeInfo} (h : sizeT P t = some s) (hi : P.info? t = some i) : i.size = s := by
  unfold sizeT at h; simp [hi] at h; exact h
theorem bytesT_info {t : TypeId} {s : Nat} {i : TypeInfo} (h : bytesT P t = some s) (hi : P.info? t = some i) : i.bytes = s := by
  unfold bytesT at h; simp [hi] at h; exact h

theorem run_zeroValue {t : TypeId} {i : TypeInfo} {v : Value} (hi : P.info? t = some i) (hz : i.zero = some v) : (zeroValue t).run P w = .ok v w := by
  simp [zeroValue, typeInfo, hi, hz]
theorem run_size {t : TypeId} {i : TypeInfo} (hi : P.info? t = some i) : (sizeOf t).run P w = .ok i.size w := by
  simp [sizeOf, typeInfo, hi]

/-- an append of a slice or a string, in place -/
theorem run_append_put {ats : Array TypeId} {args : Array Value} {st xt : TypeId} {e ty : TypeId} {d : TypeDesc} {i : TypeInfo} {base' : Option Addr} {sLen sCap n : Nat} {x' : Value} {l' : List Value} {w' : World}
    (ha0 : ats[0]? = some st) (ha1 : ats[1]? = some xt) (hg0 : args[0]? = some (.slice base' sLen sCap)) (hg1 : args[1]? = some x') (hu : P.underlying st = some (.slice e)) (hx : P.underlying xt = some d) (hd : ∀ k, d ≠ .int k) (hi : P.info? e = some i)
    (hn : (Builtin.lenOf x').run P w = .ok n w) (hle : sLen + n ≤ sCap) (hr : (Builtin.firstCells i.size n x').run P w = .ok l'.toArray w)
    (hst : ((match base' with | some a => storeCells (a.add (sLen * i.size)) l' | none => pure ()) : Sem Unit).run P w = .ok () w') :
    (Builtin.append_ ats ty args).run P w = .ok (.slice base' (sLen + n) sCap) w' := by
  have hz : (d matches .int _) = false := by cases d <;> first | rfl | exact absurd rfl (hd _)
  simp only [Builtin.append_, ha0, ha1, hg0, hg1, Sem.run_bind, run_underlying hu, Result.andThen_ok, run_size hi, run_underlying hx, Sem.run_pure, hz, Bool.false_eq_true, if_false, hn, Bool.not_false, if_true, if_pos hle, hr]
  cases base' with
  | none => simp at hst ⊢; exact hst
  | some a => simp only at hst ⊢; simp [hst]

theorem choose_cap (need cap : Nat) (e : TypeId) : ∃ newCap, need ≤ newCap ∧ (choose (.appendCap need cap e)).run P w = .ok newCap { w with drawn := w.drawn + 1 } := by
  refine ⟨_, ?_, by simp only [run_choose, Question.forced, Bool.false_eq_true, if_false]; rfl⟩
  simp [Question.cut]

theorem run_append_grow {ats : Array TypeId} {args : Array Value} {st xt : TypeId} {e ty : TypeId} {d : TypeDesc} {i : TypeInfo} {base' : Option Addr} {sLen sCap n : Nat} {x' z : Value} {l' old : List Value}
    (ha0 : ats[0]? = some st) (ha1 : ats[1]? = some xt) (hg0 : args[0]? = some (.slice base' sLen sCap)) (hg1 : args[1]? = some x') (hu : P.underlying st = some (.slice e)) (hx : P.underlying xt = some d) (hd : ∀ k, d ≠ .int k) (hi : P.info? e = some i) (hz : i.zero = some z) (hzs : z.cells.size = i.size)
    (hn : (Builtin.lenOf x').run P w = .ok n w) (hle : ¬ sLen + n ≤ sCap) (hr : ∀ w0 : World, w0.heap = w.heap → (Builtin.firstCells i.size n x').run P w0 = .ok l'.toArray w0)
    (hold : ∀ w0 : World, w0.heap = w.heap → (Builtin.firstCells i.size sLen (.slice base' sLen sCap)).run P w0 = .ok old.toArray w0)
    (hb : 2 * ((sLen + n) * i.bytes) ≤ 281474976710656) (hb0 : i.bytes ≠ 0) :
    ∃ newCap rest, sLen + n ≤ newCap ∧ rest.length = (newCap - (sLen + n)) * i.size ∧
    (Builtin.append_ ats ty args).run P w =
      .ok (.slice (some ⟨w.heap.size, 0, none⟩) (sLen + n) newCap) { w with drawn := w.drawn + 1, heap := w.heap.push (.cells (old ++ l' ++ rest).toArray e) } := by
  have hzz : (d matches .int _) = false := by cases d <;> first | rfl | exact absurd rfl (hd _)
  have hmul : sLen + n ≤ (sLen + n) * i.bytes := Nat.le_mul_of_pos_right _ (by omega)
  obtain ⟨newCap, hnc, hch⟩ := choose_cap (P := P) (w := w) (sLen + n) sCap e
  have hcap := nextcap_le (sLen + n) sCap (by omega)
  have hcap2 : Builtin.nextslicecap (sLen + n) sCap * i.bytes ≤ 2 ^ 48 := by
    have := Nat.mul_le_mul_right i.bytes hcap
    rw [Nat.mul_assoc] at this
    have e48 : (2 : Nat) ^ 48 = 281474976710656 := by decide
    omega
  have hmax : ¬ (((sLen + n : Nat) : Int) > IntKind.i64.max) := by
    have : IntKind.i64.max = 9223372036854775807 := by decide
    omega
  refine ⟨newCap, (Builtin.zeroCells z.cells (newCap - (sLen + n))).toList, hnc, ?_, ?_⟩
  · rw [zeroCells_rep, rep_length]; simp [hzs]
  · simp only [Builtin.append_, ha0, ha1, hg0, hg1, Sem.run_bind, run_underlying hu, Result.andThen_ok, run_size hi, run_underlying hx, Sem.run_pure, hzz, Bool.false_eq_true, if_false, hn, Bool.not_false, if_true, if_neg hle,
      run_typeInfo hi, hb0, or_self, and_false, hcap2, gt_iff_lt, Nat.not_lt.2 hcap2, hch, run_askRoom]
    have h1 := hold { w with drawn := w.drawn + 1 } rfl
    have h2 := hr { w with drawn := w.drawn + 1 } rfl
    simp only [h1, Result.andThen_ok, h2, run_zeroValue hi hz, newRow, Sem.run_bind, run_newObj, Sem.run_pure]
    congr 4
    apply Array.ext'
    simp

/-- append of so many noughts -/
theorem run_append_putZ {ats : Array TypeId} {args : Array Value} {st xt : TypeId} {e ty : TypeId} {k k' : IntKind} {i : TypeInfo} {base' : Option Addr} {sLen sCap : Nat} {n : Int} {z : Value} {w' : World}
    (ha0 : ats[0]? = some st) (ha1 : ats[1]? = some xt) (hg0 : args[0]? = some (.slice base' sLen sCap)) (hg1 : args[1]? = some (.int k' n)) (hu : P.underlying st = some (.slice e)) (hx : P.underlying xt = some (.int k)) (hi : P.info? e = some i) (hz : i.zero = some z)
    (hn0 : 0 ≤ n) (hn1 : n < 281474976710656) (hnb : n * i.bytes ≤ 281474976710656) (hle : sLen + n.toNat ≤ sCap) (hzs : z.cells.size = i.size)
    (hst : ((match base' with | some a => storeCells (a.add (sLen * i.size)) (rep n.toNat z.cells.toList) | none => pure ()) : Sem Unit).run P w = .ok () w') :
    (Builtin.append_ ats ty args).run P w = .ok (.slice base' (sLen + n.toNat) sCap) w' := by
  have hw : IntKind.i64.wrap n = n := wrap64_id hn0 (by omega)
  have e48 : (2 : Int) ^ 48 = 281474976710656 := by decide
  have hnew : ((if n.toNat * i.size = 0 then pure #[] else do pure (Builtin.zeroCells (← zeroValue e).cells n.toNat) : Sem (Array Value))).run P w = .ok (rep n.toNat z.cells.toList).toArray w := by
    split
    · rename_i h0
      have : rep n.toNat z.cells.toList = [] := by
        apply List.eq_nil_of_length_eq_zero
        rw [rep_length]; simp [hzs]; simpa using h0
      rw [this]; rfl
    · simp only [Sem.run_bind, run_zeroValue hi hz, Result.andThen_ok, Sem.run_pure]
      congr 1
      apply Array.ext'
      rw [zeroCells_rep]
  simp only [Builtin.append_, ha0, ha1, hg0, hg1, Sem.run_bind, run_underlying hu, Result.andThen_ok, run_size hi, run_underlying hx, Sem.run_pure, if_true, asInt, asIntOf, Go.asInt, hw, if_neg (Int.not_lt.2 hn0), run_typeInfo hi, e48, gt_iff_lt, if_neg (Int.not_lt.2 hnb), if_pos hle, Bool.not_true, Bool.false_eq_true, if_false]
  rw [hnew]
  simp only [Result.andThen_ok]
  cases base' with
  | none => simp at hst ⊢; exact hst
  | some a => simp only at hst ⊢; simp [hst]
end Go.Wb
