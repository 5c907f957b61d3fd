/- The engine, part M12: functions without a body. -/
import Derived.Test.YtmepokefmpcnnaaEngM11
set_option linter.unusedSimpArgs false
set_option linter.unusedVariables false
namespace Go.Wb
variable {P : Program} {r : Ren} {S S' : St} {w : World}

theorem row1 : Extern.allNextRows.lookup "internal/bytealg.IndexByteString" = none := by rfl
theorem row2 : Extern.allNextRows.lookup "" = none := by rfl
theorem row3 : Extern.allNextRows.lookup "slices.overlaps" = none := by rfl
theorem row4 : Extern.allGenericRows.lookup "slices.overlaps" = none := by rfl
theorem row5 : Extern.allTypedRows.lookup "slices.overlaps" = some Extern.SlicesOverlaps.overlaps := by rfl
theorem row6 : Extern.allGenericRows.lookup "internal/bytealg.IndexByteString" = none := by rfl
theorem row7 : Extern.allTypedRows.lookup "internal/bytealg.IndexByteString" = none := by rfl
theorem row8 : Extern.allRows.lookup "internal/bytealg.IndexByteString" = some Extern.BytealgIndexByte.indexByte := by rfl

theorem findByte_eq (c : UInt8) : ∀ (l : List UInt8) (i : Int), findByte c l i = match (List.range l.length).find? (fun j => l[j]! == c) with | some j => i + j | none => -1
  | [], i => rfl
  | b :: l, i => by
    rw [findByte, List.length_cons, List.range_succ_eq_map, List.find?_cons]
    by_cases h : b == c
    · simp [h]
    · have h' : (b == c) = false := by simpa using h
      simp only [h', Bool.false_eq_true, if_false]
      rw [findByte_eq c l (i + 1), List.find?_map]
      have e : ((fun j => (b :: l)[j]! == c) ∘ Nat.succ) = fun j => l[j]! == c := by funext j; simp
      rw [e]
      have e0 : ((b :: l)[0]! == c) = false := by simpa using h
      simp only [e0]
      cases List.find? (fun j => l[j]! == c) (List.range l.length) with
      | none => rfl
      | some j => show i + 1 + (j : Int) = i + ((j + 1 : Nat) : Int); omega
theorem firstIdx_eq (s : ByteArray) (c : UInt8) : findByte c s.data.toList 0 = firstIdx s c := by
  rw [findByte_eq, firstIdx]
  have e1 : s.data.toList.length = s.size := by rw [Array.length_toList]; rfl
  rw [e1]
  have e2 : (fun j : Nat => s.data.toList[j]! == c) = fun i : Nat => s[i]! == c := by
    funext j
    congr 1
    by_cases hj : j < s.data.size
    · rw [getElem!_pos s.data.toList j (by simpa using hj), getElem!_pos s j hj]
      rw [Array.getElem_toList]; rfl
    · rw [getElem!_neg s.data.toList j (by simpa using hj), getElem!_neg s j hj]
  rw [e2]
  cases List.find? (fun i : Nat => s[i]! == c) (List.range s.size) <;> simp

theorem run_viewAt {b : Nat} {rc : Array Value} {el : TypeId} {fz : Nat × Nat} (h : w.heap[b]? = some (.cells rc el fz)) (o : Nat) (sp) : (noView ⟨b, o, sp⟩).run P w = .ok () w := by
  simp [noView, viewAt, shape, Sem.run, Sem.run_bind, World.shape?, h, Result.andThen_ok]
theorem run_frozen {b o : Nat} {rc : Array Value} {el : TypeId} {lo : Nat} (h : w.heap[b]? = some (.cells rc el (lo, lo))) (sp) : (frozen ⟨b, o, sp⟩).run P w = .ok false w := by
  simp only [frozen, Sem.run, World.frozen?, h]
  congr 1
  simp
theorem run_stringish {b o : Nat} {rc : Array Value} {el : TypeId} {lo : Nat} (h : w.heap[b]? = some (.cells rc el (lo, lo))) (sp) : (stringish ⟨b, o, sp⟩).run P w = .ok false w := by
  have := run_frozen (P := P) (o := rc.size) h none
  simp only [stringish, Sem.run_bind, run_frozen h, Result.andThen_ok, Bool.false_eq_true, if_false]
  simp only [shape, Sem.run, World.shape?, h, Result.andThen_ok]
  exact this
theorem run_mayBeOne {b o b' o' : Nat} {rc rc' : Array Value} {el el' : TypeId} {lo lo' : Nat} (h : w.heap[b]? = some (.cells rc el (lo, lo))) (h' : w.heap[b']? = some (.cells rc' el' (lo', lo'))) (sp sp') : (mayBeOne ⟨b, o, sp⟩ ⟨b', o', sp'⟩).run P w = .ok false w := by
  simp [mayBeOne, Sem.run_bind, run_stringish h, run_stringish h', Result.andThen_ok]

theorem overlaps_ok {params results : Array TypeId} {t : TypeId} {e : TypeId} {size : Nat} {args : List Value} {args' : Array Value} {v : Value} (hp : params[0]? = some t) (hu : P.underlying t = some (.slice e)) (hs : sizeT P e = some size)
    (h : extA (.overlaps size) args S = some (v, S')) (hr : Rel P r S w) (ha : LRel r args args'.toList) :
    ∃ D, Sim P D r S w r S' w ∧ VRel r v v ∧ (Extern.SlicesOverlaps.overlaps params results args').run P w = .ok v w := by
  have hform : ∃ a la ca b lb cb, args = [.slice a la ca, .slice b lb cb] := by
    rcases args with _ | ⟨x, _ | ⟨y, _ | ⟨z, args⟩⟩⟩
    · exact ((M.fail_some (S := S) (x := (v, S'))).1 h).elim
    · cases x <;> exact ((M.fail_some (S := S) (x := (v, S'))).1 h).elim
    · cases x <;> cases y <;> first | exact ⟨_, _, _, _, _, _, rfl⟩ | exact ((M.fail_some (S := S) (x := (v, S'))).1 h).elim
    · cases x <;> cases y <;> exact ((M.fail_some (S := S) (x := (v, S'))).1 h).elim
  obtain ⟨a, la, ca, b, lb, cb, rfl⟩ := hform
  simp only [extA] at h
  · obtain ⟨al'⟩ := args'
    cases ha with
    | cons hx ht =>
      cases ht with
      | cons hy ht =>
        cases ht
        split at h
        · rename_i a b
          obtain ⟨hsp1, hd1, o1, c1, rfl, _, _, _, ho1⟩ := hx.slc_inv
          obtain ⟨hsp2, hd2, o2, c2, rfl, _, _, _, ho2⟩ := hy.slc_inv
          split at h
          · rename_i hz
            obtain ⟨rfl, rfl⟩ := M.pure_some.1 h
            refine ⟨[], Sim.refl hr, .bool _, ?_⟩
            conv => lhs; arg 2; whnf
            simp only [hp, Sem.run_bind, run_underlying hu, run_sizeOf hs, Result.andThen_ok]
            rw [if_pos hz]; simp
          · rename_i hz
            simp only [M.bind_some, rd_some] at h
            obtain ⟨x, S1, ⟨hx1, rfl⟩, y, S2, ⟨hy1, rfl⟩, h⟩ := h
            simp only at hy1
            split at h
            · rename_i x1 c1' x2 c2'
              obtain ⟨h3, rfl⟩ := M.pure_some.1 h
              obtain ⟨_, rc1, el1, lo1, hi1, l1, m1, _, _, _, _, _, m2⟩ := cells_at hr hx1
              obtain ⟨_, rc2, el2, lo2, hi2, l2, n1, _, _, _, _, _, n2⟩ := cells_at hr hy1
              obtain rfl := m2 rfl
              obtain rfl := n2 rfl
              have e1 : o1 = r.base a.block + a.off := ho1.elim id fun q => absurd (.inl q.1) hz
              have e2 : o2 = r.base b.block + b.off := ho2.elim id fun q => absurd (.inr (.inl q.1)) hz
              subst h3
              refine ⟨[(b.block, false), (a.block, false)], sim_log hr rfl rfl rfl, .bool _, ?_⟩
              conv => lhs; arg 2; whnf
              simp only [hp, Sem.run_bind, run_underlying hu, run_sizeOf hs, Result.andThen_ok]
              rw [if_neg hz]
              by_cases hab : a.block = b.block
              · have hbb : r.to a.block = r.to b.block := by rw [hab]
                simp only [hbb, bne_self_eq_false, Bool.false_and, Bool.false_eq_true, if_false, Sem.run_bind, Sem.run_pure, Result.andThen_ok, run_frozen m1, run_frozen n1]
                have e3 : r.base a.block = r.base b.block := by rw [hab]
                simp [e1, e2, e3, hab, Nat.add_assoc]
              · have hbb : ¬ r.to a.block = r.to b.block := fun c => hab (hr.inj _ _ _ _ hx1 hy1 c (.inr rfl))
                have hbn : (r.to a.block != r.to b.block) = true := by simpa using hbb
                have hbn2 : (r.to a.block == r.to b.block) = false := by simpa using hbb
                have hbn3 : (a.block == b.block) = false := by simpa using hab
                simp [hbn, hbn2, hbn3, Sem.run_bind, run_frozen m1, run_frozen n1, run_viewAt m1, run_viewAt n1, run_mayBeOne m1 n1, Result.andThen_ok]
            · exact (M.fail_some.1 h).elim
        · rename_i hnn
          obtain ⟨rfl, rfl⟩ := M.pure_some.1 h
          refine ⟨[], Sim.refl hr, .bool _, ?_⟩
          cases a with
          | none =>
            obtain ⟨rfl, rfl, rfl⟩ := hx.slcNil_inv
            cases hy <;> (conv => lhs; arg 2; whnf) <;> simp [hp, Sem.run_bind, run_underlying hu, run_sizeOf hs, Result.andThen_ok]
          | some a =>
            cases b with
            | none =>
              obtain ⟨rfl, rfl, rfl⟩ := hy.slcNil_inv
              obtain ⟨_, _, o1, c1, rfl, _⟩ := hx.slc_inv
              conv => lhs; arg 2; whnf
              simp [hp, Sem.run_bind, run_underlying hu, run_sizeOf hs, Result.andThen_ok]
            | some b => exact absurd rfl (hnn a b rfl)
end Go.Wb
