/- The engine: strings.Join as a primitive, by the library's contract. -/
import Derived.Test.YtminohpmjajfgaaGreatDoorEngM
import Derived.Lib.Join
import Derived.Below
set_option linter.unusedSimpArgs false
set_option linter.unusedVariables false
namespace Go.Wb
set_option linter.unusedSectionVars false
variable [GloK]
open Go.RowKit
variable {P : Program}
theorem joinT_eq (sep : List UInt8) : ∀ l : List ByteArray, joinT sep l = Lib.joinTail sep (l.map (·.data.toList))
  | [] => rfl
  | s :: r => by simp only [joinT, joinT_eq sep r, Lib.joinTail, List.map_cons, List.flatten_cons, List.append_assoc]
theorem join_tail (sep x : List UInt8) : ∀ r : List (List UInt8), Lib.join (x :: r) sep = x ++ Lib.joinTail sep r
  | [] => by simp [Lib.join, Lib.joinTail]
  | y :: r => by
    have ih := join_tail sep y r
    simp only [Lib.join, Lib.joinTail, List.intercalate, List.intersperse, List.map_cons, List.flatten_cons] at ih ⊢
    cases r with
    | nil => simp [List.intersperse]
    | cons z r => simp only [List.intersperse, List.flatten_cons] at ih ⊢; rw [ih]; simp
theorem joinB_eq (sep : ByteArray) (l : List ByteArray) : joinB sep l = ⟨(Lib.join (l.map (·.data.toList)) sep.data.toList).toArray⟩ := by
  cases l with
  | nil => rfl
  | cons s r => rw [List.map_cons, join_tail, ← joinT_eq]; rfl
theorem strsOf_some : ∀ {cs : List Value} {l : List ByteArray}, strsOf cs = some l → cs = l.map .string
  | [], l, h => by cases h; rfl
  | c :: cs, l, h => by
    cases c with
    | string s =>
      simp only [strsOf] at h
      split at h
      · rename_i l' hl
        obtain rfl : s :: l' = l := by simpa using h
        rw [List.map_cons, ← strsOf_some hl]
      · cases h
    | _ => simp [strsOf] at h
/-- a contract, as a call -/
theorem callAt_of_calls {f : FuncId} {args : Array Value} {w : World} {v : Value} {R : World → Prop} (fc : Frame) (cs : List Frame) (he : (callFunc f args).run P w = .ok (.enter f args) w)
    (h : Calls P f args w fun e w1 => e = .returned v ∧ R w1) : ∃ w', R w' ∧ CallAt P fc cs (callFunc f args) w v w' := by
  obtain ⟨e, w1, fr, ⟨rfl, hR⟩, hc, _, hl⟩ := h (fc :: cs)
  exact ⟨w1, hR, .inr (.inr (.inl ⟨f, args, he, Steps.trans hc (.one (step_leave_returned hl))⟩))⟩
theorem grew_of_below {w w' : World} (h : Below w.heap.size w w') : Grew w w' := ⟨h.os, h.tape, h.output, h.size, h.block⟩
/-- cells that are all strings -/
theorem lrel_strs {r : Ren} : ∀ {l : List ByteArray} {l' : List Value}, LRel r (l.map .string) l' → l' = l.map .string
  | [], l', h => by cases h; rfl
  | s :: l, l', h => by
    cases h with
    | cons h1 h2 =>
      cases h1
      rw [lrel_strs h2]; rfl
/-- strings.Join is what the primitive says, if its contract holds -/
theorem join_ok {f : FuncId} {fn : Func} {c : Code} (hf : P.funcs[f]? = some fn) (hb : fn.body = some c) (hn : fn.name ≠ "runtime.NumGoroutine")
    (H0 : ∀ (a : Option Addr) (c : Nat) (sep : ByteArray) (w : World), Calls P f #[.slice a 0 c, .string sep] w fun e w' => e = .returned (.string ⟨#[]⟩) ∧ w' = w)
    (H : ∀ (bk o c : Nat) (xs : List ByteArray) (sep : ByteArray) (w : World), (∀ (j : Nat) x, xs[j]? = some x → w.cell? ⟨bk, o + j, none⟩ = some (.string x)) → bk < w.heap.size → xs.length ≤ 140737488355328 → xs.length ≤ c →
      (Lib.join (xs.map (·.data.toList)) sep.data.toList).length ≤ 140737488355328 →
      Calls P f #[.slice (some ⟨bk, o, none⟩) xs.length c, .string sep] w fun e w' => e = .returned (.string ⟨(Lib.join (xs.map (·.data.toList)) sep.data.toList).toArray⟩) ∧ Below w.heap.size w w') : ExtOk P f .join := by
  have he : ∀ (args : Array Value) (w : World), (callFunc f args).run P w = .ok (.enter f args) w := fun args w => by simp [callFunc, hf, hn, hb]
  intro args v S S' h r w hr hfr args' ha fc cs
  have hform : ∃ a n cp sep, args = [.slice a n cp, .string sep] := by
    generalize hk : XK.join = k at h
    unfold extA at h
    split at h
    all_goals first | exact ⟨_, _, _, _, rfl⟩ | exact (M.fail_some.1 h).elim | cases hk
  obtain ⟨a, n, cp, sep, rfl⟩ := hform
  obtain ⟨al'⟩ := args'
  cases ha with
  | cons hx ht =>
    cases ht with
    | cons hy ht =>
      cases ht
      cases hy
      cases a with
      | none =>
        cases hx
        simp only [extA, if_true] at h
        obtain ⟨rfl, rfl⟩ := M.pure_some.1 h
        obtain ⟨w', hw', k⟩ := callAt_of_calls fc cs (he _ w) (H0 none 0 sep w)
        rw [hw'] at k
        exact ⟨[], r, w, _, Sim.refl hr, .string _, k⟩
      | some a =>
        simp only [extA] at h
        split at h
        · exact (M.fail_some.1 h).elim
        · rename_i hno
          simp only [M.bind_some, M.lift_some] at h
          obtain ⟨vs, S1, h1, l, _, ⟨h2, rfl⟩, h3⟩ := h
          split at h3
          · exact (M.fail_some.1 h3).elim
          · rename_i hle
            obtain ⟨rfl, rfl⟩ := M.pure_some.1 h3
            obtain rfl := strsOf_some h2
            obtain ⟨hsp, hdm, o', c', rfl, hcc, _, _, hor⟩ := hx.slc_inv
            obtain ⟨b, o, sp⟩ := a
            obtain rfl : sp = none := hsp
            simp only [ldCells, M.bind_some, rd_some] at h1
            obtain ⟨ob, S2, ⟨h4, rfl⟩, h5⟩ := h1
            -- the cells, in the world
            have key : ∀ {cells : List Value} {rc : Array Value} {el : TypeId} {fz : Nat × Nat} {l' : List Value}, w.heap[r.to b]? = some (.cells rc el fz) → LRel r cells l' → (∀ i v, l'[i]? = some v → rc[r.base b + i]? = some v) → l.map .string = (cells.drop o).take n → o + n ≤ cells.length → Fresh r S { heap := S.heap, next := S.next, log := (b, false) :: S.log } →
                ∃ D r' w' v', Sim P D r S w r' { heap := S.heap, next := S.next, log := (b, false) :: S.log } w' ∧ VRel r' (.string (joinB sep l)) v' ∧ CallAt P fc cs (callFunc f #[.slice (some ⟨r.to b, o', none⟩) n c', .string sep]) w v' w' := by
              intro cells rc el fz l' k1 k2 k3 k4 k5 hfr
              have hln : l.length = n := by
                have := congrArg List.length k4
                simp only [List.length_map, List.length_take, List.length_drop] at this
                omega
              have hl4 := lrel_strs (k4 ▸ (k2.drop o).take n)
              have hz : n = 0 ∨ o' = r.base b + o := hor.elim .inr fun q => .inl q.1
              have hcell : ∀ (j : Nat) x, l[j]? = some x → w.cell? ⟨r.to b, o' + j, none⟩ = some (.string x) := by
                intro j x hj
                have hjl : j < n := by rw [← hln]; exact (List.getElem?_eq_some_iff.1 hj).1
                have ho : o' = r.base b + o := hz.resolve_left (by omega)
                have h6 : ((l'.drop o).take n)[j]? = some (.string x) := by rw [hl4, List.getElem?_map, hj]; rfl
                rw [List.getElem?_take, if_pos hjl, List.getElem?_drop] at h6
                have := k3 _ _ h6
                simp only [World.cell?, k1]
                rw [ho, Nat.add_assoc]; exact this
              rw [joinB_eq] at hle
              obtain ⟨w', hb', kc⟩ := callAt_of_calls fc cs (he _ w) (H (r.to b) o' c' l sep w hcell (Array.getElem?_eq_some_iff.1 k1).1 (by omega) (by omega) (by simpa using hle))
              rw [hln] at kc
              have hs := sim_grew (sim_log (P := P) hr (S' := { heap := S.heap, next := S.next, log := (b, false) :: S.log }) (D := [(b, false)]) rfl rfl rfl).rel (grew_of_below hb')
              have hs2 := (sim_log (P := P) hr (S' := { heap := S.heap, next := S.next, log := (b, false) :: S.log }) (D := [(b, false)]) rfl rfl rfl).trans (S2 := { heap := S.heap, next := S.next, log := (b, false) :: S.log }) hfr hr hs
              rw [joinB_eq]
              exact ⟨_, r, w', _, hs2, .string _, kc⟩
            split at h5
            · rename_i ext str cells
              split at h5
              · rename_i hl5
                obtain ⟨h6, rfl⟩ := M.pure_some.1 h5
                obtain ⟨_, rc, el, lo, hi, l', k1, _, _, k4, k5, _, _⟩ := cells_at hr h4
                exact key k1 k4 k5 h6 hl5 hfr
              · exact (M.fail_some.1 h5).elim
            · rename_i cells
              split at h5
              · rename_i hl5
                obtain ⟨h6, rfl⟩ := M.pure_some.1 h5
                obtain ⟨_, rc, el, fz, l', k1, _, k4, k5⟩ := ro_at hr h4
                exact key k1 k4 k5 h6 hl5 hfr
              · exact (M.fail_some.1 h5).elim
            · exact (M.fail_some.1 h5).elim
end Go.Wb
