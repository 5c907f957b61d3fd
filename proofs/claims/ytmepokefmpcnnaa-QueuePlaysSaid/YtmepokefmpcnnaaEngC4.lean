/- The engine, part C4: operations on memory. -/
import Derived.Test.YtmepokefmpcnnaaEngC3
namespace Go.Wb
variable {P : Program} {r : Ren} {S S' : St} {w : World}

theorem VRel.agg_inv {a : Array Value} {v' : Value} (h : VRel r (.agg a) v') : ∃ a', v' = .agg a' ∧ LRel r a.toList a'.toList := by
  cases h
  exact ⟨_, rfl, LRel.of ‹_› ‹_›⟩
theorem VRel.tuple_inv {a : Array Value} {v' : Value} (h : VRel r (.tuple a) v') : ∃ a', v' = .tuple a' ∧ LRel r a.toList a'.toList := by
  cases h
  exact ⟨_, rfl, LRel.of ‹_› ‹_›⟩
theorem VRel.ptr_inv {p : Addr} {v' : Value} (h : VRel r (.pointer (some p)) v') : p.spot = none ∧ r.dom p.block ∧ v' = .pointer (some ⟨r.to p.block, r.base p.block + p.off, none⟩) := by
  cases h
  exact ⟨rfl, ‹_›, rfl⟩
theorem VRel.slcNil_inv {n c : Nat} {v' : Value} (h : VRel r (.slice none n c) v') : n = 0 ∧ c = 0 ∧ v' = .slice none 0 0 := by
  cases h
  exact ⟨rfl, rfl, rfl⟩
/-- a slice that is not nil, both sides: its length is the same; where it has a place at all, the first cells are the same -/
theorem VRel.slc_inv {p : Addr} {n c : Nat} {v' : Value} (h : VRel r (.slice (some p) n c) v') : p.spot = none ∧ r.dom p.block ∧ ∃ o' c', v' = .slice (some ⟨r.to p.block, o', none⟩) n c' ∧ c ≤ c' ∧
    (r.ext p.block = none → c' = c ∧ o' = r.base p.block + p.off) ∧ (∀ z, r.ext p.block = some z → o' + c' * z ≤ r.size p.block ∧ r.base p.block ≤ o') ∧ (o' = r.base p.block + p.off ∨ (n = 0 ∧ c = 0)) := by
  cases h with
  | slc hd h1 h2 h3 => exact ⟨rfl, hd, _, _, rfl, h2, fun e => ⟨h1 e, rfl⟩, fun z hz => ⟨h3 z hz, by simp⟩, .inl rfl⟩
  | slc0 hd h1 h2 h3 => exact ⟨rfl, hd, _, _, rfl, Nat.zero_le _, fun e => (by rw [h1] at e; cases e), fun z hz => (by rw [h1] at hz; cases hz; exact ⟨h3, h2⟩), .inr ⟨rfl, rfl⟩⟩

theorem cells_at (hr : Rel P r S w) {b : Nat} {ext : Option Nat} {str : Bool} {c : List Value} (h : S.heap.get b = some (.cells ext str c)) :
    r.dom b ∧ ∃ rc el lo hi l', w.heap[r.to b]? = some (.cells rc el (lo, hi)) ∧ r.ext b = ext ∧ (ext ≠ none → rc.size = r.size b) ∧ LRel r c l' ∧ (∀ i v, l'[i]? = some v → rc[r.base b + i]? = some v) ∧
      (lo = hi ∨ rc.size ≤ lo) ∧ (str = false → lo = hi) := by
  obtain ⟨h1, o, h2, h3⟩ := hr.at_ b _ h
  cases o <;> try exact h3.elim
  rename_i rc el fz
  obtain ⟨lo, hi⟩ := fz
  obtain ⟨k1, k2, ⟨l', k3, k4⟩, k5, k6⟩ := h3
  exact ⟨h1, rc, el, lo, hi, l', h2, k1, k2, k3, k4, k5, k6⟩

theorem ro_at {b : Nat} {c : List Value} (hr : Rel P r S w) (h : S.heap.get b = some (.ro c)) :
    ∃ (_ : r.dom b) (rc : Array Value) (el : TypeId) (fz : Nat × Nat) (l' : List Value), w.heap[r.to b]? = some (.cells rc el fz) ∧ r.ext b = none ∧ LRel r c l' ∧ ∀ i v, l'[i]? = some v → rc[r.base b + i]? = some v := by
  obtain ⟨hd, o, h1, h2⟩ := hr.at_ b _ h
  cases o <;> try exact h2.elim
  rename_i rc el fz
  obtain ⟨h3, l', h4, h5⟩ := h2
  exact ⟨hd, rc, el, fz, l', h1, h3, h4, h5⟩
theorem ldCells_ok {b off n : Nat} {l : List Value} (h : ldCells b off n S = some (l, S')) (hr : Rel P r S w) :
    ∃ l', LRel r l l' ∧ l'.length = n ∧ (∀ w0 : World, w0.heap = w.heap → (loadCells ⟨r.to b, r.base b + off, none⟩ n).run P w0 = .ok l'.toArray w0) ∧ S'.next = S.next ∧ Sim P [(b, false)] r S w r S' w := by
  simp only [ldCells, M.bind_some, rd_some] at h
  obtain ⟨o, S1, ⟨h1, rfl⟩, h2⟩ := h
  split at h2
  · rename_i ext str c
    split at h2
    · rename_i hl
      obtain ⟨rfl, rfl⟩ := M.pure_some.1 h2
      obtain ⟨hd, rc, el, lo, hi, l', k1, k2, k3, k4, k5, k6, k7⟩ := cells_at hr h1
      have hlen := k4.length
      have hln : ((l'.drop off).take n).length = n := by simp; omega
      refine ⟨(l'.drop off).take n, (k4.drop off).take n, hln, fun w0 hw0 => ?_, rfl, sim_log hr rfl rfl rfl⟩
      have := run_ld (P := P) (w := w0) (off := r.base b + off) (by rw [hw0]; exact k1) ((l'.drop off).take n) fun i v hv => by
        rw [List.getElem?_take] at hv
        split at hv
        · rw [List.getElem?_drop] at hv
          have := k5 _ _ hv
          rw [Nat.add_assoc]; exact this
        · simp at hv
      rw [hln] at this
      exact this
    · exact (M.fail_some.1 h2).elim
  · rename_i c
    split at h2
    · rename_i hl
      obtain ⟨rfl, rfl⟩ := M.pure_some.1 h2
      obtain ⟨hd, rc, el, fz, l', k1, k2, k4, k5⟩ := ro_at hr h1
      have hlen := k4.length
      have hln : ((l'.drop off).take n).length = n := by simp; omega
      refine ⟨(l'.drop off).take n, (k4.drop off).take n, hln, fun w0 hw0 => ?_, rfl, sim_log hr rfl rfl rfl⟩
      have := run_ld (P := P) (w := w0) (off := r.base b + off) (by rw [hw0]; exact k1) ((l'.drop off).take n) fun i v hv => by
        rw [List.getElem?_take] at hv
        split at hv
        · rw [List.getElem?_drop] at hv
          have := k5 _ _ hv
          rw [Nat.add_assoc]; exact this
        · simp at hv
      rw [hln] at this
      exact this
    · exact (M.fail_some.1 h2).elim
  · exact (M.fail_some.1 h2).elim

theorem ld1_ok {b off : Nat} {v : Value} (h : ld1 b off S = some (v, S')) (hr : Rel P r S w) :
    ∃ v', VRel r v v' ∧ (load ⟨r.to b, r.base b + off, none⟩).run P w = .ok v' w ∧ Sim P [(b, false)] r S w r S' w := by
  simp only [ld1, M.bind_some, rd_some] at h
  obtain ⟨o, S1, ⟨h1, rfl⟩, h2⟩ := h
  split at h2
  · rename_i ext str c
    obtain ⟨hv, rfl⟩ := M.lift_some.1 h2
    obtain ⟨hd, rc, el, lo, hi, l', k1, k2, k3, k4, k5, k6, k7⟩ := cells_at hr h1
    obtain ⟨v', hv', hvr⟩ := k4.get hv
    have hc : w.cell? ⟨r.to b, r.base b + off, none⟩ = some v' := by rw [cell_of k1]; exact k5 _ _ hv'
    exact ⟨v', hvr, by simp [hc], sim_log hr rfl rfl rfl⟩
  · rename_i c
    obtain ⟨hv, rfl⟩ := M.lift_some.1 h2
    obtain ⟨hd, rc, el, fz, l', k1, k2, k4, k5⟩ := ro_at hr h1
    obtain ⟨v', hv', hvr⟩ := k4.get hv
    have hc : w.cell? ⟨r.to b, r.base b + off, none⟩ = some v' := by rw [cell_of k1]; exact k5 _ _ hv'
    exact ⟨v', hvr, by simp [hc], sim_log hr rfl rfl rfl⟩
  · exact (M.fail_some.1 h2).elim

theorem oneCell_rel {v v' : Value} (h : VRel r v v') : v.oneCell' = v'.oneCell' := by cases h <;> rfl
theorem all_oneCell {l l' : List Value} (h : LRel r l l') : l.all (·.oneCell') = l'.all (·.oneCell') := by
  induction h with
  | nil => rfl
  | cons hv _ ih => simp only [List.all_cons, ih, oneCell_rel hv]

theorem stCells_ok {b off : Nat} {vs vs' : List Value} {u : Unit} (h : stCells b off vs S = some (u, S')) (hr : Rel P r S w) (hv : LRel r vs vs') :
    ∃ w', (storeCells ⟨r.to b, r.base b + off, none⟩ vs').run P w = .ok () w' ∧ Sim P [(b, true), (b, false)] r S w r S' w' := by
  simp only [stCells, M.bind_some, rd_some] at h
  obtain ⟨o, S1, ⟨h1, rfl⟩, h2⟩ := h
  split at h2
  · rename_i ext str c
    split at h2
    · rename_i hl
      obtain ⟨hl, ho⟩ := hl
      have h2 := wr_some.1 h2
      rw [splice_eq off c vs hl] at h2
      subst h2
      obtain ⟨hd, rc, el, lo, hi, l', k1, k2, k3, k4, k5, k6, k7⟩ := cells_at hr h1
      have hlen := k4.length
      have hvl := hv.length
      have hb : ∀ j, j < vs'.length → r.base b + off + 0 + j < rc.size := fun j hj => by
        have hx : l'[off + j]? = some l'[off + j] := by simp
        have := (Array.getElem?_eq_some_iff.1 (k5 _ _ hx)).1
        omega
      obtain ⟨w', hw, hu⟩ := run_st (P := P) vs' 0 (r.base b + off) rc w k1 hb k6 (by rw [← all_oneCell hv]; exact ho)
      refine ⟨w', hw, sim_upd hr h1 rfl rfl (D := [(b, true), (b, false)]) rfl (by simp) hu ?_⟩
      refine ⟨k2, fun e => by rw [setArr_size]; exact k3 e, ?_, by rw [setArr_size]; exact k6, k7⟩
      exact setAll_rel vs vs' c off rc hv hl ⟨l', k4, k5⟩
    · exact (M.fail_some.1 h2).elim
  · exact (M.fail_some.1 h2).elim

/-! ### parts laid over cells -/
theorem foldl_setArr (l : List Value) : ∀ (i k : Nat) (cs : Array Value), (l.zipIdx k).foldl (fun cs (c, j) => cs.setIfInBounds (i + j) c) cs = setArr cs (i + k) l := by
  induction l with
  | nil => intro i k cs; rfl
  | cons a l ih => intro i k cs; simp only [List.zipIdx_cons, List.foldl_cons, setArr]; rw [ih]; rfl
theorem foldl_setArr' (v : Value) (off : Nat) (cs : Array Value) : v.cells.zipIdx.foldl (fun cs (c, j) => cs.setIfInBounds (off + j) c) cs = setArr cs off v.cells.toList := by
  rw [← Array.foldl_toList]
  have : v.cells.zipIdx.toList = v.cells.toList.zipIdx := by simp
  rw [this]
  exact foldl_setArr _ _ 0 _
theorem setArr_rel : ∀ (vs vs' : List Value) (c : List Value) (off : Nat) (c' : Array Value), LRel r vs vs' → LRel r c c'.toList → LRel r (setAll c off vs) (setArr c' off vs').toList
  | [], [], c, off, c', _, h => h
  | v :: vs, v' :: vs', c, off, c', hv, h => by
    cases hv with
    | cons ha hb => exact setArr_rel vs vs' _ _ _ hb (by rw [Array.toList_setIfInBounds]; exact h.set off ha)
  | [], _ :: _, _, _, _, h, _ => by cases h
  | _ :: _, [], _, _, _, h, _ => by cases h

theorem fillA_ok {e : Env} {tmps : Array Value} (hE : EnvRel r e tmps) {place : Nat → Option (Nat × Nat)} : ∀ {parts : List (Nat × Operand)} {l : List (Nat × Nat × Atom)} {c c2 : List Value} {c' : Array Value},
    partsS place parts = some l → fillA e l c = some c2 → LRel r c c'.toList →
    ∃ c2', Instr.fill place c' (parts.map fun (i, x) => (i, evT tmps x)) = some c2' ∧ LRel r c2 c2'.toList
  | [], l, c, c2, c', h, k, hc => by
    simp only [partsS, Option.some.injEq] at h; subst h
    simp only [fillA, Option.some.injEq] at k; subst k
    exact ⟨c', rfl, hc⟩
  | (i, x) :: parts, l, c, c2, c', h, k, hc => by
    simp only [partsS] at h
    split at h
    · rename_i o s a m hp ha hm
      simp only [Option.some.injEq] at h; subst h
      simp only [fillA] at k
      split at k
      · rename_i v hv
        split at k
        · rename_i hs
          have hvr := atom_ok ha hv hE
          have hcl : c.length = c'.size := by simpa using hc.length
          have hsz := hvr.cells_size
          obtain ⟨c2', h1, h2⟩ := fillA_ok hE (c' := setArr c' o (evT tmps x).cells.toList) hm k (setArr_rel _ _ _ _ _ hvr.cells hc)
          refine ⟨c2', ?_, h2⟩
          simp only [List.map_cons, Instr.fill, hp]
          rw [if_neg (by simp; omega), foldl_setArr']
          exact h1
        · simp at k
      · simp at k
    · simp at h

theorem run_mapM {α β : Type} {g : α → Sem β} {h : α → β} : ∀ (l : List α), (∀ a ∈ l, (g a).run P w = .ok (h a) w) → (l.mapM g).run P w = .ok (l.map h) w
  | [], _ => by simp
  | a :: l, hl => by
    simp only [List.mapM_cons, Sem.run_bind, hl a (by simp), Result.andThen_ok, run_mapM l (fun b hb => hl b (by simp [hb])), Sem.run_pure, List.map_cons]

theorem part_ok {t : TypeId} {sh : Sh} {cs : List Value} {off : Nat} {v : Value} {cs' : Array Value} (hs : shOf P t = some sh) (h : partOf sh cs off = some v) (hc : LRel r cs cs'.toList) :
    ∃ v', (part t cs' off).run P w = .ok v' w ∧ VRel r v v' := by
  have hi := run_isAgg (w := w) hs
  cases sh with
  | one =>
    simp only [partOf] at h
    obtain ⟨v', h1, h2⟩ := hc.get h
    refine ⟨v', ?_, h2⟩
    have h1' : cs'[off]? = some v' := by simpa using h1
    simp [part, hi.1, h1']
  | agg n =>
    simp only [partOf] at h
    split at h
    · rename_i hl
      simp at h; subst h
      refine ⟨.agg (cs'.extract off (off + n)), ?_, ?_⟩
      · simp [part, hi.1, run_sizeOf (hi.2 n rfl)]
      · have : cs'.extract off (off + n) = ((cs'.toList.drop off).take n).toArray := by
          apply Array.ext'
          rw [Array.toList_extract, List.extract_eq_take_drop]
          simp
        rw [this]
        exact ((hc.drop off).take n).agg
    · simp at h
end Go.Wb
