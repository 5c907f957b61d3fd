/- The engine, part C2: memory. -/
import Derived.Test.YtmepokefmpcnnaaEngC1
namespace Go.Wb
variable {P : Program} {r : Ren} {S : St} {w : World}

theorem add_none (b o i : Nat) : (⟨b, o, none⟩ : Addr).add i = ⟨b, o + i, none⟩ := by
  unfold Addr.add
  split
  · rename_i h; subst h; rfl
  · rfl

theorem cell_of {b o : Nat} {rc : Array Value} {el : TypeId} {fz : Nat × Nat} (h : w.heap[b]? = some (.cells rc el fz)) : w.cell? ⟨b, o, none⟩ = rc[o]? := by
  unfold World.cell?
  simp [h]

theorem run_ld {b off : Nat} {rc : Array Value} {el : TypeId} {fz : Nat × Nat} (h : w.heap[b]? = some (.cells rc el fz)) (l : List Value)
    (hl : ∀ i v, l[i]? = some v → rc[off + i]? = some v) : (loadCells ⟨b, off, none⟩ l.length).run P w = .ok l.toArray w :=
  run_loadCells_list w _ l fun j v hv => by rw [add_none, cell_of h]; exact hl j v hv

/-- w' is w but for one block -/
structure Upd (w w' : World) (b : Nat) (o : Obj) : Prop where
  size : w'.heap.size = w.heap.size
  here : w'.heap[b]? = some o
  there : ∀ k, k ≠ b → w'.heap[k]? = w.heap[k]?
  os : w'.os = w.os
  tape : w'.tape = w.tape
  output : w'.output = w.output

/-- w' is w with one block more -/
structure New (w w' : World) (o : Obj) : Prop where
  heap : w'.heap = w.heap.push o
  os : w'.os = w.os
  tape : w'.tape = w.tape
  output : w'.output = w.output
theorem New.here {w w' : World} {o : Obj} (h : New w w' o) : w'.heap[w.heap.size]? = some o := by rw [h.heap]; simp
theorem New.there {w w' : World} {o : Obj} (h : New w w' o) {k : Nat} (hk : k < w.heap.size) : w'.heap[k]? = w.heap[k]? := by rw [h.heap, Array.getElem?_push, if_neg (by omega)]
theorem New.size {w w' : World} {o : Obj} (h : New w w' o) : w'.heap.size = w.heap.size + 1 := by rw [h.heap]; simp

theorem setCell_upd {b o : Nat} {rc : Array Value} {el : TypeId} {fz : Nat × Nat} (h : w.heap[b]? = some (.cells rc el fz)) (v : Value) :
    Upd w (w.setCell ⟨b, o, none⟩ v) b (.cells (rc.setIfInBounds o v) el fz) where
  size := by simp
  here := by
    have hb : b < w.heap.size := (Array.getElem?_eq_some_iff.1 h).1
    simp only [World.setCell, Array.getElem?_modify, if_true, h]
    simp
  there := fun k hk => by
    simp only [World.setCell, Array.getElem?_modify]
    rw [if_neg (fun c => hk c.symm)]
  os := rfl
  tape := rfl
  output := rfl

theorem Upd.trans {w w1 w2 : World} {b : Nat} {o1 o2 : Obj} (h : Upd w w1 b o1) (k : Upd w1 w2 b o2) : Upd w w2 b o2 where
  size := k.size.trans h.size
  here := k.here
  there := fun x hx => (k.there x hx).trans (h.there x hx)
  os := k.os.trans h.os
  tape := k.tape.trans h.tape
  output := k.output.trans h.output

def setArr (rc : Array Value) (i : Nat) : List Value → Array Value
  | [] => rc
  | v :: vs => setArr (rc.setIfInBounds i v) (i + 1) vs
theorem setArr_size (vs : List Value) : ∀ (rc : Array Value) (i : Nat), (setArr rc i vs).size = rc.size := by
  induction vs with
  | nil => intro rc i; rfl
  | cons v vs ih => intro rc i; simp [setArr, ih]

theorem run_st {b : Nat} {el : TypeId} {lo hi : Nat} (vs : List Value) : ∀ (i : Nat) (off : Nat) (rc : Array Value) (w : World),
    w.heap[b]? = some (.cells rc el (lo, hi)) → (∀ j, j < vs.length → off + i + j < rc.size) → (lo = hi ∨ rc.size ≤ lo) → vs.all (·.oneCell') = true →
    ∃ w', (storeCells ⟨b, off, none⟩ vs i).run P w = .ok () w' ∧ Upd w w' b (.cells (setArr rc (off + i) vs) el (lo, hi)) := by
  induction vs with
  | nil => intro i off rc w h _ _ _; exact ⟨w, rfl, rfl, h, fun _ _ => rfl, rfl, rfl, rfl⟩
  | cons v vs ih =>
    intro i off rc w h hs hf ho
    simp only [List.all_cons, Bool.and_eq_true] at ho
    have hs0 : off + i < rc.size := by have := hs 0 (by simp); omega
    have hc : w.cell? ⟨b, off + i, none⟩ = rc[off + i]? := cell_of h
    have hc' : rc[off + i]? = some rc[off + i] := by simp
    have hfz : w.frozen? ⟨b, off + i, none⟩ = false := by
      unfold World.frozen?
      simp only [h]
      rcases hf with hf | hf
      · subst hf; simp
      · simp; omega
    have hst := run_store P w ⟨b, off + i, none⟩ v .plain ho.1
    rw [hc, hc'] at hst
    simp only [hfz] at hst
    have hu := setCell_upd (o := off + i) h v
    obtain ⟨w2, h2, u2⟩ := ih (i + 1) off (rc.setIfInBounds (off + i) v) (w.setCell ⟨b, off + i, none⟩ v) hu.here (fun j hj => by have := hs (j + 1) (by simp; omega); simp; omega) (by simpa using hf) ho.2
    refine ⟨w2, ?_, ?_⟩
    · simp only [storeCells, Sem.run_bind, add_none, hst]
      simpa using h2
    · exact hu.trans u2

/-- the cells behind a store, both sides -/
theorem setAll_rel {base : Nat} : ∀ (vs vs' : List Value) (c : List Value) (off : Nat) (rc : Array Value), LRel r vs vs' → off + vs.length ≤ c.length →
    (∃ l, LRel r c l ∧ ∀ i v, l[i]? = some v → rc[base + i]? = some v) → (∃ l, LRel r (setAll c off vs) l ∧ ∀ i v, l[i]? = some v → (setArr rc (base + off) vs')[base + i]? = some v)
  | [], [], c, off, rc, _, _, h => h
  | v :: vs, v' :: vs', c, off, rc, hv, hl, ⟨l, h1, h2⟩ => by
    cases hv with
    | cons ha hb =>
      simp only [List.length_cons] at hl
      refine setAll_rel vs vs' (c.set off v) (off + 1) (rc.setIfInBounds (base + off) v') hb (by simp; omega) ⟨l.set off v', h1.set off ha, ?_⟩
      intro i x hx
      rw [List.getElem?_set] at hx
      have hlen := h1.length
      split at hx
      · rename_i e
        subst e
        split at hx
        · rename_i hlt
          have hb2 : rc[base + off]? = some l[off] := h2 off _ (by simp [hlt])
          have : base + off < rc.size := (Array.getElem?_eq_some_iff.1 hb2).1
          simp [this]
          simpa using hx
        · simp at hx
      · rw [Array.getElem?_setIfInBounds, if_neg (by omega)]
        exact h2 i x hx
  | [], _ :: _, _, _, _, h, _, _ => by cases h
  | _ :: _, [], _, _, _, h, _, _ => by cases h

theorem setAll_length : ∀ (vs c : List Value) (off : Nat), (setAll c off vs).length = c.length
  | [], _, _ => rfl
  | _ :: vs, c, off => by simp [setAll, setAll_length vs]

/-! ### Sim for one block that is written, one that is made -/
theorem Live.intro {id : Nat} {b : Blk} (h : S.heap.get id = some b) : Live r S (r.to id) := ⟨id, b, h, rfl⟩

theorem sim_log (h : Rel P r S w) {S' : St} {D : List (Nat × Bool)} (hh : S'.heap = S.heap) (hn : S'.next = S.next) (hl : S'.log = D ++ S.log) : Sim P D r S w r S' w where
  le := .refl r
  rel := ⟨fun id b hb => h.at_ id b (by rw [← hh]; exact hb), fun i j bi bj hi hj => h.inj' i j bi bj (by rw [← hh]; exact hi) (by rw [← hh]; exact hj)⟩
  log := hl
  next := by omega
  dom := fun id => ⟨fun h => .inl h, fun h => h.elim (fun h => h) fun ⟨a, b⟩ => by omega⟩
  size := Nat.le_refl _
  os := rfl
  tape := rfl
  output := rfl
  frame := fun _ _ _ => rfl
  kept := fun _ _ _ _ => rfl
  same := fun _ _ _ => by rw [hh]
  live := fun k _ ⟨id, b, hb, e⟩ => ⟨id, b, by rw [← hh]; exact hb, e⟩

/-- as sim_log, where the world has but drawn -/
structure Drew (w w' : World) : Prop where
  heap : w'.heap = w.heap
  os : w'.os = w.os
  tape : w'.tape = w.tape
  output : w'.output = w.output
theorem Drew.refl (w : World) : Drew w w := ⟨rfl, rfl, rfl, rfl⟩

theorem sim_drew (h : Rel P r S w) {w' : World} (k : Drew w w') : Sim P [] r S w r S w' where
  le := .refl r
  rel := ⟨fun id b hb => by rw [k.heap]; exact h.at_ id b hb, h.inj'⟩
  log := rfl
  next := Nat.le_refl _
  dom := fun id => ⟨fun h => .inl h, fun h => h.elim (fun h => h) fun ⟨a, b⟩ => by omega⟩
  size := by rw [k.heap]; exact Nat.le_refl _
  os := k.os
  tape := k.tape
  output := k.output
  frame := fun _ _ _ => by rw [k.heap]
  kept := fun _ _ _ _ => by rw [k.heap]
  same := fun _ _ _ => rfl
  live := fun _ _ h => h

theorem sim_upd (h : Rel P r S w) {S' : St} {D : List (Nat × Bool)} {id : Nat} {b b' : Blk} {w' : World} {o : Obj} (hb : S.heap.get id = some b)
    (hh : S'.heap = S.heap.set id (some b')) (hn : S'.next = S.next) (hl : S'.log = D ++ S.log) (hD : (id, true) ∈ D) (hu : Upd w w' (r.to id) o) (ho : BRel P r id b' o) (hro : b.isRo = false := by first | rfl | assumption) :
    Sim P D r S w r S' w' where
  le := .refl r
  rel := by
    constructor
    · intro i x hx
      rw [hh, Tr.get_set] at hx
      by_cases e : i = id
      · subst e
        rw [if_pos rfl] at hx
        obtain rfl : b' = x := by simpa using hx
        exact ⟨(h.at_ i b hb).1, o, hu.here, ho⟩
      · rw [if_neg e] at hx
        obtain ⟨h1, o1, h2, h3⟩ := h.at_ i x hx
        exact ⟨h1, o1, by rw [hu.there _ (fun c => e (h.inj _ _ _ _ hx hb c (.inr hro)))]; exact h2, h3⟩
    · intro i j bi bj hi hj hx
      rw [hh, Tr.get_set] at hi hj
      have A : ∀ k bk, (if k = id then some b' else S.heap.get k) = some bk → ∃ y, S.heap.get k = some y ∧ (bk.isRo = false → y.isRo = false) := by
        intro k bk hk
        by_cases e : k = id
        · subst e; exact ⟨b, hb, fun _ => hro⟩
        · rw [if_neg e] at hk; exact ⟨bk, hk, fun h => h⟩
      obtain ⟨y, hy, hy'⟩ := A i bi hi
      obtain ⟨z, hz, hz'⟩ := A j bj hj
      exact h.inj' i j y z hy hz (hx.imp hy' hz')
  log := hl
  next := by omega
  dom := fun i => ⟨fun h => .inl h, fun h => h.elim (fun h => h) fun ⟨a, b⟩ => by omega⟩
  size := by rw [hu.size]; exact Nat.le_refl _
  os := hu.os
  tape := hu.tape
  output := hu.output
  frame := fun k _ hk => hu.there k fun c => hk (c ▸ Live.intro hb)
  kept := fun i x hx hi => hu.there _ fun c => hi (by rw [h.inj _ _ _ _ hx hb c (.inr hro)]; exact hD)
  same := fun i hi _ => by rw [hh, Tr.get_set, if_neg (fun c : i = id => hi (c ▸ hD))]
  live := fun k _ ⟨i, x, hx, e⟩ => by
    rw [hh, Tr.get_set] at hx
    by_cases c : i = id
    · subst c; exact ⟨i, b, hb, e⟩
    · rw [if_neg c] at hx; exact ⟨i, x, hx, e⟩

/-- one abstract block more: from where it lies -/
def Ren.add (r : Ren) (id to base size : Nat) (ext : Option Nat) : Ren where
  dom := fun b => r.dom b ∨ b = id
  to := fun b => if b = id then to else r.to b
  base := fun b => if b = id then base else r.base b
  size := fun b => if b = id then size else r.size b
  ext := fun b => if b = id then ext else r.ext b
theorem Ren.le_add {r : Ren} {id to base size : Nat} {ext : Option Nat} (h : ¬ r.dom id) : r.le (r.add id to base size ext) where
  dom := fun _ h => .inl h
  to := fun b hb => if_neg fun e : b = id => h (e ▸ hb)
  base := fun b hb => if_neg fun e : b = id => h (e ▸ hb)
  size := fun b hb => if_neg fun e : b = id => h (e ▸ hb)
  ext := fun b hb => if_neg fun e : b = id => h (e ▸ hb)
theorem Ren.add_dom (r : Ren) (id to base size : Nat) (ext : Option Nat) : (r.add id to base size ext).dom id := .inr rfl
theorem Ren.add_to (r : Ren) (id to base size : Nat) (ext : Option Nat) : (r.add id to base size ext).to id = to := if_pos rfl
theorem Ren.add_base (r : Ren) (id to base size : Nat) (ext : Option Nat) : (r.add id to base size ext).base id = base := if_pos rfl
theorem Ren.add_size (r : Ren) (id to base size : Nat) (ext : Option Nat) : (r.add id to base size ext).size id = size := if_pos rfl
theorem Ren.add_ext (r : Ren) (id to base size : Nat) (ext : Option Nat) : (r.add id to base size ext).ext id = ext := if_pos rfl

theorem sim_new (h : Rel P r S w) {S' : St} {D : List (Nat × Bool)} {b : Blk} {w' : World} {o : Obj} {base size : Nat} {ext : Option Nat} (hd : ¬ r.dom S.next)
    (hh : S'.heap = S.heap.set S.next (some b)) (hn : S'.next = S.next + 1) (hl : S'.log = D ++ S.log) (hu : New w w' o)
    (ho : BRel P (r.add S.next w.heap.size base size ext) S.next b o) : Sim P D r S w (r.add S.next w.heap.size base size ext) S' w' where
  le := Ren.le_add hd
  rel := by
    have hle : r.le (r.add S.next w.heap.size base size ext) := Ren.le_add hd
    have A : ∀ i x, S'.heap.get i = some x → (i = S.next ∧ x = b) ∨ (i ≠ S.next ∧ S.heap.get i = some x) := by
      intro i x hx
      rw [hh, Tr.get_set] at hx
      by_cases e : i = S.next
      · rw [if_pos e] at hx; exact .inl ⟨e, by simpa using hx.symm⟩
      · rw [if_neg e] at hx; exact .inr ⟨e, hx⟩
    have B : ∀ i x, S.heap.get i = some x → (r.add S.next w.heap.size base size ext).to i = r.to i ∧ r.to i < w.heap.size := by
      intro i x hx
      obtain ⟨h1, o1, h2, _⟩ := h.at_ i x hx
      exact ⟨hle.to _ h1, (Array.getElem?_eq_some_iff.1 h2).1⟩
    constructor
    · intro i x hx
      rcases A i x hx with ⟨rfl, rfl⟩ | ⟨e, hx⟩
      · exact ⟨Ren.add_dom .., o, by rw [Ren.add_to]; exact hu.here, ho⟩
      · obtain ⟨h1, o1, h2, h3⟩ := h.at_ i x hx
        exact ⟨hle.dom _ h1, o1, by rw [(B i x hx).1, hu.there (B i x hx).2]; exact h2, h3.mono hle h1⟩
    · intro i j bi bj hi hj hx e
      rcases A i bi hi with ⟨rfl, rfl⟩ | ⟨ei, hi⟩ <;> rcases A j bj hj with ⟨rfl, rfl⟩ | ⟨ej, hj⟩
      · rfl
      · have := B j bj hj
        rw [Ren.add_to, this.1] at e; omega
      · have := B i bi hi
        rw [Ren.add_to, this.1] at e; omega
      · rw [(B i bi hi).1, (B j bj hj).1] at e
        exact h.inj i j bi bj hi hj e hx
  log := hl
  next := by omega
  dom := fun i => ⟨fun c => c.elim .inl fun e => .inr (by omega), fun c => c.elim .inl fun ⟨a, b⟩ => .inr (by omega)⟩
  size := by rw [hu.size]; omega
  os := hu.os
  tape := hu.tape
  output := hu.output
  frame := fun k hk _ => hu.there hk
  kept := fun i x hx _ => by
    obtain ⟨_, o1, h2, _⟩ := h.at_ i x hx
    exact hu.there (Array.getElem?_eq_some_iff.1 h2).1
  same := fun i _ hi => by rw [hh, Tr.get_set, if_neg (by omega)]
  live := fun k hk ⟨i, x, hx, e⟩ => by
    rw [hh, Tr.get_set] at hx
    by_cases c : i = S.next
    · subst c; rw [Ren.add_to] at e; omega
    · rw [if_neg c] at hx
      have hd1 := (h.at_ i x hx).1
      exact ⟨i, x, hx, by rw [← (Ren.le_add (to := w.heap.size) (base := base) (size := size) (ext := ext) hd).to _ hd1]; exact e⟩

/-- one block is killed, another one lies where it lay -/
theorem sim_move (h : Rel P r S w) {S' : St} {D : List (Nat × Bool)} {id : Nat} {b0 b : Blk} {w' : World} {o : Obj} {base size : Nat} {ext : Option Nat} (hd : ¬ r.dom S.next)
    (hb : S.heap.get id = some b0) (hh : S'.heap = (S.heap.set id none).set S.next (some b)) (hn : S'.next = S.next + 1) (hl : S'.log = D ++ S.log) (hD : (id, true) ∈ D)
    (hu : Upd w w' (r.to id) o) (ho : BRel P (r.add S.next (r.to id) base size ext) S.next b o) (hro : b0.isRo = false := by first | rfl | assumption) : Sim P D r S w (r.add S.next (r.to id) base size ext) S' w' where
  le := Ren.le_add hd
  rel := by
    have hle : r.le (r.add S.next (r.to id) base size ext) := Ren.le_add hd
    have A : ∀ i x, S'.heap.get i = some x → (i = S.next ∧ x = b) ∨ (i ≠ S.next ∧ i ≠ id ∧ S.heap.get i = some x) := by
      intro i x hx
      rw [hh, Tr.get_set, Tr.get_set] at hx
      by_cases e : i = S.next
      · rw [if_pos e] at hx; exact .inl ⟨e, by simpa using hx.symm⟩
      · rw [if_neg e] at hx
        by_cases e2 : i = id
        · rw [if_pos e2] at hx; simp at hx
        · rw [if_neg e2] at hx; exact .inr ⟨e, e2, hx⟩
    have B : ∀ i x, S.heap.get i = some x → (r.add S.next (r.to id) base size ext).to i = r.to i := by
      intro i x hx
      obtain ⟨h1, o1, h2, _⟩ := h.at_ i x hx
      exact hle.to _ h1
    constructor
    · intro i x hx
      rcases A i x hx with ⟨rfl, rfl⟩ | ⟨e, e2, hx⟩
      · exact ⟨Ren.add_dom .., o, by rw [Ren.add_to]; exact hu.here, ho⟩
      · obtain ⟨h1, o1, h2, h3⟩ := h.at_ i x hx
        exact ⟨hle.dom _ h1, o1, by rw [B i x hx, hu.there _ (fun c => e2 (h.inj _ _ _ _ hx hb c (.inr hro)))]; exact h2, h3.mono hle h1⟩
    · intro i j bi bj hi hj hx e
      rcases A i bi hi with ⟨rfl, rfl⟩ | ⟨ei, ei2, hi⟩ <;> rcases A j bj hj with ⟨rfl, rfl⟩ | ⟨ej, ej2, hj⟩
      · rfl
      · rw [Ren.add_to, B j bj hj] at e
        exact absurd (h.inj _ _ _ _ hb hj e (.inl hro)).symm ej2
      · rw [Ren.add_to, B i bi hi] at e
        exact absurd (h.inj _ _ _ _ hi hb e (.inr hro)) ei2
      · rw [B i bi hi, B j bj hj] at e
        exact h.inj i j bi bj hi hj e hx
  log := hl
  next := by omega
  dom := fun i => ⟨fun c => c.elim .inl fun e => .inr (by omega), fun c => c.elim .inl fun ⟨a, b⟩ => .inr (by omega)⟩
  size := by rw [hu.size]; exact Nat.le_refl _
  os := hu.os
  tape := hu.tape
  output := hu.output
  frame := fun k _ hk => hu.there k fun c => hk (c ▸ Live.intro hb)
  kept := fun i x hx hi => hu.there _ fun c => hi (by rw [h.inj _ _ _ _ hx hb c (.inr hro)]; exact hD)
  same := fun i hi hx => by
    rw [hh, Tr.get_set, Tr.get_set, if_neg (by omega), if_neg (fun c : i = id => hi (c ▸ hD))]
  live := fun k hk ⟨i, x, hx, e⟩ => by
    rw [hh, Tr.get_set, Tr.get_set] at hx
    by_cases c : i = S.next
    · subst c; rw [Ren.add_to] at e; exact ⟨id, b0, hb, e⟩
    · rw [if_neg c] at hx
      by_cases c2 : i = id
      · rw [if_pos c2] at hx; simp at hx
      · rw [if_neg c2] at hx
        have hd1 := (h.at_ i x hx).1
        exact ⟨i, x, hx, by rw [← (Ren.le_add (to := r.to id) (base := base) (size := size) (ext := ext) hd).to _ hd1]; exact e⟩
end Go.Wb
