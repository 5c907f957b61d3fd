/- The engine, part C5: slices, appends. -/
import Derived.Test.YtmepokefmpcnnaaEngC4
namespace Go.Wb
variable {P : Program} {r : Ren} {S S' : St} {w : World}

theorem bnd_ok {e : Env} {tmps : Array Value} (hE : EnvRel r e tmps) {xo : Option Operand} {a : Option Atom} (ha : atomO xo = some a) {d y k : Nat} (h : bnd e a d y = some k) :
    (xo = none ∧ k = d) ∨ (∃ o, xo = some o ∧ k ≤ y ∧ ∀ y' code, y ≤ y' → (Instr.sliceBound (evT tmps o) y' code).run P w = .ok k w) := by
  cases xo with
  | none =>
    simp only [atomO, Option.some.injEq] at ha; subst ha
    simp only [bnd, Option.some.injEq] at h
    exact .inl ⟨rfl, h.symm⟩
  | some o =>
    simp only [atomO, Option.map_eq_some_iff] at ha
    obtain ⟨b, hb, rfl⟩ := ha
    simp only [bnd] at h
    split at h
    · rename_i i hi
      split at h
      · rename_i hle
        simp at h; subst h
        rw [Option.bind_eq_some_iff] at hi
        obtain ⟨v, hv, hvi⟩ := hi
        obtain ⟨kk, rfl⟩ := asInt_inv hvi
        have hx := (atom_ok hb hv hE).int_inv
        refine .inr ⟨o, rfl, by omega, fun y' code hy => ?_⟩
        simp [Instr.sliceBound, hx, asIntOf]
        omega
      · simp at h
    · simp at h

theorem bnds_ok {e : Env} {tmps : Array Value} (hE : EnvRel r e tmps) {lo hi mx : Option Operand} {la ha ma : Option Atom} (h1 : atomO lo = some la) (h2 : atomO hi = some ha) (h3 : atomO mx = some ma)
    (hm : ¬ (mx.isSome && hi.isNone) = true) {len cap cap' : Nat} (hc : cap ≤ cap') {b : Nat × Nat × Nat} (h : bnds e len cap la ha ma = some b) (isS : Bool) :
    ∃ m', (Instr.sliceBounds isS len cap' (lo.map (evT tmps)) (hi.map (evT tmps)) (mx.map (evT tmps))).run P w = .ok (b.1, b.2.1, m') w ∧ b.1 ≤ b.2.1 ∧ b.2.2 ≤ cap ∧
      ((mx = none ∧ b.2.2 = cap ∧ m' = cap') ∨ (m' = b.2.2)) := by
  unfold bnds at h
  split at h
  · simp at h
  rename_i m hm1
  split at h
  · simp at h
  rename_i hh hh1
  split at h
  · simp at h
  rename_i l hl1
  simp at h; subst h
  simp only
  have A3 := bnd_ok (P := P) (w := w) hE h3 hm1
  have A2 := bnd_ok (P := P) (w := w) hE h2 hh1
  have A1 := bnd_ok (P := P) (w := w) hE h1 hl1
  rcases A3 with ⟨rfl, rfl⟩ | ⟨om, rfl, hmle, hmr⟩
  · refine ⟨cap', ?_, ?_, Nat.le_refl _, .inl ⟨rfl, rfl, rfl⟩⟩
    · rcases A2 with ⟨rfl, rfl⟩ | ⟨oh, rfl, _, hhr⟩ <;> rcases A1 with ⟨rfl, rfl⟩ | ⟨ol, rfl, _, hlr⟩ <;> simp [Instr.sliceBounds]
      · simp [hlr _ _ (Nat.le_refl _)]
      · simp [hhr _ _ hc]
      · simp [hhr _ _ hc, hlr _ _ (Nat.le_refl _)]
    · rcases A1 with ⟨_, rfl⟩ | ⟨_, _, h, _⟩ <;> omega
  · refine ⟨m, ?_, ?_, hmle, .inr rfl⟩
    · rcases A2 with ⟨rfl, rfl⟩ | ⟨oh, rfl, _, hhr⟩
      · simp at hm
      · rcases A1 with ⟨rfl, rfl⟩ | ⟨ol, rfl, _, hlr⟩ <;> simp [Instr.sliceBounds, hmr _ _ hc, hhr _ _ (Nat.le_refl _)]
        simp [hlr _ _ (Nat.le_refl _)]
    · rcases A1 with ⟨_, rfl⟩ | ⟨_, _, h, _⟩ <;> omega

theorem sim_kill (h : Rel P r S w) {S' : St} {D : List (Nat × Bool)} {id : Nat} (hh : S'.heap = S.heap.set id none) (hn : S'.next = S.next) (hl : S'.log = D ++ S.log) (hD : (id, true) ∈ D) :
    Sim P D r S w r S' w where
  le := .refl r
  rel := by
    have A : ∀ i x, S'.heap.get i = some x → S.heap.get i = some x := by
      intro i x hx
      rw [hh, Tr.get_set] at hx
      split at hx
      · simp at hx
      · exact hx
    exact ⟨fun i x hx => h.at_ i x (A i x hx), fun i j bi bj hi hj => h.inj' i j bi bj (A _ _ hi) (A _ _ hj)⟩
  log := hl
  next := by omega
  dom := fun i => ⟨fun h => .inl h, fun h => h.elim (fun h => h) fun ⟨a, b⟩ => by omega⟩
  size := Nat.le_refl _
  os := rfl
  tape := rfl
  output := rfl
  frame := fun _ _ _ => rfl
  kept := fun _ _ _ _ => rfl
  same := fun i hi _ => by rw [hh, Tr.get_set, if_neg (fun c : i = id => hi (c ▸ hD))]
  live := fun k _ ⟨i, x, hx, e⟩ => by
    rw [hh, Tr.get_set] at hx
    split at hx
    · simp at hx
    · exact ⟨i, x, hx, e⟩

/-! ### numbers -/
theorem growBy_le (n : Nat) : ∀ (k c : Nat), c < n → 256 ≤ n → Builtin.growBy n k c ≤ 2 * n
  | 0, c, h, _ => by simp [Builtin.growBy]; omega
  | k + 1, c, h, h2 => by
    unfold Builtin.growBy
    rw [if_neg (by omega)]
    by_cases h3 : c + (c + 768) / 4 < n
    · exact growBy_le n k _ h3 h2
    · cases k with
      | zero => simp [Builtin.growBy]; omega
      | succ k => unfold Builtin.growBy; rw [if_pos (by omega)]; omega
theorem nextcap_le (n c : Nat) (h : c < n) : Builtin.nextslicecap n c ≤ 2 * n := by
  unfold Builtin.nextslicecap
  split
  · omega
  · split
    · omega
    · exact growBy_le n 4 c h (by omega)

theorem rep_length (n : Nat) (z : List Value) : (rep n z).length = n * z.length := by
  induction n with
  | zero => simp [rep]
  | succ n ih => simp [rep, ih, Nat.succ_mul, Nat.add_comm]
theorem range_rep (z : Array Value) : ∀ n, (List.range (n * z.size)).map (fun i => z[i % z.size]!) = rep n z.toList := by
  intro n
  induction n with
  | zero => simp [rep]
  | succ n ih =>
    rw [rep, ← ih, Nat.succ_mul, Nat.add_comm, List.range_add]
    simp only [List.map_append, List.map_map]
    congr 1
    · apply List.ext_getElem?
      intro i
      simp only [List.getElem?_map]
      by_cases hi : i < z.size
      · simp [hi, Nat.mod_eq_of_lt hi]
      · simp [hi]
    · apply List.map_congr_left
      intro i _
      simp
theorem zeroCells_rep (z : Array Value) (n : Nat) : (Builtin.zeroCells z n).toList = rep n z.toList := by
  unfold Builtin.zeroCells
  rw [Array.toList_map, Array.toList_range]
  exact range_rep z n
theorem rep_plain {v : Value} (h : plain v = true) (n : Nat) : LRel r (rep n v.cells.toList) (rep n v.cells.toList) := by
  induction n with
  | zero => exact .nil
  | succ n ih => exact (plain_rel h).cells.append ih
theorem wrap64_id {n : Int} (h0 : 0 ≤ n) (h1 : n < 4611686018427387905) : IntKind.i64.wrap n = n := by
  have e : n % (2 ^ 64 : Int) = n := Int.emod_eq_of_lt h0 (by omega)
  simp only [IntKind.wrap, IntKind.bits, IntKind.signed, e]
  rw [if_neg (by simp; omega)]

/-! ### the first elements of a slice or a string -/
theorem VRel.token_inv {v' : Value} (h : VRel r (.chan none) v') : ∃ a, v' = .slice (some a) 0 0 := by cases h with | slcE a => exact ⟨a, rfl⟩
theorem lenOf_ok {x x' : Value} {n : Nat} (h : lenOf x = some n) (hx : VRel r x x') : (Builtin.lenOf x').run P w = .ok n w := by
  cases hx <;> simp [lenOf] at h <;> subst h <;> simp [Builtin.lenOf]
theorem firstN_ok {size n : Nat} {x x' : Value} {l : List Value} (hn : lenOf x = some n ∨ ∃ m, lenOf x = some m ∧ n ≤ m) (h : firstN size n x S = some (l, S')) (hx : VRel r x x') (hr : Rel P r S w) :
    ∃ D l', LRel r l l' ∧ (∀ w0 : World, w0.heap = w.heap → (Builtin.firstCells size n x').run P w0 = .ok l'.toArray w0) ∧ l.length = n * size ∧ S'.next = S.next ∧ Sim P D r S w r S' w := by
  have hn : ∃ m, lenOf x = some m ∧ n ≤ m := by
    rcases hn with h | h
    · exact ⟨n, h, Nat.le_refl _⟩
    · exact h
  obtain ⟨m, hm, hnm⟩ := hn
  unfold firstN at h
  split at h
  · rename_i a n' c
    obtain ⟨hs, hd, o', c', rfl, hcc, hex, hgr, hor⟩ := hx.slc_inv
    obtain ⟨l', h1, h2, h3, hnx, h4⟩ := ldCells_ok h hr
    refine ⟨_, l', h1, fun w0 hw0 => ?_, by rw [h1.length, h2], hnx, h4⟩
    simp only [Builtin.firstCells]
    rcases hor with rfl | ⟨h0, _⟩
    · exact h3 w0 hw0
    · simp only [lenOf, Option.some.injEq] at hm
      have : n = 0 := by omega
      subst this
      simp only [Nat.zero_mul] at h2 ⊢
      cases l' with
      | nil => simp [loadCells, loadCellsFrom]
      | cons _ _ => simp at h2
  · rename_i n' c
    obtain ⟨_, _, rfl⟩ := hx.slcNil_inv
    obtain ⟨rfl, rfl⟩ := M.pure_some.1 h
    simp only [lenOf, Option.some.injEq] at hm
    exact ⟨[], [], .nil, fun w0 _ => by simp [Builtin.firstCells], by (have : n = 0 := by omega); subst this; simp, rfl, Sim.refl hr⟩
  · obtain ⟨a, rfl⟩ := hx.token_inv
    split at h
    case isFalse => exact (M.fail_some.1 h).elim
    rename_i hn0
    subst hn0
    obtain ⟨rfl, rfl⟩ := M.pure_some.1 h
    exact ⟨[], [], .nil, fun w0 _ => by simp [Builtin.firstCells, loadCells, loadCellsFrom], by simp, rfl, Sim.refl hr⟩
  · rename_i s
    obtain rfl := hx.string_inv
    split at h
    case isFalse => exact (M.fail_some.1 h).elim
    rename_i hs1
    obtain ⟨rfl, rfl⟩ := M.pure_some.1 h
    simp only [lenOf, Option.some.injEq] at hm
    refine ⟨[], (s.data.toList.take n).map fun b => (Value.int .u8 b.toNat), ?_, fun w0 _ => ?_, ?_, rfl, Sim.refl hr⟩
    · generalize s.data.toList.take n = q
      induction q with
      | nil => exact .nil
      | cons a q ih => exact .cons (.int _ _) ih
    · simp only [Builtin.firstCells, Sem.run_pure]
      congr 1
      apply Array.ext'
      simp only [Array.toList_map]
      congr 1
      show (s.extract 0 n).data.toList = _
      rw [ByteArray.data_extract, Array.toList_extract, List.extract_eq_take_drop]
      simp
    · have hs : s.data.toList.length = s.size := by simp
      rw [hs1, List.length_map, List.length_take, hs]
      omega
  · exact (M.fail_some.1 h).elim
/-! ### append -/
theorem st_any {b off : Nat} {a' : Addr} {vs vs' : List Value} {u : Unit} (h : stCells b off vs S = some (u, S')) (hr : Rel P r S w) (hv : LRel r vs vs')
    (ha : a' = ⟨r.to b, r.base b + off, none⟩ ∨ vs = []) : ∃ w', (storeCells a' vs').run P w = .ok () w' ∧ Sim P [(b, true), (b, false)] r S w r S' w' := by
  obtain ⟨w', h1, h2⟩ := stCells_ok h hr hv
  rcases ha with rfl | rfl
  · exact ⟨w', h1, h2⟩
  · cases hv
    simp [storeCells] at h1 ⊢
    subst h1
    exact h2

theorem setArr_get : ∀ (vs : List Value) (rc : Array Value) (i j : Nat), i + vs.length ≤ rc.size → (setArr rc i vs)[j]? = if i ≤ j ∧ j < i + vs.length then vs[j - i]? else rc[j]?
  | [], rc, i, j, _ => by simp [setArr]; intro h1 h2; omega
  | v :: vs, rc, i, j, h => by
    simp only [List.length_cons] at h
    simp only [setArr, List.length_cons]
    rw [setArr_get vs _ _ _ (by simp; omega)]
    by_cases e : j = i
    · subst e
      rw [if_neg (by omega), if_pos (by omega)]
      simp [show j < rc.size by omega]
    · by_cases c : i ≤ j ∧ j < i + (vs.length + 1)
      · rw [if_pos (by omega), if_pos c]
        obtain ⟨k, rfl⟩ : ∃ k, j = i + (k + 1) := ⟨j - i - 1, by omega⟩
        rw [show i + (k + 1) - (i + 1) = k by omega, show i + (k + 1) - i = k + 1 by omega, List.getElem?_cons_succ]
      · rw [if_neg (by omega), if_neg c, Array.getElem?_setIfInBounds, if_neg (by omega)]
theorem setArr_at {rc : Array Value} {o k : Nat} {old l : List Value} (hroom : o + k + l.length ≤ rc.size) (hk : old.length = k) (hold : ∀ i v, old[i]? = some v → rc[o + i]? = some v) :
    ∀ i v, (old ++ l)[i]? = some v → (setArr rc (o + k + 0) l)[o + i]? = some v := by
  intro i v hv
  rw [setArr_get _ _ _ _ (by omega)]
  by_cases h : i < old.length
  · rw [List.getElem?_append_left h] at hv
    rw [if_neg (by omega)]
    exact hold i v hv
  · rw [List.getElem?_append_right (by omega)] at hv
    have := (List.getElem?_eq_some_iff.1 hv).1
    rw [if_pos (by omega), show o + i - (o + k + 0) = i - old.length by omega]
    exact hv

theorem fresh_of_next {S S' : St} (h : S'.next = S.next) : Fresh r S S' := fun id a b => by omega

theorem putA_ok {size sLen sCap n : Nat} {base : Option Addr} {news : M (List Value)} {v s' : Value} {l l' : List Value} {S1 : St} {D : List (Nat × Bool)}
    (h : putA size base sLen sCap n news S = some (v, S')) (hs : VRel r (.slice base sLen sCap) s') (hle : sLen + n ≤ sCap) (hr : Rel P r S w)
    (h1 : news S = some (l, S1)) (hlen : l.length = n * size) (hl : LRel r l l') (hn1 : S1.next = S.next) (hsim : Sim P D r S w r S1 w) :
    ∃ D' w' base' sCap', s' = .slice base' sLen sCap' ∧ sLen + n ≤ sCap' ∧ Sim P D' r S w r S' w' ∧ VRel r v (.slice base' (sLen + n) sCap') ∧
      ((match base' with | some a => storeCells (a.add (sLen * size)) l' | none => pure ()) : Sem Unit).run P w = .ok () w' := by
  simp only [putA, M.bind_some] at h
  obtain ⟨l0, S0, h1', h2⟩ := h
  rw [h1] at h1'
  obtain ⟨rfl, rfl⟩ : l = l0 ∧ S1 = S0 := by simpa using h1'
  cases base with
  | none =>
    obtain ⟨rfl, rfl, rfl⟩ := hs.slcNil_inv
    simp at h2
    obtain ⟨rfl, rfl⟩ := M.pure_some.1 h2
    exact ⟨D, w, none, 0, rfl, hle, hsim, by (have : n = 0 := by omega); subst this; exact .slcNil, by simp⟩
  | some a =>
    simp only [M.bind_some] at h2
    obtain ⟨u, S2, h2, h3⟩ := h2
    obtain ⟨rfl, rfl⟩ := M.pure_some.1 h3
    obtain ⟨hsp, hd, o', c', rfl, hcc, hex, hgr, hor⟩ := hs.slc_inv
    obtain ⟨bk, of, sp⟩ := a
    simp only at hsp
    subst hsp
    simp only at h2 hd hex hgr hor ⊢
    have hz : l = [] ∨ (⟨r.to bk, o', none⟩ : Addr).add (sLen * size) = ⟨r.to bk, r.base bk + (of + sLen * size), none⟩ := by
      rcases hor with rfl | ⟨rfl, rfl⟩
      · right; rw [add_none, Nat.add_assoc]
      · left
        have : n = 0 := by omega
        subst this
        simpa using hlen
    obtain ⟨w', h4, h5⟩ := st_any (a' := (⟨r.to bk, o', none⟩ : Addr).add (sLen * size)) h2 hsim.rel hl (hz.elim .inr .inl)
    have hn2 : S'.next = S1.next := by
      have := h2
      simp only [stCells, M.bind_some, rd_some] at this
      obtain ⟨o, S3, ⟨_, rfl⟩, h6⟩ := this
      split at h6
      · split at h6
        · have := wr_some.1 h6; rw [this]
        · exact (M.fail_some.1 h6).elim
      · exact (M.fail_some.1 h6).elim
    refine ⟨_, w', _, c', rfl, by omega, hsim.trans (fresh_of_next (hn2.trans hn1)) hr h5, ?_, h4⟩
    rcases hor with rfl | ⟨rfl, rfl⟩
    · exact .slc hd (fun e => (hex e).1) hcc (fun z hz => (hgr z hz).1)
    · have : n = 0 := by omega
      subst this
      cases he : r.ext bk with
      | none => obtain ⟨rfl, rfl⟩ := hex he; exact .slc hd (fun _ => rfl) (Nat.le_refl _) (fun z hz => by rw [he] at hz; cases hz)
      | some z => exact .slc0 hd he (hgr z he).2 (hgr z he).1

/-- a growth: in place, or over a new block -/
theorem growA_ok {size bytes sLen sCap n : Nat} {base : Option Addr} {news : M (List Value)} {v s' : Value} {l l' : List Value} {S1 : St} {D : List (Nat × Bool)}
    (h : growA size bytes base sLen sCap n news S = some (v, S')) (hs : VRel r (.slice base sLen sCap) s') (hle : ¬ sLen + n ≤ sCap) (hr : Rel P r S w) (hf : Fresh r S S')
    (h1 : news S = some (l, S1)) (hlen : l.length = n * size) (hl : LRel r l l') (hn1 : S1.next = S.next) (hsim : Sim P D r S w r S1 w) :
    (2 * ((sLen + n) * bytes) ≤ 281474976710656 ∧ bytes ≠ 0) ∧ ∃ base' sCap', s' = .slice base' sLen sCap' ∧
    -- in place
    ((sLen + n ≤ sCap' ∧ ∃ D' r' w', Sim P D' r S w r' S' w' ∧ VRel r' v (.slice base' (sLen + n) sCap') ∧
      ((match base' with | some a => storeCells (a.add (sLen * size)) l' | none => pure ()) : Sem Unit).run P w = .ok () w') ∨
    -- anew
    (¬ sLen + n ≤ sCap' ∧ ∃ old : List Value, (∀ w0 : World, w0.heap = w.heap → (Builtin.firstCells size sLen s').run P w0 = .ok old.toArray w0) ∧ ∀ (newCap : Nat) (rest : List Value) (el : TypeId) (w0 : World), sLen + n ≤ newCap → rest.length = (newCap - (sLen + n)) * size → Drew w w0 →
      ∃ D' r', Sim P D' r S w r' S' { w0 with heap := w0.heap.push (.cells (old ++ l' ++ rest).toArray el) } ∧ VRel r' v (.slice (some ⟨w0.heap.size, 0, none⟩) (sLen + n) newCap))) := by
  unfold growA at h
  split at h
  case isFalse => exact (M.fail_some.1 h).elim
  rename_i hb
  obtain ⟨hb1, hb2, hsz⟩ := hb
  refine ⟨⟨hb1, hb2⟩, ?_⟩
  simp only [M.bind_some] at h
  obtain ⟨l0, S0, h1', h2⟩ := h
  rw [h1] at h1'
  obtain ⟨rfl, rfl⟩ : l = l0 ∧ S1 = S0 := by simpa using h1'
  have hll := hl.length
  split at h2
  case isFalse => exact (M.fail_some.1 h2).elim
  rename_i hone
  have hone : l'.all (·.oneCell') = true := by rw [← all_oneCell hl]; exact hone
  cases base with
  | none =>
    obtain ⟨rfl, rfl, rfl⟩ := hs.slcNil_inv
    simp only [and_self, if_true, M.bind_some, nw_some] at h2
    obtain ⟨nb, S2, ⟨rfl, rfl⟩, h3⟩ := h2
    obtain ⟨rfl, rfl⟩ := M.pure_some.1 h3
    refine ⟨none, 0, rfl, .inr ⟨hle, [], fun w0 _ => by simp [Builtin.firstCells], ?_⟩⟩
    intro newCap rest el w0 hc hrest hdw
    have hd : ¬ r.dom S1.next := by rw [hn1]; exact hf _ (Nat.le_refl _) (by simp [hn1])
    have hd2 := sim_drew hsim.rel hdw
    have hnew := sim_new (P := P) (w := w0) (S := S1) (D := []) (b := .cells (some size) false l) (w' := { w0 with heap := w0.heap.push (.cells (l' ++ rest).toArray el) })
      (o := .cells (l' ++ rest).toArray el) (base := 0) (size := (l' ++ rest).length) (ext := some size) (S' := { heap := S1.heap.set S1.next (some (.cells (some size) false l)), next := S1.next + 1, log := S1.log })
      hd2.rel hd rfl rfl rfl ⟨rfl, rfl, rfl, rfl⟩
      ⟨Ren.add_ext .., fun _ => by rw [Ren.add_size]; simp, ⟨l', hl.mono (Ren.le_add hd), fun i v hv => by
        rw [Ren.add_base]; simp
        have := (List.getElem?_eq_some_iff.1 hv).1
        rw [List.getElem?_append_left this]; exact hv⟩, .inl rfl, fun _ => rfl⟩
    have hsim2 := (hsim.trans (fresh_of_next hn1) hr hd2).trans hf hr hnew
    refine ⟨_, _, by simpa using hsim2, ?_⟩
    have := VRel.slc (r := r.add S1.next w0.heap.size 0 (l' ++ rest).length (some size)) (b := S1.next) (o := 0) (n := n) (c := n) (c' := newCap) (Ren.add_dom ..) (by rw [Ren.add_ext]; intro h; cases h) (by omega)
      (fun z hz => by
        rw [Ren.add_ext] at hz
        obtain rfl : size = z := by simpa using hz
        rw [Ren.add_base, Ren.add_size]
        have : (l' ++ rest).length = newCap * size := by
          rw [List.length_append, ← hll, hlen, hrest, ← Nat.add_mul]; congr 1; omega
        omega)
    rw [Ren.add_to, Ren.add_base] at this
    simpa using this
  | some a =>
    obtain ⟨hsp, hd, o', c', rfl, hcc, hex, hgr, hor⟩ := hs.slc_inv
    obtain ⟨bk, of, sp⟩ := a
    simp only at hsp
    subst hsp
    simp only [M.bind_some, rd_some] at h2 hd hex hgr hor ⊢
    obtain ⟨o, S2, ⟨hbk, rfl⟩, h2⟩ := h2
    split at h2
    case h_2 => exact (M.fail_some.1 h2).elim
    rename_i ext str c
    split at h2
    case isFalse => exact (M.fail_some.1 h2).elim
    rename_i hcl
    obtain ⟨hdb, rc, el0, lo, hi, lc, k1, k2, k3, k4, k5, k6, k7⟩ := cells_at hsim.rel hbk
    have hlc := k4.length
    -- the old elements, both sides
    have hold : LRel r ((c.drop of).take (sLen * size)) ((lc.drop of).take (sLen * size)) := (k4.drop of).take _
    have holdl : ((lc.drop of).take (sLen * size)).length = sLen * size := by simp; omega
    have holdAt : ∀ i v, ((lc.drop of).take (sLen * size))[i]? = some v → rc[o' + i]? = some v := by
      intro i v hv
      rw [List.getElem?_take] at hv
      split at hv
      · rw [List.getElem?_drop] at hv
        rcases hor with rfl | ⟨h0, _⟩
        · rw [Nat.add_assoc]; exact k5 _ _ hv
        · subst h0; omega
      · simp at hv
    have hread : ∀ w0 : World, w0.heap = w.heap → (Builtin.firstCells size sLen (.slice (some ⟨r.to bk, o', none⟩) sLen c')).run P w0 = .ok ((lc.drop of).take (sLen * size)).toArray w0 := by
      intro w0 hw0
      simp only [Builtin.firstCells]
      have := run_ld (P := P) (w := w0) (off := o') (by rw [hw0]; exact k1) _ holdAt
      rw [holdl] at this
      exact this
    refine ⟨some ⟨r.to bk, o', none⟩, c', rfl, ?_⟩
    have hlog1 : Sim P [(bk, false)] r S1 w r { heap := S1.heap, next := S1.next, log := (bk, false) :: S1.log } w := sim_log hsim.rel rfl rfl rfl
    have hA := hsim.trans (fresh_of_next (S' := { heap := S1.heap, next := S1.next, log := (bk, false) :: S1.log }) hn1) hr hlog1
    have hdn : ¬ r.dom S1.next := by
      rw [hn1]
      refine hf _ (Nat.le_refl _) ?_
      cases ext with
      | none =>
        simp only [M.bind_some, nw_some] at h2
        obtain ⟨nb, S3, ⟨rfl, rfl⟩, h4⟩ := h2
        obtain ⟨rfl, rfl⟩ := M.pure_some.1 h4
        simp [hn1]
      | some z =>
        simp only at h2
        split at h2
        case isFalse => exact (M.fail_some.1 h2).elim
        simp only [M.bind_some, nw_some, wr_some] at h2
        obtain ⟨_, S3, rfl, nb, S4, ⟨rfl, rfl⟩, h4⟩ := h2
        obtain ⟨rfl, rfl⟩ := M.pure_some.1 h4
        simp [hn1]
    -- anew: the same in both cases
    have anew : ∀ (S2 : St) (D2 : List (Nat × Bool)) (st : Bool), Sim P D2 r S w r S2 w → S2.next = S1.next →
        S' = { heap := S2.heap.set S2.next (some (.cells (some size) st ((c.drop of).take (sLen * size) ++ l))), next := S2.next + 1, log := S2.log } → v = .slice (some ⟨S2.next, 0, none⟩) (sLen + n) (sLen + n) →
        ∀ (newCap : Nat) (rest : List Value) (el : TypeId) (w0 : World), sLen + n ≤ newCap → rest.length = (newCap - (sLen + n)) * size → Drew w w0 →
        ∃ D' r', Sim P D' r S w r' S' { w0 with heap := w0.heap.push (.cells ((lc.drop of).take (sLen * size) ++ l' ++ rest).toArray el) } ∧ VRel r' v (.slice (some ⟨w0.heap.size, 0, none⟩) (sLen + n) newCap) := by
      intro S2 D2 st hs2 hn2 hS hv newCap rest el w0 hc hrest hdw
      have hd : ¬ r.dom S2.next := by rw [hn2]; exact hdn
      have hd2 := sim_drew hs2.rel hdw
      have hlen2 : ((lc.drop of).take (sLen * size) ++ l' ++ rest).length = newCap * size := by
        rw [List.length_append, List.length_append, holdl, ← hll, hlen, hrest, ← Nat.add_mul, ← Nat.add_mul]; congr 1; omega
      have hnew := sim_new (P := P) (w := w0) (S := S2) (D := []) (b := .cells (some size) st ((c.drop of).take (sLen * size) ++ l))
        (w' := { w0 with heap := w0.heap.push (.cells ((lc.drop of).take (sLen * size) ++ l' ++ rest).toArray el) })
        (o := .cells ((lc.drop of).take (sLen * size) ++ l' ++ rest).toArray el) (base := 0) (size := ((lc.drop of).take (sLen * size) ++ l' ++ rest).length) (ext := some size) (S' := S')
        hd2.rel hd (by rw [hS]) (by rw [hS]) (by rw [hS]; rfl) ⟨rfl, rfl, rfl, rfl⟩
        ⟨Ren.add_ext .., fun _ => by rw [Ren.add_size]; simp, ⟨(lc.drop of).take (sLen * size) ++ l', (hold.append hl).mono (Ren.le_add hd), fun i v hv => by
          rw [Ren.add_base]
          have := (List.getElem?_eq_some_iff.1 hv).1
          simp only [Nat.zero_add, List.getElem?_toArray]
          rw [List.getElem?_append_left this]; exact hv⟩, .inl rfl, fun _ => rfl⟩
      have hsim2 := (hs2.trans (fresh_of_next (hn2.trans hn1)) hr hd2).trans hf hr hnew
      refine ⟨_, _, hsim2, ?_⟩
      have := VRel.slc (r := r.add S2.next w0.heap.size 0 ((lc.drop of).take (sLen * size) ++ l' ++ rest).length (some size)) (b := S2.next) (o := 0) (n := sLen + n) (c := sLen + n) (c' := newCap) (Ren.add_dom ..)
        (by rw [Ren.add_ext]; intro h; cases h) (by omega)
        (fun z hz => by
          rw [Ren.add_ext] at hz
          obtain rfl : size = z := by simpa using hz
          rw [Ren.add_base, Ren.add_size]
          omega)
      rw [Ren.add_to, Ren.add_base] at this
      rw [hv]
      simpa using this
    cases ext with
    | none =>
      simp only [M.bind_some, nw_some] at h2
      obtain ⟨nb, S3, ⟨rfl, rfl⟩, h4⟩ := h2
      obtain ⟨rfl, rfl⟩ := M.pure_some.1 h4
      have hc' : c' = sCap := (hex k2).1
      exact .inr ⟨by omega, _, hread, anew _ _ false hA rfl rfl rfl⟩
    | some z =>
      simp only at h2
      split at h2
      case isFalse => exact (M.fail_some.1 h2).elim
      rename_i hz
      subst hz
      simp only [M.bind_some, nw_some, wr_some] at h2
      obtain ⟨_, S3, rfl, nb, S4, ⟨rfl, rfl⟩, h4⟩ := h2
      obtain ⟨rfl, rfl⟩ := M.pure_some.1 h4
      by_cases hroom : sLen + n ≤ c'
      · left
        refine ⟨hroom, ?_⟩
        have hg := hgr z k2
        have hsize : rc.size = r.size bk := k3 (by simp)
        have hroom2 : o' + (sLen + n) * z ≤ rc.size := by
          have : (sLen + n) * z ≤ c' * z := Nat.mul_le_mul_right _ hroom
          omega
        obtain ⟨w', hw, hu⟩ := run_st (P := P) l' 0 (o' + sLen * z) rc w k1 (fun j hj => by rw [Nat.add_mul] at hroom2; omega) k6 hone
        have hmv := sim_move (P := P) (w := w) (w' := w') (D := [(bk, true)]) (id := bk) (S := { heap := S1.heap, next := S1.next, log := (bk, false) :: S1.log })
          (S' := { heap := (S1.heap.set bk none).set S1.next (some (.cells (some z) str ((c.drop of).take (sLen * z) ++ l))), next := S1.next + 1, log := (bk, true) :: (bk, false) :: S1.log })
          (b := .cells (some z) str ((c.drop of).take (sLen * z) ++ l)) (base := o') (size := r.size bk) (ext := some z)
          hlog1.rel hdn hbk rfl rfl rfl (by simp) hu
          ⟨Ren.add_ext .., fun _ => by rw [Ren.add_size, setArr_size]; exact hsize, ⟨(lc.drop of).take (sLen * z) ++ l', (hold.append hl).mono (Ren.le_add hdn), fun i v hv => by
            rw [Ren.add_base]
            have hroom3 : o' + sLen * z + l'.length ≤ rc.size := by rw [Nat.add_mul] at hroom2; omega
            exact setArr_at hroom3 holdl holdAt i v hv⟩, by rw [setArr_size]; exact k6, k7⟩
        refine ⟨_, _, w', hA.trans hf hr hmv, ?_, ?_⟩
        · have := VRel.slc (r := r.add S1.next (r.to bk) o' (r.size bk) (some z)) (b := S1.next) (o := 0) (n := sLen + n) (c := sLen + n) (c' := c') (Ren.add_dom ..) (by rw [Ren.add_ext]; intro h; cases h) hroom
            (fun z' hz => by
              rw [Ren.add_ext] at hz
              obtain rfl : z = z' := by simpa using hz
              rw [Ren.add_base, Ren.add_size]
              omega)
          rw [Ren.add_to, Ren.add_base] at this
          simpa using this
        · simp only [add_none]
          exact hw
      · right
        refine ⟨hroom, _, hread, ?_⟩
        have hk := sim_kill (P := P) (w := w) (D := [(bk, true)]) (id := bk) (S := { heap := S1.heap, next := S1.next, log := (bk, false) :: S1.log })
          (S' := { heap := S1.heap.set bk none, next := S1.next, log := (bk, true) :: (bk, false) :: S1.log }) hlog1.rel rfl rfl rfl (by simp)
        exact anew _ _ str (hA.trans (fresh_of_next (S' := { heap := S1.heap.set bk none, next := S1.next, log := (bk, true) :: (bk, false) :: S1.log }) hn1) hr hk) rfl rfl rfl
end Go.Wb
