/- The engine, part M7: a region that draws, whole. -/
import Derived.Test.YtmepokefmpcnnaaEngM6
set_option linter.unusedSimpArgs false
set_option linter.unusedVariables false
namespace Go.Wb
variable {P : Program}

theorem compInstrs_at {n : Nat} {ops : Array Oper} : ∀ {lst : List Oper} {l : List AInstr}, compInstrs P n ops lst = some l → l.length = lst.length ∧ ∀ (i : Nat) (o : Oper), lst[i]? = some o → ∃ ai : AInstr, l[i]? = some ai ∧ compInstr P n ops o = some ai
  | [], l, h => by
    simp only [compInstrs, Option.some.injEq] at h; subst h
    exact ⟨rfl, fun i o h => by simp at h⟩
  | o :: lst, l, h => by
    obtain ⟨ai, l', rfl, ha, hl⟩ := compInstrs_cons h
    obtain ⟨h1, h2⟩ := compInstrs_at hl
    refine ⟨by simp [h1], fun i x hx => ?_⟩
    cases i with
    | zero => simp at hx; subst hx; exact ⟨ai, rfl, ha⟩
    | succ i => exact h2 i x (by simpa using hx)

theorem inactive_log {t : Touch} (h : ¬ active t) : t.log = [] ∧ t.lo = t.hi := by
  unfold active at h
  constructor
  · exact Classical.byContradiction fun c => h (.inl c)
  · exact Classical.byContradiction fun c => h (.inr c)

/-- for each number that is drawn -/
theorem drawn_any {call : Tgt → List Value → M Value} {n : Nat} {ops : Array Oper} {l : List AInstr} {e e' : Env} {S S' : St} {r : Ren} {w w1 : World} {tmps : Array Value} (hcall : CallOk P call) (hfr : ∀ t a, Framed (call t a))
    (hc : compInstrs P n ops ops.toList = some l) (ho : orderOk ops = true) (h : drawnA call l (Region.before ops).toList e S = some (e', S')) (hn : n ≤ tmps.size) (hr : Rel P r S w) (hE : EnvRel r e tmps) (hf : Fresh r S S') (hw1 : Drew w w1) (t : Nat) :
    ∃ D r' w' tmps', Sim P D r S w r' S' w' ∧ EnvRel r' e' tmps' ∧ tmps'.size = tmps.size ∧ ∀ fn ro ds k cs, Steps P (lone (Fr fn ro tmps ds (.inRegion ops (Region.linearise .any ops t) :: k)) cs w1) (lone (Fr fn ro tmps' ds k) cs w') := by
  unfold drawnA at h
  rw [M.bind_some] at h
  obtain ⟨⟨e1, ts⟩, S1, hgo, h⟩ := h
  simp only at h
  split at h
  case isFalse => exact (M.fail_some.1 h).elim
  rename_i hap
  obtain ⟨rfl, rfl⟩ := M.pure_some.1 h
  obtain ⟨E, H, T, hT, a1, a2, a3, a4, a5, a6, a7, _, a9, D, a10, a11, a12⟩ := drawn_trace l 0 e e' [] ts S S' hgo List.Pairwise.nil (by simp)
  obtain ⟨hlen, hat⟩ := compInstrs_at hc
  have hlen : l.length = ops.size := by simpa using hlen
  have hno := hT.lo
  have K : Known P call n ops l E H T := {
    hcall := hcall
    framed := hfr
    len := hlen
    comp := fun i o hi => hat i o (by simpa using hi)
    trace := hT
    order := orderOk_ok ho
    apart := by
      intro i k hki hi
      have hmask : (Region.before ops).toList.getD i 0 = (Region.before ops).getD i 0 := by simp [Array.getD_eq_getD_getElem?, List.getD]
      by_cases hai : active (T i)
      · by_cases hak : active (T k)
        · have hp := a7 i (by omega) hai
          have hq := a7 k (by omega) hak
          rcases apartAll_ok hap a9 _ hp _ hq (by simpa using hki) with hb | ⟨h1, h2⟩
          · left
            simp only [Nat.zero_add] at hb
            rw [hmask] at hb
            exact hb
          · refine .inr ⟨fun id x hx hox => ?_, fun id x hx hox => ?_⟩
            · have := hits_of hx hox; rw [h1] at this; simp at this
            · have := hits_of hx hox; rw [h2] at this; simp at this
        · obtain ⟨l1, l2⟩ := inactive_log hak
          refine .inr ⟨fun id x hx hox => ?_, fun id x hx hox => by rw [l1] at hx; simp at hx⟩
          rcases hox with hox | hox
          · rw [l1] at hox; simp at hox
          · omega
      · obtain ⟨l1, l2⟩ := inactive_log hai
        refine .inr ⟨fun id x hx hox => by rw [l1] at hx; simp at hx, fun id x hx hox => ?_⟩
        rcases hox with hox | hox
        · rw [l1] at hox; simp at hox
        · omega }
  have hN : l.length = ops.size := hlen
  rw [hN] at a4 a5 a6
  have hf0 : ∀ id, (H 0).next ≤ id → id < (H ops.size).next → ¬ r.dom id := fun id x y => hf id (by rw [← a3]; exact x) (by rw [← a6]; exact y)
  have hnone : ∀ i : Nat, ¬ ((Array.replicate ops.size false)[i]? = some true) := by
    intro i c
    rw [Array.getElem?_replicate] at c
    split at c <;> simp at c
  have M0 : Mid P ops E H T r S w tmps.size (fun i => (Array.replicate ops.size false)[i]? = some true) r w1 tmps S e := {
    inX := fun i hi => absurd hi (hnone i)
    closed := fun i o hi => absurd hi (hnone i)
    rel := (sim_drew hr hw1).rel
    env := hE
    msize := rfl
    le := .refl r
    dom := fun id => ⟨.inl, fun h => h.elim (fun h => h) fun ⟨i, hi, _⟩ => absurd hi (hnone i)⟩
    hsize := by rw [hw1.heap]; exact Nat.le_refl _
    os := hw1.os
    tape := hw1.tape
    output := hw1.output
    frame := fun k _ _ => by rw [hw1.heap]
    kept := fun id b _ _ => by rw [hw1.heap]
    live := fun k _ h => h
    heap1 := fun id i hi => absurd hi (hnone i)
    heap0 := fun id _ => by rw [a2]
    env1 := fun t i o hi => absurd hi (hnone i)
    env0 := fun t _ => by rw [a1] }
  obtain ⟨r', w', tmps', SX, eX, M, st⟩ := K.go hn hr a2 hf0 ops.size t (Array.replicate ops.size false) r w1 tmps S e (by simp) (by
    have := List.length_filter_le (fun i => decide ((Array.replicate ops.size false)[i]? ≠ some true)) (List.range ops.size)
    simpa using this) M0
  have hheap : ∀ id, S'.heap.get id = SX.heap.get id := by
    intro id
    rw [← a5]
    rcases K.lastHeap id ops.size (Nat.le_refl _) with ⟨h1, h2⟩ | ⟨k, h1, h2, h3, h4⟩
    · rw [h2]; exact (M.heap0 id fun i hi => h1 i hi).symm
    · rw [h4]; exact (M.heap1 id k h1 h2 fun j hj hoj => h3 j hj hoj).symm
  have henv : ∀ t, e'.get t = eX.get t := by
    intro t
    rw [← a4]
    rcases K.lastEnv t ops.size (Nat.le_refl _) with ⟨h1, h2⟩ | ⟨k, o, h1, h2, h3, h4, h5⟩
    · rw [h2]; exact (M.env0 t fun i o hi => h1 i o hi).symm
    · rw [h5]; exact (M.env1 t k o h1 h2 h3 fun j o' hj => h4 j o' hj).symm
  have hlive : ∀ k, Live r' S' k → Live r' SX k := fun k ⟨id, b, hb, e⟩ => ⟨id, b, by rw [← hheap]; exact hb, e⟩
  have hcover : ∀ m, m ≤ ops.size → ∀ id, (H 0).next ≤ id → id < (H m).next → ∃ i, i < m ∧ (H i).next ≤ id ∧ id < (H (i + 1)).next := by
    intro m
    induction m with
    | zero => intro _ id x y; omega
    | succ m ih =>
      intro hm id x y
      by_cases c : id < (H m).next
      · obtain ⟨i, h1, h2⟩ := ih (by omega) id x c
        exact ⟨i, by omega, h2⟩
      · exact ⟨m, by omega, by omega, y⟩
  refine ⟨D, r', w', tmps', ?_, ?_, M.msize, fun fn ro ds k cs => st fn ro ds k cs⟩
  · exact {
      le := M.le
      rel := ⟨fun id b hb => M.rel.at_ id b (by rw [← hheap]; exact hb), fun i j bi bj hi hj => M.rel.inj' i j bi bj (by rw [← hheap]; exact hi) (by rw [← hheap]; exact hj)⟩
      log := a10
      next := by rw [← a3, ← a6]; exact K.next_mono (Nat.zero_le _) (Nat.le_refl _)
      dom := fun id => by
        rw [M.dom id]
        constructor
        · rintro (h | ⟨i, hi, h1, h2⟩)
          · exact .inl h
          · obtain ⟨b1, b2⟩ := K.range hi
            have x1 := K.next_mono (a := 0) (b := i) (by omega) (by omega)
            have x2 := K.next_mono (a := i + 1) (b := ops.size) (by omega) (Nat.le_refl _)
            exact .inr ⟨by omega, by omega⟩
        · rintro (h | ⟨h1, h2⟩)
          · exact .inl h
          · obtain ⟨i, hi, x1, x2⟩ := hcover ops.size (Nat.le_refl _) id (by omega) (by omega)
            obtain ⟨b1, b2⟩ := K.range hi
            exact .inr ⟨i, hi, by omega, by omega⟩
      size := M.hsize
      os := M.os
      tape := M.tape
      output := M.output
      frame := M.frame
      kept := fun id b hb hnD => M.kept id b hb fun i hi c => hnD (a12 i (by omega) _ c)
      same := fun id hnD hx => by
        rw [← a5]
        rcases K.lastHeap id ops.size (Nat.le_refl _) with ⟨h1, h2⟩ | ⟨k, h1, h2, h3, h4⟩
        · rw [h2, a2]
        · exfalso
          rcases h2 with h2 | h2
          · exact hnD (a12 k (by omega) _ h2)
          · obtain ⟨b1, b2⟩ := K.range h1
            have x1 := K.next_mono (a := 0) (b := k) (by omega) (by omega)
            have x2 := K.next_mono (a := k + 1) (b := ops.size) (by omega) (Nat.le_refl _)
            exact hx ⟨by omega, by omega⟩
      live := fun k hk c => M.live k hk (hlive k c) }
  · intro t v hv
    exact M.env t v (by rw [← henv]; exact hv)
end Go.Wb
