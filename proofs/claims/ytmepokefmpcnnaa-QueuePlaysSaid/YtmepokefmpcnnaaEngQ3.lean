/- The engine, part Q3: the quick evaluator does what the evaluator does: environments, memory. -/
import Derived.Test.YtmepokefmpcnnaaEngQ2
import Derived.Test.YtmepokefmpcnnaaEngC3
set_option linter.unusedSimpArgs false
set_option linter.unusedVariables false
set_option autoImplicit false
namespace Go.Wb.Q

/-! ## Environments -/
def und8 : D8 → Nat | .c0 => 0 | .c1 => 1 | .c2 => 2 | .c3 => 3 | .c4 => 4 | .c5 => 5 | .c6 => 6 | .c7 => 7
theorem und8_d8 : ∀ n, n < 8 → und8 (d8 n) = n
  | 0, _ => rfl | 1, _ => rfl | 2, _ => rfl | 3, _ => rfl | 4, _ => rfl | 5, _ => rfl | 6, _ => rfl | 7, _ => rfl
  | n + 8, h => by omega
def unpt : Pt → Nat | .lo i j => 8 * und8 i + und8 j | .hi i j k => 64 + 64 * und8 i + 8 * und8 j + und8 k | .no => 0
theorem pt_lo {n : Nat} (h : n < 64) : pt n = .lo (d8 (n / 8)) (d8 (n % 8)) := by
  have : Nat.blt n 64 = true := by simpa [Nat.blt_eq] using h
  simp [pt, this]
theorem pt_hi {n : Nat} (h : 64 ≤ n) (h2 : n < 576) : pt n = .hi (d8 ((n - 64) / 64)) (d8 ((n - 64) / 8 % 8)) (d8 (n % 8)) := by
  have a : Nat.blt n 64 = false := by
    rw [Bool.eq_false_iff]; intro k; rw [Nat.blt_eq] at k; omega
  have b : Nat.blt n 576 = true := by simpa [Nat.blt_eq] using h2
  simp [pt, a, b]
theorem pt_no {n : Nat} (h : 576 ≤ n) : pt n = .no := by
  have a : Nat.blt n 64 = false := by
    rw [Bool.eq_false_iff]; intro k; rw [Nat.blt_eq] at k; omega
  have b : Nat.blt n 576 = false := by
    rw [Bool.eq_false_iff]; intro k; rw [Nat.blt_eq] at k; omega
  simp [pt, a, b]
theorem unpt_pt {n : Nat} (h : n < 576) : unpt (pt n) = n := by
  by_cases h1 : n < 64
  · rw [pt_lo h1]
    simp only [unpt]
    rw [und8_d8 _ (by omega), und8_d8 _ (by omega)]
    omega
  · rw [pt_hi (by omega) h]
    simp only [unpt]
    rw [und8_d8 _ (by omega), und8_d8 _ (by omega), und8_d8 _ (by omega)]
    omega

theorem sel1_upd1 (i j : D8) (v : Option Value) (e : E1) : sel1 i (upd1 j v e) = if i = j then v else sel1 i e := by
  cases e; cases i <;> cases j <;> rfl
theorem sel2_upd2 (i j : D8) (u : E1 → E1) (e : E2) : sel2 i (upd2 j u e) = if i = j then u (sel2 i e) else sel2 i e := by
  cases e; cases i <;> cases j <;> rfl
theorem sel3_upd3 (i j : D8) (u : E2 → E2) (e : E3) : sel3 i (upd3 j u e) = if i = j then u (sel3 i e) else sel3 i e := by
  cases e; cases i <;> cases j <;> rfl

noncomputable def ptGet (p : Pt) (e : QE) : Option Value := match p with | .lo i j => getLo i j e | .hi i j k => getHi i j k e | .no => none
noncomputable def ptSet (p : Pt) (v : Option Value) (e : QE) : QE := match p with | .lo i j => setLo i j v e | .hi i j k => setHi i j k v e | .no => e
theorem getE_eq (t : Nat) (e : QE) : getE t e = ptGet (pt t) e := by unfold getE; cases pt t <;> rfl
theorem setE_eq (t : Nat) (v : Option Value) (e : QE) : setE t v e = ptSet (pt t) v e := by unfold setE; cases pt t <;> rfl
theorem ptGet_set (p q : Pt) (v : Option Value) (e : QE) (hq : q ≠ .no) : ptGet p (ptSet q v e) = if p = q then v else ptGet p e := by
  obtain ⟨lo, hi⟩ := e
  cases p with
  | no => cases q with
    | no => exact absurd rfl hq
    | _ => simp [ptGet]
  | lo i j =>
    cases q with
    | no => exact absurd rfl hq
    | hi a b c => simp [ptGet, ptSet, getLo, setHi, kHi]
    | lo a b =>
      simp only [ptGet, ptSet, getLo, setLo, kLo, sel2_upd2]
      by_cases h : i = a
      · subst h
        simp only [if_true, sel1_upd1, Pt.lo.injEq, true_and]
      · simp [h]
  | hi i j k =>
    cases q with
    | no => exact absurd rfl hq
    | lo a b => simp [ptGet, ptSet, getHi, setLo, kLo]
    | hi a b c =>
      simp only [ptGet, ptSet, getHi, setHi, kHi, sel3_upd3]
      by_cases h : i = a
      · subst h
        simp only [if_true, sel2_upd2]
        by_cases h2 : j = b
        · subst h2
          simp only [if_true, sel1_upd1, Pt.hi.injEq, true_and]
        · simp [h2]
      · simp [h]
theorem getE_setE {t t' : Nat} {v : Option Value} {e : QE} {w : Value} (h : getE t (setE t' v e) = some w) : (t = t' ∧ v = some w) ∨ (t ≠ t' ∧ getE t e = some w) := by
  rw [getE_eq, setE_eq] at h
  by_cases h1 : t' < 576
  · have hn : pt t' ≠ .no := by
      by_cases h2 : t' < 64
      · rw [pt_lo h2]; simp
      · rw [pt_hi (by omega) h1]; simp
    rw [ptGet_set _ _ _ _ hn] at h
    by_cases h3 : t = t'
    · subst h3; left; simpa using h
    · right
      refine ⟨h3, ?_⟩
      by_cases h4 : t < 576
      · have : pt t ≠ pt t' := by
          intro e
          have := congrArg unpt e
          rw [unpt_pt h4, unpt_pt h1] at this
          exact h3 this
        rw [if_neg this] at h
        rw [getE_eq]; exact h
      · rw [pt_no (by omega), if_neg (Ne.symm hn)] at h
        simp [ptGet] at h
  · have e1 : ptSet (pt t') v e = e := by rw [pt_no (by omega)]; rfl
    rw [e1] at h
    right
    refine ⟨?_, by rw [getE_eq]; exact h⟩
    rintro rfl
    rw [pt_no (by omega)] at h
    simp [ptGet] at h
theorem getE_nil (t : Nat) : getE t QE.nil = none := by
  rw [getE_eq]
  cases pt t with
  | lo i j => cases i <;> cases j <;> rfl
  | hi i j k => cases i <;> cases j <;> cases k <;> rfl
  | no => rfl

/-- what the quick environment tells, the environment tells -/
def ERel (q : QE) (e : Env) : Prop := ∀ t v, getE t q = some v → e.get t = some v
theorem ERel.nil (e : Env) : ERel .nil e := by intro t v h; rw [getE_nil] at h; cases h
theorem ERel.set {q : QE} {e : Env} (h : ERel q e) (t : Nat) (v : Value) : ERel (setE t (some v) q) (e.set t (some v)) := by
  intro t' w hw
  rcases getE_setE hw with ⟨rfl, h1⟩ | ⟨h1, h2⟩
  · rw [Tr.get_set_same]; exact h1
  · rw [Tr.get_set_ne _ _ h1]; exact h _ _ h2
theorem ERel.putD {q : QE} {e : Env} (h : ERel q e) (d : Option Nat) (v : Value) : ERel (putE d q v) (putD e d v) := by
  cases d with
  | none => exact h
  | some d => exact h.set d v
theorem evA_ok {q : QE} {e : Env} (h : ERel q e) {a : Atom} {v : Value} (k : evA a q = some v) : a.ev e = some v := by
  cases a with
  | tmp t => exact h t v k
  | const w => exact k

/-! ## Tries by numbers -/
theorem getQ_eq (t : Tr QB) : ∀ k, getQ t k = t.get k := by
  induction t with
  | leaf => intro k; cases k <;> rfl
  | node v l r ihl ihr =>
    intro k
    cases k with
    | zero => rfl
    | succ m =>
      show (@Nat.rec (fun _ => Option QB) (getQ l (m / 2)) (fun _ _ => getQ r (m / 2)) (m % 2)) = _
      rw [ihl, ihr]
      simp only [Tr.get]
      cases m % 2 <;> rfl
theorem getV_eq (t : Tr Value) : ∀ k, getV t k = t.get k := by
  induction t with
  | leaf => intro k; cases k <;> rfl
  | node v l r ihl ihr =>
    intro k
    cases k with
    | zero => rfl
    | succ m =>
      show (@Nat.rec (fun _ => Option Value) (getV l (m / 2)) (fun _ _ => getV r (m / 2)) (m % 2)) = _
      rw [ihl, ihr]
      simp only [Tr.get]
      cases m % 2 <;> rfl
theorem pow_half {f k : Nat} (h : k + 1 < 2 ^ (f + 1)) : k / 2 < 2 ^ f := by
  rw [Nat.pow_succ] at h; omega
theorem setQ_zero (f : Nat) (t : Tr QB) (v : Option QB) : setQ (f + 1) t 0 v = .node v t.left t.right := by cases t <;> rfl
theorem setQ_succ (f : Nat) (t : Tr QB) (m : Nat) (v : Option QB) : setQ (f + 1) t (m + 1) v = match m % 2 with
    | 0 => .node t.val (setQ f t.left (m / 2) v) t.right
    | _ + 1 => .node t.val t.left (setQ f t.right (m / 2) v) := by
  cases t with
  | leaf => show nodesQ none .leaf .leaf (setQ f) m v = _; unfold nodesQ; cases m % 2 <;> rfl
  | node w l r => show nodesQ w l r (setQ f) m v = _; unfold nodesQ; cases m % 2 <;> rfl
theorem setV_zero (f : Nat) (t : Tr Value) (v : Option Value) : setV (f + 1) t 0 v = .node v t.left t.right := by cases t <;> rfl
theorem setV_succ (f : Nat) (t : Tr Value) (m : Nat) (v : Option Value) : setV (f + 1) t (m + 1) v = match m % 2 with
    | 0 => .node t.val (setV f t.left (m / 2) v) t.right
    | _ + 1 => .node t.val t.left (setV f t.right (m / 2) v) := by
  cases t with
  | leaf => show nodesV none .leaf .leaf (setV f) m v = _; unfold nodesV; cases m % 2 <;> rfl
  | node w l r => show nodesV w l r (setV f) m v = _; unfold nodesV; cases m % 2 <;> rfl
theorem setQ_eq : ∀ (f : Nat) (t : Tr QB) (k : Nat) (v : Option QB), k < 2 ^ f → ∀ j, (setQ (f + 1) t k v).get j = if j = k then v else t.get j := by
  intro f
  induction f with
  | zero =>
    intro t k v h j
    obtain rfl : k = 0 := by simpa using h
    rw [setQ_zero]
    cases j with
    | zero => rfl
    | succ j => rw [Tr.get_succ, if_neg (by omega), Tr.get_succ]; rfl
  | succ f ih =>
    intro t k v h j
    cases k with
    | zero =>
      rw [setQ_zero]
      cases j with
      | zero => rfl
      | succ j => rw [Tr.get_succ, if_neg (by omega), Tr.get_succ]; rfl
    | succ k =>
      have hk : k / 2 < 2 ^ f := pow_half h
      rw [setQ_succ]
      cases j with
      | zero => rw [if_neg (by omega)]; split <;> simp [Tr.get_zero, Tr.val]
      | succ j =>
        split
        · rename_i h0
          simp only [Tr.get_succ, Tr.left, Tr.right]
          split
          · rename_i h1
            rw [ih _ _ _ hk]
            by_cases e : j = k
            · subst e; simp
            · rw [if_neg (by omega), if_neg (by omega)]
          · rename_i m h1
            have : j ≠ k := by intro e; subst e; omega
            rw [if_neg (by omega)]
        · rename_i m h0
          simp only [Tr.get_succ, Tr.left, Tr.right]
          split
          · rename_i h1
            have : j ≠ k := by intro e; subst e; omega
            rw [if_neg (by omega)]
          · rename_i n h1
            rw [ih _ _ _ hk]
            by_cases e : j = k
            · subst e; simp
            · rw [if_neg (by omega), if_neg (by omega)]
theorem setV_eq : ∀ (f : Nat) (t : Tr Value) (k : Nat) (v : Option Value), k < 2 ^ f → ∀ j, (setV (f + 1) t k v).get j = if j = k then v else t.get j := by
  intro f
  induction f with
  | zero =>
    intro t k v h j
    obtain rfl : k = 0 := by simpa using h
    rw [setV_zero]
    cases j with
    | zero => rfl
    | succ j => rw [Tr.get_succ, if_neg (by omega), Tr.get_succ]; rfl
  | succ f ih =>
    intro t k v h j
    cases k with
    | zero =>
      rw [setV_zero]
      cases j with
      | zero => rfl
      | succ j => rw [Tr.get_succ, if_neg (by omega), Tr.get_succ]; rfl
    | succ k =>
      have hk : k / 2 < 2 ^ f := pow_half h
      rw [setV_succ]
      cases j with
      | zero => rw [if_neg (by omega)]; split <;> simp [Tr.get_zero, Tr.val]
      | succ j =>
        split
        · rename_i h0
          simp only [Tr.get_succ, Tr.left, Tr.right]
          split
          · rename_i h1
            rw [ih _ _ _ hk]
            by_cases e : j = k
            · subst e; simp
            · rw [if_neg (by omega), if_neg (by omega)]
          · rename_i m h1
            have : j ≠ k := by intro e; subst e; omega
            rw [if_neg (by omega)]
        · rename_i m h0
          simp only [Tr.get_succ, Tr.left, Tr.right]
          split
          · rename_i h1
            have : j ≠ k := by intro e; subst e; omega
            rw [if_neg (by omega)]
          · rename_i n h1
            rw [ih _ _ _ hk]
            by_cases e : j = k
            · subst e; simp
            · rw [if_neg (by omega), if_neg (by omega)]
end Go.Wb.Q
