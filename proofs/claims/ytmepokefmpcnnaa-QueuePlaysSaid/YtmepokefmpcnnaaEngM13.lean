/- The engine, part M13: all calls; a run that is found true. -/
import Derived.Test.YtmepokefmpcnnaaEngM12
import Derived.Calls
set_option linter.unusedSimpArgs false
set_option linter.unusedVariables false
namespace Go.Wb
variable {P : Program} {r : Ren} {S S' : St} {w : World}

theorem compFunc_ext {fn : Func} {k : XK} (h : compFunc P fn = some (.ext k)) : fn.body = none ∧
    ((k = .indexByte ∧ fn.name = "internal/bytealg.IndexByteString" ∧ fn.origin = "") ∨ ∃ size t e, k = .overlaps size ∧ fn.origin = "slices.overlaps" ∧ noRow fn.name = true ∧ fn.params[0]? = some t ∧ P.underlying t = some (.slice e) ∧ sizeT P e = some size) := by
  unfold compFunc at h
  split at h
  · rename_i hb
    refine ⟨hb, ?_⟩
    split at h
    · rename_i hn
      simp only [Option.some.injEq, AFn.ext.injEq] at h
      exact .inl ⟨h.symm, hn.1, hn.2⟩
    · split at h
      · rename_i hn
        split at h
        · simp at h
        · rename_i t ht
          split at h
          · rename_i e he
            cases hs : sizeT P e with
            | none => simp [hs] at h
            | some s =>
              simp only [hs, Option.map_some, Option.some.injEq, AFn.ext.injEq] at h
              exact .inr ⟨s, t, e, h.symm, hn.1, hn.2, ht, he, hs⟩
          · simp at h
      · simp at h
  · split at h
    · simp at h
    · split at h <;> simp at h

theorem compFunc_go {fn : Func} {af : AFunc} (h : compFunc P fn = some (.go af)) : ∃ c, fn.body = some c ∧ fn.name ≠ "runtime.NumGoroutine" ∧ compCode P fn.ntmps c = some af.body ∧ compRes P fn.results.toList = some af.results ∧ af.nparams = fn.params.size + fn.nfree := by
  unfold compFunc at h
  split at h
  · split at h
    · simp at h
    · split at h
      · split at h
        · simp at h
        · split at h
          · rename_i e he
            cases hs : sizeT P e <;> simp [hs] at h
          · simp at h
      · simp at h
  · rename_i c hb
    split at h
    · simp at h
    · rename_i hn
      split at h
      · rename_i a rs ha hr
        simp only [Option.some.injEq, AFn.go.injEq] at h
        subst h
        exact ⟨c, hb, hn, ha, hr, rfl⟩
      · simp at h

theorem ext_ok {f : FuncId} {fn : Func} {k : XK} {args : List Value} {args' : Array Value} {v : Value} (hf : P.funcs[f]? = some fn) (hc : compFunc P fn = some (.ext k)) (h : extA k args S = some (v, S')) (hr : Rel P r S w) (ha : LRel r args args'.toList) :
    ∃ D v', Sim P D r S w r S' w ∧ VRel r v v' ∧ (callFunc f args').run P w = .ok (.value v') w := by
  obtain ⟨hb, hk⟩ := compFunc_ext hc
  have hbn : fn.body.isNone = true := by simp [hb]
  rcases hk with ⟨rfl, hname, horig⟩ | ⟨size, t, e, rfl, horig, hno, hp, hu, hs⟩
  · have hn : Extern.findNext fn = none := by
      simp only [Extern.findNext, hname, horig, row1, row2]
      rfl
    have he : Extern.find fn = some Extern.BytealgIndexByte.indexByte := by
      simp only [Extern.find, hname, row6, row7, row8]
      rfl
    have hform : ∃ s c, args = [.string s, .int .u8 c] := by
      rcases args with _ | ⟨x, _ | ⟨y, _ | ⟨z, args⟩⟩⟩
      · exact ((M.fail_some (S := S) (x := (v, S'))).1 h).elim
      · cases x <;> exact ((M.fail_some (S := S) (x := (v, S'))).1 h).elim
      · cases x <;> cases y <;> first | exact ((M.fail_some (S := S) (x := (v, S'))).1 h).elim | skip
        rename_i s k c
        cases k <;> first | exact ((M.fail_some (S := S) (x := (v, S'))).1 h).elim | exact ⟨_, _, rfl⟩
      · cases x <;> cases y <;> first | exact ((M.fail_some (S := S) (x := (v, S'))).1 h).elim | skip
        rename_i s k c
        cases k <;> exact ((M.fail_some (S := S) (x := (v, S'))).1 h).elim
    obtain ⟨s, c, rfl⟩ := hform
    simp only [extA] at h
    obtain ⟨rfl, rfl⟩ := M.pure_some.1 h
    have hargs : args' = #[.string s, .int .u8 c] := by
      obtain ⟨l⟩ := args'
      cases ha with
      | cons h1 h2 =>
        cases h2 with
        | cons h2 h3 =>
          cases h3
          cases h1; cases h2
          rfl
    subst hargs
    refine ⟨[], _, Sim.refl hr, .int _ _, ?_⟩
    rw [run_callFunc_extern hf (by rw [hname]; rfl) hbn hn he, run_indexByte_string]
    rw [firstIdx_eq]
    rfl
  · simp only [noRow, Bool.and_eq_true, bne_iff_ne, ne_eq, Option.isNone_iff_eq_none] at hno
    obtain ⟨⟨⟨⟨hne, h1⟩, h2⟩, h3⟩, h4⟩ := hno
    have hn : Extern.findNext fn = none := by
      simp only [Extern.findNext, horig, h1, row3]
      rfl
    have he : Extern.find fn = some (Extern.SlicesOverlaps.overlaps fn.params fn.resultTypes) := by
      simp only [Extern.find, horig, h2, h3, h4, row4, row5]
      rfl
    obtain ⟨D, k1, k2, k3⟩ := overlaps_ok (results := fn.resultTypes) hp hu hs h hr ha
    refine ⟨D, v, k1, k2, ?_⟩
    rw [run_callFunc_extern hf (by simpa using hne) hbn hn he, k3]
    rfl

/-- new blocks alone -/
structure Grew (w w' : World) : Prop where
  os : w'.os = w.os
  tape : w'.tape = w.tape
  output : w'.output = w.output
  size : w.heap.size ≤ w'.heap.size
  old : ∀ k, k < w.heap.size → w'.heap[k]? = w.heap[k]?
theorem sim_grew (h : Rel P r S w) {w' : World} (hg : Grew w w') : Sim P [] r S w r S w' where
  le := .refl r
  rel := ⟨fun id b hb => by
    obtain ⟨h1, o1, h2, h3⟩ := h.at_ id b hb
    exact ⟨h1, o1, by rw [hg.old _ (Array.getElem?_eq_some_iff.1 h2).1]; exact h2, h3⟩, h.inj'⟩
  log := rfl
  next := Nat.le_refl _
  dom := fun id => ⟨fun h => .inl h, fun h => h.elim (fun h => h) fun ⟨a, b⟩ => by omega⟩
  size := hg.size
  os := hg.os
  tape := hg.tape
  output := hg.output
  frame := fun k hk _ => hg.old k hk
  kept := fun id b hb _ => by
    obtain ⟨h1, o1, h2, h3⟩ := h.at_ id b hb
    exact hg.old _ (Array.getElem?_eq_some_iff.1 h2).1
  same := fun _ _ _ => rfl
  live := fun _ _ h => h

/-- what a function answers, as a plain law of its plain arguments: and it touches nothing that was there -/
def SumOk (P : Program) (f : FuncId) (g : List Value → Option Value) : Prop := ∀ args v, g args = some v → ∀ (r : Ren) (w : World) (args' : Array Value), LRel r args args'.toList →
  ∃ w', Grew w w' ∧ plain v = true ∧ CallTo P (callFunc f args') w v w'

/-- a table of functions: each as it is compiled, or by a law that has been proved of it -/
def TabOk (P : Program) (F : Nat → Option AFn) : Prop := ∀ f af, F f = some af → (∃ fn, P.funcs[f]? = some fn ∧ compFunc P fn = some af) ∨ ∃ g, af = .sum g ∧ SumOk P f g

theorem comp_noSum {fn : Func} {g : List Value → Option Value} (h : compFunc P fn = some (.sum g)) : False := by
  unfold compFunc at h
  split at h
  · split at h
    · simp at h
    · split at h
      · split at h
        · simp at h
        · split at h
          · rename_i e he
            cases hs : sizeT P e <;> simp [hs] at h
          · simp at h
      · simp at h
  · split at h
    · simp at h
    · split at h <;> simp at h
theorem TabOk.comp {F : Nat → Option AFn} (hF : TabOk P F) {f : Nat} {af : AFn} (h : F f = some af) (hn : ∀ g, af ≠ .sum g) : ∃ fn, P.funcs[f]? = some fn ∧ compFunc P fn = some af := by
  rcases hF f af h with h | ⟨g, h, _⟩
  · exact h
  · exact absurd h (hn g)
theorem TabOk.sum {F : Nat → Option AFn} (hF : TabOk P F) {f : Nat} {g : List Value → Option Value} (h : F f = some (.sum g)) : SumOk P f g := by
  rcases hF f _ h with ⟨fn, _, h2⟩ | ⟨g', h, k⟩
  · exact (comp_noSum h2).elim
  · obtain rfl : g = g' := by simpa using h
    exact k

theorem callN_ok (hm : P.follows .mixedOrders = true) {F : Nat → Option AFn} (hF : TabOk P F) : ∀ n, CallOk P (callN F n) := by
  intro n
  induction n with
  | zero => intro t args v S S' h; exact (M.fail_some.1 h).elim
  | succ n ih =>
    intro t args v S S' h r w hr hf args' ha hd
    cases t with
    | fn f =>
      rcases hk : F f with _ | af | k | g
      · simp only [callN, hk] at h
        exact (M.fail_some.1 h).elim
      rotate_left
      · simp only [callN, hk] at h
        obtain ⟨fn, h1, h2⟩ := hF.comp hk (by intro g; simp)
        obtain ⟨D, v', k1, k2, k3⟩ := ext_ok h1 h2 h hr ha
        exact ⟨D, r, w, v', k1, k2, .inl k3⟩
      · simp only [callN, hk] at h
        obtain ⟨hg, rfl⟩ := M.lift_some.1 h
        obtain ⟨w', k1, k2, k3⟩ := hF.sum hk args v hg r w args' ha
        exact ⟨[], r, w', v, sim_grew hr k1, plain_rel k2, k3⟩
      · simp only [callN, hk] at h
        obtain ⟨fn, h1, h2⟩ := hF.comp hk (by intro g; simp)
        obtain ⟨c, hb, hname, hc, hrs, hnp⟩ := compFunc_go h2
        split at h
        · rename_i hlen
          simp only [M.bind_some] at h
          obtain ⟨⟨x, e'⟩, S1, h3, h4⟩ := h
          have h5 : (∀ id, x ≠ .exit id) ∧ ∃ vs, resAll e' af.results S1 = some (vs, S') ∧ v = (match (generalizing := false) vs with | [v] => v | vs => .tuple vs.toArray) := by
            have key : ∀ {vs : List Value} {S2 : St}, resAll e' af.results S1 = some (vs, S2) → (match vs with | [v] => M.pure v | vs => M.pure (.tuple vs.toArray) : M Value) S2 = some (v, S') →
                ∃ vs, resAll e' af.results S1 = some (vs, S') ∧ v = (match (generalizing := false) vs with | [v] => v | vs => .tuple vs.toArray) := by
              intro vs S2 q1 q2
              split at q2
              · obtain ⟨rfl, rfl⟩ := M.pure_some.1 q2; exact ⟨_, q1, rfl⟩
              · rename_i hne
                obtain ⟨rfl, rfl⟩ := M.pure_some.1 q2
                refine ⟨_, q1, ?_⟩
                split
                · exact absurd rfl (hne _)
                · rfl
            cases x with
            | exit id => exact (M.fail_some.1 h4).elim
            | normal =>
              simp only [M.bind_some] at h4
              obtain ⟨vs, S2, q1, q2⟩ := h4
              exact ⟨fun id => by simp, key q1 q2⟩
            | ret =>
              simp only [M.bind_some] at h4
              obtain ⟨vs, S2, q1, q2⟩ := h4
              exact ⟨fun id => by simp, key q1 q2⟩
          obtain ⟨hx, vs, h6, rfl⟩ := h5
          obtain ⟨D, r', w', v', k1, k2, k3⟩ := go_ok hm ih (Framed.callN F n) h1 hb hc hrs h3 hx h6 hr hf ha
          refine ⟨D, r', w', v', k1, k2, .inr (.inr (.inl ⟨f, args', ?_, fun c cs => ?_⟩))⟩
          · simp [tgtSem, callFunc, h1, hname, hb]
          · obtain ⟨fr, m1, _, m2⟩ := k3 (c :: cs)
            exact m1.trans (.one (step_leave_returned m2))
        · exact (M.fail_some.1 h).elim
    | yield l =>
      simp only [callN, M.bind_some, rd_some] at h
      obtain ⟨o, S0, ⟨hg, rfl⟩, h⟩ := h
      split at h
      · rename_i ps as bd env
        split at h
        · rename_i hlen
          simp only [M.bind_some] at h
          obtain ⟨_, Sw, hw, ⟨x1, e1⟩, S2, h1, h⟩ := h
          simp only [wr, Option.some.injEq, Prod.mk.injEq, true_and] at hw
          subst hw
          cases x1 with
          | normal =>
            simp only [M.bind_some] at h
            obtain ⟨⟨x, e2⟩, S3, h2, h⟩ := h
            have h7 : S' = { heap := S3.heap.set l (some (.loop ps as bd env (pendOf x))), next := S3.next, log := (l, true) :: S3.log } ∧ v = .bool (pendOf x).isNone := by
              cases x with
              | normal =>
                simp only [M.bind_some] at h
                obtain ⟨_, Sx, hwx, h⟩ := h
                simp only [wr, Option.some.injEq, Prod.mk.injEq, true_and] at hwx
                subst hwx
                obtain ⟨rfl, rfl⟩ := M.pure_some.1 h
                exact ⟨rfl, rfl⟩
              | ret =>
                simp only [M.bind_some] at h
                obtain ⟨_, Sx, hwx, h⟩ := h
                simp only [wr, Option.some.injEq, Prod.mk.injEq, true_and] at hwx
                subst hwx
                obtain ⟨rfl, rfl⟩ := M.pure_some.1 h
                exact ⟨rfl, rfl⟩
              | exit id =>
                simp only [M.bind_some] at h
                obtain ⟨_, Sx, hwx, h⟩ := h
                simp only [wr, Option.some.injEq, Prod.mk.injEq, true_and] at hwx
                subst hwx
                obtain ⟨rfl, rfl⟩ := M.pure_some.1 h
                exact ⟨rfl, rfl⟩
            obtain ⟨rfl, rfl⟩ := h7
            obtain ⟨D, r', w', k1, k2⟩ := yield_ok hm ih (Framed.callN F n) hg hlen h1 h2 rfl hr hf ha
            exact ⟨D, r', w', _, k1, .bool _, k2⟩
          | ret => exact (M.fail_some.1 h).elim
          | exit id => exact (M.fail_some.1 h).elim
        · exact (M.fail_some.1 h).elim
      · exact (M.fail_some.1 h).elim

/-- the empty renaming -/
def Ren.empty : Ren := { dom := fun _ => False, to := fun _ => 0, base := fun _ => 0, size := fun _ => 0, ext := fun _ => none }
def St.empty : St := { heap := .leaf, next := 0, log := [] }
theorem rel_empty (w : World) : Rel P Ren.empty St.empty w :=
  ⟨fun id b h => by simp [St.empty, Tr.get_leaf] at h, fun i j bi bj h => by simp [St.empty, Tr.get_leaf] at h⟩

/-- a call that the evaluation carries through from an abstract start -/
theorem callN_calls (hm : P.follows .mixedOrders = true) {F : Nat → Option AFn} (hF : TabOk P F) {n : Nat} {f : FuncId} {args : List Value} {v : Value} (h : callN F n (.fn f) args S = some (v, S')) (hr : Rel P r S w) (hf : Fresh r S S') {args' : Array Value} (ha : LRel r args args'.toList)
    (hgo : ∀ k, F f ≠ some (.ext k)) (hgs : ∀ g, F f ≠ some (.sum g)) :
    ∃ D r' w' v', Sim P D r S w r' S' w' ∧ VRel r' v v' ∧ ∀ cs, ∃ fr, Steps P (lone (Frame.enter P f args' .normal) cs w) (lone fr cs w') ∧ fr.fn = f ∧ fr.leaving P w' (.returned v') := by
  cases n with
  | zero => exact (M.fail_some.1 h).elim
  | succ n =>
    rcases hk : F f with _ | af | k | g
    · simp only [callN, hk] at h
      exact (M.fail_some.1 h).elim
    rotate_left
    · exact absurd hk (hgo k)
    · exact absurd hk (hgs g)
    · simp only [callN, hk] at h
      obtain ⟨fn, h1, h2⟩ := hF.comp hk (by intro g; simp)
      obtain ⟨c, hb, hname, hc, hrs, hnp⟩ := compFunc_go h2
      split at h
      · rename_i hlen
        simp only [M.bind_some] at h
        obtain ⟨⟨x, e'⟩, S1, h3, h4⟩ := h
        have h5 : (∀ id, x ≠ .exit id) ∧ ∃ vs, resAll e' af.results S1 = some (vs, S') ∧ v = (match (generalizing := false) vs with | [v] => v | vs => .tuple vs.toArray) := by
          have key : ∀ {vs : List Value} {S2 : St}, resAll e' af.results S1 = some (vs, S2) → (match vs with | [v] => M.pure v | vs => M.pure (.tuple vs.toArray) : M Value) S2 = some (v, S') →
              ∃ vs, resAll e' af.results S1 = some (vs, S') ∧ v = (match (generalizing := false) vs with | [v] => v | vs => .tuple vs.toArray) := by
            intro vs S2 q1 q2
            split at q2
            · obtain ⟨rfl, rfl⟩ := M.pure_some.1 q2; exact ⟨_, q1, rfl⟩
            · rename_i hne
              obtain ⟨rfl, rfl⟩ := M.pure_some.1 q2
              refine ⟨_, q1, ?_⟩
              split
              · exact absurd rfl (hne _)
              · rfl
          cases x with
          | exit id => exact (M.fail_some.1 h4).elim
          | normal =>
            simp only [M.bind_some] at h4
            obtain ⟨vs, S2, q1, q2⟩ := h4
            exact ⟨fun id => by simp, key q1 q2⟩
          | ret =>
            simp only [M.bind_some] at h4
            obtain ⟨vs, S2, q1, q2⟩ := h4
            exact ⟨fun id => by simp, key q1 q2⟩
        obtain ⟨hx, vs, h6, rfl⟩ := h5
        exact go_ok hm (callN_ok hm hF n) (Framed.callN F n) h1 hb hc hrs h3 hx h6 hr hf ha
      · exact (M.fail_some.1 h).elim
end Go.Wb
