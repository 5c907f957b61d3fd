/- The engine, part L: from a run to a law. -/
import Derived.Test.YtmepokefmpcnnaaEngM13
import Derived.KernelRfl
import Derived.ProofKit
import Derived.OpenShut
import Derived.WideKeyArgs
set_option linter.unusedSimpArgs false
set_option linter.unusedVariables false
namespace Go.Wb
open Go.RowKit Go.ChangeShapes
variable {P : Program} {w : World}

def tabOf (P : Program) (f : Nat) : Option AFn := match P.funcs[f]? with | some fn => compFunc P fn | none => none
theorem tabOk (P : Program) : TabOk P (tabOf P) := by
  intro f af h
  unfold tabOf at h
  split at h
  · rename_i fn hfn; exact .inl ⟨fn, hfn, h⟩
  · simp at h
def isGo : Option AFn → Bool
  | some (.go _) => true
  | _ => false

/-- the start: m abstract blocks that are but names -/
def names (m : Nat) : St := { heap := .leaf, next := m, log := [] }

theorem start_rel {r : Ren} (m : Nat) : Rel P r (names m) w :=
  ⟨fun id b h => by simp [names, Tr.get_leaf] at h, fun i j bi bj h => by simp [names, Tr.get_leaf] at h⟩
theorem start_dead {r : Ren} {m k : Nat} : ¬ Live r (names m) k := by
  rintro ⟨id, b, h, _⟩
  simp [names, Tr.get_leaf] at h

/-- a run that comes to true: so does the call, whatever the arguments lead to, and what was there stays -/
theorem run_calls (hm : P.follows .mixedOrders = true) {F : Nat → Option AFn} (hF : TabOk P F) {n m : Nat} {f : FuncId} {args : List Value} (h : (callN F n (.fn f) args (names m)).map (·.1) = some (.bool true)) (hg : isGo (F f) = true)
    {r : Ren} (hd : ∀ id, r.dom id → id < m) {args' : Array Value} (ha : LRel r args args'.toList) :
    Calls P f args' w fun e w' => e = .returned (.bool true) ∧ Below w.heap.size w w' := by
  cases hc : callN F n (.fn f) args (names m) with
  | none => rw [hc] at h; simp at h
  | some vs =>
    obtain ⟨v, S'⟩ := vs
    rw [hc] at h
    obtain rfl : v = .bool true := by simpa using h
    have hgo : ∀ k, F f ≠ some (.ext k) := by
      intro k hk
      rw [hk] at hg
      simp [isGo] at hg
    obtain ⟨D, r', w', v', hs, hv, hst⟩ := callN_calls hm hF hc (start_rel (P := P) (w := w) m) (fun id h1 h2 h3 => by
      have := hd id h3
      simp only [names] at h1
      omega) ha hgo (by
      intro k hk
      rw [hk] at hg
      simp [isGo] at hg)
    obtain rfl := hv.bool_inv
    intro cs
    obtain ⟨fr, k1, k2, k3⟩ := hst cs
    exact ⟨.returned (.bool true), w', fr, ⟨rfl, hs.os, hs.tape, hs.output, hs.size, fun k hk => hs.frame k hk start_dead⟩, k1, k2, k3⟩

theorem trodAll_stays {H : Type} {enc : TypeId × Value → H} (hl : laidOutB P = true) {W W' : World} {sp : Nat → Bool} : ∀ {ts : List TypeId} {vs : List Value} {ds : List (DataW H)} {ps : List MemPlace},
    (ts.all fun t => P.readableRec t && decide (t < P.types.size)) = true → DataW.TrodAll enc P W 0 (fun _ => true) true ts vs ds ps → (∀ x ∈ ps, W.sameAt W' x) → (∀ x ∈ ps, sp x.block = true) → DataW.TrodAll enc P W' 0 sp true ts vs ds ps
  | [], vs, ds, ps, ht, h, hs, hp => by
    obtain ⟨rfl, rfl, rfl⟩ := trodAll_nil h
    exact trodAll_mk0
  | t :: ts, vs, ds, ps, ht, h, hs, hp => by
    obtain ⟨v, vs', d, ds', p, q, rfl, rfl, rfl, h1, h2⟩ := trodAll_cons h
    simp only [List.all_cons, Bool.and_eq_true, decide_eq_true_eq] at ht
    exact trodAll_cons_mk (WideElems.Trod_stays hl ht.1.1 ht.1.2 h1 (fun x hx => hs x (by simp [hx])) fun x hx => hp x (by simp [hx]))
      (trodAll_stays hl ht.2 h2 (fun x hx => hs x (by simp [hx])) fun x hx => hp x (by simp [hx]))

/-- what a law's row asks behind a call that comes to true and leaves what was there -/
theorem law_post {H : Type} {enc : TypeId × Value → H} (hl : laidOutB P = true) {f : Func} {s : ChangeSpec} {apart fresh handsOn : Bool} {W W' : World} {args : Array Value} {ds gs : List (DataW H)} {before : List MemPlace} {t : TypeId}
    (hv : s.vars = []) (hfn : s.fn H (ds ++ gs) = { results := [.lit (.bool true)], args := ds }) (hrt : f.resultTypes = #[t]) (ht : P.underlying t = some .bool)
    (hts : (f.params.toList.all fun t => P.readableRec t && decide (t < P.types.size)) = true)
    (hW : DataW.Whole enc P f.params.toList s.vars apart W args.toList ds gs before) (hb : Below W.heap.size W W') :
    s.post enc P f apart fresh handsOn false W args (.bool true) W' := by
  obtain ⟨p, q, hA, hV, hpq, hz, hnd⟩ := id hW
  rw [hv] at hV
  obtain ⟨rfl, rfl⟩ := trodVars_none hV
  have hpp : before = p := by rw [hpq]; simp
  have hlt : ∀ x ∈ p, x.block < W.heap.size := fun x hx => hW.lt x (by rw [hpp]; exact hx)
  refine ⟨ds, [], before, [], p, [], hW, ?_, ?_, ?_, World.keptBut_mono (fun x hx => ⟨hx, .inr (.inl (by rw [← hpp]; exact hx))⟩) (hb.frame _), fun h => by cases h⟩
  · rw [hfn, hrt]
    exact trodAll_mk1 (shut_bool ht true)
  · rw [hfn]
    exact trodAll_stays hl hts hA (fun x hx => hb.same (hlt x hx)) fun x hx => by simpa using hlt x hx
  · rw [hv, hfn]
    rfl
end Go.Wb
