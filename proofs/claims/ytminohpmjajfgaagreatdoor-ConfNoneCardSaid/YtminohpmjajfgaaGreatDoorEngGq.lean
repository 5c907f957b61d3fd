/- The engine: a closed run that begins with the package-level variables. -/
import Derived.Test.YtminohpmjajfgaaGreatDoorEngRX
import Derived.Test.YtminohpmjajfgaaGreatDoorCfGlo
set_option linter.unusedVariables false
namespace Go.Wb
set_option linter.unusedSectionVars false
open Go.RowKit
variable {P : Program}
theorem run_gst [GloK] (hm : P.follows .mixedOrders = true) {F : Nat → Option AFn} (hF : TabOk P F) {n : Nat} {f : FuncId} {args : List Value} {w : World} (h : Q.callQ F n (.fn f) args startG Q.isTrue = true) (hg : isGo (F f) = true) (hw : GloAt w)
    {args' : Array Value} (ha : LRel Ren.gl args args'.toList) : Calls P f args' w fun e w' => e = .returned (.bool true) ∧ Below w.heap.size w w' := by
  obtain ⟨v, S', q', hc, h3, h4⟩ := Q.callQ_ok F n (.fn f) args _ _ startG_rel _ h
  obtain ⟨b, rfl, h5⟩ := Q.eBoolB_true.1 h4
  cases b with
  | false => cases h5
  | true =>
    have hgo : ∀ k, F f ≠ some (.ext k) := by intro k hk; rw [hk] at hg; simp [isGo] at hg
    have hgs : ∀ k, F f ≠ some (.sum k) := by intro k hk; rw [hk] at hg; simp [isGo] at hg
    intro cs
    obtain ⟨D, r', w', v', hs, hv, hst⟩ := callN_calls hm hF hc (gst_rel (P := P) hw) (fun id h1 _ hd => by
      have h3 : id < GloK.cells.length := hd
      have h4 : GloK.cells.length ≤ id := h1
      omega) ha hgo hgs cs
    obtain rfl := hv.bool_inv
    obtain ⟨D2, hD2, _, hro⟩ := NrX.callN F n (.fn f) args _ _ _ hc
    have hDD : D = D2 := by
      have h1 := hs.log
      rw [hD2] at h1
      exact (List.append_cancel_right h1).symm
    subst hDD
    obtain ⟨fr, k1, k2, k3⟩ := hst
    refine ⟨.returned (.bool true), w', fr, ⟨rfl, hs.os, hs.tape, hs.output, hs.size, fun k hk => ?_⟩, k1, k2, k3⟩
    by_cases hlv : Live Ren.gl gst k
    · obtain ⟨id, b, h1, h2⟩ := hlv
      have h3 := h1
      rw [gst_get, Option.map_eq_some_iff] at h3
      obtain ⟨c, h3, rfl⟩ := h3
      have hid : id < GloK.cells.length := (List.getElem?_eq_some_iff.1 h3).1
      have := hs.kept id _ h1 (hro id c hid (fun h => h) h1).1
      rw [h2] at this
      exact this
    · exact hs.frame k hk hlv
/-- the table, from its cells -/
theorem gloPow_at {G : Nat} {W : World} (hcell : ∀ r, r < 20 → W.cell? ⟨G, r, none⟩ = some (.int .u64 (pow10L.getD r 0))) : letI := gloPow G; GloAt W := by
  letI := gloPow G
  intro i c hc
  have hcc : (gloPow G).cells[i]? = ([tabP] : List (List Value))[i]? := rfl
  rw [hcc] at hc
  cases i with
  | succ i => simp at hc
  | zero =>
    obtain rfl : tabP = c := by simpa using hc
    have h0 := hcell 0 (by omega)
    have hinv : (gloPow G).inv 0 = G := rfl
    rw [hinv]
    unfold World.cell? at h0
    dsimp only at h0
    cases hh : W.heap[G]? with
    | none => rw [hh] at h0; cases h0
    | some o =>
      rw [hh] at h0
      cases o <;> try (cases h0; done)
      rename_i rc el fz
      refine ⟨rc, el, fz, rfl, fun j v hv => ?_⟩
      have hj : j < 20 := (List.getElem?_eq_some_iff.1 hv).1
      have := hcell j hj
      unfold World.cell? at this
      dsimp only at this
      rw [hh] at this
      simp only [Option.isSome_none, Bool.false_eq_true, if_false] at this
      rw [this, ← hv]
      have e5 : tabP = pow10L.map (.int .u64) := rfl
      rw [e5, List.getElem?_map, List.getD_eq_getElem?_getD]
      rw [List.getElem?_eq_getElem (show j < pow10L.length from hj)]
      rfl
end Go.Wb
