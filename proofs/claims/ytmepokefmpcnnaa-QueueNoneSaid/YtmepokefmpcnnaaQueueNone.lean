/- that layer 27's law 'QueueNone' is true for every input -/
import Derived.Test.YtmepokefmpcnnaaEngO
import Derived.Test.YtmepokefmpcnnaaRows
namespace Go.Proofs.Ytmepokefmpcnnaa.QueueNone
open Go.ChangeShapes Go.WideShapes Go.ChangeAt Go.RowKit Go.Wb
open Go.Proofs.Ytmepokefmpcnnaa
set_option linter.unusedVariables false
set_option maxRecDepth 100000

theorem own : ownKnob Try.prog.godebug = none := by kernel_rfl
theorem laid : laidOutB Try.prog = true := by kernel_rfl
theorem goes : isGo (tabOf Try.prog 7) = true := by kernel_rfl
theorem run0 (a b n : Int) : (callN (tabOf Try.prog) 2000 (.fn 7) [.agg #[.slice none 0 0, .int .u64 a, .int .u64 b], .int .i64 n] (names 1)).map (·.1) = some (.bool true) := by kernel_rfl
theorem run1 (l c : Nat) (a b n : Int) : (callN (tabOf Try.prog) 2000 (.fn 7) [.agg #[.slice (some ⟨0, 0, none⟩) l c, .int .u64 a, .int .u64 b], .int .i64 n] (names 1)).map (·.1) = some (.bool true) := by kernel_rfl

theorem opened {W : World} {base : Nat} {v0 v1 : Value} (h0 : Value.okWide Try.prog W .any base 44 v0) (h1 : Value.okWide Try.prog W .any base 3 v1) :
    ∃ x a b n, v0 = .agg #[x, .int .u64 a, .int .u64 b] ∧ v1 = .int .i64 n ∧ (x = .slice none 0 0 ∨ ∃ k o l c, x = .slice (some ⟨k, o, none⟩) l c ∧ l ≤ c) := by
  obtain ⟨n, rfl⟩ := okWide_int Try.underlying3 h1
  have hct : Try.prog.cellTypes Try.prog.depth 44 = some [22, 41, 41] := by kernel_rfl
  have hcs : Try.prog.cellsOf 44 = 3 := by kernel_rfl
  simp only [Value.okWide, Try.underlying44] at h0
  obtain ⟨cs, rfl, hsz, ts, hts, _, hcell⟩ := h0
  rw [hct] at hts
  obtain rfl : [22, 41, 41] = ts := by simpa using hts
  rw [hcs] at hsz
  obtain ⟨l⟩ := cs
  rcases l with _ | ⟨x, _ | ⟨y, _ | ⟨z, _ | ⟨u, l⟩⟩⟩⟩ <;> simp at hsz
  obtain ⟨u0, hu0, hx⟩ := hcell 0 x rfl
  obtain ⟨u1, hu1, hy⟩ := hcell 1 y rfl
  obtain ⟨u2, hu2, hz⟩ := hcell 2 z rfl
  obtain rfl : 22 = u0 := by simpa using hu0
  obtain rfl : 41 = u1 := by simpa using hu1
  obtain rfl : 41 = u2 := by simpa using hu2
  obtain ⟨a, rfl⟩ := cell_int Try.underlying41 hy
  obtain ⟨b, rfl⟩ := cell_int Try.underlying41 hz
  exact ⟨x, a, b, n, rfl, rfl, cell_slice Try.underlying22 hx⟩

theorem walk {W : World} {base : Nat} {v0 v1 : Value} (h0 : Value.okWide Try.prog W .any base 44 v0) (h1 : Value.okWide Try.prog W .any base 3 v1) :
    Calls Try.prog 7 #[v0, v1] W fun e w' => e = .returned (.bool true) ∧ Below W.heap.size W w' := by
  obtain ⟨x, a, b, n, rfl, rfl, hx⟩ := opened h0 h1
  rcases hx with rfl | ⟨k, o, l, c, rfl, hlc⟩
  · exact run_calls Try.checked.mixed (tabOk _) (run0 a b n) goes (r := Ren.of []) (fun id h => absurd h (Nat.not_lt_zero _))
      (.cons (LRel.agg (.cons .slcNil (.cons (.int _ _) (.cons (.int _ _) .nil)))) (.cons (.int _ _) .nil))
  · refine run_calls Try.checked.mixed (tabOk _) (run1 l c a b n) goes (r := Ren.of [(k, o)]) (fun id h => h) ?_
    have hs := slice_named (r := Ren.of [(k, o)]) (i := 0) (n := l) (c := c) (Nat.lt_succ_self 0) rfl
    exact .cons (LRel.agg (.cons hs (.cons (.int _ _) (.cons (.int _ _) .nil)))) (.cons (.int _ _) .nil)

theorem contract (H : Type) (enc : TypeId × Value → H) (W : World) (base : Nat) (args : Array Value) (ds gs : List (DataW H)) (before : List MemPlace)
    (hval : ∀ (j : Nat) t v, Try.f7.params[j]? = some t → args[j]? = some v → Value.okWide Try.prog W .any base t v)
    (hW : DataW.Whole enc Try.prog Try.f7.params.toList Rows.queueNoneSpec.vars false W args.toList ds gs before) :
    Calls Try.prog 7 args W fun e W' => ∃ v, e = .returned v ∧ Rows.queueNoneSpec.post enc Try.prog Try.f7 false true false false W args v W' := by
  obtain ⟨p, q, hA, hV, _⟩ := id hW
  obtain ⟨rfl, _⟩ := trodVars_none hV
  rw [Try.params7] at hA hval
  obtain ⟨v0, v1, d0, d1, p0, p1, rfl, rfl, rfl, h0, h1⟩ := trodAll_two hA
  refine (walk (hval 0 44 v0 rfl rfl) (hval 1 3 v1 rfl rfl)).mono fun e W' ⟨he, hb⟩ => ?_
  subst he
  exact ⟨_, rfl, law_post laid rfl rfl (t := 4) (by rfl) Try.underlying4 (by kernel_rfl) hW hb⟩

set_option maxRecDepth 100000 in
theorem lifted (os : Os) (started : os.Started) (H : Type) (enc : TypeId × Value → H) :
    ReturnsInHanded {} Try.checked os 7 .any (Rows.queueNoneSpec.pre6 enc Try.prog Try.f7 Rows.queueNoneRow.domain false) (Rows.queueNoneSpec.post enc Try.prog Try.f7 false true false false) := by
  refine returnsInHanded_of_change (C := Try.checked) own started (by kernel_rfl) Try.func7
    (ChangeSpec.witness6 (enc := enc) (C := Try.checked) false ⟨#[], #[.agg #[.slice none 0 0, .int .u64 0, .int .u64 0], .int .i64 0], []⟩ 8 (by kernel_rfl) (by kernel_rfl) (by kernel_rfl) (by kernel_rfl)) ?_
  intro W base args ds gs before hval hW _ _
  exact contract H enc W base args ds gs before hval hW

theorem proved : Rows.QueueNoneSaid :=
  OpenClaim.holds_of_wide 7 Try.f7 rfl rfl rfl rfl rfl rfl rfl ⟨rfl, rfl, rfl, rfl, rfl⟩ rfl rfl rfl rfl rfl (by kernel_rfl) Try.func7 (by kernel_rfl)
    (of_decide_eq_true (by kernel_rfl)) (by unfold Func.isWrapper; first | (rw [if_pos (by decide +kernel)]; kernel_rfl) | (rw [if_neg (by decide +kernel)]; exact ⟨rfl, rfl⟩))
    (fun os started H enc _ => lifted os started H enc)
end Go.Proofs.Ytmepokefmpcnnaa.QueueNone
