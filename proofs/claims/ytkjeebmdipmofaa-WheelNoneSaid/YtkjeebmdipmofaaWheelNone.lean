/- That layer 11's law 'WheelNone' is true for every input; it has no conditions. -/
import Derived.Test.YtkjeebmdipmofaaEngQ7
import Derived.Test.YtkjeebmdipmofaaEngO
import Derived.Test.YtkjeebmdipmofaaRows
namespace Go.Proofs.Ytkjeebmdipmofaa.WheelNone
open Go.ChangeShapes Go.WideShapes Go.ChangeAt Go.RowKit Go.Wb
open Go.Proofs.Ytkjeebmdipmofaa
set_option linter.unusedVariables false
set_option maxRecDepth 100000

theorem own : ownKnob Try.prog.godebug = none := by kernel_rfl
theorem laid : laidOutB Try.prog = true := by kernel_rfl
theorem goes : isGo (tabOf Try.prog 3) = true := by kernel_rfl
theorem quick (a b n : Int) : Q.runsTrue (tabOf Try.prog) 5000 3 [.agg #[.int .i64 a, .int .u64 b], .int .u64 n] 0 = true := by kernel_rfl

theorem opened {W : World} {base : Nat} {v0 : Value} (h0 : Value.okWide Try.prog W .any base 24 v0) : ∃ a b, v0 = .agg #[.int .i64 a, .int .u64 b] := by
  have hct : Try.prog.cellTypes Try.prog.depth 24 = some [3, 22] := by kernel_rfl
  have hcs : Try.prog.cellsOf 24 = 2 := by kernel_rfl
  simp only [Value.okWide, Try.underlying24] at h0
  obtain ⟨cs, rfl, hsz, ts, hts, _, hcell⟩ := h0
  rw [hct] at hts
  obtain rfl : [3, 22] = ts := by simpa using hts
  rw [hcs] at hsz
  obtain ⟨l⟩ := cs
  rcases l with _ | ⟨x, _ | ⟨y, _ | ⟨u, l⟩⟩⟩ <;> simp at hsz
  obtain ⟨u0, hu0, hx⟩ := hcell 0 x rfl
  obtain ⟨u1, hu1, hy⟩ := hcell 1 y rfl
  obtain rfl : 3 = u0 := by simpa using hu0
  obtain rfl : 22 = u1 := by simpa using hu1
  obtain ⟨a, rfl⟩ := cell_int Try.underlying3 hx
  obtain ⟨b, rfl⟩ := cell_int Try.underlying22 hy
  exact ⟨a, b, rfl⟩

theorem walk {W : World} {base : Nat} {v0 v1 : Value} (h0 : Value.okWide Try.prog W .any base 24 v0) (h1 : Value.okWide Try.prog W .any base 22 v1) :
    Calls Try.prog 3 #[v0, v1] W fun e w' => e = .returned (.bool true) ∧ Below W.heap.size W w' := by
  obtain ⟨a, b, rfl⟩ := opened h0
  obtain ⟨n, rfl⟩ := okWide_int Try.underlying22 h1
  exact run_calls Try.checked.mixed (tabOk _) (Q.runsTrue_callN (quick a b n)) goes (r := Ren.of []) (fun id h => absurd h (Nat.not_lt_zero _))
    (.cons (LRel.agg (.cons (.int _ _) (.cons (.int _ _) .nil))) (.cons (.int _ _) .nil))

theorem contract (H : Type) (enc : TypeId × Value → H) (W : World) (base : Nat) (args : Array Value) (ds gs : List (DataW H)) (before : List MemPlace)
    (hval : ∀ (j : Nat) t v, Try.f3.params[j]? = some t → args[j]? = some v → Value.okWide Try.prog W .any base t v)
    (hW : DataW.Whole enc Try.prog Try.f3.params.toList Rows.wheelNoneSpec.vars false W args.toList ds gs before) :
    Calls Try.prog 3 args W fun e W' => ∃ v, e = .returned v ∧ Rows.wheelNoneSpec.post enc Try.prog Try.f3 false true false false W args v W' := by
  obtain ⟨p, q, hA, hV, _⟩ := id hW
  obtain ⟨rfl, _⟩ := trodVars_none hV
  rw [Try.params3] at hA hval
  obtain ⟨v0, v1, d0, d1, p0, p1, rfl, rfl, rfl, h0, h1⟩ := trodAll_two hA
  refine (walk (hval 0 24 v0 rfl rfl) (hval 1 22 v1 rfl rfl)).mono fun e W' ⟨he, hb⟩ => ?_
  subst he
  exact ⟨_, rfl, law_post laid rfl rfl (t := 4) (by rfl) Try.underlying4 (by kernel_rfl) hW hb⟩

theorem lifted (os : Os) (started : os.Started) (H : Type) (enc : TypeId × Value → H) :
    ReturnsInHanded {} Try.checked os 3 .any (Rows.wheelNoneSpec.pre6 enc Try.prog Try.f3 Rows.wheelNoneRow.domain false) (Rows.wheelNoneSpec.post enc Try.prog Try.f3 false true false false) := by
  refine returnsInHanded_of_change (C := Try.checked) own started (by kernel_rfl) Try.func3
    (ChangeSpec.witness6 (enc := enc) (C := Try.checked) false ⟨#[], #[.agg #[.int .i64 0, .int .u64 0], .int .u64 0], []⟩ 8 (by kernel_rfl) (by kernel_rfl) (by kernel_rfl) (by kernel_rfl)) ?_
  intro W base args ds gs before hval hW _ _
  exact contract H enc W base args ds gs before hval hW

theorem proved : Rows.WheelNoneSaid :=
  OpenClaim.holds_of_wide 3 Try.f3 rfl rfl rfl rfl rfl rfl rfl ⟨rfl, rfl, rfl, rfl, rfl⟩ rfl rfl rfl rfl rfl (by kernel_rfl) Try.func3 (by kernel_rfl)
    (of_decide_eq_true (by kernel_rfl)) (by unfold Func.isWrapper; first | (rw [if_pos (by decide +kernel)]; kernel_rfl) | (rw [if_neg (by decide +kernel)]; exact ⟨rfl, rfl⟩))
    (fun os started H enc _ => lifted os started H enc)
end Go.Proofs.Ytkjeebmdipmofaa.WheelNone
