/- That the law 'DrainNone' is true for every input; it has no conditions. -/
import Derived.Test.YtkjeebmdipmofaaEngQ7
import Derived.Test.YtkjeebmdipmofaaEngO
import Derived.Test.YtkjeebmdipmofaaRows
namespace Go.Proofs.Ytkjeebmdipmofaa.DrainNone
open Go.ChangeShapes Go.WideShapes Go.ChangeAt Go.RowKit Go.Wb
open Go.Proofs.Ytkjeebmdipmofaa
set_option linter.unusedVariables false
set_option maxRecDepth 100000

theorem own : ownKnob Try.prog.godebug = none := by kernel_rfl
theorem laid : laidOutB Try.prog = true := by kernel_rfl
theorem goes : isGo (tabOf Try.prog 5) = true := by kernel_rfl
theorem quick (x0 : ByteArray) (x1 : Int) : Q.runsTrue (tabOf Try.prog) 5000 5 [.string x0, .int .u32 x1] 0 = true := by kernel_rfl


theorem walk {W : World} {base : Nat} {v0 v1 : Value} (h0 : Value.okWide Try.prog W .any base 9 v0) (h1 : Value.okWide Try.prog W .any base 59 v1) :
    Calls Try.prog 5 #[v0, v1] W fun e w' => e = .returned (.bool true) ∧ Below W.heap.size W w' := by
  obtain ⟨x0, rfl⟩ := okWide_str Try.underlying9 h0
  obtain ⟨x1, rfl⟩ := okWide_int Try.underlying59 h1
  exact run_calls Try.checked.mixed (tabOk _) (Q.runsTrue_callN (quick x0 x1)) goes (r := Ren.of []) (fun id h => absurd h (Nat.not_lt_zero _))
    (.cons (.string _) (.cons (.int _ _) .nil))

theorem contract (H : Type) (enc : TypeId × Value → H) (W : World) (base : Nat) (args : Array Value) (ds gs : List (DataW H)) (before : List MemPlace)
    (hval : ∀ (j : Nat) t v, Try.f5.params[j]? = some t → args[j]? = some v → Value.okWide Try.prog W .any base t v)
    (hW : DataW.Whole enc Try.prog Try.f5.params.toList Rows.drainNoneSpec.vars false W args.toList ds gs before) :
    Calls Try.prog 5 args W fun e W' => ∃ v, e = .returned v ∧ Rows.drainNoneSpec.post enc Try.prog Try.f5 false true false false W args v W' := by
  obtain ⟨p, q, hA, hV, _⟩ := id hW
  obtain ⟨rfl, _⟩ := trodVars_none hV
  rw [Try.params5] at hA hval
  obtain ⟨v0, v1, d0, d1, p0, p1, rfl, rfl, rfl, h0, h1⟩ := trodAll_two hA
  refine (walk (hval 0 9 v0 rfl rfl) (hval 1 59 v1 rfl rfl)).mono fun e W' ⟨he, hb⟩ => ?_
  subst he
  exact ⟨_, rfl, law_post laid rfl rfl (t := 4) (by rfl) Try.underlying4 (by kernel_rfl) hW hb⟩

theorem lifted (os : Os) (started : os.Started) (H : Type) (enc : TypeId × Value → H) :
    ReturnsInHanded {} Try.checked os 5 .any (Rows.drainNoneSpec.pre6 enc Try.prog Try.f5 Rows.drainNoneRow.domain false) (Rows.drainNoneSpec.post enc Try.prog Try.f5 false true false false) := by
  refine returnsInHanded_of_change (C := Try.checked) own started (by kernel_rfl) Try.func5
    (ChangeSpec.witness6 (enc := enc) (C := Try.checked) false ⟨#[], #[.string .empty, .int .u32 0], []⟩ 8 (by kernel_rfl) (by kernel_rfl) (by kernel_rfl) (by kernel_rfl)) ?_
  intro W base args ds gs before hval hW _ _
  exact contract H enc W base args ds gs before hval hW

theorem proved : Rows.DrainNoneSaid :=
  OpenClaim.holds_of_wide 5 Try.f5 rfl rfl rfl rfl rfl rfl rfl ⟨rfl, rfl, rfl, rfl, rfl⟩ rfl rfl rfl rfl rfl (by kernel_rfl) Try.func5 (by kernel_rfl)
    (of_decide_eq_true (by kernel_rfl)) (by unfold Func.isWrapper; first | (rw [if_pos (by decide +kernel)]; kernel_rfl) | (rw [if_neg (by decide +kernel)]; exact ⟨rfl, rfl⟩))
    (fun os started H enc _ => lifted os started H enc)
end Go.Proofs.Ytkjeebmdipmofaa.DrainNone
