/- That the law 'DrrNone' is true for every input; it has no conditions. -/
import Derived.Test.YtmepokefmpcnnaaEngQ
import Derived.Test.YtmepokefmpcnnaaEngLO
import Derived.Test.YtmepokefmpcnnaaEngRX
import Derived.Test.YtmepokefmpcnnaaRows
namespace Go.Proofs.Ytmepokefmpcnnaa.DrrNone
open Go.ChangeShapes Go.WideShapes Go.ChangeAt Go.RowKit Go.Wb
open Go.Proofs.Ytmepokefmpcnnaa
set_option linter.unusedVariables false
set_option maxRecDepth 100000

theorem own : ownKnob Try.prog.godebug = none := by kernel_rfl
theorem laid : laidOutB Try.prog = true := by kernel_rfl
noncomputable def T0 : Nat → Option AFn := withExt (tabOf Try.prog) 98 (.insert 1 16)
theorem T0_ok : TabOk Try.prog T0 := withExt_ok (tabOk Try.prog) (insert_ok (elem := 9) (ov := 133) (rot := 134) (zero := [.string ⟨⟨[]⟩⟩]) Try.checked.mixed (tabOk Try.prog) (by kernel_rfl) (by kernel_rfl) (by kernel_rfl) (by kernel_rfl))
noncomputable def T1 : Nat → Option AFn := withExt T0 99 (.insert 1 8)
theorem T1_ok : TabOk Try.prog T1 := withExt_ok T0_ok (insert_ok (elem := 3) (ov := 135) (rot := 136) (zero := [.int .i64 0]) Try.checked.mixed T0_ok (by kernel_rfl) (by kernel_rfl) (by kernel_rfl) (by kernel_rfl))
theorem goes : isGo (T1 12) = true := by kernel_rfl
theorem quick (x0 : ByteArray) (x1 : Int) : Q.runsTrue T1 5000 12 [.string x0, .int .i64 x1] 0 = true := by kernel_rfl


theorem walk {W : World} {base : Nat} {v0 v1 : Value} (h0 : Value.okWide Try.prog W .any base 9 v0) (h1 : Value.okWide Try.prog W .any base 3 v1) :
    Calls Try.prog 12 #[v0, v1] W fun e w' => e = .returned (.bool true) ∧ Below W.heap.size W w' := by
  obtain ⟨x0, rfl⟩ := okWide_str Try.underlying9 h0
  obtain ⟨x1, rfl⟩ := okWide_int Try.underlying3 h1
  exact run_calls Try.checked.mixed T1_ok (Q.runsTrue_callN (quick x0 x1)) goes (r := Ren.of []) (fun id h => absurd h (Nat.not_lt_zero _))
    (.cons (.string _) (.cons (.int _ _) .nil))

theorem contract (H : Type) (enc : TypeId × Value → H) (W : World) (base : Nat) (args : Array Value) (ds gs : List (DataW H)) (before : List MemPlace)
    (hval : ∀ (j : Nat) t v, Try.f12.params[j]? = some t → args[j]? = some v → Value.okWide Try.prog W .any base t v)
    (hW : DataW.Whole enc Try.prog Try.f12.params.toList Rows.drrNoneSpec.vars false W args.toList ds gs before) :
    Calls Try.prog 12 args W fun e W' => ∃ v, e = .returned v ∧ Rows.drrNoneSpec.post enc Try.prog Try.f12 false true false false W args v W' := by
  obtain ⟨p, q, hA, hV, _⟩ := id hW
  obtain ⟨rfl, _⟩ := trodVars_none hV
  rw [Try.params12] at hA hval
  obtain ⟨v0, v1, d0, d1, p0, p1, rfl, rfl, rfl, h0, h1⟩ := trodAll_two hA
  refine (walk (hval 0 9 v0 rfl rfl) (hval 1 3 v1 rfl rfl)).mono fun e W' ⟨he, hb⟩ => ?_
  subst he
  exact ⟨_, rfl, law_post laid rfl rfl (t := 4) (by rfl) Try.underlying4 (by kernel_rfl) hW hb⟩

theorem lifted (os : Os) (started : os.Started) (H : Type) (enc : TypeId × Value → H) :
    ReturnsInHanded {} Try.checked os 12 .any (Rows.drrNoneSpec.pre6 enc Try.prog Try.f12 Rows.drrNoneRow.domain false) (Rows.drrNoneSpec.post enc Try.prog Try.f12 false true false false) := by
  refine returnsInHanded_of_change (C := Try.checked) own started (by kernel_rfl) Try.func12
    (ChangeSpec.witness6 (enc := enc) (C := Try.checked) false ⟨#[], #[.string .empty, .int .i64 0], []⟩ 8 (by kernel_rfl) (by kernel_rfl) (by kernel_rfl) (by kernel_rfl)) ?_
  intro W base args ds gs before hval hW _ _
  exact contract H enc W base args ds gs before hval hW

theorem proved : Rows.DrrNoneSaid :=
  OpenClaim.holds_of_wide 12 Try.f12 rfl rfl rfl rfl rfl rfl rfl ⟨rfl, rfl, rfl, rfl, rfl⟩ rfl rfl rfl rfl rfl (by kernel_rfl) Try.func12 (by kernel_rfl)
    (of_decide_eq_true (by kernel_rfl)) (by unfold Func.isWrapper; first | (rw [if_pos (by decide +kernel)]; kernel_rfl) | (rw [if_neg (by decide +kernel)]; exact ⟨rfl, rfl⟩))
    (fun os started H enc _ => lifted os started H enc)
end Go.Proofs.Ytmepokefmpcnnaa.DrrNone
