/- That layer 41's law 'HttpNone' is true for every input; it has no conditions. -/
import Derived.Test.YtmepokefmpcnnaaEngK
import Derived.Test.YtmepokefmpcnnaaRows
namespace Go.Proofs.Ytmepokefmpcnnaa.HttpNone
open Go.ChangeShapes Go.WideShapes Go.ChangeAt Go.RowKit Go.Wb
open Go.Proofs.Ytmepokefmpcnnaa
set_option linter.unusedVariables false
set_option maxRecDepth 100000

theorem own : ownKnob Try.prog.godebug = none := by kernel_rfl
theorem laid : laidOutB Try.prog = true := by kernel_rfl
theorem goes : isGo (tabOf Try.prog 9) = true := by kernel_rfl
theorem run0 : funK (tabOf Try.prog) 2000 9 [.slice none 0 0] (names 1) = some (.bool true) := by kernel_rfl
theorem branches (l c : Nat) : funK (tabOf Try.prog) 2000 9 [.slice (some ⟨0, 0, none⟩) l c] (names 1) = (match decide ((l : Int) > 100) with | true => some (.bool true) | false => some (.bool true)) := by kernel_rfl
theorem run1 (l c : Nat) : funK (tabOf Try.prog) 2000 9 [.slice (some ⟨0, 0, none⟩) l c] (names 1) = some (.bool true) := by
  rw [branches]
  cases decide ((l : Int) > 100) <;> rfl

theorem walk {W : World} {base : Nat} {v0 : Value} (h0 : Value.okWide Try.prog W .any base 22 v0) :
    Calls Try.prog 9 #[v0] W fun e w' => e = .returned (.bool true) ∧ Below W.heap.size W w' := by
  have h0' : Cell.okWide Try.prog W .any base 22 v0 := by simpa only [Value.okWide, Try.underlying22] using h0
  rcases cell_slice Try.underlying22 h0' with rfl | ⟨k, o, l, c, rfl, hlc⟩
  · exact run_calls Try.checked.mixed (tabOk _) (funK_callN run0) goes (r := Ren.of []) (fun id h => absurd h (Nat.not_lt_zero _)) (.cons .slcNil .nil)
  · refine run_calls Try.checked.mixed (tabOk _) (funK_callN (run1 l c)) goes (r := Ren.of [(k, o)]) (fun id h => h) ?_
    have hs := slice_named (r := Ren.of [(k, o)]) (i := 0) (n := l) (c := c) (Nat.lt_succ_self 0) rfl
    exact .cons hs .nil

theorem contract (H : Type) (enc : TypeId × Value → H) (W : World) (base : Nat) (args : Array Value) (ds gs : List (DataW H)) (before : List MemPlace)
    (hval : ∀ (j : Nat) t v, Try.f9.params[j]? = some t → args[j]? = some v → Value.okWide Try.prog W .any base t v)
    (hW : DataW.Whole enc Try.prog Try.f9.params.toList Rows.httpNoneSpec.vars false W args.toList ds gs before) :
    Calls Try.prog 9 args W fun e W' => ∃ v, e = .returned v ∧ Rows.httpNoneSpec.post enc Try.prog Try.f9 false true false false W args v W' := by
  obtain ⟨p, q, hA, hV, _⟩ := id hW
  obtain ⟨rfl, _⟩ := trodVars_none hV
  rw [Try.params9] at hA hval
  obtain ⟨v0, d0, rfl, rfl, h0⟩ := trodAll_one hA
  refine (walk (hval 0 22 v0 rfl rfl)).mono fun e W' ⟨he, hb⟩ => ?_
  subst he
  exact ⟨_, rfl, law_post laid rfl rfl (t := 4) (by rfl) Try.underlying4 (by kernel_rfl) hW hb⟩

theorem lifted (os : Os) (started : os.Started) (H : Type) (enc : TypeId × Value → H) :
    ReturnsInHanded {} Try.checked os 9 .any (Rows.httpNoneSpec.pre6 enc Try.prog Try.f9 Rows.httpNoneRow.domain false) (Rows.httpNoneSpec.post enc Try.prog Try.f9 false true false false) := by
  refine returnsInHanded_of_change (C := Try.checked) own started (by kernel_rfl) Try.func9
    (ChangeSpec.witness6 (enc := enc) (C := Try.checked) false ⟨#[], #[.slice none 0 0], []⟩ 8 (by kernel_rfl) (by kernel_rfl) (by kernel_rfl) (by kernel_rfl)) ?_
  intro W base args ds gs before hval hW _ _
  exact contract H enc W base args ds gs before hval hW

theorem proved : Rows.HttpNoneSaid :=
  OpenClaim.holds_of_wide 9 Try.f9 rfl rfl rfl rfl rfl rfl rfl ⟨rfl, rfl, rfl, rfl, rfl⟩ rfl rfl rfl rfl rfl (by kernel_rfl) Try.func9 (by kernel_rfl)
    (of_decide_eq_true (by kernel_rfl)) (by unfold Func.isWrapper; first | (rw [if_pos (by decide +kernel)]; kernel_rfl) | (rw [if_neg (by decide +kernel)]; exact ⟨rfl, rfl⟩))
    (fun os started H enc _ => lifted os started H enc)
end Go.Proofs.Ytmepokefmpcnnaa.HttpNone
