/- The table of ten's powers: the one package-level variable that is read. -/
import Derived.Test.YtminohpmjajfgaaGreatDoorEngBA
set_option linter.unusedVariables false
namespace Go.Wb
def pow10L : List Int := [1, 10, 100, 1000, 10000, 100000, 1000000, 10000000, 100000000, 1000000000, 10000000000, 100000000000, 1000000000000, 10000000000000, 100000000000000, 1000000000000000, 10000000000000000, 100000000000000000, 1000000000000000000, 10000000000000000000]
def tabP : List Value := pow10L.map (.int .u64)
/-- a program of which that table alone is read, its number G -/
@[reducible] def gloPow (G : Nat) : GloK where
  ix := fun g => match Nat.beq g G with
    | true => some 0
    | false => none
  inv := fun _ => G
  cells := [tabP]
  ok := fun g i h => by
    cases e : Nat.beq g G with
    | false => simp only [e] at h; cases h
    | true =>
      simp only [e] at h
      cases h
      exact ⟨(Nat.eq_of_beq_eq_true e).symm, Nat.zero_lt_one⟩
  pl := fun c hc v hv => by
    obtain rfl : c = tabP := by simpa using hc
    obtain ⟨n, _, rfl⟩ := List.mem_map.1 hv
    rfl
end Go.Wb
