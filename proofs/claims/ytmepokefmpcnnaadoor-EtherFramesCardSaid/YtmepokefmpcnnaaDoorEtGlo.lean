/- Layer 2's laws: the one package-level variable that is read. -/
import Derived.Test.YtmepokefmpcnnaaDoorEngRX
import Derived.Test.YtmepokefmpcnnaaDoorProg
set_option linter.unusedVariables false
namespace Go.Proofs.YtmepokefmpcnnaaDoor
open Go.Wb
def tab64 : List Value := ([0, 1, 56, 2, 57, 49, 28, 3, 61, 58, 42, 50, 38, 29, 17, 4, 62, 47, 59, 36, 45, 43, 51, 22, 53, 39, 33, 30, 24, 18, 12, 5, 63, 55, 48, 27, 60, 41, 37, 16, 46, 35, 44, 21, 52, 32, 23, 11, 54, 26, 40, 15, 34, 20, 31, 10, 25, 14, 19, 9, 13, 8, 7, 6] : List Int).map (.int .u8)
def gIx (g : Nat) : Option Nat := match Nat.beq g 7 with
  | true => some 0
  | false => none
instance : GloK where
  ix := gIx
  inv := fun _ => 7
  cells := [tab64]
  ok := fun g i h => by
    unfold gIx at h
    split at h
    · rename_i e
      have e := Nat.eq_of_beq_eq_true e
      cases h
      exact ⟨e.symm, by decide⟩
    · cases h
  pl := fun c hc v hv => by
    obtain rfl : c = tab64 := by simpa using hc
    obtain ⟨n, _, rfl⟩ := List.mem_map.1 hv
    rfl
end Go.Proofs.YtmepokefmpcnnaaDoor
