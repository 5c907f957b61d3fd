/- What layer 28's frames cost. -/
import Derived.Test.YtmepokefmpcnnaaDrFr
set_option maxRecDepth 100000
set_option linter.unusedVariables false
set_option linter.unusedSimpArgs false
namespace Go.Proofs.Ytmepokefmpcnnaa.Dr
open Go.Wb
def frameC (x : Int) : Int := 64 + x % 1537
theorem frameC_le (x : Int) : 64 ≤ frameC x ∧ frameC x ≤ 1600 := by unfold frameC; omega
/-- frames -/
theorem s53 {n : Nat} {S : Hp} {b o len cap i : Nat} {e : Option Nat} {c : List Value} {x : Int} {Φ : Value → Hp → Prop}
    (hl : 0 < len) (hrd : ∀ Ψ : List Value → Prop, rdP (S.heap.get b) Ψ = Ψ c) (hx : c[o + i % len]? = some (.int .u16 x)) (h0 : 0 ≤ x ∧ x < 65536)
    (k : Φ (i64 (frameC x)) S) :
    wp (callN T (n + 1) (.fn 53) [.slice (some ⟨b, o, none⟩) len cap, i64 i]) Φ S := by
  refine c53 g53 ?_
  unfold P53
  have hm : i % len < len := Nat.mod_lt _ hl
  have e1 : ((i : Int) % (len : Int)) = ((i % len : Nat) : Int) := by simp
  have e2 : (0 : Int) ≤ ((i % len : Nat) : Int) ∧ ((i % len : Nat) : Int) < (len : Int) := by omega
  rw [P_lenS, P_remp _ (by omega) (by omega), e1, P_ixA, condP_of e2, P_load1, hrd]
  simp only [Int.toNat_natCast, Nat.mul_one, hx, optP_some]
  rw [P_convI64 _ (by omega) (by omega), P_remp _ (by omega) (by omega), P_add64 (by omega) (by omega)]
  exact k
end Go.Proofs.Ytmepokefmpcnnaa.Dr
