/- That layer 28's first law finds each pair fair. -/
import Derived.Test.YtmepokefmpcnnaaDrCut
set_option maxRecDepth 100000
set_option linter.unusedVariables false
set_option linter.unusedSimpArgs false
namespace Go.Proofs.Ytmepokefmpcnnaa.Dr
open Go.Wb
section
variable {C : Tgt → List Value → M Value} {n : Nat} {Φ : Value → Hp → Prop} {S : Hp} {N : Nat} {v0 v11 : Value} {qs bs : List Int}
/-- numbers that may be read -/
def Reads (C : Tgt → List Value → M Value) (S : Hp) (v : Value) (N : Nat) (l : List Int) : Prop :=
  ∀ i, i < N → ∀ Φ : Value → Hp → Prop, wp (X C (.ixA 1 (.const v) (.const (i64 i)))) (fun t S => wp (X C (.load .one (.const t))) Φ S) S = Φ (i64 (at' l i)) S
theorem mul_bnd {a b : Int} (h0 : 0 ≤ a) (h1 : a ≤ 1000000) (h2 : 0 ≤ b) (h3 : b ≤ 1000000) : 0 ≤ a * b ∧ a * b ≤ 1000000000000 := by
  refine ⟨Int.mul_nonneg h0 h2, ?_⟩
  have := Int.mul_le_mul h1 h3 h2 (by omega)
  omega
theorem l140 (hn : N < n) (hN : N ≤ 6) (hq : Reads C S v0 N qs) (hb : Reads C S v11 N bs) (hqs : ∀ i, i < N → 1600 ≤ at' qs i ∧ at' qs i ≤ 65536) (hbs : ∀ i, i < N → 0 ≤ at' bs i ∧ at' bs i ≤ 1000000)
    {a : Nat} (ha : a < N) (hf : ∀ b, b < N → at' bs a * at' qs b - at' bs b * at' qs a ≤ at' qs a * at' qs b + 1600 * (at' qs a + at' qs b))
    {K : Value → Value → Value → Value → Value → Value → Value → Value → Value → Value → Value → Hp → Prop} {t1 t3 t8 t9 t10 t85 t86 t167 : Value}
    (k : K (i64 a) v0 t1 t3 t8 t9 t10 v11 t85 t86 t167 S) : L140 C n Φ K v0 t1 t3 t8 t9 t10 v11 (i64 a) t85 t86 t167 (i64 N) S := by
  refine ⟨fun m u0 u1 u3 u8 u9 u10 u11 u20 u85 u86 u167 u168 u172 u173 S' => ∃ b : Nat, u0 = v0 ∧ u1 = t1 ∧ u3 = t3 ∧ u8 = t8 ∧ u9 = t9 ∧ u10 = t10 ∧ u11 = v11 ∧ u20 = i64 a ∧ u85 = t85 ∧ u86 = t86 ∧ u167 = t167 ∧ u168 = i64 a ∧ u172 = i64 N ∧ u173 = i64 b ∧ b ≤ N ∧ m = N - b ∧ S' = S, ⟨N, hn, 0, rfl, rfl, rfl, rfl, rfl, rfl, rfl, rfl, rfl, rfl, rfl, rfl, rfl, rfl, Nat.zero_le _, rfl, rfl⟩, ?_⟩
  rintro m S' u0 u1 u3 u8 u9 u10 u11 u20 u85 u86 u167 u168 u172 u173 ⟨b, rfl, rfl, rfl, rfl, rfl, rfl, rfl, rfl, rfl, rfl, rfl, rfl, rfl, rfl, hbN, rfl, rfl⟩
  rw [P_lss, ifP_bool]
  refine ifD_in (fun hlt => ?_) (fun hge => ?_)
  · have hlt : b < N := by omega
    have h1 := hqs a ha
    have h2 := hqs b hlt
    have h3 := hbs a ha
    have h4 := hbs b hlt
    have p1 := mul_bnd h3.1 h3.2 (b := at' qs b) (by omega) (by omega)
    have p2 := mul_bnd h4.1 h4.2 (b := at' qs a) (by omega) (by omega)
    have p3 := mul_bnd (a := at' qs a) (b := at' qs b) (by omega) (by omega) (by omega) (by omega)
    have hf := hf b hlt
    rw [hb a ha, hq b hlt, P_mul64 (by omega) (by omega), hb b hlt, hq a ha, P_mul64 (by omega) (by omega), P_sub64 (by omega) (by omega), hq a ha, hq b hlt, P_mul64 (by omega) (by omega), hq a ha, hq b hlt, P_add64 (by omega) (by omega), P_mul64 (by omega) (by omega), P_add64 (by omega) (by omega), P_gtr, decide_eq_false (by omega), ifP_bool, ifB_false, P_add64 (by omega) (by omega)]
    exact ⟨N - (b + 1), by omega, b + 1, rfl, rfl, rfl, rfl, rfl, rfl, rfl, rfl, rfl, rfl, rfl, rfl, rfl, by simp, by omega, rfl, rfl⟩
  · exact k
theorem l126 (hn : N < n) (hN : N ≤ 6) (hq : Reads C S v0 N qs) (hb : Reads C S v11 N bs) (hlen : ∀ Φ : Value → Hp → Prop, wp (X C (.len .slice (.const v11))) Φ S = Φ (i64 N) S) (hqs : ∀ i, i < N → 1600 ≤ at' qs i ∧ at' qs i ≤ 65536) (hbs : ∀ i, i < N → 0 ≤ at' bs i ∧ at' bs i ≤ 1000000)
    (hf : ∀ a b, a < N → b < N → at' bs a * at' qs b - at' bs b * at' qs a ≤ at' qs a * at' qs b + 1600 * (at' qs a + at' qs b))
    {K : Value → Value → Value → Value → Value → Value → Value → Value → Value → Hp → Prop} {t1 t3 t8 t9 t10 t85 t86 : Value}
    (k : K t86 v0 t1 t3 t8 t9 t10 v11 t85 S) : L126 C n Φ K v0 t1 t3 t8 t9 t10 v11 t85 t86 (i64 N) S := by
  refine ⟨fun m u0 u1 u3 u8 u9 u10 u11 u85 u86 u167 u168 S' => ∃ a : Nat, u0 = v0 ∧ u1 = t1 ∧ u3 = t3 ∧ u8 = t8 ∧ u9 = t9 ∧ u10 = t10 ∧ u11 = v11 ∧ u85 = t85 ∧ u86 = t86 ∧ u167 = i64 N ∧ u168 = i64 a ∧ a ≤ N ∧ m = N - a ∧ S' = S, ⟨N, hn, 0, rfl, rfl, rfl, rfl, rfl, rfl, rfl, rfl, rfl, rfl, rfl, Nat.zero_le _, rfl, rfl⟩, ?_⟩
  rintro m S' u0 u1 u3 u8 u9 u10 u11 u85 u86 u167 u168 ⟨a, rfl, rfl, rfl, rfl, rfl, rfl, rfl, rfl, rfl, rfl, rfl, haN, rfl, rfl⟩
  rw [P_lss, ifP_bool]
  refine ifD_in (fun hlt => ?_) (fun hge => ?_)
  · rw [hlen]
    refine l140 (a := a) hn hN hq hb hqs hbs (by omega) (fun b hb => hf a b (by omega) hb) (K := fun v168 a0 a1 a3 a8 a9 a10 a11 a85 a86 a167 S => wp (X C (.bin .add (.const v168) (.const (.int .i64 1)))) (fun v217 S => ∃ j, j < N - a ∧ _) S) ?_
    rw [P_add64 (by omega) (by omega)]
    exact ⟨N - (a + 1), by omega, a + 1, rfl, rfl, rfl, rfl, rfl, rfl, rfl, rfl, rfl, rfl, by simp, by omega, rfl, rfl⟩
  · exact k
end
end Go.Proofs.Ytmepokefmpcnnaa.Dr
