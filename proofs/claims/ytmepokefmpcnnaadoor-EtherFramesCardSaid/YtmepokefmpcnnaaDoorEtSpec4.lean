/- What layer 2's functions do: Write. -/
import Derived.Test.YtmepokefmpcnnaaDoorEtSpec3
set_option maxRecDepth 100000
set_option linter.unusedVariables false
set_option linter.unusedSimpArgs false
namespace Go.Proofs.YtmepokefmpcnnaaDoor.Et
open Go.Wb
section
variable {C : Tgt → List Value → M Value} {S : Hp} {Φ : Value → Hp → Prop}
theorem P_shr8 {a : Int} (h0 : 0 ≤ a) (h1 : a < 65536) : wp (X C (.bin .shr (.const (.int .u16 a)) (.const (.int .u64 8)))) Φ S = Φ (.int .u16 (a / 256)) S := by
  have e : X C (.bin .shr (.const (.int .u16 a)) (.const (.int .u64 8))) = M.pure (.int .u16 (a / 256)) := by
    rw [X_bin]
    have : binV .shr (.int .u16 a) (.int .u64 8) = some (.int .u16 (a / 256)) := by
      simp only [binV]
      have h2 : (2 : Int) ^ (Min.min (8 : Int).toNat IntKind.u16.bits) = 256 := by decide
      rw [h2, if_neg (by omega), Int.fdiv_eq_ediv_of_nonneg _ (by omega)]
    rw [this]
    rfl
  rw [e, wp_pure]
theorem slcA_ev {b o : Nat} (hg : ∃ cs, S.heap.get b = some (.cells none false cs)) : X C (.slcA 6 1 (.const (.pointer (some ⟨b, o, none⟩))) none none none) S.st = some (.slice (some ⟨b, o, none⟩) 6 6, { heap := S.heap, next := S.next, log := [(b, false)] }) := by
  obtain ⟨cs, hg⟩ := hg
  simp [X, exec, M.bind, M.lift, Atom.ev, bnds, bnd, rd, Hp.st, hg, M.pure]
theorem D_slcA {j b o : Nat} {ts : List (Nat × Wb.Touch)} {Ψ : Value → List (Nat × Wb.Touch) → Hp → Prop} (hg : ∃ cs, S.heap.get b = some (.cells none false cs)) (k : Ψ (.slice (some ⟨b, o, none⟩) 6 6) ((j, ⟨[(b, false)], S.next, S.next⟩) :: ts) S) : dstepP j ts (X C (.slcA 6 1 (.const (.pointer (some ⟨b, o, none⟩))) none none none)) Ψ S :=
  ⟨_, _, slcA_ev hg, k⟩
theorem hd12_split (y : Nat → Int) (z : Value) : ((hd12 y ++ [z]).drop 0).take 6 = (hd12 y).take 6 ∧ ((hd12 y ++ [z]).drop 6).take 6 = (hd12 y).drop 6 ∧ (hd12 y ++ [z])[12]? = some z ∧ (hd12 y).take 6 ++ (hd12 y).drop 6 = hd12 y := ⟨rfl, rfl, rfl, rfl⟩
theorem app_ext1 {b n m : Nat} {x : Value} {L l : List Value} {z : Option Nat} (hW : WF S) (hlL : L.length = n) (hx : lenOf x = some m) (hm : m = l.length) (hz : z = none ∨ z = some 1) (hb : S.heap.get b = some (.cells z false L)) (hf : ∀ Ψ : List Value → Hp → Prop, wp (firstN 1 m x) Ψ S = Ψ l S) (hone : l.all (·.oneCell') = true) (hbig : n + m ≤ 100000)
    (k : ∀ S' A z', Fra [b] S S' → WF S' → (A = b ∨ S.next ≤ A) → A < S'.next → (z' = none ∨ z' = some 1) → S'.heap.get A = some (.cells z' false (L ++ l)) → Φ (.slice (some ⟨A, 0, none⟩) (n + m) (n + m)) S') : wp (X C (.app 1 1 5 (.const (.slice (some ⟨b, 0, none⟩) n n)) (.const x))) Φ S := by
  have hbn := hW _ _ hb
  by_cases h0 : m = 0
  · subst h0
    obtain rfl : l = [] := List.length_eq_zero_iff.1 hm.symm
    rw [P_app_fit 1 1 5 b 0 n n hx (by omega), hf, wp_stCells, hb, blkP_cells]
    refine ⟨⟨by simp; omega, rfl⟩, ?_⟩
    have hsp : splice L (0 + n * 1) [] = L := by
      rw [splice_eq _ _ _ (by simp; omega)]; rfl
    rw [hsp]
    exact k _ b z ((Fra.refl _ _).put (.inr (by simp)) _) (hW.put hbn _) (.inl rfl) hbn hz (by rw [put_at, List.append_nil])
  · rcases hz with rfl | rfl
    · rw [P_app_own 1 1 5 b 0 n n hx (by omega) ⟨by omega, by omega, by omega⟩ hb (by omega) hf hone]
      refine k _ S.next (some 1) ((Fra.refl _ _).add _) (hW.add _) (.inr (Nat.le_refl _)) (by (first | omega | (simp only [Hp.add_next, Hp.put_next]; done) | (simp only [Hp.add_next, Hp.put_next]; omega))) (.inr rfl) ?_
      rw [add_at, List.drop_zero, Nat.mul_one, List.take_of_length_le (by omega)]
    · rw [P_app_ext 1 1 5 b 0 n n hx (by omega) ⟨by omega, by omega, by omega⟩ hb (by omega) (by omega) hf hone]
      refine k _ S.next (some 1) (((Fra.refl _ _).put (.inr (by simp)) _).add _) ((hW.put hbn _).add _) (.inr (Nat.le_refl _)) (by (first | omega | (simp only [Hp.add_next, Hp.put_next]; done) | (simp only [Hp.add_next, Hp.put_next]; omega))) (.inr rfl) ?_
      have := add_at (S.put b none) (.cells (some 1) false ((L.drop 0).take (n * 1) ++ l))
      rw [show (S.put b none).next = S.next from rfl] at this
      rw [this, List.drop_zero, Nat.mul_one, List.take_of_length_le (by omega)]
theorem wrapU8 (t : Int) : IntKind.u8.wrap t = t % 256 := by
  simp [IntKind.wrap, IntKind.bits, IntKind.signed]
theorem s13 {n : Nat} {y : Nat → Int} {t : Int} {v : Value} {l : List Value} {W : List Nat} (hW : WF S) (h : BS S v l W) (hb : Byt l) (hl : l.length ≤ 1646) (ht : 0 ≤ t ∧ t < 65536)
    (k : ∀ S' A z, Fra [] S S' → WF S' → S.next ≤ A → A < S'.next → (z = none ∨ z = some 1) → S'.heap.get A = some (.cells z false (hd12 y ++ [u8 (t / 256), u8 (t % 256)] ++ l)) → Φ (.tuple ⟨[.slice (some ⟨A, 0, none⟩) (14 + l.length) (14 + l.length), i64 0]⟩) S') : wp (callN T (n + 1) (.fn 13) [.agg ⟨hd12 y ++ [.int .u16 t]⟩, v]) Φ S := by
  refine c13 g13 ?_
  unfold P13
  have hlen := h.len
  have e1 : decide (((l.length : Nat) : Int) > 1646) = false := decide_eq_false (by omega)
  obtain ⟨q1, q2, q3, q4⟩ := hd12_split y (.int .u16 t)
  have hW1 := hW.add (.cells none false (hd12 y ++ [.int .u16 t]))
  have hF1 := (Fra.refl [] S).add (.cells none false (hd12 y ++ [.int .u16 t]))
  have g1 := add_at S (.cells none false (hd12 y ++ [.int .u16 t]))
  have n1 : (S.add (.cells none false (hd12 y ++ [.int .u16 t]))).next = S.next + 1 := rfl
  have h1 := h.fra hF1 (by simp)
  simp (maxSteps := 100000000) (disch := first | omega | (simp only [Hp.add_next, Hp.put_next]; done) | (simp only [Hp.add_next, Hp.put_next]; omega) | fail) only [↓P_fldA, ↓P_box, ↓P_bslice, ↓P_load1, ifP_bool, ifB_false, ↓P_gtr, List.length_cons, List.length_nil, Nat.zero_add, Nat.add_zero, Nat.reduceAdd, Nat.reduceLeDiff, and_true, fillA, Atom.ev, cells_agg, hlen, e1]
  generalize S.add (.cells none false (hd12 y ++ [.int .u16 t])) = S1 at hW1 hF1 g1 n1 h1 ⊢
  refine D_bslice 0 _ 5 0 _ _ _ ?_
  rw [show fillA .leaf ([] : List (Nat × Nat × Atom)) [] = some [] from rfl, optP_some]
  have hW2 := hW1.add (.cells none false [])
  have hF2 := hF1.add (.cells none false [])
  have g2 : (S1.add (.cells none false [])).heap.get S.next = _ := (add_off (by omega) _).trans g1
  have hE := add_at S1 (.cells none false [])
  have n2 : (S1.add (.cells none false [])).next = S1.next + 1 := rfl
  have h2 := h1.fra ((Fra.refl [] S1).add (.cells none false [])) (by simp)
  generalize S1.add (.cells none false []) = S2 at hW2 hF2 g2 hE n2 h2 ⊢
  refine D_slcA ⟨_, g2⟩ ?_
  have hx6 : ∀ Ψ : List Value → Hp → Prop, wp (firstN 1 6 (.slice (some ⟨S.next, 0, none⟩) 6 6)) Ψ S2 = Ψ ((hd12 y).take 6) S2 := by
    intro Ψ
    rw [W_firstN, g2, rdP_cells, condP_of (by simp [hd12])]
    rfl
  refine D_specW (bdX _ _) hW2 (W := [S1.next]) (Post := fun v S' => ∃ A z, v = .slice (some ⟨A, 0, none⟩) 6 6 ∧ S1.next ≤ A ∧ A < S'.next ∧ (z = none ∨ z = some 1) ∧ S'.heap.get A = some (.cells z false ((hd12 y).take 6)))
    (app_copy 1 1 5 _ (l := (hd12 y).take 6) (n := 6) hW2 rfl (by simp [hd12]) hE hx6 rfl (by omega) fun S' b' z hF hk hW' k2 k3 k4 k5 => ⟨hF, b', z, rfl, k2, k3, k4, k5⟩) ?_
  rintro w S3 tt hF3 ⟨A1, z1, rfl, a1, a2, a3, a4⟩ hW3 u1 u2 u3 u4
  have g3 := hF3.at_ (by omega) (by simp; omega) g2
  refine D_slcA ⟨_, g3⟩ ?_
  have hx66 : ∀ Ψ : List Value → Hp → Prop, wp (firstN 1 6 (.slice (some ⟨S.next, 6, none⟩) 6 6)) Ψ S3 = Ψ ((hd12 y).drop 6) S3 := by
    intro Ψ
    rw [W_firstN, g3, rdP_cells, condP_of (by simp [hd12])]
    rfl
  refine app_ext1 (b := A1) (n := 6) (m := 6) hW3 (by simp [hd12]) rfl (by simp [hd12]) a3 a4 hx66 rfl (by omega) fun S4 A2 z2 hF4 hW4 b1 b2 bz b3 => ?_
  rw [q4] at b3
  have n3 := hF3.next
  have n4 := hF4.next
  refine okP_in ?_ ?_
  · refine apart_cons (one_keep (.inr (apt_read (by omega) fun hb => ?_)) (one_cons (.inr apt_reads) (one_cons (.inr (apt_ra (by omega))) one_nil))) ?_
    · rcases u3 _ hb with hb | hb
      · omega
      · simp at hb; omega
    · exact apart_keep (one_cons (.inl (by decide)) (one_cons (.inl (by decide)) one_nil)) (apart_cons (one_cons (.inr (apt_ra (by omega))) one_nil) (apart_cons one_nil apart_nil))
  have g4 := hF4.at_ (by omega) (by simp; omega) g3
  have hc8 : ∀ (Φ : Value → Hp → Prop), wp (X (callN T n) (.conv (.int .u8) (.const (.int .u16 t)))) Φ S4 = Φ (u8 (t % 256)) S4 := fun Φ => by rw [P_conv, wrapU8]
  have hd8 : ∀ (Φ : Value → Hp → Prop), wp (X (callN T n) (.conv (.int .u8) (.const (.int .u16 (t / 256))))) Φ S4 = Φ (u8 (t / 256)) S4 := fun Φ => by rw [P_conv, wrapU8, show t / 256 % 256 = t / 256 by omega]
  simp (maxSteps := 100000000) (disch := first | omega | (simp only [Hp.add_next, Hp.put_next]; done) | (simp only [Hp.add_next, Hp.put_next]; omega) | fail) only [↓P_convU8, rdP_cells, optP_some, List.length_cons, List.length_nil, Nat.zero_add, Nat.reduceAdd, Nat.reduceLeDiff, and_true, if_true, setAll, List.set_cons_zero, List.set_cons_succ, List.size_toArray, cells_int, g4, q3, ↓P_shr8 ht.1 ht.2, hc8]
  have hF34 : Fra [] S S4 := (hF2.trans (W := []) hF3 (by simp) (fun b hb => .inl (by have : b = S1.next := (by simpa using hb); omega))).trans hF4 (by simp) (fun b hb => .inl (by have : b = A1 := (by simpa using hb); omega))
  have hA2 : S1.next ≤ A2 := by rcases b1 with rfl | b1 <;> omega
  have hW5 := hW4.add (.cells none false [u8 (t / 256), u8 (t % 256)])
  have hF5 := hF34.add (.cells none false [u8 (t / 256), u8 (t % 256)])
  have g5 := add_at S4 (.cells none false [u8 (t / 256), u8 (t % 256)])
  have b5 : (S4.add (.cells none false [u8 (t / 256), u8 (t % 256)])).heap.get A2 = _ := (add_off (by omega) _).trans b3
  have n5 : (S4.add (.cells none false [u8 (t / 256), u8 (t % 256)])).next = S4.next + 1 := rfl
  generalize S4.add (.cells none false [u8 (t / 256), u8 (t % 256)]) = S5 at hW5 hF5 g5 b5 n5 ⊢
  have hx2 : ∀ Ψ : List Value → Hp → Prop, wp (firstN 1 2 (.slice (some ⟨S4.next, 0, none⟩) 2 2)) Ψ S5 = Ψ [u8 (t / 256), u8 (t % 256)] S5 := by
    intro Ψ
    rw [W_firstN, g5, rdP_cells, condP_of (by simp)]
    rfl
  refine app_ext1 (b := A2) (n := 12) (m := 2) hW5 (by simp [hd12]) rfl rfl bz b5 hx2 rfl (by omega) fun S6 A3 z3 hF6 hW6 c1 c2 cz c3 => ?_
  have n6 := hF6.next
  have hF06 : Fra [] S S6 := hF5.trans hF6 (by simp) (fun b hb => .inl (by have : b = A2 := (by simpa using hb); omega))
  have hA3 : S1.next ≤ A3 := by rcases c1 with rfl | c1 <;> omega
  have h6 := h.fra hF06 (by simp)
  refine app_ext1 (b := A3) (n := 14) (m := l.length) hW6 (by simp [hd12]) h6.lenOf rfl cz c3 h6.first hb.one (by omega) fun S7 A4 z4 hF7 hW7 d1 d2 dz d3 => ?_
  refine k _ A4 z4 (hF06.trans hF7 (by simp) (fun b hb => .inl (by have : b = A3 := (by simpa using hb); omega))) hW7 (by rcases d1 with rfl | d1 <;> omega) d2 dz d3
end
end Go.Proofs.YtmepokefmpcnnaaDoor.Et
