/- Two queues are the same. -/
import Derived.Test.YtmepokefmpcnnaaQaRef
set_option maxRecDepth 100000
set_option linter.unusedVariables false
set_option linter.unusedSimpArgs false
namespace Go.Proofs.Ytmepokefmpcnnaa.Qu
open Go.Wb
variable {A : Nat}
theorem Byt.bytes : ∀ {l : List Value}, Byt l → ∃ r, bytesOf l = some r
  | [], _ => ⟨[], rfl⟩
  | v :: l, h => by
    obtain ⟨n, rfl⟩ := h v (List.mem_cons_self ..)
    obtain ⟨r, hr⟩ := Byt.bytes (l := l) fun v hv => h v (List.mem_cons_of_mem _ hv)
    exact ⟨_, by rw [bytesOf, hr]⟩
section
variable {C : Tgt → List Value → M Value} {S : Hp} {Φ : Value → Hp → Prop}
/-- the string that bytes are -/
def strOf (l : List Value) : ByteArray := match bytesOf l with | some r => ⟨r.toArray⟩ | none => .empty
theorem Bs.str {v : Value} {l : List Value} (h : Bs A S v l) {S' : Hp} (k : ∀ b, b < S.next → S'.heap.get b = S.heap.get b) : wp (X C (.conv .b2str (.const v))) Φ S' = Φ (.string (strOf l)) S' := by
  rcases h.2 with ⟨rfl, h0⟩ | ⟨b, x, s, rfl, _, h1, h2⟩
  · rw [P_b2strN, h0]; rfl
  · obtain ⟨r, hr⟩ := h.1.bytes
    rw [P_b2str, k b h1, h2, rdP_cells, List.drop_zero, List.take_length, hr, optP_some]
    simp [condP, strOf, hr]
theorem Bs.lenP {v : Value} {l : List Value} (h : Bs A S v l) (S' : Hp) : wp (X C (.len .slice (.const v))) Φ S' = Φ (.int .i64 l.length) S' := by
  rcases h.2 with ⟨rfl, h0⟩ | ⟨b, x, s, rfl, h0⟩
  · rw [P_lenS, h0]; rfl
  · rw [P_lenS]
end
/-- Same -/
theorem s33 {n : Nat} {S : Hp} {v u : Value} {i : It} {Φ : Value → Hp → Prop} (hv : Bs A S v i.l) (hu : Bs A S u i.l)
    (ks : ∀ S', Fra [] S S' → Φ (.bool true) S') : wp (callN T (n + 1) (.fn 33) [itv v i, itv u i]) Φ S := by
  refine c33 g33 ?_
  unfold P33
  have h1 := hv.one
  have h2 := hu.one
  have e1 : ∀ (S' : Hp) (Φ : Value → Hp → Prop), (∀ b, b < S.next → S'.heap.get b = S.heap.get b) → wp (X (callN T n) (.conv .b2str (.const v))) Φ S' = Φ (.string (strOf i.l)) S' := fun S' Φ k => hv.str k
  have e2 : ∀ (S' : Hp) (Φ : Value → Hp → Prop), (∀ b, b < S.next → S'.heap.get b = S.heap.get b) → wp (X (callN T n) (.conv .b2str (.const u))) Φ S' = Φ (.string (strOf i.l)) S' := fun S' Φ k => hu.str k
  have eq : ((strOf i.l).toList == (strOf i.l).toList) = true := by simp
  unfold itv
  simp (disch := first | omega | (simp only [Hp.add_next, Hp.put_next]; done) | (simp only [Hp.add_next, Hp.put_next]; omega) | fail) only [↓P_fldA, ↓P_box, ↓P_load1, rdP_cells, optP_some, add_eq, add_off, Hp.add_next, List.getElem?_cons_zero, Nat.zero_add, Nat.add_zero, cells_agg]
  rw [e1 _ _ (by intro b hb; simp (disch := first | omega | (simp only [Hp.add_next, Hp.put_next]; done) | (simp only [Hp.add_next, Hp.put_next]; omega) | fail) only [add_off])]
  simp (disch := first | omega | (simp only [Hp.add_next, Hp.put_next]; done) | (simp only [Hp.add_next, Hp.put_next]; omega) | fail) only [rdP_cells, optP_some, add_eq, List.getElem?_cons_zero]
  rw [e2 _ _ (by intro b hb; simp (disch := first | omega | (simp only [Hp.add_next, Hp.put_next]; done) | (simp only [Hp.add_next, Hp.put_next]; omega) | fail) only [add_off])]
  simp (disch := first | omega | (simp only [Hp.add_next, Hp.put_next]; done) | (simp only [Hp.add_next, Hp.put_next]; omega) | fail) only [↓P_andQ, andQ_p, ↓P_eql, ↓P_seql, rdP_cells, optP_some, add_eq, add_off, List.getElem?_cons_zero, List.getElem?_cons_succ, decide_true, Bool.and_self, beq_self_eq_true]
  exact ks _ (by repeat' (first | exact Fra.refl _ _ | assumption | apply Fra.add | (refine Fra.put ?_ ?_ _) | exact Or.inl (by (first | omega | (simp only [Hp.add_next, Hp.put_next]; done) | (simp only [Hp.add_next, Hp.put_next]; omega))) | exact Or.inr (by simp)))
/-- Cost -/
theorem s86 {n : Nat} {S : Hp} {v : Value} {l : List Value} (hv : Bs A S v l) : wp (callN T (n + 1) (.fn 86) [v]) (fun r S' => Fra [] S S' ∧ (S' = S ∧ r = .int .i64 (if (64 : Int) > l.length then 64 else l.length))) S := by
  refine c86 g86 ?_
  unfold P86
  simp (disch := first | omega | (simp only [Hp.add_next, Hp.put_next]; done) | (simp only [Hp.add_next, Hp.put_next]; omega) | fail) only [↓P_max, and_self, and_true, hv.lenP]
  exact Fra.refl _ _
theorem s91 {n : Nat} {S : Hp} {v : Value} {l : List Value} (hv : Bs A S v l) : wp (callN T (n + 1) (.fn 91) [v]) (fun r S' => Fra [] S S' ∧ (S' = S ∧ r = .int .i64 (if (64 : Int) > l.length then 64 else l.length))) S := by
  refine c91 g91 ?_
  unfold P91
  simp (disch := first | omega | (simp only [Hp.add_next, Hp.put_next]; done) | (simp only [Hp.add_next, Hp.put_next]; omega) | fail) only [ifP_bool, ↓P_lss, hv.lenP]
  refine ifD_in (fun h => ?_) (fun h => ?_)
  · rw [if_pos (by omega)]; exact ⟨Fra.refl _ _, rfl, rfl⟩
  · rw [if_neg (by omega)]; exact ⟨Fra.refl _ _, rfl, rfl⟩
theorem Byt.set {l : List Value} (h : Byt l) (k : Nat) (n : Int) : Byt (l.set k (.int .u8 n)) := by
  intro v hv
  rcases List.mem_or_eq_of_mem_set hv with hv | rfl
  · exact h v hv
  · exact ⟨n, rfl⟩
/-- one byte of an item is made greater by one -/
theorem inc_step {C : Tgt → List Value → M Value} {S : Hp} {Ψ : Value → Hp → Prop} {b x len k : Nat} {y : Option Nat} {s : Bool} {a w : Value} {l : List Value} (hx : S.heap.get x = some (.cells none false [.slice (some ⟨b, 0, none⟩) len len, a, w]))
    (hb : S.heap.get b = some (.cells y s l)) (hl : l.length = len) (hB : Byt l) (hk : k < len) (hlen : len ≤ 100000)
    (fin : ∀ l', Byt l' → l'.length = len → Ψ (.int .i64 ((k : Int) + 1)) (S.put b (some (.cells y s l')))) :
    wp (X C (.fldA 0 (.const (ptr x)))) (fun t92 S =>
     wp (X C (.load .one (.const t92))) (fun t93 S =>
     wp (X C (.ixA 1 (.const t93) (.const (.int .i64 k)))) (fun t95 S =>
     wp (X C (.load .one (.const t95))) (fun t96 S =>
     wp (X C (.bin .add (.const t96) (.const (.int .u8 1)))) (fun t97 S =>
     wp (X C (.ixA 1 (.const t93) (.const (.int .i64 k)))) (fun t98 S =>
     wp (X C (.store 1 (.const t98) (.const t97))) (fun _ S =>
     wp (X C (.bin .add (.const (.int .i64 k)) (.const (.int .i64 1)))) (fun t99 S => Ψ t99 S) S) S) S) S) S) S) S) S := by
  obtain ⟨n, hn⟩ := hB (l[k]'(by omega)) (List.getElem_mem _)
  have hn' : l[k]? = some (.int .u8 n) := by rw [List.getElem?_eq_getElem (by omega), hn]
  have hk2 : (0 : Int) ≤ (k : Int) ∧ (k : Int) < (len : Int) := ⟨by omega, by omega⟩
  have addB : ∀ (a b : Int) (Φ : Value → Hp → Prop) (S : Hp), wp (X C (.bin .add (.const (.int .u8 a)) (.const (.int .u8 b)))) Φ S = Φ (.int .u8 (IntKind.u8.wrap (a + b))) S := fun a b Φ S => P_add .u8 a b
  simp (disch := first | omega | (simp only [Hp.add_next, Hp.put_next]; done) | (simp only [Hp.add_next, Hp.put_next]; omega) | fail) only [↓P_fldA, ↓P_load1, ↓P_store, ↓P_ixA, ↓P_add64, blkP_cells, rdP_cells, optP_some, condP_of, List.getElem?_cons_zero, List.length_cons, List.length_nil, Nat.zero_add, Nat.add_zero, and_self, and_true, List.size_toArray, List.all_cons, List.all_nil, one_int, cells_int, Bool.and_self, Int.toNat_natCast, Nat.mul_one, hx, hb, hk2, hn', addB]
  refine fin _ ?_ ?_
  · rw [splice_eq _ _ _ (by simp; omega)]
    exact hB.set _ _
  · rw [splice_eq _ _ _ (by simp; omega)]
    simpa [setAll] using hl
/-- the first one, or nothing -/
def hd : List It → It
  | [] => ⟨[], 0, 0⟩
  | i :: _ => i
theorem Bs.nil (S : Hp) : Bs A S (.slice none 0 0) [] := ⟨fun v hv => by simp at hv, .inl ⟨rfl, rfl⟩⟩
theorem s39' {n : Nat} {S : Hp} {q rb d f : Nat} {its : List It} {Φ : Value → Hp → Prop} (hn : 300 ≤ n) (h : QR A S q rb d f its)
    (ks : ∀ u S', Fra [] S S' → Bs A S' u (hd its).l → Φ (.tuple ⟨[itv u (hd its), .bool (!its.isEmpty)]⟩) S') : wp (callN T (n + 1) (.fn 39) [ptr q]) Φ S := by
  refine s39 hn h (fun e S' hF => ?_) (fun i r u S' e hF hu => ?_)
  · subst e; exact ks (.slice none 0 0) S' hF (Bs.nil _)
  · subst e; exact ks u S' hF hu
theorem s90' {n : Nat} {S : Hp} {w lb : Nat} {d : Int} {its : List It} {Φ : Value → Hp → Prop} (h : RR A S w lb d its)
    (ks : ∀ u S', Fra [] S S' → Bs A S' u (hd its).l → Φ (.tuple ⟨[itv u (hd its), .bool (!its.isEmpty)]⟩) S') : wp (callN T (n + 1) (.fn 90) [ptr w]) Φ S := by
  refine s90 h (fun e S' hF => ?_) (fun i r u S' e hF hu => ?_)
  · subst e; exact ks (.slice none 0 0) S' hF (Bs.nil _)
  · subst e; exact ks u S' hF hu
def R38 (C : Tgt → List Value → M Value) (n : Nat) (Φ : Value → Hp → Prop) (t0 t1 t3_0 t4_1 t14_2 t15_3 t16_4 t5_5 t18_6 t19_7 t20_8 t21_9 t7_10 t23_11 t24_12 t25_13 t26_14 t27_15 t28_16 t29_17 t31_18 t32_19 t33_20 t34_21 t35_22 t36_23 t37_24 t38_25 t40_26 t41_27 t42_28 t43_29 t45_30 t46_31 t47_32 t48_33 t49_34 t51_35 t52_36 t53_37 t54_38 : Value) (ts : List (Nat × Wb.Touch)) (S : Hp) : Prop :=
  okP (apartAll [0, 1, 0, 4, 12, 28, 60, 127, 255, 511, 1023, 511, 2559, 6655, 14847, 32767, 65535, 131071, 262143, 262143, 1048575, 2097151, 4194303, 8388607, 8388607, 33554431, 67108863, 134217727, 268435455, 536870911, 1073741823, 2147483647, 4294967295] ts) (fun S =>
  ifP (Wb.asBool t54_38) (fun S =>
   wp (X C (.store 1 (.const t4_1) (.const (.bool false)))) (fun _ S =>
   wp (cellV t4_1 .one) (fun t4_39 S =>
   Φ t4_39 S) S) S) (fun S =>
   wp (X C (.alloc 3 [(.int .i64 0)])) (fun t9_40 S =>
   wp (X C (.store 1 (.const t9_40) (.const (.int .i64 0)))) (fun _ S =>
   wp (X C (.call (.const (.func (.func 41) ⟨[]⟩ ⟨[]⟩)) [(.const t0)])) (fun t56_41 S =>
   rangeP C [57] (rA (bB (sR (sL (sR (sR (sR (sR (sR b38))))))))) (rB (bB (sR (sL (sR (sR (sR (sR (sR b38))))))))) (some t56_41) (((((((((((((((((((((((((((((((((((((((((((((((((((((((.leaf : Env).set 0 (some t0)).set 1 (some t1)).set 3 (some t3_0)).set 4 (some t4_1)).set 5 (some t5_5)).set 6 (some t16_4)).set 7 (some t7_10)).set 8 (some t21_9)).set 9 (some t9_40)).set 12 (some t14_2)).set 13 (some t0)).set 14 (some t14_2)).set 15 (some t15_3)).set 16 (some t16_4)).set 17 (some t19_7)).set 18 (some t18_6)).set 19 (some t19_7)).set 20 (some t20_8)).set 21 (some t21_9)).set 22 (some t0)).set 23 (some t23_11)).set 24 (some t24_12)).set 25 (some t25_13)).set 26 (some t26_14)).set 27 (some t27_15)).set 28 (some t28_16)).set 29 (some t29_17)).set 30 (some t29_17)).set 31 (some t31_18)).set 32 (some t32_19)).set 33 (some t33_20)).set 34 (some t34_21)).set 35 (some t35_22)).set 36 (some t36_23)).set 37 (some t37_24)).set 38 (some t38_25)).set 39 (some t38_25)).set 40 (some t40_26)).set 41 (some t41_27)).set 42 (some t42_28)).set 43 (some t43_29)).set 44 (some t43_29)).set 45 (some t45_30)).set 46 (some t46_31)).set 47 (some t47_32)).set 48 (some t48_33)).set 49 (some t49_34)).set 50 (some t49_34)).set 51 (some t51_35)).set 52 (some t52_36)).set 53 (some t53_37)).set 54 (some t54_38)).set 55 (some t0)).set 56 (some t56_41)) (fun S =>
    wp (X C (.load .one (.const t9_40))) (fun t102_42 S =>
    wp (X C (.load .one (.const t3_0))) (fun t103_43 S =>
    wp (X C (.nilchk (.const t103_43))) (fun t104_44 S =>
    wp (X C (.fldA 0 (.const t104_44))) (fun t105_45 S =>
    wp (X C (.load .one (.const t105_45))) (fun t106_46 S =>
    wp (X C (.len .slice (.const t106_46))) (fun t107_47 S =>
    wp (X C (.bin .eql (.const t102_42) (.const t107_47))) (fun t108_48 S =>
    wp (X C (.store 1 (.const t4_1) (.const t108_48))) (fun _ S =>
    okP (apartAll [0, 0, 2, 6, 14, 30, 63, 127] []) (fun S =>
    wp (cellV t4_1 .one) (fun t4_49 S =>
    Φ t4_49 S) S) S) S) S) S) S) S) S) S) S) (fun x S => (blockP 0 (contP (fun e S => codeP C A38 n 127 (sR (sR (sR (sR (sR (sR b38)))))) e (endP [.cell 4 .one] Φ) S) (endP [.cell 4 .one] Φ))) x (((((((((((((((((((((((((((((((((((((((((((((((((((((((.leaf : Env).set 0 (some t0)).set 1 (some t1)).set 3 (some t3_0)).set 4 (some t4_1)).set 5 (some t5_5)).set 6 (some t16_4)).set 7 (some t7_10)).set 8 (some t21_9)).set 9 (some t9_40)).set 12 (some t14_2)).set 13 (some t0)).set 14 (some t14_2)).set 15 (some t15_3)).set 16 (some t16_4)).set 17 (some t19_7)).set 18 (some t18_6)).set 19 (some t19_7)).set 20 (some t20_8)).set 21 (some t21_9)).set 22 (some t0)).set 23 (some t23_11)).set 24 (some t24_12)).set 25 (some t25_13)).set 26 (some t26_14)).set 27 (some t27_15)).set 28 (some t28_16)).set 29 (some t29_17)).set 30 (some t29_17)).set 31 (some t31_18)).set 32 (some t32_19)).set 33 (some t33_20)).set 34 (some t34_21)).set 35 (some t35_22)).set 36 (some t36_23)).set 37 (some t37_24)).set 38 (some t38_25)).set 39 (some t38_25)).set 40 (some t40_26)).set 41 (some t41_27)).set 42 (some t42_28)).set 43 (some t43_29)).set 44 (some t43_29)).set 45 (some t45_30)).set 46 (some t46_31)).set 47 (some t47_32)).set 48 (some t48_33)).set 49 (some t49_34)).set 50 (some t49_34)).set 51 (some t51_35)).set 52 (some t52_36)).set 53 (some t53_37)).set 54 (some t54_38)).set 55 (some t0)).set 56 (some t56_41)) S) S) S) S) S) S) S
def H38 (C : Tgt → List Value → M Value) (n : Nat) (K : Value → Value → Value → Value → Value → Value → Value → Value → Value → Value → Value → Value → Value → Value → Value → Value → Value → Value → Value → Value → Value → Value → Value → Value → Value → Value → Value → Value → Value → Value → Value → Value → Value → Value → Value → Value → Value → Value → Value → Value → Value → List (Nat × Wb.Touch) → Hp → Prop) (t0 t1 : Value) (S : Hp) : Prop :=
  wp (X C (.box 51 (.const t1))) (fun t3_0 S =>
  wp (X C (.alloc 4 [(.bool false)])) (fun t4_1 S =>
  wp (X C (.call (.const (.func (.func 39) ⟨[]⟩ ⟨[]⟩)) [(.const t0)])) (fun t14_2 S =>
  wp (X C (.ext (.const t14_2) 0)) (fun t15_3 S =>
  wp (X C (.ext (.const t14_2) 1)) (fun t16_4 S =>
  wp (X C (.alloc 44 [(.slice none 0 0), (.int .u64 0), (.int .u64 0)])) (fun t5_5 S =>
  wp (X C (.store 3 (.const t5_5) (.const t15_3))) (fun _ S =>
  wp (X C (.load .one (.const t3_0))) (fun t18_6 S =>
  wp (X C (.call (.const (.func (.func 90) ⟨[]⟩ ⟨[]⟩)) [(.const t18_6)])) (fun t19_7 S =>
  wp (X C (.ext (.const t19_7) 0)) (fun t20_8 S =>
  wp (X C (.ext (.const t19_7) 1)) (fun t21_9 S =>
  wp (X C (.alloc 44 [(.slice none 0 0), (.int .u64 0), (.int .u64 0)])) (fun t7_10 S =>
  wp (X C (.store 3 (.const t7_10) (.const t20_8))) (fun _ S =>
  dstepP 1 [] (X C (.call (.const (.func (.func 29) ⟨[]⟩ ⟨[]⟩)) [(.const t0)])) (fun t23_11 ts S =>
  dstepP 2 ts (X C (.load .one (.const t3_0))) (fun t24_12 ts S =>
  wp (X C (.nilchk (.const t24_12))) (fun t25_13 S =>
  wp (X C (.fldA 0 (.const t25_13))) (fun t26_14 S =>
  dstepP 5 ts (X C (.load .one (.const t26_14))) (fun t27_15 ts S =>
  wp (X C (.len .slice (.const t27_15))) (fun t28_16 S =>
  wp (X C (.bin .neq (.const t23_11) (.const t28_16))) (fun t29_17 S =>
  wp (G (wanted false t29_17) (X C (.mov (.const t0)))) (fun t31_18 S =>
  dstepP 10 ts (G (wanted false t29_17) (X C (.call (.const (.func (.func 40) ⟨[]⟩ ⟨[]⟩)) [(.const t31_18)]))) (fun t32_19 ts S =>
  dstepP 11 ts (G (wanted false t29_17) (X C (.load .one (.const t3_0)))) (fun t33_20 ts S =>
  wp (G (wanted false t29_17) (X C (.nilchk (.const t33_20)))) (fun t34_21 S =>
  wp (G (wanted false t29_17) (X C (.fldA 1 (.const t34_21)))) (fun t35_22 S =>
  dstepP 14 ts (G (wanted false t29_17) (X C (.load .one (.const t35_22)))) (fun t36_23 ts S =>
  wp (G (wanted false t29_17) (X C (.bin .neq (.const t32_19) (.const t36_23)))) (fun t37_24 S =>
  wp (X C (.pick (.const t29_17) (.const (.bool true)) (.const t37_24))) (fun t38_25 S =>
  wp (G (wanted false t38_25) (X C (.mov (.const t16_4)))) (fun t40_26 S =>
  wp (G (wanted false t38_25) (X C (.mov (.const t21_9)))) (fun t41_27 S =>
  wp (G (wanted false t38_25) (X C (.eq true .bool (.const t40_26) (.const t41_27)))) (fun t42_28 S =>
  wp (X C (.pick (.const t38_25) (.const (.bool true)) (.const t42_28))) (fun t43_29 S =>
  wp (G (wanted false t43_29) (X C (.load (.agg 3) (.const t5_5)))) (fun t45_30 S =>
  wp (G (wanted false t43_29) (X C (.load (.agg 3) (.const t7_10)))) (fun t46_31 S =>
  wp (G (wanted false t43_29) (X C (.call (.const (.func (.func 33) ⟨[]⟩ ⟨[]⟩)) [(.const t45_30), (.const t46_31)]))) (fun t47_32 S =>
  wp (G (wanted false t43_29) (X C (.un .not (.const t47_32)))) (fun t48_33 S =>
  wp (X C (.pick (.const t43_29) (.const (.bool true)) (.const t48_33))) (fun t49_34 S =>
  wp (G (wanted false t49_34) (X C (.mov (.const t0)))) (fun t51_35 S =>
  wp (G (wanted false t49_34) (X C (.call (.const (.func (.func 41) ⟨[]⟩ ⟨[]⟩)) [(.const t51_35)]))) (fun t52_36 S =>
  wp (G (wanted false t49_34) (X C (.eq false (.nil .func) (.const t52_36) (.const .nilFunc)))) (fun t53_37 S =>
  wp (X C (.pick (.const t49_34) (.const (.bool true)) (.const t53_37))) (fun t54_38 S =>
  K t0 t1 t3_0 t4_1 t14_2 t15_3 t16_4 t5_5 t18_6 t19_7 t20_8 t21_9 t7_10 t23_11 t24_12 t25_13 t26_14 t27_15 t28_16 t29_17 t31_18 t32_19 t33_20 t34_21 t35_22 t36_23 t37_24 t38_25 t40_26 t41_27 t42_28 t43_29 t45_30 t46_31 t47_32 t48_33 t49_34 t51_35 t52_36 t53_37 t54_38 ts S) S) S) S) S) S) S) S) S) S) S) S) S) S) S) S) S) S) S) S) S) S) S) S) S) S) S) S) S) S) S) S) S) S) S) S) S) S) S) S) S) S
theorem h38 (C : Tgt → List Value → M Value) (n : Nat) (Φ : Value → Hp → Prop) (t0 t1 : Value) (S : Hp) : P38 C n Φ t0 t1 S = H38 C n (R38 C n Φ) t0 t1 S := by kernel_rfl
/-- a state in which two queues are laid beside each other -/
structure SInv (S : Hp) (q w p l : Nat) (its : List It) (lo : Blk) (i : Nat) (S' : Hp) : Prop where
  i1 : i ≤ its.length
  fr : Fra [] S S'
  k0 : S'.heap.get S.next = some (.cells none false [ptr w])
  k1 : S'.heap.get (S.next + 1) = some (.cells none false [.bool false])
  k2 : S'.heap.get p = some (.cells none false [.int .i64 i])
  k3 : S'.heap.get (p + 1) = some (.cells none false [ptr q])
  l1 : S'.heap.get l = some lo
  ln : l < S'.next
theorem s38 {n : Nat} {S : Hp} {q rb d f w lb : Nat} {its : List It} {Φ : Value → Hp → Prop} (hn : 2000 ≤ n) (hQ : QR A S q rb d f its) (hR : RR A S w lb d its)
    (ks : ∀ S', Fra [] S S' → Φ (.bool true) S') : wp (callN T (n + 1) (.fn 38) [ptr q, ptr w]) Φ S := by
  refine c38 g38 ?_
  rw [h38]
  unfold H38
  obtain ⟨K, hK⟩ : ∃ K, K = R38 (callN T n) n Φ := ⟨_, rfl⟩
  rw [← hK]
  obtain ⟨n, rfl⟩ : ∃ m, n = m + 1 + 1 + 1 := ⟨n - 3, by omega⟩
  have hq1 := hQ.q1
  have hw1 := hR.w1
  simp (disch := first | omega | (simp only [Hp.add_next, Hp.put_next]; done) | (simp only [Hp.add_next, Hp.put_next]; omega) | fail) only [↓P_alloc, ↓P_box, ↓P_load1, ↓D_load1, ↓P_store, ↓P_callF1, blkP_cells, add_eq, Hp.add_next, List.length_cons, List.length_nil, Nat.zero_add, Nat.reduceAdd, splice_z, cells_ptr, List.nil_append, List.append_nil]
  have hF0 : Fra [] S ((S.add (.cells none false [ptr w])).add (.cells none false [.bool false])) := by repeat' (first | exact Fra.refl _ _ | assumption | apply Fra.add | (refine Fra.put ?_ ?_ _) | exact Or.inl (by (first | omega | (simp only [Hp.add_next, Hp.put_next]; done) | (simp only [Hp.add_next, Hp.put_next]; omega))) | exact Or.inr (by simp))
  have g0 : ((S.add (.cells none false [ptr w])).add (.cells none false [.bool false])).heap.get S.next = some (.cells none false [ptr w]) := by simp (disch := first | omega | (simp only [Hp.add_next, Hp.put_next]; done) | (simp only [Hp.add_next, Hp.put_next]; omega) | fail) only [add_eq, add_off]
  have g1 : ((S.add (.cells none false [ptr w])).add (.cells none false [.bool false])).heap.get (S.next + 1) = some (.cells none false [.bool false]) := by simp (disch := first | omega | (simp only [Hp.add_next, Hp.put_next]; done) | (simp only [Hp.add_next, Hp.put_next]; omega) | fail) only [add_eq]
  have hn0 : ((S.add (.cells none false [ptr w])).add (.cells none false [.bool false])).next = S.next + 2 := rfl
  generalize (S.add (.cells none false [ptr w])).add (.cells none false [.bool false]) = S0 at hF0 g0 g1 hn0 ⊢
  refine s39' (by omega) (hQ.fra hF0) fun u S1 hF1 hu => ?_
  have hn1 := hF1.next
  have g0 := hF1.at_ (by omega) (by simp) g0
  have g1 := hF1.at_ (by omega) (by simp) g1
  have hF1 := hF0.trans' hF1
  unfold itv
  simp (disch := first | omega | (simp only [Hp.add_next, Hp.put_next]; done) | (simp only [Hp.add_next, Hp.put_next]; omega) | fail) only [↓P_ext, rdP_cells, optP_some, condP_of, put_off, add_off, List.getElem?_cons_zero, List.getElem?_cons_succ, List.length_cons, List.length_nil, Nat.zero_add, Nat.reduceAdd, Nat.reduceLeDiff, and_self, List.size_toArray, overlay_n, overlay_c, List.all_cons, List.all_nil, one_int, cells_agg, Bool.and_self, hu.one, g0]
  have hnS1 : S.next + 2 ≤ S1.next := by omega
  have hF2 : Fra [] S (((S1.add (.cells none false [.slice none 0 0, .int .u64 0, .int .u64 0])).put S1.next (some (.cells none false [u, .int .u64 (hd its).a, .int .u64 (hd its).w])))) := (hF1.add _).put (.inl (by omega)) _
  have k0 : ((S1.add (.cells none false [.slice none 0 0, .int .u64 0, .int .u64 0])).put S1.next (some (.cells none false [u, .int .u64 (hd its).a, .int .u64 (hd its).w]))).heap.get S.next = some (.cells none false [ptr w]) := by simp (disch := first | omega | (simp only [Hp.add_next, Hp.put_next]; done) | (simp only [Hp.add_next, Hp.put_next]; omega) | fail) only [put_off, add_off]; exact g0
  have k1 : ((S1.add (.cells none false [.slice none 0 0, .int .u64 0, .int .u64 0])).put S1.next (some (.cells none false [u, .int .u64 (hd its).a, .int .u64 (hd its).w]))).heap.get (S.next + 1) = some (.cells none false [.bool false]) := by simp (disch := first | omega | (simp only [Hp.add_next, Hp.put_next]; done) | (simp only [Hp.add_next, Hp.put_next]; omega) | fail) only [put_off, add_off]; exact g1
  have k2 : ((S1.add (.cells none false [.slice none 0 0, .int .u64 0, .int .u64 0])).put S1.next (some (.cells none false [u, .int .u64 (hd its).a, .int .u64 (hd its).w]))).heap.get S1.next = some (.cells none false [u, .int .u64 (hd its).a, .int .u64 (hd its).w]) := by simp (disch := first | omega | (simp only [Hp.add_next, Hp.put_next]; done) | (simp only [Hp.add_next, Hp.put_next]; omega) | fail) only [put_at]
  have hu2 : Bs A ((S1.add (.cells none false [.slice none 0 0, .int .u64 0, .int .u64 0])).put S1.next (some (.cells none false [u, .int .u64 (hd its).a, .int .u64 (hd its).w]))) u (hd its).l := hu.keep (by (first | omega | (simp only [Hp.add_next, Hp.put_next]; done) | (simp only [Hp.add_next, Hp.put_next]; omega))) fun b x s hb _ => by
    have : b ≠ S1.next := by omega
    simp (disch := first | omega | (simp only [Hp.add_next, Hp.put_next]; done) | (simp only [Hp.add_next, Hp.put_next]; omega) | fail) only [put_off, add_off]
  have hn2 : ((S1.add (.cells none false [.slice none 0 0, .int .u64 0, .int .u64 0])).put S1.next (some (.cells none false [u, .int .u64 (hd its).a, .int .u64 (hd its).w]))).next = S1.next + 1 := rfl
  generalize (S1.add (.cells none false [.slice none 0 0, .int .u64 0, .int .u64 0])).put S1.next (some (.cells none false [u, .int .u64 (hd its).a, .int .u64 (hd its).w])) = S2 at hF2 k0 k1 k2 hu2 hn2 ⊢
  clear g0 g1 hu hF1 hF0 hn0
  obtain ⟨p5, hp5⟩ : ∃ p, p = S1.next := ⟨_, rfl⟩
  rw [← hp5] at k2 hn2 ⊢
  refine s90' (hR.fra hF2) fun u' S3 hF3 hu' => ?_
  have hn3 := hF3.next
  have k0 := hF3.at_ (by omega) (by simp) k0
  have k1 := hF3.at_ (by omega) (by simp) k1
  have k2 := hF3.at_ (by omega) (by simp) k2
  have hu2 : Bs A S3 u (hd its).l := hu2.keep hn3 fun b x s hb _ => hF3.heap b hb (by simp)
  have hF3 := hF2.trans' hF3
  unfold itv
  simp (disch := first | omega | (simp only [Hp.add_next, Hp.put_next]; done) | (simp only [Hp.add_next, Hp.put_next]; omega) | fail) only [↓P_ext, optP_some, condP_of, List.getElem?_cons_zero, List.getElem?_cons_succ, List.length_cons, List.length_nil, Nat.zero_add, Nat.reduceAdd, Nat.reduceLeDiff, and_self, List.size_toArray, overlay_n, overlay_c, List.all_cons, List.all_nil, one_int, cells_agg, Bool.and_self, hu'.one]
  have hF4 : Fra [] S ((S3.add (.cells none false [.slice none 0 0, .int .u64 0, .int .u64 0])).put S3.next (some (.cells none false [u', .int .u64 (hd its).a, .int .u64 (hd its).w]))) := (hF3.add _).put (.inl (by omega)) _
  have k0 : ((S3.add (.cells none false [.slice none 0 0, .int .u64 0, .int .u64 0])).put S3.next (some (.cells none false [u', .int .u64 (hd its).a, .int .u64 (hd its).w]))).heap.get S.next = some (.cells none false [ptr w]) := by simp (disch := first | omega | (simp only [Hp.add_next, Hp.put_next]; done) | (simp only [Hp.add_next, Hp.put_next]; omega) | fail) only [put_off, add_off]; exact k0
  have k1 : ((S3.add (.cells none false [.slice none 0 0, .int .u64 0, .int .u64 0])).put S3.next (some (.cells none false [u', .int .u64 (hd its).a, .int .u64 (hd its).w]))).heap.get (S.next + 1) = some (.cells none false [.bool false]) := by simp (disch := first | omega | (simp only [Hp.add_next, Hp.put_next]; done) | (simp only [Hp.add_next, Hp.put_next]; omega) | fail) only [put_off, add_off]; exact k1
  have k2 : ((S3.add (.cells none false [.slice none 0 0, .int .u64 0, .int .u64 0])).put S3.next (some (.cells none false [u', .int .u64 (hd its).a, .int .u64 (hd its).w]))).heap.get p5 = some (.cells none false [u, .int .u64 (hd its).a, .int .u64 (hd its).w]) := by simp (disch := first | omega | (simp only [Hp.add_next, Hp.put_next]; done) | (simp only [Hp.add_next, Hp.put_next]; omega) | fail) only [put_off, add_off]; exact k2
  have k3 : ((S3.add (.cells none false [.slice none 0 0, .int .u64 0, .int .u64 0])).put S3.next (some (.cells none false [u', .int .u64 (hd its).a, .int .u64 (hd its).w]))).heap.get S3.next = some (.cells none false [u', .int .u64 (hd its).a, .int .u64 (hd its).w]) := by simp (disch := first | omega | (simp only [Hp.add_next, Hp.put_next]; done) | (simp only [Hp.add_next, Hp.put_next]; omega) | fail) only [put_at]
  have keep : ∀ u l, Bs A S3 u l → Bs A ((S3.add (.cells none false [.slice none 0 0, .int .u64 0, .int .u64 0])).put S3.next (some (.cells none false [u', .int .u64 (hd its).a, .int .u64 (hd its).w]))) u l := fun u l hu => hu.keep (by (first | omega | (simp only [Hp.add_next, Hp.put_next]; done) | (simp only [Hp.add_next, Hp.put_next]; omega))) fun b x s hb _ => by
    have : b ≠ S3.next := by omega
    simp (disch := first | omega | (simp only [Hp.add_next, Hp.put_next]; done) | (simp only [Hp.add_next, Hp.put_next]; omega) | fail) only [put_off, add_off]
  have hu2 := keep _ _ hu2
  have hu3 := keep _ _ hu'
  have hn4 : ((S3.add (.cells none false [.slice none 0 0, .int .u64 0, .int .u64 0])).put S3.next (some (.cells none false [u', .int .u64 (hd its).a, .int .u64 (hd its).w]))).next = S3.next + 1 := rfl
  clear keep
  generalize (S3.add (.cells none false [.slice none 0 0, .int .u64 0, .int .u64 0])).put S3.next (some (.cells none false [u', .int .u64 (hd its).a, .int .u64 (hd its).w])) = S4 at hF4 k0 k1 k2 k3 hu2 hu3 hn4 ⊢
  obtain ⟨p7, hp7⟩ : ∃ p, p = S3.next := ⟨_, rfl⟩
  rw [← hp7] at k3 hn4 ⊢
  have hQ4 := hQ.fra hF4
  have hR4 := hR.fra hF4
  have hqb := hQ4.qb
  obtain ⟨⟨Lv, hw, hL⟩, _, _⟩ := id hR4
  rw [D_call 1 _ 29 (vs := [ptr q]) rfl]
  refine D_spec (s29 hqb) fun v S' t1 hFt hP h1 h2 h3 => ?_
  obtain ⟨rfl, rfl⟩ := hP
  have ff : decide (((its.length : Nat) : Int) = ((its.length : Nat) : Int)) = true := decide_eq_true rfl
  have fd : decide (((d : Nat) : Int) = ((d : Nat) : Int)) = true := decide_eq_true rfl
  have hne : ∀ b : Bool, (b == b) = true := fun b => by simp
  simp (disch := first | omega | (simp only [Hp.add_next, Hp.put_next]; done) | (simp only [Hp.add_next, Hp.put_next]; omega) | fail) only [↓P_pick, ↓P_fldA, ↓P_nil, ↓D_load1, ↓P_neq, rdP_cells, optP_some, ↓P_mov, ↓P_Gff, ↓D_Gff, List.getElem?_cons_zero, Nat.add_zero, if_false, Bool.false_eq_true, Bool.not_true, decide_true, k0, hw, hL.len]
  rw [D_call 10 _ 40 (vs := [ptr q]) rfl]
  refine D_spec (s40 hqb) fun v S' t10 hFt10 hP m1 m2 m3 => ?_
  obtain ⟨rfl, rfl⟩ := hP
  simp (disch := first | omega | (simp only [Hp.add_next, Hp.put_next]; done) | (simp only [Hp.add_next, Hp.put_next]; omega) | fail) only [↓P_pick, ↓P_fldA, ↓P_nil, ↓P_loadN, ↓D_load1, ↓P_eqB, ↓P_neq, ↓P_callF2, rdP_cells, optP_some, condP_of, ↓P_mov, ↓P_Gff, List.getElem?_cons_zero, List.getElem?_cons_succ, List.length_cons, List.length_nil, Nat.zero_add, Nat.reduceAdd, Nat.reduceLeDiff, List.drop_zero, List.take_succ_cons, List.take_zero, if_true, if_false, Bool.false_eq_true, Bool.not_true, decide_true, beq_self_eq_true, List.nil_append, List.append_nil, k0, k2, k3, hw]
  refine s33 hu2 hu3 fun S5 hF5 => ?_
  have hn5 := hF5.next
  have k0 := hF5.at_ (by omega) (by simp) k0
  have k1 := hF5.at_ (by omega) (by simp) k1
  have hF5 := hF4.trans' hF5
  simp (disch := first | omega | (simp only [Hp.add_next, Hp.put_next]; done) | (simp only [Hp.add_next, Hp.put_next]; omega) | fail) only [↓P_pick, ↓P_not, ↓P_callF1, ↓P_mov, ↓P_Gff, if_false, Bool.false_eq_true, Bool.not_true, List.nil_append, List.append_nil]
  refine Wb.wp_mono s41 fun v S6 h6 => ?_
  obtain ⟨rfl, rfl⟩ := h6
  simp (disch := first | omega | (simp only [Hp.add_next, Hp.put_next]; done) | (simp only [Hp.add_next, Hp.put_next]; omega) | fail) only [↓P_eqfn1]
  rw [hK]
  unfold R38
  have a1 : ∀ (b m : Nat), b < S'.next → apt ⟨[(b, false)], m, m⟩ t1 := fun b m hb => apt_read (by rw [h1]; exact hb) fun hc => by
    rcases h3 b hc with h | h
    · omega
    · simp at h
  have a10 : ∀ (b m : Nat), b < S'.next → apt ⟨[(b, false)], m, m⟩ t10 := fun b m hb => apt_read (by rw [m1]; exact hb) fun hc => by
    rcases m3 b hc with h | h
    · omega
    · simp at h
  refine okP_in ?_ ?_
  · refine apart_cons (one_cons (.inl (by decide)) (one_keep (.inr (a10 _ _ (by omega))) (one_cons (.inl (by decide)) (one_cons (.inl (by decide)) (one_keep (.inl (by decide)) one_nil))))) ?_
    refine apart_cons (one_keep (.inr (a10 _ _ (by omega))) (one_cons (.inl (by decide)) (one_cons (.inl (by decide)) (one_keep (.inl (by decide)) one_nil)))) ?_
    refine apart_keep (one_cons (.inl (by decide)) (one_cons (.inl (by decide)) (one_keep (.inl (by decide)) one_nil))) ?_
    refine apart_cons (one_cons (.inl (by decide)) (one_keep (.inr (a1 _ _ (by omega))) one_nil)) ?_
    refine apart_cons (one_keep (.inr (a1 _ _ (by omega))) one_nil) ?_
    exact apart_keep one_nil apart_nil
  rw [show ∀ (x y : Hp → Prop) (S : Hp), ifP (Wb.asBool (.bool false)) x y S = y S from fun _ _ _ => rfl]
  have hF6 : Fra [] S (S5.add (.cells none false [ptr q])) := hF5.add _
  have k0 : (S5.add (.cells none false [ptr q])).heap.get S.next = some (.cells none false [ptr w]) := by simp (disch := first | omega | (simp only [Hp.add_next, Hp.put_next]; done) | (simp only [Hp.add_next, Hp.put_next]; omega) | fail) only [add_off]; exact k0
  have k1 : (S5.add (.cells none false [ptr q])).heap.get (S.next + 1) = some (.cells none false [.bool false]) := by simp (disch := first | omega | (simp only [Hp.add_next, Hp.put_next]; done) | (simp only [Hp.add_next, Hp.put_next]; omega) | fail) only [add_off]; exact k1
  have hn6 : (S5.add (.cells none false [ptr q])).next = S5.next + 1 := rfl
  generalize S5.add (.cells none false [ptr q]) = S6 at hF6 k0 k1 hn6 ⊢
  rw [P_alloc, P_store]
  refine condP_of rfl _ ▸ ?_
  rw [add_at, blkP_cells]
  refine ⟨⟨Nat.le_refl 1, rfl⟩, ?_⟩
  rw [P_call1]
  refine Wb.wp_mono s41 fun v S7 h7 => ?_
  obtain ⟨rfl, rfl⟩ := h7
  rw [R_range]
  intro e' he'
  have hle : Le ((((.leaf : Env).set 3 (some (ptr S.next))).set 4 (some (ptr (S.next + 1)))).set 9 (some (ptr S6.next))) e' := (((Le.leaf _).of_set (he' 3 _ (by kernel_rfl))).of_set (he' 4 _ (by kernel_rfl))).of_set (he' 9 _ (by kernel_rfl))
  rw [show splice [Value.int IntKind.i64 0] 0 (Value.int IntKind.i64 0).cells.toList = [.int .i64 0] from rfl]
  have hF8 : Fra [] S (((S6.add (.cells none false [.int .i64 0])).put S6.next (some (.cells none false [.int .i64 0]))).add (.cells none false [ptr q])) := ((hF6.add _).put (.inl (by omega)) _).add _
  have k0 : (((S6.add (.cells none false [.int .i64 0])).put S6.next (some (.cells none false [.int .i64 0]))).add (.cells none false [ptr q])).heap.get S.next = some (.cells none false [ptr w]) := by simp (disch := first | omega | (simp only [Hp.add_next, Hp.put_next]; done) | (simp only [Hp.add_next, Hp.put_next]; omega) | fail) only [put_off, add_off]; exact k0
  have k1 : (((S6.add (.cells none false [.int .i64 0])).put S6.next (some (.cells none false [.int .i64 0]))).add (.cells none false [ptr q])).heap.get (S.next + 1) = some (.cells none false [.bool false]) := by simp (disch := first | omega | (simp only [Hp.add_next, Hp.put_next]; done) | (simp only [Hp.add_next, Hp.put_next]; omega) | fail) only [put_off, add_off]; exact k1
  have k2 : (((S6.add (.cells none false [.int .i64 0])).put S6.next (some (.cells none false [.int .i64 0]))).add (.cells none false [ptr q])).heap.get S6.next = some (.cells none false [.int .i64 0]) := by simp (disch := first | omega | (simp only [Hp.add_next, Hp.put_next]; done) | (simp only [Hp.add_next, Hp.put_next]; omega) | fail) only [put_at, add_off]
  have k3 : (((S6.add (.cells none false [.int .i64 0])).put S6.next (some (.cells none false [.int .i64 0]))).add (.cells none false [ptr q])).heap.get (S6.next + 1) = some (.cells none false [ptr q]) := by simp (disch := first | omega | (simp only [Hp.add_next, Hp.put_next]; done) | (simp only [Hp.add_next, Hp.put_next]; omega) | fail) only [add_eq]
  rw [show ((S6.add (.cells none false [.int .i64 0])).put S6.next (some (.cells none false [.int .i64 0]))).next = S6.next + 1 from rfl]
  rw [show (((S6.add (.cells none false [.int .i64 0])).put S6.next (some (.cells none false [.int .i64 0]))).add (.cells none false [ptr q])).next = S6.next + 1 + 1 from rfl]
  have hn8 : (((S6.add (.cells none false [.int .i64 0])).put S6.next (some (.cells none false [.int .i64 0]))).add (.cells none false [ptr q])).next = S6.next + 1 + 1 := rfl
  generalize (((S6.add (.cells none false [.int .i64 0])).put S6.next (some (.cells none false [.int .i64 0]))).add (.cells none false [ptr q])) = S8 at hF8 k0 k1 k2 k3 hn8 ⊢
  generalize hlo : Blk.loop [57] _ _ e' none = lo
  rw [List.nil_append, List.singleton_append]
  have hmany := hQ.many
  have hd1 := hQ.d1
  have hn06 : S.next + 2 ≤ S6.next := by omega
  refine Wb.wp_mono (s92 (A := A) (q := q) (rb := rb) (d := d) (f := f) (its := its) (nb := S6.next + 1) (l := S6.next + 1 + 1) (by omega)
    (SInv S q w S6.next (S6.next + 1 + 1) its lo) (fun _ => False) ?_ ?_ ⟨Nat.zero_le _, hF8.add _, by simp (disch := first | omega | (simp only [Hp.add_next, Hp.put_next]; done) | (simp only [Hp.add_next, Hp.put_next]; omega) | fail) only [add_off]; exact k0, by simp (disch := first | omega | (simp only [Hp.add_next, Hp.put_next]; done) | (simp only [Hp.add_next, Hp.put_next]; omega) | fail) only [add_off]; exact k1, by simp (disch := first | omega | (simp only [Hp.add_next, Hp.put_next]; done) | (simp only [Hp.add_next, Hp.put_next]; omega) | fail) only [add_off]; exact k2, by simp (disch := first | omega | (simp only [Hp.add_next, Hp.put_next]; done) | (simp only [Hp.add_next, Hp.put_next]; omega) | fail) only [add_off]; exact k3, by rw [← hn8]; exact add_at _ _, by (first | omega | (simp only [Hp.add_next, Hp.put_next]; done) | (simp only [Hp.add_next, Hp.put_next]; omega))⟩) ?_
  · intro i S' hI
    exact ⟨hQ.fra hI.fr, hI.k3, by have := hI.ln; omega⟩
  · intro i it S' b S2 Ψ hit hI hFb hb1 hb2 hb3 fin _
    have hil : i < its.length := (List.getElem?_eq_some_iff.1 hit).1
    have hn1 := hFb.next
    have hln := hI.ln
    have hnx := hI.fr.next
    have l1 := hFb.at_ hI.ln (by simp) hI.l1
    have k0 := hFb.at_ (by omega) (by simp) hI.k0
    have k1 := hFb.at_ (by omega) (by simp) hI.k1
    have k2 := hFb.at_ (by omega) (by simp) hI.k2
    have k3 := hFb.at_ (by omega) (by simp) hI.k3
    have hF2 := hI.fr.trans' hFb
    have hb4 := hQ.lens it (List.mem_of_getElem? hit)
    have hbs : Bs A S2 (.slice (some ⟨b, 0, none⟩) it.l.length it.l.length) it.l := ⟨hb4.2, .inr ⟨b, none, false, rfl, by have := hQ.a1; omega, hb2, hb3⟩⟩
    subst hlo
    refine yieldP (args := [itv (.slice (some ⟨b, 0, none⟩) it.l.length it.l.length) it]) (A := B38_0) (B := B38_0) l1 rfl (zipSet_mono hle) ?_
    rw [q38_0]
    have hFp : Fra [] S (S2.put (S6.next + 1 + 1) none) := hF2.put (.inl (by omega)) _
    have k0 : (S2.put (S6.next + 1 + 1) none).heap.get S.next = some (.cells none false [ptr w]) := by simp (disch := first | omega | (simp only [Hp.add_next, Hp.put_next]; done) | (simp only [Hp.add_next, Hp.put_next]; omega) | fail) only [put_off]; exact k0
    have k1 : (S2.put (S6.next + 1 + 1) none).heap.get (S.next + 1) = some (.cells none false [.bool false]) := by simp (disch := first | omega | (simp only [Hp.add_next, Hp.put_next]; done) | (simp only [Hp.add_next, Hp.put_next]; omega) | fail) only [put_off]; exact k1
    have k2 : (S2.put (S6.next + 1 + 1) none).heap.get S6.next = some (.cells none false [.int .i64 i]) := by simp (disch := first | omega | (simp only [Hp.add_next, Hp.put_next]; done) | (simp only [Hp.add_next, Hp.put_next]; omega) | fail) only [put_off]; exact k2
    have k3 : (S2.put (S6.next + 1 + 1) none).heap.get (S6.next + 1) = some (.cells none false [ptr q]) := by simp (disch := first | omega | (simp only [Hp.add_next, Hp.put_next]; done) | (simp only [Hp.add_next, Hp.put_next]; omega) | fail) only [put_off]; exact k3
    have hb3 : (S2.put (S6.next + 1 + 1) none).heap.get b = some (.cells none false it.l) := by
      have : b ≠ S6.next + 1 + 1 := by omega
      simp (disch := first | omega | (simp only [Hp.add_next, Hp.put_next]; done) | (simp only [Hp.add_next, Hp.put_next]; omega) | fail) only [put_off]; exact hb3
    have hnp : (S2.put (S6.next + 1 + 1) none).next = S2.next := rfl
    have hputs : ∀ (x : Option Blk) (S3 : Hp), S3.next = S2.next → True := fun _ _ _ => trivial
    generalize S2.put (S6.next + 1 + 1) none = Sp at hFp k0 k1 k2 k3 hb3 hnp ⊢
    rw [← hnp] at hb2 hn1
    have hbs : Bs A Sp (.slice (some ⟨b, 0, none⟩) it.l.length it.l.length) it.l := ⟨hb4.2, .inr ⟨b, none, false, rfl, by have := hQ.a1; omega, hb2, hb3⟩⟩
    unfold Q38_0 itv
    obtain ⟨⟨Lv, hw, hL⟩, _, _⟩ := id (hR.fra hFp)
    rcases id hL with ⟨_, hnil⟩ | ⟨o, c, x, s, cells, rfl, m1, m2, m3, m4, m5, m6, m7⟩
    · rw [hnil] at hil; simp at hil
    have ff : decide (((i : Nat) : Int) ≥ ((its.length : Nat) : Int)) = false := decide_eq_false (by omega)
    obtain ⟨v, v1, v2⟩ := m7 i it hit
    rw [Nat.mul_comm 3 i] at v1
    have hor : o + i * 3 + 3 ≤ cells.length := by omega
    simp (disch := first | omega | (simp only [Hp.add_next, Hp.put_next]; done) | (simp only [Hp.add_next, Hp.put_next]; omega) | fail) only [↓P_pick, ↓P_fldA, ↓P_nil, ↓P_alloc, ↓P_load1, ↓P_loadN, ↓P_store, ↓P_ixA, ↓P_lenS, ↓P_geq, ↓P_callF2, blkP_cells, rdP_cells, optP_some, condP_of, put_at, put_off, add_eq, add_off, ↓P_Gff, List.getElem?_cons_zero, List.length_cons, List.length_nil, Nat.zero_add, Nat.add_zero, Nat.reduceAdd, Nat.reduceLeDiff, List.drop_zero, List.take_succ_cons, List.take_zero, and_self, and_true, if_false, Bool.false_eq_true, List.size_toArray, splice_z, overlay_n, overlay_c, List.all_cons, List.all_nil, one_int, one_bool, one_sl, cells_agg, cells_bool, Bool.and_self, List.nil_append, List.append_nil, Int.toNat_natCast, k0, k2, hw, ff, m4, v1, hor]
    have keep : ∀ u l, Bs A Sp u l → Bs A ((Sp.add (.cells none false [.slice none 0 0, .int .u64 0, .int .u64 0])).put Sp.next (some (.cells none false [.slice (some ⟨b, 0, none⟩) it.l.length it.l.length, .int .u64 it.a, .int .u64 it.w]))) u l := fun u l hu => hu.keep (by (first | omega | (simp only [Hp.add_next, Hp.put_next]; done) | (simp only [Hp.add_next, Hp.put_next]; omega))) fun b x s hb _ => by
      have : b ≠ Sp.next := by omega
      simp (disch := first | omega | (simp only [Hp.add_next, Hp.put_next]; done) | (simp only [Hp.add_next, Hp.put_next]; omega) | fail) only [put_off, add_off]
    refine s33 (i := it) (keep _ _ hbs) (keep _ _ v2) fun S3 hF3 => ?_
    have hn3 := hF3.next
    rw [Hp.put_next, Hp.add_next] at hn3
    have kx : S3.heap.get Sp.next = some (.cells none false [.slice (some ⟨b, 0, none⟩) it.l.length it.l.length, .int .u64 it.a, .int .u64 it.w]) := hF3.at_ (by (first | omega | (simp only [Hp.add_next, Hp.put_next]; done) | (simp only [Hp.add_next, Hp.put_next]; omega))) (by simp) (put_at _ _ _)
    have old : ∀ c, c < Sp.next → S3.heap.get c = Sp.heap.get c := fun c hc => by
      rw [hF3.heap c (by (first | omega | (simp only [Hp.add_next, Hp.put_next]; done) | (simp only [Hp.add_next, Hp.put_next]; omega))) (by simp)]
      have : c ≠ Sp.next := by omega
      simp (disch := first | omega | (simp only [Hp.add_next, Hp.put_next]; done) | (simp only [Hp.add_next, Hp.put_next]; omega) | fail) only [put_off, add_off]
    have hF3 : Fra [] S S3 := (((hFp.add _).put (.inl (by omega)) _).trans' hF3 : Fra [] S S3)
    have hb3 := (old b hb2).trans hb3
    have hbs : Bs A S3 (.slice (some ⟨b, 0, none⟩) it.l.length it.l.length) it.l := ⟨hb4.2, .inr ⟨b, none, false, rfl, by have := hQ.a1; omega, by omega, hb3⟩⟩
    have k0 := (old _ (by omega)).trans k0
    have k1 := (old _ (by omega)).trans k1
    have k2 := (old _ (by omega)).trans k2
    have k3 := (old _ (by omega)).trans k3
    simp (disch := first | omega | (simp only [Hp.add_next, Hp.put_next]; done) | (simp only [Hp.add_next, Hp.put_next]; omega) | fail) only [↓P_pick, ↓P_not, ↓P_fldA, ↓P_load1, ↓D_load1, ↓P_callF1, rdP_cells, optP_some, ↓P_Gff, ↓D_Gff, List.getElem?_cons_zero, Nat.add_zero, if_false, Bool.false_eq_true, Bool.not_true, List.nil_append, List.append_nil, kx]
    rw [D_call 22 _ 86 (vs := [.slice (some ⟨b, 0, none⟩) it.l.length it.l.length]) rfl]
    refine D_spec (s86 hbs) fun v S' t22 _ hP j1 j2 j3 => ?_
    obtain ⟨rfl, rfl⟩ := hP
    simp (disch := first | omega | (simp only [Hp.add_next, Hp.put_next]; done) | (simp only [Hp.add_next, Hp.put_next]; omega) | fail) only [rdP_cells, optP_some, List.getElem?_cons_zero, kx]
    refine Wb.wp_mono (s91 hbs) fun v S' h91 => ?_
    obtain ⟨_, rfl, rfl⟩ := h91
    have fc : ∀ x : Int, decide (x = x) = true := fun x => decide_eq_true rfl
    simp (disch := first | omega | (simp only [Hp.add_next, Hp.put_next]; done) | (simp only [Hp.add_next, Hp.put_next]; omega) | fail) only [ifP_bool, ifB_false, ↓P_neq, Bool.not_true, decide_true]
    refine okP_in (apart_cons (one_keep (.inr (apt_read (by rw [j1]; omega) fun hc => ?_)) one_nil) (apart_keep one_nil apart_nil)) ?_
    · rcases j3 _ hc with h | h
      · omega
      · simp at h
    simp (disch := first | omega | (simp only [Hp.add_next, Hp.put_next]; done) | (simp only [Hp.add_next, Hp.put_next]; omega) | fail) only [↓P_lenS, rdP_cells, optP_some, List.getElem?_cons_zero, kx]
    refine ⟨fun m t9 t10 t88 t89 S4 => ∃ (k : Nat) (l' : List Value), m = it.l.length - k ∧ k ≤ it.l.length ∧ t9 = ptr S6.next ∧ t10 = ptr Sp.next ∧ t88 = .int .i64 it.l.length ∧ t89 = .int .i64 k ∧ Byt l' ∧ l'.length = it.l.length ∧ S4.heap.get b = some (.cells none false l') ∧ Fra [] S S4 ∧ S'.next ≤ S4.next ∧ (∀ c, c < S'.next → c ≠ b → S4.heap.get c = S'.heap.get c), ⟨it.l.length, by omega, 0, it.l, by omega, by omega, rfl, rfl, rfl, rfl, hb4.2, rfl, hb3, hF3, Nat.le_refl _, fun _ _ _ => rfl⟩, ?_⟩
    rintro m S4 t9 t10 t88 t89 ⟨k, l', rfl, hk, rfl, rfl, rfl, rfl, hl', hll, hbl, hF4, hn4, old4⟩
    have kx4 : S4.heap.get Sp.next = some (.cells none false [.slice (some ⟨b, 0, none⟩) it.l.length it.l.length, .int .u64 it.a, .int .u64 it.w]) := by rw [old4 _ (by omega) (by omega)]; exact kx
    rw [P_lss, ifP_bool]
    refine ifD_in (fun hlt => ?_) (fun hge => ?_)
    · refine inc_step kx4 hbl hll hl' (by omega) (by omega) fun l2 hl2 hll2 => ?_
      refine ⟨it.l.length - (k + 1), by omega, k + 1, l2, rfl, by omega, rfl, rfl, rfl, by simp, hl2, hll2, put_at _ _ _, hF4.put (.inl (by omega)) _, hn4, fun c hc hcb => by rw [put_off hcb]; exact old4 c hc hcb⟩
    · have k0 := (old4 _ (by omega) (by omega)).trans k0
      have k1 := (old4 _ (by omega) (by omega)).trans k1
      have k2 := (old4 _ (by omega) (by omega)).trans k2
      have k3 := (old4 _ (by omega) (by omega)).trans k3
      simp (disch := first | omega | (simp only [Hp.add_next, Hp.put_next]; done) | (simp only [Hp.add_next, Hp.put_next]; omega) | fail) only [↓P_load1, ↓P_store, ↓P_add64, blkP_cells, rdP_cells, optP_some, condP_of, List.getElem?_cons_zero, List.length_cons, List.length_nil, Nat.zero_add, Nat.reduceLeDiff, and_self, List.size_toArray, splice_z, overlay_n, overlay_c, List.all_cons, List.all_nil, one_int, cells_int, Bool.and_self, k2]
      refine fin _ ⟨by omega, (hF4.put (.inl (by omega)) _).put (.inl (by omega)) _, by simp (disch := first | omega | (simp only [Hp.add_next, Hp.put_next]; done) | (simp only [Hp.add_next, Hp.put_next]; omega) | fail) only [put_off]; exact k0, by simp (disch := first | omega | (simp only [Hp.add_next, Hp.put_next]; done) | (simp only [Hp.add_next, Hp.put_next]; omega) | fail) only [put_off]; exact k1, by simp (disch := first | omega | (simp only [Hp.add_next, Hp.put_next]; done) | (simp only [Hp.add_next, Hp.put_next]; omega) | fail) only [put_at, put_off]; rfl, by simp (disch := first | omega | (simp only [Hp.add_next, Hp.put_next]; done) | (simp only [Hp.add_next, Hp.put_next]; omega) | fail) only [put_off]; exact k3, put_at _ _ _, by (first | omega | (simp only [Hp.add_next, Hp.put_next]; done) | (simp only [Hp.add_next, Hp.put_next]; omega))⟩
  · rintro v S2 (hI | hI)
    · have k0 := hI.k0
      have k1 := hI.k1
      have k2 := hI.k2
      have hln := hI.ln
      have hnx := hI.fr.next
      refine ⟨_, _, _, _, _, by rw [hI.l1, ← hlo], ?_⟩
      have hFp : Fra [] S (S2.put (S6.next + 1 + 1) none) := hI.fr.put (.inl (by omega)) _
      have k0 : (S2.put (S6.next + 1 + 1) none).heap.get S.next = some (.cells none false [ptr w]) := by simp (disch := first | omega | (simp only [Hp.add_next, Hp.put_next]; done) | (simp only [Hp.add_next, Hp.put_next]; omega) | fail) only [put_off]; exact k0
      have k1 : (S2.put (S6.next + 1 + 1) none).heap.get (S.next + 1) = some (.cells none false [.bool false]) := by simp (disch := first | omega | (simp only [Hp.add_next, Hp.put_next]; done) | (simp only [Hp.add_next, Hp.put_next]; omega) | fail) only [put_off]; exact k1
      have k2 : (S2.put (S6.next + 1 + 1) none).heap.get S6.next = some (.cells none false [.int .i64 its.length]) := by simp (disch := first | omega | (simp only [Hp.add_next, Hp.put_next]; done) | (simp only [Hp.add_next, Hp.put_next]; omega) | fail) only [put_off]; exact k2
      have hnp : (S2.put (S6.next + 1 + 1) none).next = S2.next := rfl
      generalize S2.put (S6.next + 1 + 1) none = Sp at hFp k0 k1 k2 hnp ⊢
      obtain ⟨⟨Lv, hw, hL⟩, _, _⟩ := id (hR.fra hFp)
      dsimp only
      have ff : decide (((its.length : Nat) : Int) = ((its.length : Nat) : Int)) = true := decide_eq_true rfl
      simp (disch := first | omega | (simp only [Hp.add_next, Hp.put_next]; done) | (simp only [Hp.add_next, Hp.put_next]; omega) | fail) only [↓P_fldA, ↓P_nil, ↓P_load1, ↓P_cell1, ↓P_store, ↓P_eql, blkP_cells, rdP_cells, optP_some, condP_of, List.getElem?_cons_zero, List.length_cons, List.length_nil, Nat.zero_add, Nat.add_zero, Nat.reduceLeDiff, and_self, decide_true, List.size_toArray, splice_z, overlay_n, overlay_c, List.all_cons, List.all_nil, one_bool, cells_bool, Bool.and_self, k0, k1, k2, hw, hL.len]
      refine okP_in apart_nil ?_
      simp (disch := first | omega | (simp only [Hp.add_next, Hp.put_next]; done) | (simp only [Hp.add_next, Hp.put_next]; omega) | fail) only [rdP_cells, optP_some, put_at, List.getElem?_cons_zero]
      exact ks _ (hFp.put (.inl (by omega)) _)
    · exact hI.elim
def pushR (d : Nat) (its : List It) (i : It) : Int × List It := if 1600 < i.l.length then (3, its) else if d ≤ its.length then (9, its) else (0, its ++ [i])
theorem s27' {n : Nat} {S : Hp} {q rb d f : Nat} {its : List It} {v : Value} {i : It} {Φ : Value → Hp → Prop} (hQ : QR A S q rb d f its) (hv : Rd S v i.l) (hl : i.l.length ≤ 100000)
    (ks : ∀ S', Fra [q, rb] S S' → QR A S' q rb d f (pushR d its i).2 → Φ (.int .i64 (pushR d its i).1) S') : wp (callN T (n + 1 + 1) (.fn 27) [ptr q, itv v i]) Φ S := by
  refine s27 hQ hv hl (fun h S' hF => ?_) (fun h h2 S' hF => ?_) (fun h h2 S' hF hQ' => ?_)
  · have : pushR d its i = (3, its) := if_pos h
    rw [this] at ks
    exact ks S' (hF.mono (by simp)) (hQ.fra hF)
  · have : pushR d its i = (9, its) := by unfold pushR; rw [if_neg (by omega), if_pos (by omega)]
    rw [this] at ks
    exact ks S' (hF.mono (by simp)) (hQ.fra hF)
  · have : pushR d its i = (0, its ++ [i]) := by unfold pushR; rw [if_neg (by omega), if_neg (by omega)]
    rw [this] at ks
    exact ks S' hF hQ'
theorem s31' {n : Nat} {S : Hp} {w lb : Nat} {d : Nat} {its : List It} {v : Value} {i : It} {Φ : Value → Hp → Prop} (hW : WF S) (h : RR A S w lb d its) (hlen : its.length ≤ 1000) (hv : Rd S v i.l) (hl : i.l.length ≤ 100000)
    (ks : ∀ lb' S', Fra [w] S S' → lb' = lb ∨ S.next ≤ lb' → RR A S' w lb' d (pushR d its i).2 → Φ (.int .i64 (pushR d its i).1) S') : wp (callN T (n + 1) (.fn 31) [ptr w, itv v i]) Φ S := by
  refine s31 hW h hlen hv hl (fun h1 S' hF => ?_) (fun h1 h2 S' hF => ?_) (fun h1 h2 lb' S' hF hn hR' => ?_)
  · have : pushR d its i = (3, its) := if_pos h1
    rw [this] at ks
    exact ks lb S' (hF.mono (by simp)) (.inl rfl) (h.fra hF)
  · have : pushR d its i = (9, its) := by unfold pushR; rw [if_neg (by omega), if_pos (by omega)]
    rw [this] at ks
    exact ks lb S' (hF.mono (by simp)) (.inl rfl) (h.fra hF)
  · have : pushR d its i = (0, its ++ [i]) := by unfold pushR; rw [if_neg (by omega), if_neg (by omega)]
    rw [this] at ks
    exact ks lb' S' hF (.inr hn) hR'
theorem s28' {n : Nat} {S : Hp} {q rb d f : Nat} {its : List It} {Φ : Value → Hp → Prop} (hn : 300 ≤ n) (hQ : QR A S q rb d f its)
    (ks : ∀ f' u S', Fra [q, rb] S S' → Bs A S' u (hd its).l → QR A S' q rb d f' its.tail → Φ (.tuple ⟨[itv u (hd its), .bool (!its.isEmpty)]⟩) S') : wp (callN T (n + 1 + 1) (.fn 28) [ptr q]) Φ S := by
  refine s28 hn hQ (fun e S' hF => ?_) (fun i r u S' e hF hu hQ' => ?_)
  · subst e; exact ks f (.slice none 0 0) S' (hF.mono (by simp)) (Bs.nil _) (hQ.fra hF)
  · subst e; exact ks _ u S' hF hu hQ'
theorem s32' {n : Nat} {S : Hp} {w lb : Nat} {d : Int} {its : List It} {Φ : Value → Hp → Prop} (h : RR A S w lb d its)
    (ks : ∀ u S', Fra [w] S S' → Bs A S' u (hd its).l → RR A S' w lb d its.tail → Φ (.tuple ⟨[itv u (hd its), .bool (!its.isEmpty)]⟩) S') : wp (callN T (n + 1 + 1) (.fn 32) [ptr w]) Φ S := by
  refine s32 h (fun e S' hF => ?_) (fun i r u S' e hF hu hR' => ?_)
  · subst e; exact ks (.slice none 0 0) S' (hF.mono (by simp)) (Bs.nil _) (h.fra hF)
  · subst e; exact ks u S' hF hu hR'
/-- what a new depth does: the depth, the items, how many are cut, the answer -/
structure Deep where
  d : Nat
  its : List It
  n : Int
  e : Int
def deepR (d : Nat) (its : List It) (t : Int) : Deep := if 1 ≤ t ∧ t ≤ 256 then ⟨t.toNat, its.take t.toNat, (its.length : Nat) - ((its.take t.toNat).length : Nat), 0⟩ else ⟨d, its, 0, 2⟩
theorem s34' {n : Nat} {S : Hp} {q rb d f : Nat} {its : List It} {t : Int} {Φ : Value → Hp → Prop} (hn : 300 ≤ n) (h : QR A S q rb d f its)
    (ks : ∀ rb' f' S', Fra [q] S S' → rb' = rb ∨ S.next ≤ rb' → QR A S' q rb' (deepR d its t).d f' (deepR d its t).its → Φ (.tuple ⟨[.int .i64 (deepR d its t).n, .int .i64 (deepR d its t).e]⟩) S') : wp (callN T (n + 1) (.fn 34) [ptr q, .int .i64 t]) Φ S := by
  refine s34 hn h (fun h1 S' hF => ?_) (fun rb' d' S' e h1 hF hr hQ' => ?_)
  · have : deepR d its t = ⟨d, its, 0, 2⟩ := if_neg h1
    rw [this] at ks
    exact ks rb f S' (hF.mono (by simp)) (.inl rfl) (h.fra hF)
  · have h2 := hQ'.d1
    have : deepR d its t = ⟨d', its.take d', (its.length : Nat) - ((its.take d').length : Nat), 0⟩ := by
      unfold deepR
      rw [if_pos (by omega), ← e, Int.toNat_natCast]
    rw [this] at ks
    exact ks rb' 0 S' hF (.inr hr) hQ'
theorem s35' {n : Nat} {S : Hp} {w lb : Nat} {d : Nat} {t : Int} {its : List It} {Φ : Value → Hp → Prop} (h : RR A S w lb d its) (hlen : its.length ≤ 1000)
    (ks : ∀ S', Fra [w] S S' → RR A S' w lb (deepR d its t).d (deepR d its t).its → Φ (.tuple ⟨[.int .i64 (deepR d its t).n, .int .i64 (deepR d its t).e]⟩) S') : wp (callN T (n + 1 + 1) (.fn 35) [ptr w, .int .i64 t]) Φ S := by
  refine s35 h hlen (fun h1 S' hF => ?_) (fun d' S' e h1 h2 hF hR' => ?_)
  · have : deepR d its t = ⟨d, its, 0, 2⟩ := if_neg h1
    rw [this] at ks
    exact ks S' (hF.mono (by simp)) (h.fra hF)
  · have : deepR d its t = ⟨d', its.take d', (its.length : Nat) - ((its.take d').length : Nat), 0⟩ := by
      unfold deepR
      rw [if_pos (by omega), ← e, Int.toNat_natCast]
    rw [this] at ks
    rw [← e] at hR'
    exact ks S' hF hR'
/-! ## What stays -/
theorem QR.fraW {S S' : Hp} {q rb d f w lb : Nat} {its its' : List It} {d' : Int} (h : QR A S q rb d f its) (hR : RR A S w lb d' its') (hF : Fra [w] S S') (h1 : w ≠ q) (h2 : w ≠ rb) : QR A S' q rb d f its := by
  obtain ⟨⟨Lv, hw, hL⟩, _, _⟩ := hR
  refine h.keep hF.next (hF.heap q h.q1 (by simp; omega)) (hF.heap rb h.r1 (by simp; omega)) fun b x s l hl hb hs => hF.heap b hb ?_
  have := Byt.not_w hw hL hs hl
  simpa using this
theorem not_qr {S : Hp} {q rb d f b : Nat} {its : List It} (h : QR A S q rb d f its) {x : Option Nat} {s : Bool} {l : List Value} (hl : Byt l) (hs : S.heap.get b = some (.cells x s l)) : b ∉ [q, rb] := by
  obtain ⟨ring, hr, hrl, hr0, hri⟩ := h.rng
  have e1 := Byt.not_q h.qb hs hl
  have e2 := Byt.not_r hr hrl h.d0 hr0 hs hl
  simp; omega
theorem RR.fraQ {S S' : Hp} {q rb d f w lb : Nat} {its its' : List It} {d' : Int} (hR : RR A S w lb d' its') (h : QR A S q rb d f its) (hF : Fra [q, rb] S S') (h1 : w ≠ q) (h2 : w ≠ rb) (h3 : lb ≠ q) (h4 : lb ≠ rb) : RR A S' w lb d' its' :=
  hR.keep hF.next (hF.heap w hR.w1 (by simp; omega)) (hF.heap lb hR.l1 (by simp; omega)) fun b x s l hl hb hs => hF.heap b hb (not_qr h hl hs)
theorem QR.fraQ {S S' : Hp} {q rb d f q' rb' d' f' : Nat} {its its' : List It} (hR : QR A S q' rb' d' f' its') (h : QR A S q rb d f its) (hF : Fra [q, rb] S S') (h1 : q' ≠ q) (h2 : q' ≠ rb) (h3 : rb' ≠ q) (h4 : rb' ≠ rb) : QR A S' q' rb' d' f' its' :=
  hR.keep hF.next (hF.heap q' hR.q1 (by simp; omega)) (hF.heap rb' hR.r1 (by simp; omega)) fun b x s l hl hb hs => hF.heap b hb (not_qr h hl hs)
/-! ## Another block is kept out -/
theorem Bs.av {S : Hp} {A' : Nat} {v : Value} {l : List Value} (h : Bs A S v l) (hA : S.next ≤ A') : Bs A' S v l := by
  refine ⟨h.1, ?_⟩
  rcases h.2 with h1 | ⟨b, x, s, h1, h2, h3, h4⟩
  · exact .inl h1
  · exact .inr ⟨b, x, s, h1, by omega, h3, h4⟩
theorem QR.av {S S' : Hp} {A' q rb d f : Nat} {its : List It} (h : QR A S q rb d f its) (hF : Fra [] S S') (h1 : S.next ≤ A') (h2 : A' < S'.next) : QR A' S' q rb d f its := by
  have hq := h.fra hF
  obtain ⟨ring, r1, r2, r3, r4⟩ := h.rng
  refine ⟨hq.qb, ⟨ring, hF.at_ h.r1 (by simp) r1, r2, r3, fun j i hj => ?_⟩, hq.many, hq.d0, hq.d1, hq.f1, hq.q1, hq.r1, hq.ne, h2⟩
  obtain ⟨v, k1, k2, k3⟩ := r4 j i hj
  exact ⟨v, k1, (k2.av h1).keep hF.next fun b x s hb _ => hF.heap b hb (by simp), k3⟩
theorem RR.av {S S' : Hp} {A' w lb : Nat} {d : Int} {its : List It} (h : RR A S w lb d its) (hF : Fra [] S S') (h1 : S.next ≤ A') (h2 : A' < S'.next) : RR A' S' w lb d its := by
  obtain ⟨⟨Lv, hw, hL⟩, k1, k2, k3⟩ := h
  have hn := hF.next
  refine ⟨⟨Lv, hF.at_ k1 (by simp) hw, ?_⟩, by omega, by omega, h2⟩
  rcases hL with hL | ⟨o, c, x, s, cells, e, l1, l2, l3, l4, l5, l6, l7⟩
  · exact .inl hL
  · refine .inr ⟨o, c, x, s, cells, e, l1, l2, l3, hF.at_ k2 (by simp) l4, l5, l6, fun j i hj => ?_⟩
    obtain ⟨v, m1, m2⟩ := l7 j i hj
    exact ⟨v, m1, (m2.av h1).keep hF.next fun b x s hb _ => hF.heap b hb (by simp)⟩
theorem Bs.putA {S : Hp} {v : Value} {l : List Value} (h : Bs A S v l) (o : Option Blk) : Bs A (S.put A o) v l := by
  refine ⟨h.1, ?_⟩
  rcases h.2 with h1 | ⟨b, x, s, h1, h2, h3, h4⟩
  · exact .inl h1
  · exact .inr ⟨b, x, s, h1, h2, h3, by rw [put_off h2]; exact h4⟩
theorem QR.putA {S : Hp} {q rb d f : Nat} {its : List It} (h : QR A S q rb d f its) (h1 : q ≠ A) (h2 : rb ≠ A) (o : Option Blk) : QR A (S.put A o) q rb d f its := by
  obtain ⟨ring, r1, r2, r3, r4⟩ := h.rng
  refine ⟨by rw [put_off h1]; exact h.qb, ⟨ring, by rw [put_off h2]; exact r1, r2, r3, fun j i hj => ?_⟩, h.many, h.d0, h.d1, h.f1, h.q1, h.r1, h.ne, h.a1⟩
  obtain ⟨v, k1, k2, k3⟩ := r4 j i hj
  exact ⟨v, k1, k2.putA o, k3⟩
theorem RR.putA {S : Hp} {w lb : Nat} {d : Int} {its : List It} (h : RR A S w lb d its) (h1 : w ≠ A) (h2 : lb ≠ A) (o : Option Blk) : RR A (S.put A o) w lb d its := by
  obtain ⟨⟨Lv, hw, hL⟩, k1, k2, k3⟩ := h
  refine ⟨⟨Lv, by rw [put_off h1]; exact hw, ?_⟩, k1, k2, k3⟩
  rcases hL with hL | ⟨o', c, x, s, cells, e, l1, l2, l3, l4, l5, l6, l7⟩
  · exact .inl hL
  · refine .inr ⟨o', c, x, s, cells, e, l1, l2, l3, by rw [put_off h2]; exact l4, l5, l6, fun j i hj => ?_⟩
    obtain ⟨v, m1, m2⟩ := l7 j i hj
    exact ⟨v, m1, m2.putA o⟩
end Go.Proofs.Ytmepokefmpcnnaa.Qu
