/- Layer 2's functions, as texts. -/
import Derived.Test.YtmepokefmpcnnaaDoorEtGlo
import Derived.Test.YtmepokefmpcnnaaDoorEngRX
import Derived.KernelRfl
set_option maxRecDepth 100000
set_option linter.unusedVariables false
namespace Go.Proofs.YtmepokefmpcnnaaDoor.Et
open Go.Wb
noncomputable def T0 : Nat → Option AFn := tabOf Tryd.prog
/-- known() by its answer -/
noncomputable def T : Nat → Option AFn := withSum T0 6 (plG T0 6)
theorem T_ok (hm : Tryd.prog.follows .mixedOrders = true) : TabOk Tryd.prog T := withSum_ok (tabOk Tryd.prog) (plG_ok hm (tabOk Tryd.prog) 6)
theorem known : plG T0 6 [] = some (.bool true) := plG_known (by kernel_rfl)
theorem kn (n : Nat) (Φ : Value → Hp → Prop) (S : Hp) : wp (callN T (n + 1) (.fn 6) []) Φ S = Φ (.bool true) S := by
  rw [P_sum (F := T) (f := 6) (g := plG T0 6) ws_eq, known]; rfl
noncomputable def b4 : ACode := bodyOf (T 4)
def A4 : List (Nat × List Nat) := [(16378, [1, 4, 5, 12, 96, 97]), (8186, [1, 4, 5, 7, 12, 84, 85]), (2044, [40960])]
def P4 (C : Tgt → List Value → M Value) (n : Nat) (Φ : Value → Hp → Prop) (t0 t1 : Value) (S : Hp) : Prop :=
  wp (X C (.box 31 (.const t0))) (fun t2_0 S =>
  wp (X C (.len .slice (.const t1))) (fun t19_1 S =>
  wp (X C (.bin .gtr (.const t19_1) (.const (.int .i64 4000)))) (fun t20_2 S =>
  ifP (Wb.asBool t20_2) (fun S =>
   wp (X C (.call (.const (.func (.func 6) ⟨[]⟩ ⟨[]⟩)) [])) (fun t21_3 S =>
   Φ t21_3 S) S) (fun S =>
   wp (X C (.bslice 5 0 [] [])) (fun t22_4 S =>
   wp (X C (.app 1 1 5 (.const t22_4) (.const t1))) (fun t24_5 S =>
   wp (X C (.call (.const (.func (.func 11) ⟨[]⟩ ⟨[]⟩)) [(.const t24_5)])) (fun t27_6 S =>
   wp (X C (.ext (.const t27_6) 0)) (fun t28_7 S =>
   wp (X C (.ext (.const t27_6) 1)) (fun t29_8 S =>
   wp (X C (.ext (.const t27_6) 2)) (fun t30_9 S =>
   wp (X C (.alloc 31 [(.int .u8 0), (.int .u8 0), (.int .u8 0), (.int .u8 0), (.int .u8 0), (.int .u8 0), (.int .u8 0), (.int .u8 0), (.int .u8 0), (.int .u8 0), (.int .u8 0), (.int .u8 0), (.int .u16 0)])) (fun t6_10 S =>
   wp (X C (.store 13 (.const t6_10) (.const t28_7))) (fun _ S =>
   wp (X C (.call (.const (.func (.func 12) ⟨[]⟩ ⟨[]⟩)) [(.const t1)])) (fun t33_11 S =>
   wp (X C (.ext (.const t33_11) 0)) (fun t34_12 S =>
   wp (X C (.ext (.const t33_11) 1)) (fun t35_13 S =>
   wp (X C (.ext (.const t33_11) 2)) (fun t36_14 S =>
   wp (X C (.alloc 31 [(.int .u8 0), (.int .u8 0), (.int .u8 0), (.int .u8 0), (.int .u8 0), (.int .u8 0), (.int .u8 0), (.int .u8 0), (.int .u8 0), (.int .u8 0), (.int .u8 0), (.int .u8 0), (.int .u16 0)])) (fun t9_15 S =>
   wp (X C (.store 13 (.const t9_15) (.const t34_12))) (fun _ S =>
   wp (X C (.load (.agg 13) (.const t6_10))) (fun t37_16 S =>
   wp (X C (.load (.agg 13) (.const t9_15))) (fun t38_17 S =>
   wp (X C (.eq true (.cells 13 [(0, 1), (1, 1), (2, 1), (3, 1), (4, 1), (5, 1), (6, 1), (7, 1), (8, 1), (9, 1), (10, 1), (11, 1), (12, 1)]) (.const t37_16) (.const t38_17))) (fun t39_18 S =>
   andP false t39_18 (fun K S =>
    wp (X C (.bin .neq (.const t30_9) (.const t36_14))) (fun t43_19 S =>
    K t43_19 S) S) (fun t44_20 S =>
   andP false t44_20 (fun K S =>
    wp (X C (.conv .b2str (.const t29_8))) (fun t47_21 S =>
    wp (X C (.conv .b2str (.const t35_13))) (fun t49_22 S =>
    wp (X C (.bin .neq (.const t47_21) (.const t49_22))) (fun t50_23 S =>
    K t50_23 S) S) S) S) (fun t51_24 S =>
   ifP (Wb.asBool t51_24) (fun S =>
    Φ (.bool false) S) (fun S =>
    wp (X C (.load (.agg 13) (.const t2_0))) (fun t53_25 S =>
    wp (X C (.call (.const (.func (.func 13) ⟨[]⟩ ⟨[]⟩)) [(.const t53_25), (.const t24_5)])) (fun t55_26 S =>
    wp (X C (.ext (.const t55_26) 0)) (fun t56_27 S =>
    wp (X C (.ext (.const t55_26) 1)) (fun t57_28 S =>
    wp (X C (.load (.agg 13) (.const t2_0))) (fun t59_29 S =>
    wp (X C (.call (.const (.func (.func 14) ⟨[]⟩ ⟨[]⟩)) [(.const t59_29), (.const t1)])) (fun t61_30 S =>
    wp (X C (.ext (.const t61_30) 0)) (fun t62_31 S =>
    wp (X C (.ext (.const t61_30) 1)) (fun t63_32 S =>
    wp (X C (.conv .b2str (.const t56_27))) (fun t65_33 S =>
    wp (X C (.conv .b2str (.const t62_31))) (fun t67_34 S =>
    wp (X C (.bin .neq (.const t65_33) (.const t67_34))) (fun t68_35 S =>
    wp (G (wanted false t68_35) (X C (.mov (.const t57_28)))) (fun t70_36 S =>
    wp (G (wanted false t68_35) (X C (.mov (.const t63_32)))) (fun t71_37 S =>
    wp (G (wanted false t68_35) (X C (.bin .neq (.const t70_36) (.const t71_37)))) (fun t72_38 S =>
    wp (X C (.pick (.const t68_35) (.const (.bool true)) (.const t72_38))) (fun t73_39 S =>
    wp (G (wanted false t73_39) (X C (.fldA 12 (.const t2_0)))) (fun t75_40 S =>
    wp (G (wanted false t73_39) (X C (.load .one (.const t75_40)))) (fun t76_41 S =>
    dstepP 13 [] (G (wanted false t73_39) (X C (.call (.const (.func (.func 15) ⟨[]⟩ ⟨[]⟩)) [(.const t76_41)]))) (fun t77_42 ts S =>
    wp (G (wanted false t73_39) (X C (.fldA 12 (.const t2_0)))) (fun t78_43 S =>
    dstepP 15 ts (G (wanted false t73_39) (X C (.load .one (.const t78_43)))) (fun t79_44 ts S =>
    wp (G (wanted false t73_39) (X C (.call (.const (.func (.func 16) ⟨[]⟩ ⟨[]⟩)) [(.const t79_44)]))) (fun t80_45 S =>
    wp (G (wanted false t73_39) (X C (.eq true .bool (.const t77_42) (.const t80_45)))) (fun t81_46 S =>
    wp (X C (.pick (.const t73_39) (.const (.bool true)) (.const t81_46))) (fun t82_47 S =>
    okP (apartAll [0, 1, 0, 4, 15, 31, 63, 63, 255, 511, 1023, 2047, 4095, 8191, 2047, 18431, 65535, 131071, 262143] ts) (fun S =>
    ifP (Wb.asBool t82_47) (fun S =>
     Φ (.bool false) S) (fun S =>
     wp (X C (.len .slice (.const t29_8))) (fun t84_48 S =>
     ∃ I49 : Nat → Value → Value → Value → Value → Value → Value → Value → Hp → Prop, (∃ m, m < n ∧ I49 m t1 (.bool false) t24_5 t29_8 t56_27 t84_48 (.int .i64 0) S) ∧ ∀ (m49 : Nat) (S : Hp) (t1_50 t4_51 t5_52 t7_53 t12_54 t84_55 t85_56 : Value), I49 m49 t1_50 t4_51 t5_52 t7_53 t12_54 t84_55 t85_56 S →
      wp (X C (.bin .lss (.const t85_56) (.const t84_55))) (fun t86_57 S =>
      ifP (Wb.asBool t86_57) (fun S =>
       wp (X C (.ixA 1 (.const t7_53) (.const t85_56))) (fun t90_58 S =>
       wp (X C (.load .one (.const t90_58))) (fun t91_59 S =>
       wp (X C (.bin .add (.const t91_59) (.const (.int .u8 1)))) (fun t92_60 S =>
       wp (X C (.ixA 1 (.const t7_53) (.const t85_56))) (fun t93_61 S =>
       wp (X C (.store 1 (.const t93_61) (.const t92_60))) (fun _ S =>
       wp (X C (.bin .add (.const t85_56) (.const (.int .i64 1)))) (fun t94_62 S =>
       ∃ j49, j49 < m49 ∧ I49 j49 t1_50 t4_51 t5_52 t7_53 t12_54 t84_55 t94_62 S) S) S) S) S) S) S) (fun S =>
       wp (X C (.len .slice (.const t12_54))) (fun t96_63 S =>
       ∃ I64 : Nat → Value → Value → Value → Value → Value → Value → Hp → Prop, (∃ m, m < n ∧ I64 m t1_50 t4_51 t5_52 t12_54 t96_63 (.int .i64 0) S) ∧ ∀ (m64 : Nat) (S : Hp) (t1_65 t4_66 t5_67 t12_68 t96_69 t97_70 : Value), I64 m64 t1_65 t4_66 t5_67 t12_68 t96_69 t97_70 S →
        wp (X C (.bin .lss (.const t97_70) (.const t96_69))) (fun t98_71 S =>
        ifP (Wb.asBool t98_71) (fun S =>
         wp (X C (.ixA 1 (.const t12_68) (.const t97_70))) (fun t102_72 S =>
         wp (X C (.load .one (.const t102_72))) (fun t103_73 S =>
         wp (X C (.bin .add (.const t103_73) (.const (.int .u8 1)))) (fun t104_74 S =>
         wp (X C (.ixA 1 (.const t12_68) (.const t97_70))) (fun t105_75 S =>
         wp (X C (.store 1 (.const t105_75) (.const t104_74))) (fun _ S =>
         wp (X C (.bin .add (.const t97_70) (.const (.int .i64 1)))) (fun t106_76 S =>
         ∃ j64, j64 < m64 ∧ I64 j64 t1_65 t4_66 t5_67 t12_68 t96_69 t106_76 S) S) S) S) S) S) S) (fun S =>
         wp (X C (.conv .b2str (.const t5_67))) (fun t108_77 S =>
         wp (X C (.conv .b2str (.const t1_65))) (fun t110_78 S =>
         wp (X C (.bin .eql (.const t108_77) (.const t110_78))) (fun t111_79 S =>
         andP true t111_79 (fun K S =>
          wp (X C (.call (.const (.func (.func 6) ⟨[]⟩ ⟨[]⟩)) [])) (fun t113_80 S =>
          K t113_80 S) S) (fun t114_81 S =>
         Φ t114_81 S) S) S) S) S) S) S) S) S) S) S) S) S) S) S) S) S) S) S) S) S) S) S) S) S) S) S) S) S) S) S) S) S) S) S) S) S) S) S) S) S) S) S) S) S) S) S) S) S) S) S) S) S) S) S) S) S) S) S) S
theorem p4 (C : Tgt → List Value → M Value) (n : Nat) (Φ : Value → Hp → Prop) (t0 t1 : Value) (S : Hp) : codeP C A4 n 1 b4 (argsEnv [t0, t1] 0 .leaf) (endP [.tmp 4] Φ) S = P4 C n Φ t0 t1 S := by kernel_rfl
theorem g4 : T 4 = some (.go ⟨2, [.tmp 4], b4⟩) := by kernel_rfl
attribute [irreducible] b4
theorem c4 {F : Nat → Option AFn} (hF : F 4 = some (.go ⟨2, [.tmp 4], b4⟩)) {n : Nat} {Φ : Value → Hp → Prop} {t0 t1 : Value} {S : Hp} (h : P4 (callN F n) n Φ t0 t1 S) : wp (callN F (n + 1) (.fn 4) [t0, t1]) Φ S := callP (A := A4) hF rfl (Eq.mpr (p4 (callN F n) n Φ t0 t1 S) h)


noncomputable def b11 : ACode := bodyOf (T 11)
def A11 : List (Nat × List Nat) := [(30, [9]), (14, [279124])]
def P11 (C : Tgt → List Value → M Value) (n : Nat) (Φ : Value → Hp → Prop) (t0 : Value) (S : Hp) : Prop :=
  wp (X C (.alloc 31 [(.int .u8 0), (.int .u8 0), (.int .u8 0), (.int .u8 0), (.int .u8 0), (.int .u8 0), (.int .u8 0), (.int .u8 0), (.int .u8 0), (.int .u8 0), (.int .u8 0), (.int .u8 0), (.int .u16 0)])) (fun t2_0 S =>
  wp (X C (.len .slice (.const t0))) (fun t8_1 S =>
  wp (X C (.bin .gtr (.const t8_1) (.const (.int .i64 1600)))) (fun t9_2 S =>
  ifP (Wb.asBool t9_2) (fun S =>
   wp (X C (.build [(.int .u8 0), (.int .u8 0), (.int .u8 0), (.int .u8 0), (.int .u8 0), (.int .u8 0), (.int .u8 0), (.int .u8 0), (.int .u8 0), (.int .u8 0), (.int .u8 0), (.int .u8 0), (.int .u16 0)] [])) (fun t10_3 S =>
   wp (X C (.store 13 (.const t2_0) (.const t10_3))) (fun _ S =>
   wp (cellV t2_0 (.agg 13)) (fun t2_4 S =>
   Φ (.tuple ⟨[t2_4, (.slice none 0 0), (.int .i64 3)]⟩) S) S) S) S) (fun S =>
   wp (X C (.len .slice (.const t0))) (fun t13_5 S =>
   wp (X C (.bin .lss (.const t13_5) (.const (.int .i64 14)))) (fun t14_6 S =>
   ifP (Wb.asBool t14_6) (fun S =>
    wp (X C (.build [(.int .u8 0), (.int .u8 0), (.int .u8 0), (.int .u8 0), (.int .u8 0), (.int .u8 0), (.int .u8 0), (.int .u8 0), (.int .u8 0), (.int .u8 0), (.int .u8 0), (.int .u8 0), (.int .u16 0)] [])) (fun t15_7 S =>
    wp (X C (.store 13 (.const t2_0) (.const t15_7))) (fun _ S =>
    wp (cellV t2_0 (.agg 13)) (fun t2_8 S =>
    Φ (.tuple ⟨[t2_8, (.slice none 0 0), (.int .i64 4)]⟩) S) S) S) S) (fun S =>
    wp (X C (.ixA 0 (.const t0) (.const (.int .i64 5)))) (fun t17_9 S =>
    dstepP 2 [] (X C (.load (.agg 6) (.const t17_9))) (fun t18_10 ts S =>
    dstepP 4 ts (X C (.slc 1 (.const t0) (some (.const (.int .i64 6))) none none)) (fun t20_11 ts S =>
    wp (X C (.ixA 0 (.const t20_11) (.const (.int .i64 5)))) (fun t21_12 S =>
    dstepP 6 ts (X C (.load (.agg 6) (.const t21_12))) (fun t22_13 ts S =>
    wp (X C (.ixA 1 (.const t0) (.const (.int .i64 12)))) (fun t24_14 S =>
    dstepP 9 ts (X C (.load .one (.const t24_14))) (fun t25_15 ts S =>
    wp (X C (.conv (.int .u16) (.const t25_15))) (fun t26_16 S =>
    wp (X C (.bin .shl (.const t26_16) (.const (.int .u64 8)))) (fun t27_17 S =>
    wp (X C (.ixA 1 (.const t0) (.const (.int .i64 13)))) (fun t29_18 S =>
    dstepP 14 ts (X C (.load .one (.const t29_18))) (fun t30_19 ts S =>
    wp (X C (.conv (.int .u16) (.const t30_19))) (fun t31_20 S =>
    wp (X C (.bin .or (.const t27_17) (.const t31_20))) (fun t32_21 S =>
    wp (X C (.build [(.int .u8 0), (.int .u8 0), (.int .u8 0), (.int .u8 0), (.int .u8 0), (.int .u8 0), (.int .u8 0), (.int .u8 0), (.int .u8 0), (.int .u8 0), (.int .u8 0), (.int .u8 0), (.int .u16 0)] [(0, 6, (.const t18_10)), (6, 6, (.const t22_13)), (12, 1, (.const t32_21))])) (fun t33_22 S =>
    dstepP 18 ts (X C (.alloc 31 [(.int .u8 0), (.int .u8 0), (.int .u8 0), (.int .u8 0), (.int .u8 0), (.int .u8 0), (.int .u8 0), (.int .u8 0), (.int .u8 0), (.int .u8 0), (.int .u8 0), (.int .u8 0), (.int .u16 0)])) (fun t5_23 ts S =>
    wp (X C (.store 13 (.const t5_23) (.const t33_22))) (fun _ S =>
    okP (apartAll [0, 1, 3, 0, 8, 24, 56, 0, 128, 384, 896, 1920, 0, 4096, 12288, 28672, 65408, 131071, 0, 524287] ts) (fun S =>
    dstepP 0 [] (X C (.load (.agg 13) (.const t5_23))) (fun t34_24 ts S =>
    wp (X C (.slc 1 (.const t0) (some (.const (.int .i64 14))) none none)) (fun t36_25 S =>
    dstepP 3 ts (X C (.call (.const (.func (.func 22) ⟨[]⟩ ⟨[]⟩)) [(.const t36_25)])) (fun t37_26 ts S =>
    wp (X C (.store 13 (.const t2_0) (.const t34_24))) (fun _ S =>
    okP (apartAll [0, 0, 2, 6, 15, 31, 63] ts) (fun S =>
    wp (cellV t2_0 (.agg 13)) (fun t2_27 S =>
    Φ (.tuple ⟨[t2_27, t37_26, (.int .i64 0)]⟩) S) S) S) S) S) S) S) S) S) S) S) S) S) S) S) S) S) S) S) S) S) S) S) S) S) S) S) S) S) S) S
theorem p11 (C : Tgt → List Value → M Value) (n : Nat) (Φ : Value → Hp → Prop) (t0 : Value) (S : Hp) : codeP C A11 n 1 b11 (argsEnv [t0] 0 .leaf) (endP [.cell 2 (.agg 13), .tmp 3, .tmp 4] Φ) S = P11 C n Φ t0 S := by kernel_rfl
theorem g11 : T 11 = some (.go ⟨1, [.cell 2 (.agg 13), .tmp 3, .tmp 4], b11⟩) := by kernel_rfl
attribute [irreducible] b11
theorem c11 {F : Nat → Option AFn} (hF : F 11 = some (.go ⟨1, [.cell 2 (.agg 13), .tmp 3, .tmp 4], b11⟩)) {n : Nat} {Φ : Value → Hp → Prop} {t0 : Value} {S : Hp} (h : P11 (callN F n) n Φ t0 S) : wp (callN F (n + 1) (.fn 11) [t0]) Φ S := callP (A := A11) hF rfl (Eq.mpr (p11 (callN F n) n Φ t0 S) h)


noncomputable def b12 : ACode := bodyOf (T 12)
def A12 : List (Nat × List Nat) := [(254, [27]), (126, [0]), (250, [0, 2, 3, 4, 5, 6])]
def P12 (C : Tgt → List Value → M Value) (n : Nat) (Φ : Value → Hp → Prop) (t0 : Value) (S : Hp) : Prop :=
  wp (X C (.alloc 31 [(.int .u8 0), (.int .u8 0), (.int .u8 0), (.int .u8 0), (.int .u8 0), (.int .u8 0), (.int .u8 0), (.int .u8 0), (.int .u8 0), (.int .u8 0), (.int .u8 0), (.int .u8 0), (.int .u16 0)])) (fun t2_0 S =>
  wp (X C (.build [(.int .u8 0), (.int .u8 0), (.int .u8 0), (.int .u8 0), (.int .u8 0), (.int .u8 0), (.int .u8 0), (.int .u8 0), (.int .u8 0), (.int .u8 0), (.int .u8 0), (.int .u8 0), (.int .u16 0)] [])) (fun t7_1 S =>
  wp (X C (.alloc 31 [(.int .u8 0), (.int .u8 0), (.int .u8 0), (.int .u8 0), (.int .u8 0), (.int .u8 0), (.int .u8 0), (.int .u8 0), (.int .u8 0), (.int .u8 0), (.int .u8 0), (.int .u8 0), (.int .u16 0)])) (fun t5_2 S =>
  wp (X C (.store 13 (.const t5_2) (.const t7_1))) (fun _ S =>
  wp (X C (.len .slice (.const t0))) (fun t9_3 S =>
  wp (X C (.bin .gtr (.const t9_3) (.const (.int .i64 1600)))) (fun t10_4 S =>
  ifP (Wb.asBool t10_4) (fun S =>
   wp (X C (.load (.agg 13) (.const t5_2))) (fun t11_5 S =>
   wp (X C (.store 13 (.const t2_0) (.const t11_5))) (fun _ S =>
   wp (cellV t2_0 (.agg 13)) (fun t2_6 S =>
   Φ (.tuple ⟨[t2_6, (.slice none 0 0), (.int .i64 3)]⟩) S) S) S) S) (fun S =>
   wp (X C (.len .slice (.const t0))) (fun t13_7 S =>
   wp (X C (.bin .lss (.const t13_7) (.const (.int .i64 14)))) (fun t14_8 S =>
   ifP (Wb.asBool t14_8) (fun S =>
    wp (X C (.load (.agg 13) (.const t5_2))) (fun t15_9 S =>
    wp (X C (.store 13 (.const t2_0) (.const t15_9))) (fun _ S =>
    wp (cellV t2_0 (.agg 13)) (fun t2_10 S =>
    Φ (.tuple ⟨[t2_10, (.slice none 0 0), (.int .i64 4)]⟩) S) S) S) S) (fun S =>
    ∃ I11 : Nat → Value → Value → Value → Value → Value → Value → Hp → Prop, (∃ m, m < n ∧ I11 m t0 t2_0 (.slice none 0 0) (.int .i64 0) t5_2 (.int .i64 0) S) ∧ ∀ (m11 : Nat) (S : Hp) (t0_12 t2_13 t3_14 t4_15 t5_16 t6_17 : Value), I11 m11 t0_12 t2_13 t3_14 t4_15 t5_16 t6_17 S →
     wp (X C (.bin .lss (.const t6_17) (.const (.int .i64 6)))) (fun t17_18 S =>
     ifP (Wb.asBool t17_18) (fun S =>
      wp (X C (.ixA 1 (.const t0_12) (.const t6_17))) (fun t23_19 S =>
      wp (X C (.load .one (.const t23_19))) (fun t24_20 S =>
      wp (X C (.fldA 0 (.const t5_16))) (fun t25_21 S =>
      wp (X C (.ixAA 6 1 (.const t25_21) (.const t6_17))) (fun t26_22 S =>
      wp (X C (.store 1 (.const t26_22) (.const t24_20))) (fun _ S =>
      wp (X C (.bin .add (.const (.int .i64 6)) (.const t6_17))) (fun t30_23 S =>
      wp (X C (.ixA 1 (.const t0_12) (.const t30_23))) (fun t31_24 S =>
      wp (X C (.load .one (.const t31_24))) (fun t32_25 S =>
      wp (X C (.fldA 6 (.const t5_16))) (fun t33_26 S =>
      wp (X C (.ixAA 6 1 (.const t33_26) (.const t6_17))) (fun t34_27 S =>
      wp (X C (.store 1 (.const t34_27) (.const t32_25))) (fun _ S =>
      wp (X C (.bin .add (.const t6_17) (.const (.int .i64 1)))) (fun t19_28 S =>
      ∃ j11, j11 < m11 ∧ I11 j11 t0_12 t2_13 t3_14 t4_15 t5_16 t19_28 S) S) S) S) S) S) S) S) S) S) S) S) S) (fun S =>
      wp (X C (.ixA 1 (.const t0_12) (.const (.int .i64 12)))) (fun t36_29 S =>
      wp (X C (.load .one (.const t36_29))) (fun t37_30 S =>
      wp (X C (.conv (.int .u16) (.const t37_30))) (fun t38_31 S =>
      wp (X C (.bin .mul (.const t38_31) (.const (.int .u16 256)))) (fun t39_32 S =>
      wp (X C (.ixA 1 (.const t0_12) (.const (.int .i64 13)))) (fun t41_33 S =>
      wp (X C (.load .one (.const t41_33))) (fun t42_34 S =>
      wp (X C (.conv (.int .u16) (.const t42_34))) (fun t43_35 S =>
      wp (X C (.bin .add (.const t39_32) (.const t43_35))) (fun t44_36 S =>
      wp (X C (.fldA 12 (.const t5_16))) (fun t45_37 S =>
      wp (X C (.store 1 (.const t45_37) (.const t44_36))) (fun _ S =>
      okP (apartAll [0, 1, 3, 7, 15, 0, 32, 96, 224, 511, 1023, 2047] []) (fun S =>
      dstepP 0 [] (X C (.load (.agg 13) (.const t5_16))) (fun t46_38 ts S =>
      dstepP 1 ts (X C (.bslice 5 0 [] [])) (fun t47_39 ts S =>
      dstepP 3 ts (X C (.slc 1 (.const t0_12) (some (.const (.int .i64 14))) none none)) (fun t49_40 ts S =>
      dstepP 4 ts (X C (.app 1 1 5 (.const t47_39) (.const t49_40))) (fun t50_41 ts S =>
      wp (X C (.store 13 (.const t2_13) (.const t46_38))) (fun _ S =>
      okP (apartAll [0, 0, 0, 4, 14, 31, 63, 127] ts) (fun S =>
      wp (cellV t2_13 (.agg 13)) (fun t2_42 S =>
      Φ (.tuple ⟨[t2_42, t50_41, (.int .i64 0)]⟩) S) S) S) S) S) S) S) S) S) S) S) S) S) S) S) S) S) S) S) S) S) S) S) S) S) S) S) S) S) S) S
theorem p12 (C : Tgt → List Value → M Value) (n : Nat) (Φ : Value → Hp → Prop) (t0 : Value) (S : Hp) : codeP C A12 n 1 b12 (argsEnv [t0] 0 .leaf) (endP [.cell 2 (.agg 13), .tmp 3, .tmp 4] Φ) S = P12 C n Φ t0 S := by kernel_rfl
theorem g12 : T 12 = some (.go ⟨1, [.cell 2 (.agg 13), .tmp 3, .tmp 4], b12⟩) := by kernel_rfl
attribute [irreducible] b12
theorem c12 {F : Nat → Option AFn} (hF : F 12 = some (.go ⟨1, [.cell 2 (.agg 13), .tmp 3, .tmp 4], b12⟩)) {n : Nat} {Φ : Value → Hp → Prop} {t0 : Value} {S : Hp} (h : P12 (callN F n) n Φ t0 S) : wp (callN F (n + 1) (.fn 12) [t0]) Φ S := callP (A := A12) hF rfl (Eq.mpr (p12 (callN F n) n Φ t0 S) h)


noncomputable def b13 : ACode := bodyOf (T 13)
def A13 : List (Nat × List Nat) := [(14, [45])]
def P13 (C : Tgt → List Value → M Value) (n : Nat) (Φ : Value → Hp → Prop) (t0 t1 : Value) (S : Hp) : Prop :=
  wp (X C (.box 31 (.const t0))) (fun t2_0 S =>
  wp (X C (.len .slice (.const t1))) (fun t8_1 S =>
  wp (X C (.bin .gtr (.const t8_1) (.const (.int .i64 1646)))) (fun t9_2 S =>
  ifP (Wb.asBool t9_2) (fun S =>
   Φ (.tuple ⟨[(.slice none 0 0), (.int .i64 3)]⟩) S) (fun S =>
   dstepP 0 [] (X C (.bslice 5 0 [] [])) (fun t10_3 ts S =>
   wp (X C (.fldA 0 (.const t2_0))) (fun t11_4 S =>
   dstepP 2 ts (X C (.slcA 6 1 (.const t11_4) none none none)) (fun t12_5 ts S =>
   dstepP 3 ts (X C (.app 1 1 5 (.const t10_3) (.const t12_5))) (fun t13_6 ts S =>
   wp (X C (.fldA 6 (.const t2_0))) (fun t14_7 S =>
   dstepP 5 ts (X C (.slcA 6 1 (.const t14_7) none none none)) (fun t15_8 ts S =>
   wp (X C (.app 1 1 5 (.const t13_6) (.const t15_8))) (fun t16_9 S =>
   okP (apartAll [0, 0, 2, 7, 0, 16, 63, 127] ts) (fun S =>
   wp (X C (.fldA 12 (.const t2_0))) (fun t18_10 S =>
   wp (X C (.load .one (.const t18_10))) (fun t19_11 S =>
   wp (X C (.bin .shr (.const t19_11) (.const (.int .u64 8)))) (fun t20_12 S =>
   wp (X C (.conv (.int .u8) (.const t20_12))) (fun t21_13 S =>
   wp (X C (.fldA 12 (.const t2_0))) (fun t22_14 S =>
   wp (X C (.load .one (.const t22_14))) (fun t23_15 S =>
   wp (X C (.conv (.int .u8) (.const t23_15))) (fun t24_16 S =>
   wp (X C (.bslice 5 2 [(.int .u8 0), (.int .u8 0)] [(0, 1, (.const t21_13)), (1, 1, (.const t24_16))])) (fun t25_17 S =>
   wp (X C (.app 1 1 5 (.const t16_9) (.const t25_17))) (fun t26_18 S =>
   wp (X C (.app 1 1 5 (.const t26_18) (.const t1))) (fun t29_19 S =>
   Φ (.tuple ⟨[t29_19, (.int .i64 0)]⟩) S) S) S) S) S) S) S) S) S) S) S) S) S) S) S) S) S) S) S) S) S) S) S
theorem p13 (C : Tgt → List Value → M Value) (n : Nat) (Φ : Value → Hp → Prop) (t0 t1 : Value) (S : Hp) : codeP C A13 n 1 b13 (argsEnv [t0, t1] 0 .leaf) (endP [.tmp 4, .tmp 5] Φ) S = P13 C n Φ t0 t1 S := by kernel_rfl
theorem g13 : T 13 = some (.go ⟨2, [.tmp 4, .tmp 5], b13⟩) := by kernel_rfl
attribute [irreducible] b13
theorem c13 {F : Nat → Option AFn} (hF : F 13 = some (.go ⟨2, [.tmp 4, .tmp 5], b13⟩)) {n : Nat} {Φ : Value → Hp → Prop} {t0 t1 : Value} {S : Hp} (h : P13 (callN F n) n Φ t0 t1 S) : wp (callN F (n + 1) (.fn 13) [t0, t1]) Φ S := callP (A := A13) hF rfl (Eq.mpr (p13 (callN F n) n Φ t0 t1 S) h)


noncomputable def b14 : ACode := bodyOf (T 14)
def A14 : List (Nat × List Nat) := [(1018, [1, 4, 5, 6, 8]), (122, [1, 2, 4, 5, 6, 7])]
def P14 (C : Tgt → List Value → M Value) (n : Nat) (Φ : Value → Hp → Prop) (t0 t1 : Value) (S : Hp) : Prop :=
  wp (X C (.box 31 (.const t0))) (fun t2_0 S =>
  wp (X C (.len .slice (.const t1))) (fun t10_1 S =>
  wp (X C (.bin .add (.const t10_1) (.const (.int .i64 14)))) (fun t11_2 S =>
  wp (X C (.bin .gtr (.const t11_2) (.const (.int .i64 1660)))) (fun t12_3 S =>
  ifP (Wb.asBool t12_3) (fun S =>
   Φ (.tuple ⟨[(.slice none 0 0), (.int .i64 3)]⟩) S) (fun S =>
   wp (X C (.len .slice (.const t1))) (fun t14_4 S =>
   wp (X C (.bin .add (.const (.int .i64 14)) (.const t14_4))) (fun t15_5 S =>
   wp (X C (.mkslice 5 1 1 [(.int .u8 0)] (.const t15_5) (.const t15_5))) (fun t16_6 S =>
   ∃ I7 : Nat → Value → Value → Value → Value → Value → Value → Hp → Prop, (∃ m, m < n ∧ I7 m t1 t2_0 (.slice none 0 0) (.int .i64 0) t16_6 (.int .i64 0) S) ∧ ∀ (m7 : Nat) (S : Hp) (t1_8 t2_9 t4_10 t5_11 t6_12 t7_13 : Value), I7 m7 t1_8 t2_9 t4_10 t5_11 t6_12 t7_13 S →
    wp (X C (.bin .lss (.const t7_13) (.const (.int .i64 6)))) (fun t18_14 S =>
    ifP (Wb.asBool t18_14) (fun S =>
     wp (X C (.fldA 0 (.const t2_9))) (fun t24_15 S =>
     wp (X C (.ixAA 6 1 (.const t24_15) (.const t7_13))) (fun t25_16 S =>
     wp (X C (.load .one (.const t25_16))) (fun t26_17 S =>
     wp (X C (.ixA 1 (.const t6_12) (.const t7_13))) (fun t27_18 S =>
     wp (X C (.store 1 (.const t27_18) (.const t26_17))) (fun _ S =>
     wp (X C (.bin .add (.const (.int .i64 6)) (.const t7_13))) (fun t30_19 S =>
     wp (X C (.fldA 6 (.const t2_9))) (fun t32_20 S =>
     wp (X C (.ixAA 6 1 (.const t32_20) (.const t7_13))) (fun t33_21 S =>
     wp (X C (.load .one (.const t33_21))) (fun t34_22 S =>
     wp (X C (.ixA 1 (.const t6_12) (.const t30_19))) (fun t35_23 S =>
     wp (X C (.store 1 (.const t35_23) (.const t34_22))) (fun _ S =>
     wp (X C (.bin .add (.const t7_13) (.const (.int .i64 1)))) (fun t20_24 S =>
     ∃ j7, j7 < m7 ∧ I7 j7 t1_8 t2_9 t4_10 t5_11 t6_12 t20_24 S) S) S) S) S) S) S) S) S) S) S) S) S) (fun S =>
     wp (X C (.fldA 12 (.const t2_9))) (fun t37_25 S =>
     wp (X C (.load .one (.const t37_25))) (fun t38_26 S =>
     wp (X C (.bin .quo (.const t38_26) (.const (.int .u16 256)))) (fun t39_27 S =>
     wp (X C (.conv (.int .u8) (.const t39_27))) (fun t40_28 S =>
     wp (X C (.ixA 1 (.const t6_12) (.const (.int .i64 12)))) (fun t41_29 S =>
     wp (X C (.store 1 (.const t41_29) (.const t40_28))) (fun _ S =>
     wp (X C (.fldA 12 (.const t2_9))) (fun t43_30 S =>
     wp (X C (.load .one (.const t43_30))) (fun t44_31 S =>
     wp (X C (.bin .rem (.const t44_31) (.const (.int .u16 256)))) (fun t45_32 S =>
     wp (X C (.conv (.int .u8) (.const t45_32))) (fun t46_33 S =>
     wp (X C (.ixA 1 (.const t6_12) (.const (.int .i64 13)))) (fun t47_34 S =>
     wp (X C (.store 1 (.const t47_34) (.const t46_33))) (fun _ S =>
     ∃ I35 : Nat → Value → Value → Value → Value → Value → Hp → Prop, (∃ m, m < n ∧ I35 m t1_8 t4_10 t5_11 t6_12 (.int .i64 0) S) ∧ ∀ (m35 : Nat) (S : Hp) (t1_36 t4_37 t5_38 t6_39 t8_40 : Value), I35 m35 t1_36 t4_37 t5_38 t6_39 t8_40 S →
      wp (X C (.len .slice (.const t1_36))) (fun t50_41 S =>
      wp (X C (.bin .lss (.const t8_40) (.const t50_41))) (fun t51_42 S =>
      ifP (Wb.asBool t51_42) (fun S =>
       wp (X C (.bin .add (.const (.int .i64 14)) (.const t8_40))) (fun t56_43 S =>
       wp (X C (.ixA 1 (.const t1_36) (.const t8_40))) (fun t59_44 S =>
       wp (X C (.load .one (.const t59_44))) (fun t60_45 S =>
       wp (X C (.ixA 1 (.const t6_39) (.const t56_43))) (fun t61_46 S =>
       wp (X C (.store 1 (.const t61_46) (.const t60_45))) (fun _ S =>
       wp (X C (.bin .add (.const t8_40) (.const (.int .i64 1)))) (fun t53_47 S =>
       ∃ j35, j35 < m35 ∧ I35 j35 t1_36 t4_37 t5_38 t6_39 t53_47 S) S) S) S) S) S) S) (fun S =>
       Φ (.tuple ⟨[t6_39, (.int .i64 0)]⟩) S) S) S) S) S) S) S) S) S) S) S) S) S) S) S) S) S) S) S) S) S) S) S) S) S) S
theorem p14 (C : Tgt → List Value → M Value) (n : Nat) (Φ : Value → Hp → Prop) (t0 t1 : Value) (S : Hp) : codeP C A14 n 1 b14 (argsEnv [t0, t1] 0 .leaf) (endP [.tmp 4, .tmp 5] Φ) S = P14 C n Φ t0 t1 S := by kernel_rfl
theorem g14 : T 14 = some (.go ⟨2, [.tmp 4, .tmp 5], b14⟩) := by kernel_rfl
attribute [irreducible] b14
theorem c14 {F : Nat → Option AFn} (hF : F 14 = some (.go ⟨2, [.tmp 4, .tmp 5], b14⟩)) {n : Nat} {Φ : Value → Hp → Prop} {t0 t1 : Value} {S : Hp} (h : P14 (callN F n) n Φ t0 t1 S) : wp (callN F (n + 1) (.fn 14) [t0, t1]) Φ S := callP (A := A14) hF rfl (Eq.mpr (p14 (callN F n) n Φ t0 t1 S) h)


noncomputable def b15 : ACode := bodyOf (T 15)
def A15 : List (Nat × List Nat) := [(58, [0, 2, 3, 6, 7])]
def P15 (C : Tgt → List Value → M Value) (n : Nat) (Φ : Value → Hp → Prop) (t0 : Value) (S : Hp) : Prop :=
  wp (X C (.build [(.int .u16 0), (.int .u16 0)] [(0, 1, (.const (.int .u16 2048))), (1, 1, (.const (.int .u16 34525)))])) (fun t6_0 S =>
  ∃ I1 : Nat → Value → Value → Value → Value → Value → Hp → Prop, (∃ m, m < n ∧ I1 m t0 (.bool false) (.bool false) t6_0 (.int .i64 0) S) ∧ ∀ (m1 : Nat) (S : Hp) (t0_2 t2_3 t3_4 t6_5 t7_6 : Value), I1 m1 t0_2 t2_3 t3_4 t6_5 t7_6 S →
   wp (X C (.bin .lss (.const t7_6) (.const (.int .i64 2)))) (fun t8_7 S =>
   ifP (Wb.asBool t8_7) (fun S =>
    wp (X C (.ix 2 1 .one (.const t6_5) (.const t7_6))) (fun t9_8 S =>
    andP false t3_4 (fun K S =>
     wp (X C (.bin .eql (.const t9_8) (.const t0_2))) (fun t14_9 S =>
     K t14_9 S) S) (fun t15_10 S =>
    wp (X C (.bin .add (.const t7_6) (.const (.int .i64 1)))) (fun t16_11 S =>
    ∃ j1, j1 < m1 ∧ I1 j1 t0_2 t2_3 t15_10 t6_5 t16_11 S) S) S) S) (fun S =>
    Φ t3_4 S) S) S) S
theorem p15 (C : Tgt → List Value → M Value) (n : Nat) (Φ : Value → Hp → Prop) (t0 : Value) (S : Hp) : codeP C A15 n 1 b15 (argsEnv [t0] 0 .leaf) (endP [.tmp 2] Φ) S = P15 C n Φ t0 S := by kernel_rfl
theorem g15 : T 15 = some (.go ⟨1, [.tmp 2], b15⟩) := by kernel_rfl
attribute [irreducible] b15
theorem c15 {F : Nat → Option AFn} (hF : F 15 = some (.go ⟨1, [.tmp 2], b15⟩)) {n : Nat} {Φ : Value → Hp → Prop} {t0 : Value} {S : Hp} (h : P15 (callN F n) n Φ t0 S) : wp (callN F (n + 1) (.fn 15) [t0]) Φ S := callP (A := A15) hF rfl (Eq.mpr (p15 (callN F n) n Φ t0 S) h)


noncomputable def b16 : ACode := bodyOf (T 16)
def A16 : List (Nat × List Nat) := []
def P16 (C : Tgt → List Value → M Value) (n : Nat) (Φ : Value → Hp → Prop) (t0 : Value) (S : Hp) : Prop :=
  wp (X C (.bin .eql (.const t0) (.const (.int .u16 2048)))) (fun t4_0 S =>
  andP false t4_0 (fun K S =>
   wp (X C (.bin .eql (.const t0) (.const (.int .u16 34525)))) (fun t7_1 S =>
   K t7_1 S) S) (fun t8_2 S =>
  Φ t8_2 S) S) S
theorem p16 (C : Tgt → List Value → M Value) (n : Nat) (Φ : Value → Hp → Prop) (t0 : Value) (S : Hp) : codeP C A16 n 1 b16 (argsEnv [t0] 0 .leaf) (endP [.tmp 2] Φ) S = P16 C n Φ t0 S := by kernel_rfl
theorem g16 : T 16 = some (.go ⟨1, [.tmp 2], b16⟩) := by kernel_rfl
attribute [irreducible] b16
theorem c16 {F : Nat → Option AFn} (hF : F 16 = some (.go ⟨1, [.tmp 2], b16⟩)) {n : Nat} {Φ : Value → Hp → Prop} {t0 : Value} {S : Hp} (h : P16 (callN F n) n Φ t0 S) : wp (callN F (n + 1) (.fn 16) [t0]) Φ S := callP (A := A16) hF rfl (Eq.mpr (p16 (callN F n) n Φ t0 S) h)


noncomputable def b22 : ACode := bodyOf (T 22)
def A22 : List (Nat × List Nat) := []
def P22 (C : Tgt → List Value → M Value) (n : Nat) (Φ : Value → Hp → Prop) (t0 : Value) (S : Hp) : Prop :=
  wp (X C (.eq false (.nil .slice) (.const t0) (.const (.slice none 0 0)))) (fun t4_0 S =>
  ifP (Wb.asBool t4_0) (fun S =>
   Φ (.slice none 0 0) S) (fun S =>
   wp (X C (.bslice 5 0 [] [])) (fun t5_1 S =>
   wp (X C (.app 1 1 5 (.const t5_1) (.const t0))) (fun t7_2 S =>
   Φ t7_2 S) S) S) S) S
theorem p22 (C : Tgt → List Value → M Value) (n : Nat) (Φ : Value → Hp → Prop) (t0 : Value) (S : Hp) : codeP C A22 n 1 b22 (argsEnv [t0] 0 .leaf) (endP [.tmp 2] Φ) S = P22 C n Φ t0 S := by kernel_rfl
theorem g22 : T 22 = some (.go ⟨1, [.tmp 2], b22⟩) := by kernel_rfl
attribute [irreducible] b22
theorem c22 {F : Nat → Option AFn} (hF : F 22 = some (.go ⟨1, [.tmp 2], b22⟩)) {n : Nat} {Φ : Value → Hp → Prop} {t0 : Value} {S : Hp} (h : P22 (callN F n) n Φ t0 S) : wp (callN F (n + 1) (.fn 22) [t0]) Φ S := callP (A := A22) hF rfl (Eq.mpr (p22 (callN F n) n Φ t0 S) h)



end Go.Proofs.YtmepokefmpcnnaaDoor.Et
