/- Layer 2: the law on frames, cut. -/
import Derived.Test.YtmepokefmpcnnaaDoorEtSpec5
set_option maxRecDepth 100000
set_option linter.unusedVariables false
namespace Go.Proofs.YtmepokefmpcnnaaDoor.Et
open Go.Wb
def H4_3 (C : Tgt → List Value → M Value) (n : Nat) (Φ : Value → Hp → Prop) (t29_8 t1 t24_5 t56_27 : Value) (S : Hp) : Prop :=
wp (X C (.len .slice (.const t29_8))) (fun t84_48 S =>
     ∃ I49 : Nat → Value → Value → Value → Value → Value → Value → Value → Hp → Prop, (∃ m, m < n ∧ I49 m t1 (.bool false) t24_5 t29_8 t56_27 t84_48 (.int .i64 0) S) ∧ ∀ (m49 : Nat) (S : Hp) (t1_50 t4_51 t5_52 t7_53 t12_54 t84_55 t85_56 : Value), I49 m49 t1_50 t4_51 t5_52 t7_53 t12_54 t84_55 t85_56 S →
      wp (X C (.bin .lss (.const t85_56) (.const t84_55))) (fun t86_57 S =>
      ifP (Wb.asBool t86_57) (fun S =>
       wp (X C (.ixA 1 (.const t7_53) (.const t85_56))) (fun t90_58 S =>
       wp (X C (.load .one (.const t90_58))) (fun t91_59 S =>
       wp (X C (.bin .add (.const t91_59) (.const (.int .u8 1)))) (fun t92_60 S =>
       wp (X C (.ixA 1 (.const t7_53) (.const t85_56))) (fun t93_61 S =>
       wp (X C (.store 1 (.const t93_61) (.const t92_60))) (fun _ S =>
       wp (X C (.bin .add (.const t85_56) (.const (.int .i64 1)))) (fun t94_62 S =>
       ∃ j49, j49 < m49 ∧ I49 j49 t1_50 t4_51 t5_52 t7_53 t12_54 t84_55 t94_62 S) S) S) S) S) S) S) (fun S =>
       wp (X C (.len .slice (.const t12_54))) (fun t96_63 S =>
       ∃ I64 : Nat → Value → Value → Value → Value → Value → Value → Hp → Prop, (∃ m, m < n ∧ I64 m t1_50 t4_51 t5_52 t12_54 t96_63 (.int .i64 0) S) ∧ ∀ (m64 : Nat) (S : Hp) (t1_65 t4_66 t5_67 t12_68 t96_69 t97_70 : Value), I64 m64 t1_65 t4_66 t5_67 t12_68 t96_69 t97_70 S →
        wp (X C (.bin .lss (.const t97_70) (.const t96_69))) (fun t98_71 S =>
        ifP (Wb.asBool t98_71) (fun S =>
         wp (X C (.ixA 1 (.const t12_68) (.const t97_70))) (fun t102_72 S =>
         wp (X C (.load .one (.const t102_72))) (fun t103_73 S =>
         wp (X C (.bin .add (.const t103_73) (.const (.int .u8 1)))) (fun t104_74 S =>
         wp (X C (.ixA 1 (.const t12_68) (.const t97_70))) (fun t105_75 S =>
         wp (X C (.store 1 (.const t105_75) (.const t104_74))) (fun _ S =>
         wp (X C (.bin .add (.const t97_70) (.const (.int .i64 1)))) (fun t106_76 S =>
         ∃ j64, j64 < m64 ∧ I64 j64 t1_65 t4_66 t5_67 t12_68 t96_69 t106_76 S) S) S) S) S) S) S) (fun S =>
         wp (X C (.conv .b2str (.const t5_67))) (fun t108_77 S =>
         wp (X C (.conv .b2str (.const t1_65))) (fun t110_78 S =>
         wp (X C (.bin .eql (.const t108_77) (.const t110_78))) (fun t111_79 S =>
         andP true t111_79 (fun K S =>
          wp (X C (.call (.const (.func (.func 6) ⟨[]⟩ ⟨[]⟩)) [])) (fun t113_80 S =>
          K t113_80 S) S) (fun t114_81 S =>
         Φ t114_81 S) S) S) S) S) S) S) S) S) S) S
def H4_2 (C : Tgt → List Value → M Value) (n : Nat) (Φ : Value → Hp → Prop) (K : Value → Value → Value → Value → Hp → Prop) (t56_27 t62_31 t57_28 t63_32 t2_0 t29_8 t1 t24_5 : Value) (S : Hp) : Prop :=
wp (X C (.conv .b2str (.const t56_27))) (fun t65_33 S =>
    wp (X C (.conv .b2str (.const t62_31))) (fun t67_34 S =>
    wp (X C (.bin .neq (.const t65_33) (.const t67_34))) (fun t68_35 S =>
    wp (G (wanted false t68_35) (X C (.mov (.const t57_28)))) (fun t70_36 S =>
    wp (G (wanted false t68_35) (X C (.mov (.const t63_32)))) (fun t71_37 S =>
    wp (G (wanted false t68_35) (X C (.bin .neq (.const t70_36) (.const t71_37)))) (fun t72_38 S =>
    wp (X C (.pick (.const t68_35) (.const (.bool true)) (.const t72_38))) (fun t73_39 S =>
    wp (G (wanted false t73_39) (X C (.fldA 12 (.const t2_0)))) (fun t75_40 S =>
    wp (G (wanted false t73_39) (X C (.load .one (.const t75_40)))) (fun t76_41 S =>
    dstepP 13 [] (G (wanted false t73_39) (X C (.call (.const (.func (.func 15) ⟨[]⟩ ⟨[]⟩)) [(.const t76_41)]))) (fun t77_42 ts S =>
    wp (G (wanted false t73_39) (X C (.fldA 12 (.const t2_0)))) (fun t78_43 S =>
    dstepP 15 ts (G (wanted false t73_39) (X C (.load .one (.const t78_43)))) (fun t79_44 ts S =>
    wp (G (wanted false t73_39) (X C (.call (.const (.func (.func 16) ⟨[]⟩ ⟨[]⟩)) [(.const t79_44)]))) (fun t80_45 S =>
    wp (G (wanted false t73_39) (X C (.eq true .bool (.const t77_42) (.const t80_45)))) (fun t81_46 S =>
    wp (X C (.pick (.const t73_39) (.const (.bool true)) (.const t81_46))) (fun t82_47 S =>
    okP (apartAll [0, 1, 0, 4, 15, 31, 63, 63, 255, 511, 1023, 2047, 4095, 8191, 2047, 18431, 65535, 131071, 262143] ts) (fun S =>
    ifP (Wb.asBool t82_47) (fun S =>
     Φ (.bool false) S) (fun S =>
     K t29_8 t1 t24_5 t56_27 S) S) S) S) S) S) S) S) S) S) S) S) S) S) S) S) S) S
def H4_1 (C : Tgt → List Value → M Value) (n : Nat) (Φ : Value → Hp → Prop) (K : Value → Value → Value → Value → Value → Value → Value → Value → Hp → Prop) (t6_10 t9_15 t30_9 t36_14 t29_8 t35_13 t2_0 t24_5 t1 : Value) (S : Hp) : Prop :=
wp (X C (.load (.agg 13) (.const t6_10))) (fun t37_16 S =>
   wp (X C (.load (.agg 13) (.const t9_15))) (fun t38_17 S =>
   wp (X C (.eq true (.cells 13 [(0, 1), (1, 1), (2, 1), (3, 1), (4, 1), (5, 1), (6, 1), (7, 1), (8, 1), (9, 1), (10, 1), (11, 1), (12, 1)]) (.const t37_16) (.const t38_17))) (fun t39_18 S =>
   andP false t39_18 (fun K S =>
    wp (X C (.bin .neq (.const t30_9) (.const t36_14))) (fun t43_19 S =>
    K t43_19 S) S) (fun t44_20 S =>
   andP false t44_20 (fun K S =>
    wp (X C (.conv .b2str (.const t29_8))) (fun t47_21 S =>
    wp (X C (.conv .b2str (.const t35_13))) (fun t49_22 S =>
    wp (X C (.bin .neq (.const t47_21) (.const t49_22))) (fun t50_23 S =>
    K t50_23 S) S) S) S) (fun t51_24 S =>
   ifP (Wb.asBool t51_24) (fun S =>
    Φ (.bool false) S) (fun S =>
    wp (X C (.load (.agg 13) (.const t2_0))) (fun t53_25 S =>
    wp (X C (.call (.const (.func (.func 13) ⟨[]⟩ ⟨[]⟩)) [(.const t53_25), (.const t24_5)])) (fun t55_26 S =>
    wp (X C (.ext (.const t55_26) 0)) (fun t56_27 S =>
    wp (X C (.ext (.const t55_26) 1)) (fun t57_28 S =>
    wp (X C (.load (.agg 13) (.const t2_0))) (fun t59_29 S =>
    wp (X C (.call (.const (.func (.func 14) ⟨[]⟩ ⟨[]⟩)) [(.const t59_29), (.const t1)])) (fun t61_30 S =>
    wp (X C (.ext (.const t61_30) 0)) (fun t62_31 S =>
    wp (X C (.ext (.const t61_30) 1)) (fun t63_32 S =>
    K t56_27 t62_31 t57_28 t63_32 t2_0 t29_8 t1 t24_5 S) S) S) S) S) S) S) S) S) S) S) S) S) S) S
def H4_0 (C : Tgt → List Value → M Value) (n : Nat) (Φ : Value → Hp → Prop) (K : Value → Value → Value → Value → Value → Value → Value → Value → Value → Hp → Prop) (t0 t1 : Value) (S : Hp) : Prop :=
  wp (X C (.box 31 (.const t0))) (fun t2_0 S =>
  wp (X C (.len .slice (.const t1))) (fun t19_1 S =>
  wp (X C (.bin .gtr (.const t19_1) (.const (.int .i64 4000)))) (fun t20_2 S =>
  ifP (Wb.asBool t20_2) (fun S =>
   wp (X C (.call (.const (.func (.func 6) ⟨[]⟩ ⟨[]⟩)) [])) (fun t21_3 S =>
   Φ t21_3 S) S) (fun S =>
   wp (X C (.bslice 5 0 [] [])) (fun t22_4 S =>
   wp (X C (.app 1 1 5 (.const t22_4) (.const t1))) (fun t24_5 S =>
   wp (X C (.call (.const (.func (.func 11) ⟨[]⟩ ⟨[]⟩)) [(.const t24_5)])) (fun t27_6 S =>
   wp (X C (.ext (.const t27_6) 0)) (fun t28_7 S =>
   wp (X C (.ext (.const t27_6) 1)) (fun t29_8 S =>
   wp (X C (.ext (.const t27_6) 2)) (fun t30_9 S =>
   wp (X C (.alloc 31 [(.int .u8 0), (.int .u8 0), (.int .u8 0), (.int .u8 0), (.int .u8 0), (.int .u8 0), (.int .u8 0), (.int .u8 0), (.int .u8 0), (.int .u8 0), (.int .u8 0), (.int .u8 0), (.int .u16 0)])) (fun t6_10 S =>
   wp (X C (.store 13 (.const t6_10) (.const t28_7))) (fun _ S =>
   wp (X C (.call (.const (.func (.func 12) ⟨[]⟩ ⟨[]⟩)) [(.const t1)])) (fun t33_11 S =>
   wp (X C (.ext (.const t33_11) 0)) (fun t34_12 S =>
   wp (X C (.ext (.const t33_11) 1)) (fun t35_13 S =>
   wp (X C (.ext (.const t33_11) 2)) (fun t36_14 S =>
   wp (X C (.alloc 31 [(.int .u8 0), (.int .u8 0), (.int .u8 0), (.int .u8 0), (.int .u8 0), (.int .u8 0), (.int .u8 0), (.int .u8 0), (.int .u8 0), (.int .u8 0), (.int .u8 0), (.int .u8 0), (.int .u16 0)])) (fun t9_15 S =>
   wp (X C (.store 13 (.const t9_15) (.const t34_12))) (fun _ S =>
   K t6_10 t9_15 t30_9 t36_14 t29_8 t35_13 t2_0 t24_5 t1 S) S) S) S) S) S) S) S) S) S) S) S) S) S) S) S) S) S) S
theorem h4 (C : Tgt → List Value → M Value) (n : Nat) (Φ : Value → Hp → Prop) (t0 t1 : Value) (S : Hp) : P4 C n Φ t0 t1 S = H4_0 C n Φ (H4_1 C n Φ (H4_2 C n Φ (H4_3 C n Φ))) t0 t1 S := by kernel_rfl
end Go.Proofs.YtmepokefmpcnnaaDoor.Et
