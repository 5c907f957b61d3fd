/- Layer 27's functions, as texts. -/
import Derived.Test.YtmepokefmpcnnaaEngT
import Derived.Test.YtmepokefmpcnnaaEngU
import Derived.KernelRfl
import Derived.Test.YtmepokefmpcnnaaProg
set_option maxRecDepth 100000
set_option linter.unusedVariables false
namespace Go.Proofs.Ytmepokefmpcnnaa.Qu
open Go.Wb
noncomputable def T0 : Nat → Option AFn := tabOf Try.prog
/-- known() by its answer -/
noncomputable def T : Nat → Option AFn := withSum T0 25 (plG T0 25)
theorem T_ok (hm : Try.prog.follows .mixedOrders = true) : TabOk Try.prog T := withSum_ok (tabOk Try.prog) (plG_ok hm (tabOk Try.prog) 25)
theorem known : plG T0 25 [] = some (.bool true) := plG_known (by kernel_rfl)
theorem kn (n : Nat) (Φ : Value → Hp → Prop) (S : Hp) : wp (callN T (n + 1) (.fn 25) []) Φ S = Φ (.bool true) S := by
  rw [P_sum (F := T) (f := 25) (g := plG T0 25) ws_eq, known]; rfl
noncomputable def b5 : ACode := bodyOf (T 5)
def A5 : List (Nat × List Nat) := [(506, [0, 4, 5, 7, 8, 38, 39, 40])]
def P5 (C : Tgt → List Value → M Value) (n : Nat) (Φ : Value → Hp → Prop) (t0 t1 : Value) (S : Hp) : Prop :=
  wp (X C (.bin .lss (.const t0) (.const (.int .u8 1)))) (fun t15_0 S =>
  andP false t15_0 (fun K S =>
   wp (X C (.bin .gtr (.const t0) (.const (.int .u8 20)))) (fun t18_1 S =>
   K t18_1 S) S) (fun t19_2 S =>
  andP false t19_2 (fun K S =>
   wp (X C (.len .slice (.const t1))) (fun t22_3 S =>
   wp (X C (.bin .gtr (.const t22_3) (.const (.int .i64 100)))) (fun t23_4 S =>
   K t23_4 S) S) S) (fun t24_5 S =>
  ifP (Wb.asBool t24_5) (fun S =>
   wp (X C (.call (.const (.func (.func 25) ⟨[]⟩ ⟨[]⟩)) [])) (fun t25_6 S =>
   Φ t25_6 S) S) (fun S =>
   wp (X C (.conv (.int .i64) (.const t0))) (fun t28_7 S =>
   wp (X C (.call (.const (.func (.func 26) ⟨[]⟩ ⟨[]⟩)) [(.const t28_7)])) (fun t29_8 S =>
   wp (X C (.ext (.const t29_8) 0)) (fun t30_9 S =>
   wp (X C (.ext (.const t29_8) 1)) (fun t31_10 S =>
   wp (X C (.eq false (.nil .ptr) (.const t30_9) (.const (.pointer none)))) (fun t33_11 S =>
   andP false t33_11 (fun K S =>
    wp (X C (.bin .neq (.const t31_10) (.const (.int .i64 0)))) (fun t36_12 S =>
    K t36_12 S) S) (fun t37_13 S =>
   ifP (Wb.asBool t37_13) (fun S =>
    Φ (.bool false) S) (fun S =>
    wp (X C (.len .slice (.const t1))) (fun t39_14 S =>
    ∃ I15 : Nat → Value → Value → Value → Value → Value → Value → Value → Value → Hp → Prop, (∃ m, m < n ∧ I15 m t0 (.bool false) t30_9 (.int .u64 0) (.int .u64 0) t1 t39_14 (.int .i64 0) S) ∧ ∀ (m15 : Nat) (S : Hp) (t0_16 t4_17 t5_18 t7_19 t8_20 t38_21 t39_22 t40_23 : Value), I15 m15 t0_16 t4_17 t5_18 t7_19 t8_20 t38_21 t39_22 t40_23 S →
     wp (X C (.bin .lss (.const t40_23) (.const t39_22))) (fun t41_24 S =>
     ifP (Wb.asBool t41_24) (fun S =>
      wp (X C (.ixA 1 (.const t38_21) (.const t40_23))) (fun t42_25 S =>
      wp (X C (.load .one (.const t42_25))) (fun t43_26 S =>
      ifP (Wb.asBool t43_26) (fun S =>
       wp (X C (.build [(.slice none 0 0), (.int .u64 0), (.int .u64 0)] [(2, 1, (.const t7_19))])) (fun t47_27 S =>
       wp (X C (.call (.const (.func (.func 27) ⟨[]⟩ ⟨[]⟩)) [(.const t5_18), (.const t47_27)])) (fun t48_28 S =>
       wp (X C (.bin .eql (.const t48_28) (.const (.int .i64 0)))) (fun t50_29 S =>
       wp (X C (.bin .sub (.const t7_19) (.const t8_20))) (fun t53_30 S =>
       wp (X C (.conv (.int .u64) (.const t0_16))) (fun t55_31 S =>
       wp (X C (.bin .lss (.const t53_30) (.const t55_31))) (fun t56_32 S =>
       wp (X C (.eq true .bool (.const t50_29) (.const t56_32))) (fun t57_33 S =>
       ifP (Wb.asBool t57_33) (fun S =>
        Φ (.bool false) S) (fun S =>
        wp (X C (.bin .eql (.const t48_28) (.const (.int .i64 0)))) (fun t59_34 S =>
        jn (fun (t7_36 : Value) (S : Hp) =>
         wp (X C (.bin .add (.const t40_23) (.const (.int .i64 1)))) (fun t84_37 S =>
         ∃ j15, j15 < m15 ∧ I15 j15 t0_16 t4_17 t5_18 t7_36 t8_20 t38_21 t39_22 t84_37 S) S) (fun J35 =>
        ifP (Wb.asBool t59_34) (fun S =>
         wp (X C (.bin .add (.const t7_19) (.const (.int .u64 1)))) (fun t61_38 S =>
         J35 t61_38 S) S) (fun S =>
         J35 t7_19 S) S)) S) S) S) S) S) S) S) S) S) (fun S =>
       wp (X C (.call (.const (.func (.func 28) ⟨[]⟩ ⟨[]⟩)) [(.const t5_18)])) (fun t64_39 S =>
       wp (X C (.ext (.const t64_39) 0)) (fun t65_40 S =>
       wp (X C (.ext (.const t64_39) 1)) (fun t66_41 S =>
       wp (X C (.alloc 44 [(.slice none 0 0), (.int .u64 0), (.int .u64 0)])) (fun t12_42 S =>
       wp (X C (.store 3 (.const t12_42) (.const t65_40))) (fun _ S =>
       wp (X C (.bin .lss (.const t8_20) (.const t7_19))) (fun t70_43 S =>
       wp (X C (.eq true .bool (.const t66_41) (.const t70_43))) (fun t71_44 S =>
       andP false t71_44 (fun K S =>
        andP true t66_41 (fun K S =>
         wp (X C (.fldA 2 (.const t12_42))) (fun t75_45 S =>
         wp (X C (.load .one (.const t75_45))) (fun t76_46 S =>
         wp (X C (.bin .neq (.const t76_46) (.const t8_20))) (fun t78_47 S =>
         K t78_47 S) S) S) S) (fun t79_48 S =>
        K t79_48 S) S) (fun t80_49 S =>
       ifP (Wb.asBool t80_49) (fun S =>
        Φ (.bool false) S) (fun S =>
        ifP (Wb.asBool t66_41) (fun S =>
         wp (X C (.bin .add (.const t8_20) (.const (.int .u64 1)))) (fun t83_50 S =>
         wp (X C (.bin .add (.const t40_23) (.const (.int .i64 1)))) (fun t84_51 S =>
         ∃ j15, j15 < m15 ∧ I15 j15 t0_16 t4_17 t5_18 t7_19 t83_50 t38_21 t39_22 t84_51 S) S) S) (fun S =>
         wp (X C (.bin .add (.const t40_23) (.const (.int .i64 1)))) (fun t84_52 S =>
         ∃ j15, j15 < m15 ∧ I15 j15 t0_16 t4_17 t5_18 t7_19 t8_20 t38_21 t39_22 t84_52 S) S) S) S) S) S) S) S) S) S) S) S) S) S) S) (fun S =>
      wp (X C (.call (.const (.func (.func 29) ⟨[]⟩ ⟨[]⟩)) [(.const t5_18)])) (fun t86_53 S =>
      wp (X C (.conv (.int .u64) (.const t86_53))) (fun t87_54 S =>
      wp (X C (.bin .sub (.const t7_19) (.const t8_20))) (fun t90_55 S =>
      wp (X C (.bin .eql (.const t87_54) (.const t90_55))) (fun t91_56 S =>
      andP true t91_56 (fun K S =>
       wp (X C (.call (.const (.func (.func 25) ⟨[]⟩ ⟨[]⟩)) [])) (fun t93_57 S =>
       K t93_57 S) S) (fun t94_58 S =>
      Φ t94_58 S) S) S) S) S) S) S) S) S) S) S) S) S) S) S) S) S) S) S) S
theorem p5 (C : Tgt → List Value → M Value) (n : Nat) (Φ : Value → Hp → Prop) (t0 t1 : Value) (S : Hp) : codeP C A5 n 1 b5 (argsEnv [t0, t1] 0 .leaf) (endP [.tmp 4] Φ) S = P5 C n Φ t0 t1 S := by kernel_rfl
theorem g5 : T 5 = some (.go ⟨2, [.tmp 4], b5⟩) := by kernel_rfl
attribute [irreducible] b5
theorem c5 {F : Nat → Option AFn} (hF : F 5 = some (.go ⟨2, [.tmp 4], b5⟩)) {n : Nat} {Φ : Value → Hp → Prop} {t0 t1 : Value} {S : Hp} (h : P5 (callN F n) n Φ t0 t1 S) : wp (callN F (n + 1) (.fn 5) [t0, t1]) Φ S := callP (A := A5) hF rfl (Eq.mpr (p5 (callN F n) n Φ t0 t1 S) h)
noncomputable def b6 : ACode := bodyOf (T 6)
def A6 : List (Nat × List Nat) := [(33371114, [36]), (16685562, [4, 5, 7, 10, 11, 61, 62, 63, 168, 169]), (1018, [4, 5, 7, 61, 62, 63])]
def P6 (C : Tgt → List Value → M Value) (n : Nat) (Φ : Value → Hp → Prop) (t0 t1 : Value) (S : Hp) : Prop :=
  wp (X C (.len .slice (.const t1))) (fun t24_0 S =>
  wp (X C (.bin .gtr (.const t24_0) (.const (.int .i64 80)))) (fun t25_1 S =>
  andP false t25_1 (fun K S =>
   wp (X C (.bin .gtr (.const t0) (.const (.int .i64 40)))) (fun t28_2 S =>
   andP true t28_2 (fun K S =>
    wp (X C (.bin .leq (.const t0) (.const (.int .i64 256)))) (fun t31_3 S =>
    K t31_3 S) S) (fun t32_4 S =>
   K t32_4 S) S) S) (fun t33_5 S =>
  ifP (Wb.asBool t33_5) (fun S =>
   wp (X C (.call (.const (.func (.func 25) ⟨[]⟩ ⟨[]⟩)) [])) (fun t34_6 S =>
   Φ t34_6 S) S) (fun S =>
   wp (X C (.call (.const (.func (.func 26) ⟨[]⟩ ⟨[]⟩)) [(.const t0)])) (fun t37_7 S =>
   wp (X C (.ext (.const t37_7) 0)) (fun t38_8 S =>
   wp (X C (.ext (.const t37_7) 1)) (fun t39_9 S =>
   wp (X C (.call (.const (.func (.func 30) ⟨[]⟩ ⟨[]⟩)) [(.const t0)])) (fun t41_10 S =>
   wp (X C (.un .not (.const t41_10))) (fun t42_11 S =>
   ifP (Wb.asBool t42_11) (fun S =>
    wp (X C (.eq false (.nil .ptr) (.const t38_8) (.const (.pointer none)))) (fun t44_12 S =>
    andP true t44_12 (fun K S =>
     wp (X C (.bin .eql (.const t39_9) (.const (.int .i64 2)))) (fun t47_13 S =>
     K t47_13 S) S) (fun t48_14 S =>
    andP true t48_14 (fun K S =>
     wp (X C (.call (.const (.func (.func 25) ⟨[]⟩ ⟨[]⟩)) [])) (fun t50_15 S =>
     K t50_15 S) S) (fun t51_16 S =>
    Φ t51_16 S) S) S) S) (fun S =>
    wp (X C (.eq false (.nil .ptr) (.const t38_8) (.const (.pointer none)))) (fun t53_17 S =>
    andP false t53_17 (fun K S =>
     wp (X C (.bin .neq (.const t39_9) (.const (.int .i64 0)))) (fun t56_18 S =>
     K t56_18 S) S) (fun t57_19 S =>
    ifP (Wb.asBool t57_19) (fun S =>
     Φ (.bool false) S) (fun S =>
     wp (X C (.build [(.slice none 0 0), (.int .i64 0)] [(1, 1, (.const t0))])) (fun t59_20 S =>
     wp (X C (.box 54 (.const t59_20))) (fun t60_21 S =>
     wp (X C (.len .slice (.const t1))) (fun t62_22 S =>
     ∃ I23 : Nat → Value → Value → Value → Value → Value → Value → Hp → Prop, (∃ m, m < n ∧ I23 m (.bool false) t38_8 t60_21 t1 t62_22 (.int .i64 0) S) ∧ ∀ (m23 : Nat) (S : Hp) (t4_24 t5_25 t7_26 t61_27 t62_28 t63_29 : Value), I23 m23 t4_24 t5_25 t7_26 t61_27 t62_28 t63_29 S →
      wp (X C (.bin .lss (.const t63_29) (.const t62_28))) (fun t64_30 S =>
      ifP (Wb.asBool t64_30) (fun S =>
       wp (X C (.ixA 5 (.const t61_27) (.const t63_29))) (fun t65_31 S =>
       wp (X C (.load (.agg 5) (.const t65_31))) (fun t66_32 S =>
       wp (X C (.alloc 56 [(.int .i64 0), (.int .i64 0), (.slice none 0 0), (.int .u64 0), (.int .u64 0)])) (fun t9_33 S =>
       wp (X C (.store 5 (.const t9_33) (.const t66_32))) (fun _ S =>
       wp (X C (.fldA 2 (.const t9_33))) (fun t67_34 S =>
       wp (X C (.fldA 0 (.const t67_34))) (fun t68_35 S =>
       wp (X C (.load .one (.const t68_35))) (fun t69_36 S =>
       wp (X C (.len .slice (.const t69_36))) (fun t70_37 S =>
       wp (X C (.bin .gtr (.const t70_37) (.const (.int .i64 2000)))) (fun t71_38 S =>
       andP false t71_38 (fun K S =>
        wp (X C (.fldA 1 (.const t9_33))) (fun t73_39 S =>
        wp (X C (.load .one (.const t73_39))) (fun t74_40 S =>
        wp (X C (.bin .gtr (.const t74_40) (.const (.int .i64 60)))) (fun t75_41 S =>
        andP true t75_41 (fun K S =>
         wp (X C (.fldA 1 (.const t9_33))) (fun t77_42 S =>
         wp (X C (.load .one (.const t77_42))) (fun t78_43 S =>
         wp (X C (.bin .leq (.const t78_43) (.const (.int .i64 256)))) (fun t79_44 S =>
         K t79_44 S) S) S) S) (fun t80_45 S =>
        K t80_45 S) S) S) S) S) (fun t81_46 S =>
       ifP (Wb.asBool t81_46) (fun S =>
        wp (X C (.call (.const (.func (.func 25) ⟨[]⟩ ⟨[]⟩)) [])) (fun t82_47 S =>
        Φ t82_47 S) S) (fun S =>
        wp (X C (.fldA 2 (.const t9_33))) (fun t83_48 S =>
        wp (X C (.load (.agg 3) (.const t83_48))) (fun t84_49 S =>
        wp (X C (.alloc 44 [(.slice none 0 0), (.int .u64 0), (.int .u64 0)])) (fun t10_50 S =>
        wp (X C (.store 3 (.const t10_50) (.const t84_49))) (fun _ S =>
        wp (X C (.bslice 5 0 [] [])) (fun t85_51 S =>
        wp (X C (.fldA 2 (.const t9_33))) (fun t86_52 S =>
        wp (X C (.fldA 0 (.const t86_52))) (fun t87_53 S =>
        wp (X C (.load .one (.const t87_53))) (fun t88_54 S =>
        wp (X C (.app 1 1 5 (.const t85_51) (.const t88_54))) (fun t89_55 S =>
        wp (X C (.fldA 0 (.const t10_50))) (fun t90_56 S =>
        wp (X C (.store 1 (.const t90_56) (.const t89_55))) (fun _ S =>
        wp (X C (.fldA 0 (.const t9_33))) (fun t91_57 S =>
        wp (X C (.load .one (.const t91_57))) (fun t92_58 S =>
        wp (X C (.bin .eql (.const t92_58) (.const (.int .i64 1)))) (fun t94_59 S =>
        jn (fun (t5_61 t7_62 t11_63 : Value) (S : Hp) =>
         wp (X C (.fldA 0 (.const t10_50))) (fun t166_64 S =>
         wp (X C (.load .one (.const t166_64))) (fun t167_65 S =>
         wp (X C (.len .slice (.const t167_65))) (fun t168_66 S =>
         ∃ I67 : Nat → Value → Value → Value → Value → Value → Value → Value → Value → Value → Value → Hp → Prop, (∃ m, m < n ∧ I67 m t4_24 t5_61 t7_62 t10_50 t11_63 t61_27 t62_28 t63_29 t168_66 (.int .i64 0) S) ∧ ∀ (m67 : Nat) (S : Hp) (t4_68 t5_69 t7_70 t10_71 t11_72 t61_73 t62_74 t63_75 t168_76 t169_77 : Value), I67 m67 t4_68 t5_69 t7_70 t10_71 t11_72 t61_73 t62_74 t63_75 t168_76 t169_77 S →
          wp (X C (.bin .lss (.const t169_77) (.const t168_76))) (fun t170_78 S =>
          ifP (Wb.asBool t170_78) (fun S =>
           wp (X C (.fldA 0 (.const t10_71))) (fun t172_79 S =>
           wp (X C (.load .one (.const t172_79))) (fun t173_80 S =>
           wp (X C (.ixA 1 (.const t173_80) (.const t169_77))) (fun t175_81 S =>
           wp (X C (.load .one (.const t175_81))) (fun t176_82 S =>
           wp (X C (.bin .add (.const t176_82) (.const (.int .u8 1)))) (fun t177_83 S =>
           wp (X C (.ixA 1 (.const t173_80) (.const t169_77))) (fun t178_84 S =>
           wp (X C (.store 1 (.const t178_84) (.const t177_83))) (fun _ S =>
           wp (X C (.bin .add (.const t169_77) (.const (.int .i64 1)))) (fun t179_85 S =>
           ∃ j67, j67 < m67 ∧ I67 j67 t4_68 t5_69 t7_70 t10_71 t11_72 t61_73 t62_74 t63_75 t168_76 t179_85 S) S) S) S) S) S) S) S) S) (fun S =>
           wp (X C (.un .not (.const t11_72))) (fun t181_86 S =>
           andP false t181_86 (fun K S =>
            wp (X C (.call (.const (.func (.func 38) ⟨[]⟩ ⟨[]⟩)) [(.const t5_69), (.const t7_70)])) (fun t185_87 S =>
            wp (X C (.un .not (.const t185_87))) (fun t186_88 S =>
            K t186_88 S) S) S) (fun t187_89 S =>
           ifP (Wb.asBool t187_89) (fun S =>
            Φ (.bool false) S) (fun S =>
            wp (X C (.bin .add (.const t63_75) (.const (.int .i64 1)))) (fun t188_90 S =>
            ∃ j23, j23 < m23 ∧ I23 j23 t4_68 t5_69 t7_70 t61_73 t62_74 t188_90 S) S) S) S) S) S) S) S) S) S) (fun J60 =>
        ifP (Wb.asBool t94_59) (fun S =>
         wp (X C (.load (.agg 3) (.const t10_50))) (fun t96_91 S =>
         dstepP 2 [] (X C (.call (.const (.func (.func 27) ⟨[]⟩ ⟨[]⟩)) [(.const t5_25), (.const t96_91)])) (fun t97_92 ts S =>
         wp (X C (.fldA 2 (.const t9_33))) (fun t99_93 S =>
         dstepP 5 ts (X C (.load (.agg 3) (.const t99_93))) (fun t100_94 ts S =>
         wp (X C (.call (.const (.func (.func 31) ⟨[]⟩ ⟨[]⟩)) [(.const t7_26), (.const t100_94)])) (fun t101_95 S =>
         wp (X C (.bin .eql (.const t97_92) (.const t101_95))) (fun t102_96 S =>
         okP (apartAll [0, 0, 3, 0, 0, 16, 63, 127, 255] ts) (fun S =>
         J60 t5_25 t7_26 t102_96 S) S) S) S) S) S) S) S) (fun S =>
         wp (X C (.bin .eql (.const t92_58) (.const (.int .i64 2)))) (fun t104_97 S =>
         ifP (Wb.asBool t104_97) (fun S =>
          wp (X C (.call (.const (.func (.func 28) ⟨[]⟩ ⟨[]⟩)) [(.const t5_25)])) (fun t107_98 S =>
          wp (X C (.ext (.const t107_98) 0)) (fun t108_99 S =>
          wp (X C (.ext (.const t107_98) 1)) (fun t109_100 S =>
          wp (X C (.alloc 44 [(.slice none 0 0), (.int .u64 0), (.int .u64 0)])) (fun t12_101 S =>
          wp (X C (.store 3 (.const t12_101) (.const t108_99))) (fun _ S =>
          wp (X C (.call (.const (.func (.func 32) ⟨[]⟩ ⟨[]⟩)) [(.const t7_26)])) (fun t112_102 S =>
          wp (X C (.ext (.const t112_102) 0)) (fun t113_103 S =>
          wp (X C (.ext (.const t112_102) 1)) (fun t114_104 S =>
          wp (X C (.alloc 44 [(.slice none 0 0), (.int .u64 0), (.int .u64 0)])) (fun t14_105 S =>
          wp (X C (.store 3 (.const t14_105) (.const t113_103))) (fun _ S =>
          wp (X C (.eq false .bool (.const t109_100) (.const t114_104))) (fun t117_106 S =>
          andP true t117_106 (fun K S =>
           wp (X C (.load (.agg 3) (.const t12_101))) (fun t119_107 S =>
           wp (X C (.load (.agg 3) (.const t14_105))) (fun t120_108 S =>
           wp (X C (.call (.const (.func (.func 33) ⟨[]⟩ ⟨[]⟩)) [(.const t119_107), (.const t120_108)])) (fun t121_109 S =>
           K t121_109 S) S) S) S) (fun t122_110 S =>
          J60 t5_25 t7_26 t122_110 S) S) S) S) S) S) S) S) S) S) S) S) S) (fun S =>
          wp (X C (.bin .eql (.const t92_58) (.const (.int .i64 3)))) (fun t124_111 S =>
          ifP (Wb.asBool t124_111) (fun S =>
           wp (X C (.fldA 1 (.const t9_33))) (fun t127_112 S =>
           wp (X C (.load .one (.const t127_112))) (fun t128_113 S =>
           wp (X C (.call (.const (.func (.func 34) ⟨[]⟩ ⟨[]⟩)) [(.const t5_25), (.const t128_113)])) (fun t129_114 S =>
           wp (X C (.ext (.const t129_114) 0)) (fun t130_115 S =>
           wp (X C (.ext (.const t129_114) 1)) (fun t131_116 S =>
           wp (X C (.fldA 1 (.const t9_33))) (fun t134_117 S =>
           wp (X C (.load .one (.const t134_117))) (fun t135_118 S =>
           wp (X C (.call (.const (.func (.func 35) ⟨[]⟩ ⟨[]⟩)) [(.const t7_26), (.const t135_118)])) (fun t136_119 S =>
           wp (X C (.ext (.const t136_119) 0)) (fun t137_120 S =>
           wp (X C (.ext (.const t136_119) 1)) (fun t138_121 S =>
           wp (X C (.bin .eql (.const t130_115) (.const t137_120))) (fun t141_122 S =>
           andP true t141_122 (fun K S =>
            wp (X C (.bin .eql (.const t131_116) (.const t138_121))) (fun t145_123 S =>
            K t145_123 S) S) (fun t146_124 S =>
           J60 t5_25 t7_26 t146_124 S) S) S) S) S) S) S) S) S) S) S) S) S) (fun S =>
           wp (X C (.bin .eql (.const t92_58) (.const (.int .i64 4)))) (fun t148_125 S =>
           ifP (Wb.asBool t148_125) (fun S =>
            wp (X C (.call (.const (.func (.func 36) ⟨[]⟩ ⟨[]⟩)) [(.const t5_25)])) (fun t150_126 S =>
            wp (X C (.load (.agg 3) (.const t10_50))) (fun t152_127 S =>
            wp (X C (.call (.const (.func (.func 27) ⟨[]⟩ ⟨[]⟩)) [(.const t5_25), (.const t152_127)])) (fun t153_128 S =>
            wp (X C (.call (.const (.func (.func 37) ⟨[]⟩ ⟨[]⟩)) [(.const t7_26)])) (fun t156_129 S =>
            J60 t150_126 t156_129 (.bool true) S) S) S) S) S) (fun S =>
            wp (X C (.bin .eql (.const t92_58) (.const (.int .i64 5)))) (fun t158_130 S =>
            ifP (Wb.asBool t158_130) (fun S =>
             wp (X C (.call (.const (.func (.func 36) ⟨[]⟩ ⟨[]⟩)) [(.const t5_25)])) (fun t160_131 S =>
             wp (X C (.call (.const (.func (.func 28) ⟨[]⟩ ⟨[]⟩)) [(.const t160_131)])) (fun t162_132 S =>
             wp (X C (.load (.agg 3) (.const t10_50))) (fun t164_133 S =>
             wp (X C (.call (.const (.func (.func 27) ⟨[]⟩ ⟨[]⟩)) [(.const t160_131), (.const t164_133)])) (fun t165_134 S =>
             J60 t5_25 t7_26 (.bool true) S) S) S) S) S) (fun S =>
             J60 t5_25 t7_26 (.bool true) S) S) S) S) S) S) S) S) S) S)) S) S) S) S) S) S) S) S) S) S) S) S) S) S) S) S) S) S) S) S) S) S) S) S) S) (fun S =>
       wp (X C (.call (.const (.func (.func 25) ⟨[]⟩ ⟨[]⟩)) [])) (fun t189_135 S =>
       Φ t189_135 S) S) S) S) S) S) S) S) S) S) S) S) S) S) S) S) S) S) S) S
theorem p6 (C : Tgt → List Value → M Value) (n : Nat) (Φ : Value → Hp → Prop) (t0 t1 : Value) (S : Hp) : codeP C A6 n 1 b6 (argsEnv [t0, t1] 0 .leaf) (endP [.tmp 4] Φ) S = P6 C n Φ t0 t1 S := by kernel_rfl
theorem g6 : T 6 = some (.go ⟨2, [.tmp 4], b6⟩) := by kernel_rfl
attribute [irreducible] b6
theorem c6 {F : Nat → Option AFn} (hF : F 6 = some (.go ⟨2, [.tmp 4], b6⟩)) {n : Nat} {Φ : Value → Hp → Prop} {t0 t1 : Value} {S : Hp} (h : P6 (callN F n) n Φ t0 t1 S) : wp (callN F (n + 1) (.fn 6) [t0, t1]) Φ S := callP (A := A6) hF rfl (Eq.mpr (p6 (callN F n) n Φ t0 t1 S) h)
noncomputable def b26 : ACode := bodyOf (T 26)
def A26 : List (Nat × List Nat) := []
def P26 (C : Tgt → List Value → M Value) (n : Nat) (Φ : Value → Hp → Prop) (t0 : Value) (S : Hp) : Prop :=
  wp (X C (.call (.const (.func (.func 87) ⟨[]⟩ ⟨[]⟩)) [(.const t0)])) (fun t5_0 S =>
  wp (X C (.un .not (.const t5_0))) (fun t6_1 S =>
  ifP (Wb.asBool t6_1) (fun S =>
   Φ (.tuple ⟨[(.pointer none), (.int .i64 2)]⟩) S) (fun S =>
   wp (X C (.mkslice 44 3 40 [(.slice none 0 0), (.int .u64 0), (.int .u64 0)] (.const t0) (.const t0))) (fun t8_2 S =>
   wp (X C (.build [(.slice none 0 0), (.int .i64 0), (.int .i64 0)] [(0, 1, (.const t8_2))])) (fun t9_3 S =>
   wp (X C (.box 65 (.const t9_3))) (fun t10_4 S =>
   Φ (.tuple ⟨[t10_4, (.int .i64 0)]⟩) S) S) S) S) S) S) S
theorem p26 (C : Tgt → List Value → M Value) (n : Nat) (Φ : Value → Hp → Prop) (t0 : Value) (S : Hp) : codeP C A26 n 1 b26 (argsEnv [t0] 0 .leaf) (endP [.tmp 2, .tmp 3] Φ) S = P26 C n Φ t0 S := by kernel_rfl
theorem g26 : T 26 = some (.go ⟨1, [.tmp 2, .tmp 3], b26⟩) := by kernel_rfl
attribute [irreducible] b26
theorem c26 {F : Nat → Option AFn} (hF : F 26 = some (.go ⟨1, [.tmp 2, .tmp 3], b26⟩)) {n : Nat} {Φ : Value → Hp → Prop} {t0 : Value} {S : Hp} (h : P26 (callN F n) n Φ t0 S) : wp (callN F (n + 1) (.fn 26) [t0]) Φ S := callP (A := A26) hF rfl (Eq.mpr (p26 (callN F n) n Φ t0 S) h)
noncomputable def b27 : ACode := bodyOf (T 27)
def A27 : List (Nat × List Nat) := [(14, [3592])]
def P27 (C : Tgt → List Value → M Value) (n : Nat) (Φ : Value → Hp → Prop) (t0 t1 : Value) (S : Hp) : Prop :=
  wp (X C (.box 44 (.const t1))) (fun t3_0 S =>
  wp (X C (.call (.const (.func (.func 40) ⟨[]⟩ ⟨[]⟩)) [(.const t0)])) (fun t7_1 S =>
  wp (X C (.bin .eql (.const t7_1) (.const (.int .i64 0)))) (fun t8_2 S =>
  ifP (Wb.asBool t8_2) (fun S =>
   Φ (.int .i64 1) S) (fun S =>
   wp (X C (.fldA 0 (.const t3_0))) (fun t10_3 S =>
   wp (X C (.load .one (.const t10_3))) (fun t11_4 S =>
   wp (X C (.len .slice (.const t11_4))) (fun t12_5 S =>
   wp (X C (.bin .gtr (.const t12_5) (.const (.int .i64 1600)))) (fun t13_6 S =>
   ifP (Wb.asBool t13_6) (fun S =>
    Φ (.int .i64 3) S) (fun S =>
    wp (X C (.nilchk (.const t0))) (fun t16_7 S =>
    wp (X C (.fldA 2 (.const t16_7))) (fun t17_8 S =>
    wp (X C (.load .one (.const t17_8))) (fun t18_9 S =>
    wp (X C (.nilchk (.const t0))) (fun t20_10 S =>
    wp (X C (.fldA 0 (.const t20_10))) (fun t21_11 S =>
    wp (X C (.load .one (.const t21_11))) (fun t22_12 S =>
    wp (X C (.len .slice (.const t22_12))) (fun t23_13 S =>
    wp (X C (.bin .eql (.const t18_9) (.const t23_13))) (fun t24_14 S =>
    ifP (Wb.asBool t24_14) (fun S =>
     Φ (.int .i64 9) S) (fun S =>
     wp (X C (.nilchk (.const t0))) (fun t26_15 S =>
     wp (X C (.fldA 0 (.const t26_15))) (fun t27_16 S =>
     dstepP 3 [] (X C (.load .one (.const t27_16))) (fun t28_17 ts S =>
     wp (X C (.nilchk (.const t0))) (fun t31_18 S =>
     wp (X C (.fldA 2 (.const t31_18))) (fun t32_19 S =>
     wp (X C (.load .one (.const t32_19))) (fun t33_20 S =>
     dstepP 9 ts (X C (.call (.const (.func (.func 89) ⟨[]⟩ ⟨[]⟩)) [(.const t0), (.const t33_20)])) (fun t34_21 ts S =>
     dstepP 10 ts (X C (.load (.agg 3) (.const t3_0))) (fun t35_22 ts S =>
     dstepP 11 ts (X C (.call (.const (.func (.func 88) ⟨[]⟩ ⟨[]⟩)) [(.const t35_22)])) (fun t36_23 ts S =>
     wp (X C (.ixA 3 (.const t28_17) (.const t34_21))) (fun t37_24 S =>
     wp (X C (.store 3 (.const t37_24) (.const t36_23))) (fun _ S =>
     okP (apartAll [0, 1, 3, 7, 0, 0, 32, 96, 224, 496, 0, 2032, 4095, 8191] ts) (fun S =>
     wp (X C (.nilchk (.const t0))) (fun t39_25 S =>
     wp (X C (.fldA 2 (.const t39_25))) (fun t40_26 S =>
     wp (X C (.load .one (.const t40_26))) (fun t41_27 S =>
     wp (X C (.bin .add (.const t41_27) (.const (.int .i64 1)))) (fun t42_28 S =>
     wp (X C (.nilchk (.const t0))) (fun t43_29 S =>
     wp (X C (.fldA 2 (.const t43_29))) (fun t44_30 S =>
     wp (X C (.store 1 (.const t44_30) (.const t42_28))) (fun _ S =>
     Φ (.int .i64 0) S) S) S) S) S) S) S) S) S) S) S) S) S) S) S) S) S) S) S) S) S) S) S) S) S) S) S) S) S) S) S) S) S) S) S) S) S) S
theorem p27 (C : Tgt → List Value → M Value) (n : Nat) (Φ : Value → Hp → Prop) (t0 t1 : Value) (S : Hp) : codeP C A27 n 1 b27 (argsEnv [t0, t1] 0 .leaf) (endP [.tmp 4] Φ) S = P27 C n Φ t0 t1 S := by kernel_rfl
theorem g27 : T 27 = some (.go ⟨2, [.tmp 4], b27⟩) := by kernel_rfl
attribute [irreducible] b27
theorem c27 {F : Nat → Option AFn} (hF : F 27 = some (.go ⟨2, [.tmp 4], b27⟩)) {n : Nat} {Φ : Value → Hp → Prop} {t0 t1 : Value} {S : Hp} (h : P27 (callN F n) n Φ t0 t1 S) : wp (callN F (n + 1) (.fn 27) [t0, t1]) Φ S := callP (A := A27) hF rfl (Eq.mpr (p27 (callN F n) n Φ t0 t1 S) h)
noncomputable def b28 : ACode := bodyOf (T 28)
def A28 : List (Nat × List Nat) := [(116, [0])]
def P28 (C : Tgt → List Value → M Value) (n : Nat) (Φ : Value → Hp → Prop) (t0 : Value) (S : Hp) : Prop :=
  wp (X C (.alloc 44 [(.slice none 0 0), (.int .u64 0), (.int .u64 0)])) (fun t2_0 S =>
  wp (X C (.call (.const (.func (.func 39) ⟨[]⟩ ⟨[]⟩)) [(.const t0)])) (fun t8_1 S =>
  wp (X C (.ext (.const t8_1) 0)) (fun t9_2 S =>
  wp (X C (.ext (.const t8_1) 1)) (fun t10_3 S =>
  wp (X C (.alloc 44 [(.slice none 0 0), (.int .u64 0), (.int .u64 0)])) (fun t4_4 S =>
  wp (X C (.store 3 (.const t4_4) (.const t9_2))) (fun _ S =>
  ifP (Wb.asBool t10_3) (fun S =>
   wp (X C (.nilchk (.const t0))) (fun t13_5 S =>
   wp (X C (.fldA 0 (.const t13_5))) (fun t14_6 S =>
   wp (X C (.load .one (.const t14_6))) (fun t15_7 S =>
   wp (X C (.nilchk (.const t0))) (fun t17_8 S =>
   wp (X C (.fldA 1 (.const t17_8))) (fun t18_9 S =>
   wp (X C (.load .one (.const t18_9))) (fun t19_10 S =>
   wp (X C (.build [(.slice none 0 0), (.int .u64 0), (.int .u64 0)] [])) (fun t20_11 S =>
   wp (X C (.ixA 3 (.const t15_7) (.const t19_10))) (fun t21_12 S =>
   wp (X C (.store 3 (.const t21_12) (.const t20_11))) (fun _ S =>
   okP (apartAll [0, 1, 3, 7, 0, 16, 48, 112, 0, 511, 1023] []) (fun S =>
   wp (X C (.call (.const (.func (.func 89) ⟨[]⟩ ⟨[]⟩)) [(.const t0), (.const (.int .i64 1))])) (fun t24_13 S =>
   wp (X C (.nilchk (.const t0))) (fun t25_14 S =>
   wp (X C (.fldA 1 (.const t25_14))) (fun t26_15 S =>
   wp (X C (.store 1 (.const t26_15) (.const t24_13))) (fun _ S =>
   wp (X C (.nilchk (.const t0))) (fun t28_16 S =>
   wp (X C (.fldA 2 (.const t28_16))) (fun t29_17 S =>
   wp (X C (.load .one (.const t29_17))) (fun t30_18 S =>
   wp (X C (.bin .sub (.const t30_18) (.const (.int .i64 1)))) (fun t31_19 S =>
   wp (X C (.nilchk (.const t0))) (fun t32_20 S =>
   wp (X C (.fldA 2 (.const t32_20))) (fun t33_21 S =>
   wp (X C (.store 1 (.const t33_21) (.const t31_19))) (fun _ S =>
   wp (X C (.load (.agg 3) (.const t4_4))) (fun t34_22 S =>
   wp (X C (.store 3 (.const t2_0) (.const t34_22))) (fun _ S =>
   wp (cellV t2_0 (.agg 3)) (fun t2_23 S =>
   Φ (.tuple ⟨[t2_23, t10_3]⟩) S) S) S) S) S) S) S) S) S) S) S) S) S) S) S) S) S) S) S) S) S) S) S) S) S) (fun S =>
   wp (X C (.load (.agg 3) (.const t4_4))) (fun t34_24 S =>
   wp (X C (.store 3 (.const t2_0) (.const t34_24))) (fun _ S =>
   wp (cellV t2_0 (.agg 3)) (fun t2_25 S =>
   Φ (.tuple ⟨[t2_25, t10_3]⟩) S) S) S) S) S) S) S) S) S) S) S
theorem p28 (C : Tgt → List Value → M Value) (n : Nat) (Φ : Value → Hp → Prop) (t0 : Value) (S : Hp) : codeP C A28 n 1 b28 (argsEnv [t0] 0 .leaf) (endP [.cell 2 (.agg 3), .tmp 3] Φ) S = P28 C n Φ t0 S := by kernel_rfl
theorem g28 : T 28 = some (.go ⟨1, [.cell 2 (.agg 3), .tmp 3], b28⟩) := by kernel_rfl
attribute [irreducible] b28
theorem c28 {F : Nat → Option AFn} (hF : F 28 = some (.go ⟨1, [.cell 2 (.agg 3), .tmp 3], b28⟩)) {n : Nat} {Φ : Value → Hp → Prop} {t0 : Value} {S : Hp} (h : P28 (callN F n) n Φ t0 S) : wp (callN F (n + 1) (.fn 28) [t0]) Φ S := callP (A := A28) hF rfl (Eq.mpr (p28 (callN F n) n Φ t0 S) h)
noncomputable def b29 : ACode := bodyOf (T 29)
def A29 : List (Nat × List Nat) := []
def P29 (C : Tgt → List Value → M Value) (n : Nat) (Φ : Value → Hp → Prop) (t0 : Value) (S : Hp) : Prop :=
  wp (X C (.eq false (.nil .ptr) (.const t0) (.const (.pointer none)))) (fun t4_0 S =>
  ifP (Wb.asBool t4_0) (fun S =>
   Φ (.int .i64 0) S) (fun S =>
   wp (X C (.nilchk (.const t0))) (fun t6_1 S =>
   wp (X C (.fldA 2 (.const t6_1))) (fun t7_2 S =>
   wp (X C (.load .one (.const t7_2))) (fun t8_3 S =>
   Φ t8_3 S) S) S) S) S) S
theorem p29 (C : Tgt → List Value → M Value) (n : Nat) (Φ : Value → Hp → Prop) (t0 : Value) (S : Hp) : codeP C A29 n 1 b29 (argsEnv [t0] 0 .leaf) (endP [.tmp 2] Φ) S = P29 C n Φ t0 S := by kernel_rfl
theorem g29 : T 29 = some (.go ⟨1, [.tmp 2], b29⟩) := by kernel_rfl
attribute [irreducible] b29
theorem c29 {F : Nat → Option AFn} (hF : F 29 = some (.go ⟨1, [.tmp 2], b29⟩)) {n : Nat} {Φ : Value → Hp → Prop} {t0 : Value} {S : Hp} (h : P29 (callN F n) n Φ t0 S) : wp (callN F (n + 1) (.fn 29) [t0]) Φ S := callP (A := A29) hF rfl (Eq.mpr (p29 (callN F n) n Φ t0 S) h)
noncomputable def b34 : ACode := bodyOf (T 34)
def A34 : List (Nat × List Nat) := []
def P34 (C : Tgt → List Value → M Value) (n : Nat) (Φ : Value → Hp → Prop) (t0 t1 : Value) (S : Hp) : Prop :=
  wp (X C (.box 3 (.const t1))) (fun t3_0 S =>
  wp (X C (.call (.const (.func (.func 40) ⟨[]⟩ ⟨[]⟩)) [(.const t0)])) (fun t10_1 S =>
  wp (X C (.bin .eql (.const t10_1) (.const (.int .i64 0)))) (fun t11_2 S =>
  ifP (Wb.asBool t11_2) (fun S =>
   Φ (.tuple ⟨[(.int .i64 0), (.int .i64 1)]⟩) S) (fun S =>
   wp (X C (.load .one (.const t3_0))) (fun t13_3 S =>
   wp (X C (.call (.const (.func (.func 87) ⟨[]⟩ ⟨[]⟩)) [(.const t13_3)])) (fun t14_4 S =>
   wp (X C (.un .not (.const t14_4))) (fun t15_5 S =>
   ifP (Wb.asBool t15_5) (fun S =>
    Φ (.tuple ⟨[(.int .i64 0), (.int .i64 2)]⟩) S) (fun S =>
    wp (X C (.load .one (.const t3_0))) (fun t16_6 S =>
    wp (X C (.mkslice 44 3 40 [(.slice none 0 0), (.int .u64 0), (.int .u64 0)] (.const t16_6) (.const t16_6))) (fun t17_7 S =>
    wp (X C (.build [(.slice none 0 0), (.int .i64 0), (.int .i64 0)] [(0, 1, (.const t17_7))])) (fun t18_8 S =>
    wp (X C (.alloc 65 [(.slice none 0 0), (.int .i64 0), (.int .i64 0)])) (fun t6_9 S =>
    wp (X C (.store 3 (.const t6_9) (.const t18_8))) (fun _ S =>
    wp (X C (.call (.const (.func (.func 41) ⟨[]⟩ ⟨[]⟩)) [(.const t0)])) (fun t20_10 S =>
    rangeP C [21] (rA (bB (sR (sL (sR (sR (sR b34))))))) (rB (bB (sR (sL (sR (sR (sR b34))))))) (some t20_10) ((((((((((((((((((((.leaf : Env).set 0 (some t0)).set 1 (some t1)).set 3 (some t3_0)).set 4 (some (.int .i64 0))).set 5 (some (.int .i64 0))).set 6 (some t6_9)).set 8 (some t11_2)).set 9 (some t0)).set 10 (some t10_1)).set 11 (some t11_2)).set 12 (some t15_5)).set 13 (some t13_3)).set 14 (some t14_4)).set 15 (some t15_5)).set 16 (some t16_6)).set 17 (some t17_7)).set 18 (some t18_8)).set 19 (some t0)).set 20 (some t20_10)) (fun S =>
     wp (X C (.nilchk (.const t0))) (fun t37_11 S =>
     wp (X C (.fldA 2 (.const t37_11))) (fun t38_12 S =>
     wp (X C (.load .one (.const t38_12))) (fun t39_13 S =>
     wp (X C (.fldA 2 (.const t6_9))) (fun t40_14 S =>
     wp (X C (.load .one (.const t40_14))) (fun t41_15 S =>
     wp (X C (.bin .sub (.const t39_13) (.const t41_15))) (fun t42_16 S =>
     wp (X C (.load (.agg 3) (.const t6_9))) (fun t44_17 S =>
     wp (X C (.nilchk (.const t0))) (fun t45_18 S =>
     wp (X C (.store 3 (.const t45_18) (.const t44_17))) (fun _ S =>
     Φ (.tuple ⟨[t42_16, (.int .i64 0)]⟩) S) S) S) S) S) S) S) S) S) S) (fun x S => (blockP 1 (contP (fun e S => codeP C A34 n 31 (sR (sR (sR (sR b34)))) e (endP [.tmp 4, .tmp 5] Φ) S) (endP [.tmp 4, .tmp 5] Φ))) x ((((((((((((((((((((.leaf : Env).set 0 (some t0)).set 1 (some t1)).set 3 (some t3_0)).set 4 (some (.int .i64 0))).set 5 (some (.int .i64 0))).set 6 (some t6_9)).set 8 (some t11_2)).set 9 (some t0)).set 10 (some t10_1)).set 11 (some t11_2)).set 12 (some t15_5)).set 13 (some t13_3)).set 14 (some t14_4)).set 15 (some t15_5)).set 16 (some t16_6)).set 17 (some t17_7)).set 18 (some t18_8)).set 19 (some t0)).set 20 (some t20_10)) S) S) S) S) S) S) S) S) S) S) S) S) S) S) S) S
theorem p34 (C : Tgt → List Value → M Value) (n : Nat) (Φ : Value → Hp → Prop) (t0 t1 : Value) (S : Hp) : codeP C A34 n 1 b34 (argsEnv [t0, t1] 0 .leaf) (endP [.tmp 4, .tmp 5] Φ) S = P34 C n Φ t0 t1 S := by kernel_rfl
theorem g34 : T 34 = some (.go ⟨2, [.tmp 4, .tmp 5], b34⟩) := by kernel_rfl
theorem x34_19_0 (C : Tgt → List Value → M Value) (n : Nat) (Φ : Value → Hp → Prop) (t0 t1 t3_0 t6_9 t11_2 t10_1 t15_5 t13_3 t14_4 t16_6 t17_7 t18_8 t20_10 : Value) (S : Hp) : (blockP 1 (contP (fun e S => codeP C A34 n 31 (sR (sR (sR (sR b34)))) e (endP [.tmp 4, .tmp 5] Φ) S) (endP [.tmp 4, .tmp 5] Φ))) (.exit 1) ((((((((((((((((((((.leaf : Env).set 0 (some t0)).set 1 (some t1)).set 3 (some t3_0)).set 4 (some (.int .i64 0))).set 5 (some (.int .i64 0))).set 6 (some t6_9)).set 8 (some t11_2)).set 9 (some t0)).set 10 (some t10_1)).set 11 (some t11_2)).set 12 (some t15_5)).set 13 (some t13_3)).set 14 (some t14_4)).set 15 (some t15_5)).set 16 (some t16_6)).set 17 (some t17_7)).set 18 (some t18_8)).set 19 (some t0)).set 20 (some t20_10)) S =
  wp (X C (.nilchk (.const t0))) (fun t37_19 S =>
  wp (X C (.fldA 2 (.const t37_19))) (fun t38_20 S =>
  wp (X C (.load .one (.const t38_20))) (fun t39_21 S =>
  wp (X C (.fldA 2 (.const t6_9))) (fun t40_22 S =>
  wp (X C (.load .one (.const t40_22))) (fun t41_23 S =>
  wp (X C (.bin .sub (.const t39_21) (.const t41_23))) (fun t42_24 S =>
  wp (X C (.load (.agg 3) (.const t6_9))) (fun t44_25 S =>
  wp (X C (.nilchk (.const t0))) (fun t45_26 S =>
  wp (X C (.store 3 (.const t45_26) (.const t44_25))) (fun _ S =>
  Φ (.tuple ⟨[t42_24, (.int .i64 0)]⟩) S) S) S) S) S) S) S) S) S) S := by kernel_rfl
attribute [irreducible] b34
theorem c34 {F : Nat → Option AFn} (hF : F 34 = some (.go ⟨2, [.tmp 4, .tmp 5], b34⟩)) {n : Nat} {Φ : Value → Hp → Prop} {t0 t1 : Value} {S : Hp} (h : P34 (callN F n) n Φ t0 t1 S) : wp (callN F (n + 1) (.fn 34) [t0, t1]) Φ S := callP (A := A34) hF rfl (Eq.mpr (p34 (callN F n) n Φ t0 t1 S) h)
def B34_0 : List (Nat × List Nat) := []
def Q34_0 (C : Tgt → List Value → M Value) (n : Nat) (KN : Hp → Prop) (KX : Ext → Hp → Prop) (t3 t6 t21 : Value) (S : Hp) : Prop :=
  wp (X C (.alloc 44 [(.slice none 0 0), (.int .u64 0), (.int .u64 0)])) (fun t7_0 S =>
  wp (X C (.store 3 (.const t7_0) (.const t21))) (fun _ S =>
  wp (X C (.fldA 2 (.const t6))) (fun t22_1 S =>
  wp (X C (.load .one (.const t22_1))) (fun t23_2 S =>
  wp (X C (.load .one (.const t3))) (fun t24_3 S =>
  wp (X C (.bin .eql (.const t23_2) (.const t24_3))) (fun t25_4 S =>
  ifP (Wb.asBool t25_4) (fun S =>
   KX (.exit 1) S) (fun S =>
   wp (X C (.fldA 0 (.const t6))) (fun t26_5 S =>
   wp (X C (.load .one (.const t26_5))) (fun t27_6 S =>
   wp (X C (.fldA 2 (.const t6))) (fun t28_7 S =>
   wp (X C (.load .one (.const t28_7))) (fun t29_8 S =>
   wp (X C (.load (.agg 3) (.const t7_0))) (fun t30_9 S =>
   wp (X C (.ixA 3 (.const t27_6) (.const t29_8))) (fun t31_10 S =>
   wp (X C (.store 3 (.const t31_10) (.const t30_9))) (fun _ S =>
   wp (X C (.fldA 2 (.const t6))) (fun t32_11 S =>
   wp (X C (.load .one (.const t32_11))) (fun t33_12 S =>
   wp (X C (.bin .add (.const t33_12) (.const (.int .i64 1)))) (fun t34_13 S =>
   wp (X C (.fldA 2 (.const t6))) (fun t35_14 S =>
   wp (X C (.store 1 (.const t35_14) (.const t34_13))) (fun _ S =>
   KN S) S) S) S) S) S) S) S) S) S) S) S) S) S) S) S) S) S) S) S
theorem q34_0 (C : Tgt → List Value → M Value) (n : Nat) (KN : Hp → Prop) (KX : Ext → Hp → Prop) (t3 t6 t21 : Value) (S : Hp) : codeP C B34_0 n 1 (rA (bB (sR (sL (sR (sR (sR b34))))))) (zipSet [21] [t21] (((.leaf : Env).set 3 (some t3)).set 6 (some t6))) (contP (fun e1 S1 => codeP C B34_0 n 1 (rB (bB (sR (sL (sR (sR (sR b34))))))) e1 (contP (fun _ S2 => KN S2) (fun x _ S2 => KX x S2)) S1) (fun _ _ _ => False)) S = Q34_0 C n KN KX t3 t6 t21 S := by kernel_rfl
noncomputable def b36 : ACode := bodyOf (T 36)
def A36 : List (Nat × List Nat) := []
def P36 (C : Tgt → List Value → M Value) (n : Nat) (Φ : Value → Hp → Prop) (t0 : Value) (S : Hp) : Prop :=
  wp (X C (.call (.const (.func (.func 40) ⟨[]⟩ ⟨[]⟩)) [(.const t0)])) (fun t6_0 S =>
  wp (X C (.bin .eql (.const t6_0) (.const (.int .i64 0)))) (fun t7_1 S =>
  ifP (Wb.asBool t7_1) (fun S =>
   Φ (.pointer none) S) (fun S =>
   wp (X C (.nilchk (.const t0))) (fun t9_2 S =>
   wp (X C (.fldA 0 (.const t9_2))) (fun t10_3 S =>
   wp (X C (.load .one (.const t10_3))) (fun t11_4 S =>
   wp (X C (.len .slice (.const t11_4))) (fun t12_5 S =>
   wp (X C (.mkslice 44 3 40 [(.slice none 0 0), (.int .u64 0), (.int .u64 0)] (.const t12_5) (.const t12_5))) (fun t13_6 S =>
   wp (X C (.build [(.slice none 0 0), (.int .i64 0), (.int .i64 0)] [(0, 1, (.const t13_6))])) (fun t14_7 S =>
   wp (X C (.box 65 (.const t14_7))) (fun t15_8 S =>
   wp (X C (.alloc 38 [(.pointer none)])) (fun t3_9 S =>
   wp (X C (.store 1 (.const t3_9) (.const t15_8))) (fun _ S =>
   wp (X C (.call (.const (.func (.func 41) ⟨[]⟩ ⟨[]⟩)) [(.const t0)])) (fun t17_10 S =>
   rangeP C [18] (rA (bB (sR (sL (sR (sR (sR b36))))))) (rB (bB (sR (sL (sR (sR (sR b36))))))) (some t17_10) (((((((((((((((((.leaf : Env).set 0 (some t0)).set 2 (some (.pointer none))).set 3 (some t3_9)).set 5 (some t0)).set 6 (some t6_0)).set 7 (some t7_1)).set 8 (some t0)).set 9 (some t9_2)).set 10 (some t10_3)).set 11 (some t11_4)).set 12 (some t12_5)).set 13 (some t13_6)).set 14 (some t14_7)).set 15 (some t15_8)).set 16 (some t0)).set 17 (some t17_10)) (fun S =>
    wp (X C (.load .one (.const t3_9))) (fun t36_11 S =>
    Φ t36_11 S) S) (fun x S => (blockP 0 (contP (fun e S => codeP C A36 n 31 (sR (sR (sR (sR b36)))) e (endP [.tmp 2] Φ) S) (endP [.tmp 2] Φ))) x (((((((((((((((((.leaf : Env).set 0 (some t0)).set 2 (some (.pointer none))).set 3 (some t3_9)).set 5 (some t0)).set 6 (some t6_0)).set 7 (some t7_1)).set 8 (some t0)).set 9 (some t9_2)).set 10 (some t10_3)).set 11 (some t11_4)).set 12 (some t12_5)).set 13 (some t13_6)).set 14 (some t14_7)).set 15 (some t15_8)).set 16 (some t0)).set 17 (some t17_10)) S) S) S) S) S) S) S) S) S) S) S) S) S) S) S
theorem p36 (C : Tgt → List Value → M Value) (n : Nat) (Φ : Value → Hp → Prop) (t0 : Value) (S : Hp) : codeP C A36 n 1 b36 (argsEnv [t0] 0 .leaf) (endP [.tmp 2] Φ) S = P36 C n Φ t0 S := by kernel_rfl
theorem g36 : T 36 = some (.go ⟨1, [.tmp 2], b36⟩) := by kernel_rfl
attribute [irreducible] b36
theorem c36 {F : Nat → Option AFn} (hF : F 36 = some (.go ⟨1, [.tmp 2], b36⟩)) {n : Nat} {Φ : Value → Hp → Prop} {t0 : Value} {S : Hp} (h : P36 (callN F n) n Φ t0 S) : wp (callN F (n + 1) (.fn 36) [t0]) Φ S := callP (A := A36) hF rfl (Eq.mpr (p36 (callN F n) n Φ t0 S) h)
def B36_0 : List (Nat × List Nat) := [(4, [0])]
def Q36_0 (C : Tgt → List Value → M Value) (n : Nat) (KN : Hp → Prop) (KX : Ext → Hp → Prop) (t3 t18 : Value) (S : Hp) : Prop :=
  wp (X C (.alloc 44 [(.slice none 0 0), (.int .u64 0), (.int .u64 0)])) (fun t4_0 S =>
  wp (X C (.store 3 (.const t4_0) (.const t18))) (fun _ S =>
  wp (X C (.load .one (.const t3))) (fun t19_1 S =>
  wp (X C (.nilchk (.const t19_1))) (fun t20_2 S =>
  wp (X C (.fldA 0 (.const t20_2))) (fun t21_3 S =>
  wp (X C (.load .one (.const t21_3))) (fun t22_4 S =>
  wp (X C (.load .one (.const t3))) (fun t23_5 S =>
  wp (X C (.nilchk (.const t23_5))) (fun t24_6 S =>
  wp (X C (.fldA 2 (.const t24_6))) (fun t25_7 S =>
  wp (X C (.load .one (.const t25_7))) (fun t26_8 S =>
  wp (X C (.load (.agg 3) (.const t4_0))) (fun t27_9 S =>
  wp (X C (.ixA 3 (.const t22_4) (.const t26_8))) (fun t28_10 S =>
  wp (X C (.store 3 (.const t28_10) (.const t27_9))) (fun _ S =>
  okP (apartAll [0, 1, 3, 7, 0, 16, 48, 112, 0, 511, 1023] []) (fun S =>
  wp (X C (.load .one (.const t3))) (fun t29_11 S =>
  wp (X C (.nilchk (.const t29_11))) (fun t30_12 S =>
  wp (X C (.fldA 2 (.const t30_12))) (fun t31_13 S =>
  wp (X C (.load .one (.const t31_13))) (fun t32_14 S =>
  wp (X C (.bin .add (.const t32_14) (.const (.int .i64 1)))) (fun t33_15 S =>
  wp (X C (.nilchk (.const t29_11))) (fun t34_16 S =>
  wp (X C (.fldA 2 (.const t34_16))) (fun t35_17 S =>
  wp (X C (.store 1 (.const t35_17) (.const t33_15))) (fun _ S =>
  KN S) S) S) S) S) S) S) S) S) S) S) S) S) S) S) S) S) S) S) S) S) S) S
theorem q36_0 (C : Tgt → List Value → M Value) (n : Nat) (KN : Hp → Prop) (KX : Ext → Hp → Prop) (t3 t18 : Value) (S : Hp) : codeP C B36_0 n 1 (rA (bB (sR (sL (sR (sR (sR b36))))))) (zipSet [18] [t18] ((.leaf : Env).set 3 (some t3))) (contP (fun e1 S1 => codeP C B36_0 n 1 (rB (bB (sR (sL (sR (sR (sR b36))))))) e1 (contP (fun _ S2 => KN S2) (fun x _ S2 => KX x S2)) S1) (fun _ _ _ => False)) S = Q36_0 C n KN KX t3 t18 S := by kernel_rfl
noncomputable def b38 : ACode := bodyOf (T 38)
def A38 : List (Nat × List Nat) := [(254, [0]), (60, [19494])]
def P38 (C : Tgt → List Value → M Value) (n : Nat) (Φ : Value → Hp → Prop) (t0 t1 : Value) (S : Hp) : Prop :=
  wp (X C (.box 51 (.const t1))) (fun t3_0 S =>
  wp (X C (.alloc 4 [(.bool false)])) (fun t4_1 S =>
  wp (X C (.call (.const (.func (.func 39) ⟨[]⟩ ⟨[]⟩)) [(.const t0)])) (fun t14_2 S =>
  wp (X C (.ext (.const t14_2) 0)) (fun t15_3 S =>
  wp (X C (.ext (.const t14_2) 1)) (fun t16_4 S =>
  wp (X C (.alloc 44 [(.slice none 0 0), (.int .u64 0), (.int .u64 0)])) (fun t5_5 S =>
  wp (X C (.store 3 (.const t5_5) (.const t15_3))) (fun _ S =>
  wp (X C (.load .one (.const t3_0))) (fun t18_6 S =>
  wp (X C (.call (.const (.func (.func 90) ⟨[]⟩ ⟨[]⟩)) [(.const t18_6)])) (fun t19_7 S =>
  wp (X C (.ext (.const t19_7) 0)) (fun t20_8 S =>
  wp (X C (.ext (.const t19_7) 1)) (fun t21_9 S =>
  wp (X C (.alloc 44 [(.slice none 0 0), (.int .u64 0), (.int .u64 0)])) (fun t7_10 S =>
  wp (X C (.store 3 (.const t7_10) (.const t20_8))) (fun _ S =>
  dstepP 1 [] (X C (.call (.const (.func (.func 29) ⟨[]⟩ ⟨[]⟩)) [(.const t0)])) (fun t23_11 ts S =>
  dstepP 2 ts (X C (.load .one (.const t3_0))) (fun t24_12 ts S =>
  wp (X C (.nilchk (.const t24_12))) (fun t25_13 S =>
  wp (X C (.fldA 0 (.const t25_13))) (fun t26_14 S =>
  dstepP 5 ts (X C (.load .one (.const t26_14))) (fun t27_15 ts S =>
  wp (X C (.len .slice (.const t27_15))) (fun t28_16 S =>
  wp (X C (.bin .neq (.const t23_11) (.const t28_16))) (fun t29_17 S =>
  wp (G (wanted false t29_17) (X C (.mov (.const t0)))) (fun t31_18 S =>
  dstepP 10 ts (G (wanted false t29_17) (X C (.call (.const (.func (.func 40) ⟨[]⟩ ⟨[]⟩)) [(.const t31_18)]))) (fun t32_19 ts S =>
  dstepP 11 ts (G (wanted false t29_17) (X C (.load .one (.const t3_0)))) (fun t33_20 ts S =>
  wp (G (wanted false t29_17) (X C (.nilchk (.const t33_20)))) (fun t34_21 S =>
  wp (G (wanted false t29_17) (X C (.fldA 1 (.const t34_21)))) (fun t35_22 S =>
  dstepP 14 ts (G (wanted false t29_17) (X C (.load .one (.const t35_22)))) (fun t36_23 ts S =>
  wp (G (wanted false t29_17) (X C (.bin .neq (.const t32_19) (.const t36_23)))) (fun t37_24 S =>
  wp (X C (.pick (.const t29_17) (.const (.bool true)) (.const t37_24))) (fun t38_25 S =>
  wp (G (wanted false t38_25) (X C (.mov (.const t16_4)))) (fun t40_26 S =>
  wp (G (wanted false t38_25) (X C (.mov (.const t21_9)))) (fun t41_27 S =>
  wp (G (wanted false t38_25) (X C (.eq true .bool (.const t40_26) (.const t41_27)))) (fun t42_28 S =>
  wp (X C (.pick (.const t38_25) (.const (.bool true)) (.const t42_28))) (fun t43_29 S =>
  wp (G (wanted false t43_29) (X C (.load (.agg 3) (.const t5_5)))) (fun t45_30 S =>
  wp (G (wanted false t43_29) (X C (.load (.agg 3) (.const t7_10)))) (fun t46_31 S =>
  wp (G (wanted false t43_29) (X C (.call (.const (.func (.func 33) ⟨[]⟩ ⟨[]⟩)) [(.const t45_30), (.const t46_31)]))) (fun t47_32 S =>
  wp (G (wanted false t43_29) (X C (.un .not (.const t47_32)))) (fun t48_33 S =>
  wp (X C (.pick (.const t43_29) (.const (.bool true)) (.const t48_33))) (fun t49_34 S =>
  wp (G (wanted false t49_34) (X C (.mov (.const t0)))) (fun t51_35 S =>
  wp (G (wanted false t49_34) (X C (.call (.const (.func (.func 41) ⟨[]⟩ ⟨[]⟩)) [(.const t51_35)]))) (fun t52_36 S =>
  wp (G (wanted false t49_34) (X C (.eq false (.nil .func) (.const t52_36) (.const .nilFunc)))) (fun t53_37 S =>
  wp (X C (.pick (.const t49_34) (.const (.bool true)) (.const t53_37))) (fun t54_38 S =>
  okP (apartAll [0, 1, 0, 4, 12, 28, 60, 127, 255, 511, 1023, 511, 2559, 6655, 14847, 32767, 65535, 131071, 262143, 262143, 1048575, 2097151, 4194303, 8388607, 8388607, 33554431, 67108863, 134217727, 268435455, 536870911, 1073741823, 2147483647, 4294967295] ts) (fun S =>
  ifP (Wb.asBool t54_38) (fun S =>
   wp (X C (.store 1 (.const t4_1) (.const (.bool false)))) (fun _ S =>
   wp (cellV t4_1 .one) (fun t4_39 S =>
   Φ t4_39 S) S) S) (fun S =>
   wp (X C (.alloc 3 [(.int .i64 0)])) (fun t9_40 S =>
   wp (X C (.store 1 (.const t9_40) (.const (.int .i64 0)))) (fun _ S =>
   wp (X C (.call (.const (.func (.func 41) ⟨[]⟩ ⟨[]⟩)) [(.const t0)])) (fun t56_41 S =>
   rangeP C [57] (rA (bB (sR (sL (sR (sR (sR (sR (sR b38))))))))) (rB (bB (sR (sL (sR (sR (sR (sR (sR b38))))))))) (some t56_41) (((((((((((((((((((((((((((((((((((((((((((((((((((((((.leaf : Env).set 0 (some t0)).set 1 (some t1)).set 3 (some t3_0)).set 4 (some t4_1)).set 5 (some t5_5)).set 6 (some t16_4)).set 7 (some t7_10)).set 8 (some t21_9)).set 9 (some t9_40)).set 12 (some t14_2)).set 13 (some t0)).set 14 (some t14_2)).set 15 (some t15_3)).set 16 (some t16_4)).set 17 (some t19_7)).set 18 (some t18_6)).set 19 (some t19_7)).set 20 (some t20_8)).set 21 (some t21_9)).set 22 (some t0)).set 23 (some t23_11)).set 24 (some t24_12)).set 25 (some t25_13)).set 26 (some t26_14)).set 27 (some t27_15)).set 28 (some t28_16)).set 29 (some t29_17)).set 30 (some t29_17)).set 31 (some t31_18)).set 32 (some t32_19)).set 33 (some t33_20)).set 34 (some t34_21)).set 35 (some t35_22)).set 36 (some t36_23)).set 37 (some t37_24)).set 38 (some t38_25)).set 39 (some t38_25)).set 40 (some t40_26)).set 41 (some t41_27)).set 42 (some t42_28)).set 43 (some t43_29)).set 44 (some t43_29)).set 45 (some t45_30)).set 46 (some t46_31)).set 47 (some t47_32)).set 48 (some t48_33)).set 49 (some t49_34)).set 50 (some t49_34)).set 51 (some t51_35)).set 52 (some t52_36)).set 53 (some t53_37)).set 54 (some t54_38)).set 55 (some t0)).set 56 (some t56_41)) (fun S =>
    wp (X C (.load .one (.const t9_40))) (fun t102_42 S =>
    wp (X C (.load .one (.const t3_0))) (fun t103_43 S =>
    wp (X C (.nilchk (.const t103_43))) (fun t104_44 S =>
    wp (X C (.fldA 0 (.const t104_44))) (fun t105_45 S =>
    wp (X C (.load .one (.const t105_45))) (fun t106_46 S =>
    wp (X C (.len .slice (.const t106_46))) (fun t107_47 S =>
    wp (X C (.bin .eql (.const t102_42) (.const t107_47))) (fun t108_48 S =>
    wp (X C (.store 1 (.const t4_1) (.const t108_48))) (fun _ S =>
    okP (apartAll [0, 0, 2, 6, 14, 30, 63, 127] []) (fun S =>
    wp (cellV t4_1 .one) (fun t4_49 S =>
    Φ t4_49 S) S) S) S) S) S) S) S) S) S) S) (fun x S => (blockP 0 (contP (fun e S => codeP C A38 n 127 (sR (sR (sR (sR (sR (sR b38)))))) e (endP [.cell 4 .one] Φ) S) (endP [.cell 4 .one] Φ))) x (((((((((((((((((((((((((((((((((((((((((((((((((((((((.leaf : Env).set 0 (some t0)).set 1 (some t1)).set 3 (some t3_0)).set 4 (some t4_1)).set 5 (some t5_5)).set 6 (some t16_4)).set 7 (some t7_10)).set 8 (some t21_9)).set 9 (some t9_40)).set 12 (some t14_2)).set 13 (some t0)).set 14 (some t14_2)).set 15 (some t15_3)).set 16 (some t16_4)).set 17 (some t19_7)).set 18 (some t18_6)).set 19 (some t19_7)).set 20 (some t20_8)).set 21 (some t21_9)).set 22 (some t0)).set 23 (some t23_11)).set 24 (some t24_12)).set 25 (some t25_13)).set 26 (some t26_14)).set 27 (some t27_15)).set 28 (some t28_16)).set 29 (some t29_17)).set 30 (some t29_17)).set 31 (some t31_18)).set 32 (some t32_19)).set 33 (some t33_20)).set 34 (some t34_21)).set 35 (some t35_22)).set 36 (some t36_23)).set 37 (some t37_24)).set 38 (some t38_25)).set 39 (some t38_25)).set 40 (some t40_26)).set 41 (some t41_27)).set 42 (some t42_28)).set 43 (some t43_29)).set 44 (some t43_29)).set 45 (some t45_30)).set 46 (some t46_31)).set 47 (some t47_32)).set 48 (some t48_33)).set 49 (some t49_34)).set 50 (some t49_34)).set 51 (some t51_35)).set 52 (some t52_36)).set 53 (some t53_37)).set 54 (some t54_38)).set 55 (some t0)).set 56 (some t56_41)) S) S) S) S) S) S) S) S) S) S) S) S) S) S) S) S) S) S) S) S) S) S) S) S) S) S) S) S) S) S) S) S) S) S) S) S) S) S) S) S) S) S) S) S) S) S) S) S
theorem p38 (C : Tgt → List Value → M Value) (n : Nat) (Φ : Value → Hp → Prop) (t0 t1 : Value) (S : Hp) : codeP C A38 n 1 b38 (argsEnv [t0, t1] 0 .leaf) (endP [.cell 4 .one] Φ) S = P38 C n Φ t0 t1 S := by kernel_rfl
theorem g38 : T 38 = some (.go ⟨2, [.cell 4 .one], b38⟩) := by kernel_rfl
theorem x38_50_0 (C : Tgt → List Value → M Value) (n : Nat) (Φ : Value → Hp → Prop) (t0 t1 t3_0 t4_1 t5_5 t16_4 t7_10 t21_9 t9_40 t14_2 t15_3 t19_7 t18_6 t20_8 t23_11 t24_12 t25_13 t26_14 t27_15 t28_16 t29_17 t31_18 t32_19 t33_20 t34_21 t35_22 t36_23 t37_24 t38_25 t40_26 t41_27 t42_28 t43_29 t45_30 t46_31 t47_32 t48_33 t49_34 t51_35 t52_36 t53_37 t54_38 t56_41 : Value) (S : Hp) : (blockP 0 (contP (fun e S => codeP C A38 n 127 (sR (sR (sR (sR (sR (sR b38)))))) e (endP [.cell 4 .one] Φ) S) (endP [.cell 4 .one] Φ))) .ret (((((((((((((((((((((((((((((((((((((((((((((((((((((((.leaf : Env).set 0 (some t0)).set 1 (some t1)).set 3 (some t3_0)).set 4 (some t4_1)).set 5 (some t5_5)).set 6 (some t16_4)).set 7 (some t7_10)).set 8 (some t21_9)).set 9 (some t9_40)).set 12 (some t14_2)).set 13 (some t0)).set 14 (some t14_2)).set 15 (some t15_3)).set 16 (some t16_4)).set 17 (some t19_7)).set 18 (some t18_6)).set 19 (some t19_7)).set 20 (some t20_8)).set 21 (some t21_9)).set 22 (some t0)).set 23 (some t23_11)).set 24 (some t24_12)).set 25 (some t25_13)).set 26 (some t26_14)).set 27 (some t27_15)).set 28 (some t28_16)).set 29 (some t29_17)).set 30 (some t29_17)).set 31 (some t31_18)).set 32 (some t32_19)).set 33 (some t33_20)).set 34 (some t34_21)).set 35 (some t35_22)).set 36 (some t36_23)).set 37 (some t37_24)).set 38 (some t38_25)).set 39 (some t38_25)).set 40 (some t40_26)).set 41 (some t41_27)).set 42 (some t42_28)).set 43 (some t43_29)).set 44 (some t43_29)).set 45 (some t45_30)).set 46 (some t46_31)).set 47 (some t47_32)).set 48 (some t48_33)).set 49 (some t49_34)).set 50 (some t49_34)).set 51 (some t51_35)).set 52 (some t52_36)).set 53 (some t53_37)).set 54 (some t54_38)).set 55 (some t0)).set 56 (some t56_41)) S =
  wp (cellV t4_1 .one) (fun t4_50 S =>
  Φ t4_50 S) S := by kernel_rfl
attribute [irreducible] b38
theorem c38 {F : Nat → Option AFn} (hF : F 38 = some (.go ⟨2, [.cell 4 .one], b38⟩)) {n : Nat} {Φ : Value → Hp → Prop} {t0 t1 : Value} {S : Hp} (h : P38 (callN F n) n Φ t0 t1 S) : wp (callN F (n + 1) (.fn 38) [t0, t1]) Φ S := callP (A := A38) hF rfl (Eq.mpr (p38 (callN F n) n Φ t0 t1 S) h)
def B38_0 : List (Nat × List Nat) := [(42, [9, 10, 88, 89]), (8, [20971520])]
def Q38_0 (C : Tgt → List Value → M Value) (n : Nat) (KN : Hp → Prop) (KX : Ext → Hp → Prop) (t3 t4 t9 t57 : Value) (S : Hp) : Prop :=
  wp (X C (.alloc 44 [(.slice none 0 0), (.int .u64 0), (.int .u64 0)])) (fun t10_0 S =>
  wp (X C (.store 3 (.const t10_0) (.const t57))) (fun _ S =>
  wp (X C (.load .one (.const t9))) (fun t58_1 S =>
  wp (X C (.load .one (.const t3))) (fun t59_2 S =>
  wp (X C (.nilchk (.const t59_2))) (fun t60_3 S =>
  wp (X C (.fldA 0 (.const t60_3))) (fun t61_4 S =>
  wp (X C (.load .one (.const t61_4))) (fun t62_5 S =>
  wp (X C (.len .slice (.const t62_5))) (fun t63_6 S =>
  wp (X C (.bin .geq (.const t58_1) (.const t63_6))) (fun t64_7 S =>
  wp (G (wanted false t64_7) (X C (.load (.agg 3) (.const t10_0)))) (fun t66_8 S =>
  wp (G (wanted false t64_7) (X C (.load .one (.const t3)))) (fun t67_9 S =>
  wp (G (wanted false t64_7) (X C (.nilchk (.const t67_9)))) (fun t68_10 S =>
  wp (G (wanted false t64_7) (X C (.fldA 0 (.const t68_10)))) (fun t69_11 S =>
  wp (G (wanted false t64_7) (X C (.load .one (.const t69_11)))) (fun t70_12 S =>
  wp (G (wanted false t64_7) (X C (.load .one (.const t9)))) (fun t71_13 S =>
  wp (G (wanted false t64_7) (X C (.ixA 3 (.const t70_12) (.const t71_13)))) (fun t72_14 S =>
  wp (G (wanted false t64_7) (X C (.load (.agg 3) (.const t72_14)))) (fun t73_15 S =>
  wp (G (wanted false t64_7) (X C (.call (.const (.func (.func 33) ⟨[]⟩ ⟨[]⟩)) [(.const t66_8), (.const t73_15)]))) (fun t74_16 S =>
  wp (G (wanted false t64_7) (X C (.un .not (.const t74_16)))) (fun t75_17 S =>
  wp (X C (.pick (.const t64_7) (.const (.bool true)) (.const t75_17))) (fun t76_18 S =>
  wp (G (wanted false t76_18) (X C (.fldA 0 (.const t10_0)))) (fun t78_19 S =>
  wp (G (wanted false t76_18) (X C (.load .one (.const t78_19)))) (fun t79_20 S =>
  dstepP 22 [] (G (wanted false t76_18) (X C (.call (.const (.func (.func 86) ⟨[]⟩ ⟨[]⟩)) [(.const t79_20)]))) (fun t80_21 ts S =>
  wp (G (wanted false t76_18) (X C (.fldA 0 (.const t10_0)))) (fun t81_22 S =>
  dstepP 24 ts (G (wanted false t76_18) (X C (.load .one (.const t81_22)))) (fun t82_23 ts S =>
  wp (G (wanted false t76_18) (X C (.call (.const (.func (.func 91) ⟨[]⟩ ⟨[]⟩)) [(.const t82_23)]))) (fun t83_24 S =>
  wp (G (wanted false t76_18) (X C (.bin .neq (.const t80_21) (.const t83_24)))) (fun t84_25 S =>
  wp (X C (.pick (.const t76_18) (.const (.bool true)) (.const t84_25))) (fun t85_26 S =>
  okP (apartAll [0, 0, 2, 6, 14, 30, 63, 127, 255, 255, 767, 1791, 3839, 255, 16127, 32511, 65535, 131071, 262143, 524287, 1048575, 2097151, 4194303, 1048575, 9437183, 33554431, 67108863, 134217727] ts) (fun S =>
  ifP (Wb.asBool t85_26) (fun S =>
   wp (X C (.store 1 (.const t4) (.const (.bool false)))) (fun _ S =>
   KX .ret S) S) (fun S =>
   wp (X C (.fldA 0 (.const t10_0))) (fun t86_27 S =>
   wp (X C (.load .one (.const t86_27))) (fun t87_28 S =>
   wp (X C (.len .slice (.const t87_28))) (fun t88_29 S =>
   ∃ I30 : Nat → Value → Value → Value → Value → Hp → Prop, (∃ m, m < n ∧ I30 m t9 t10_0 t88_29 (.int .i64 0) S) ∧ ∀ (m30 : Nat) (S : Hp) (t9_31 t10_32 t88_33 t89_34 : Value), I30 m30 t9_31 t10_32 t88_33 t89_34 S →
    wp (X C (.bin .lss (.const t89_34) (.const t88_33))) (fun t90_35 S =>
    ifP (Wb.asBool t90_35) (fun S =>
     wp (X C (.fldA 0 (.const t10_32))) (fun t92_36 S =>
     wp (X C (.load .one (.const t92_36))) (fun t93_37 S =>
     wp (X C (.ixA 1 (.const t93_37) (.const t89_34))) (fun t95_38 S =>
     wp (X C (.load .one (.const t95_38))) (fun t96_39 S =>
     wp (X C (.bin .add (.const t96_39) (.const (.int .u8 1)))) (fun t97_40 S =>
     wp (X C (.ixA 1 (.const t93_37) (.const t89_34))) (fun t98_41 S =>
     wp (X C (.store 1 (.const t98_41) (.const t97_40))) (fun _ S =>
     wp (X C (.bin .add (.const t89_34) (.const (.int .i64 1)))) (fun t99_42 S =>
     ∃ j30, j30 < m30 ∧ I30 j30 t9_31 t10_32 t88_33 t99_42 S) S) S) S) S) S) S) S) S) (fun S =>
     wp (X C (.load .one (.const t9_31))) (fun t100_43 S =>
     wp (X C (.bin .add (.const t100_43) (.const (.int .i64 1)))) (fun t101_44 S =>
     wp (X C (.store 1 (.const t9_31) (.const t101_44))) (fun _ S =>
     KN S) S) S) S) S) S) S) S) S) S) S) S) S) S) S) S) S) S) S) S) S) S) S) S) S) S) S) S) S) S) S) S) S) S) S) S) S) S) S
theorem q38_0 (C : Tgt → List Value → M Value) (n : Nat) (KN : Hp → Prop) (KX : Ext → Hp → Prop) (t3 t4 t9 t57 : Value) (S : Hp) : codeP C B38_0 n 1 (rA (bB (sR (sL (sR (sR (sR (sR (sR b38))))))))) (zipSet [57] [t57] ((((.leaf : Env).set 3 (some t3)).set 4 (some t4)).set 9 (some t9))) (contP (fun e1 S1 => codeP C B38_0 n 1 (rB (bB (sR (sL (sR (sR (sR (sR (sR b38))))))))) e1 (contP (fun _ S2 => KN S2) (fun x _ S2 => KX x S2)) S1) (fun _ _ _ => False)) S = Q38_0 C n KN KX t3 t4 t9 t57 S := by kernel_rfl
noncomputable def b39 : ACode := bodyOf (T 39)
def A39 : List (Nat × List Nat) := []
def P39 (C : Tgt → List Value → M Value) (n : Nat) (Φ : Value → Hp → Prop) (t0 : Value) (S : Hp) : Prop :=
  wp (X C (.alloc 44 [(.slice none 0 0), (.int .u64 0), (.int .u64 0)])) (fun t2_0 S =>
  wp (X C (.alloc 4 [(.bool false)])) (fun t3_1 S =>
  wp (X C (.call (.const (.func (.func 41) ⟨[]⟩ ⟨[]⟩)) [(.const t0)])) (fun t6_2 S =>
  rangeP C [7] (rA (bB (sR (sL (sR b39))))) (rB (bB (sR (sL (sR b39))))) (some t6_2) ((((((.leaf : Env).set 0 (some t0)).set 2 (some t2_0)).set 3 (some t3_1)).set 5 (some t0)).set 6 (some t6_2)) (fun S =>
   wp (X C (.build [(.slice none 0 0), (.int .u64 0), (.int .u64 0)] [])) (fun t9_3 S =>
   wp (X C (.store 3 (.const t2_0) (.const t9_3))) (fun _ S =>
   wp (X C (.store 1 (.const t3_1) (.const (.bool false)))) (fun _ S =>
   wp (cellV t2_0 (.agg 3)) (fun t2_4 S =>
   wp (cellV t3_1 .one) (fun t3_5 S =>
   Φ (.tuple ⟨[t2_4, t3_5]⟩) S) S) S) S) S) S) (fun x S => (blockP 0 (contP (fun e S => codeP C A39 n 7 (sR (sR b39)) e (endP [.cell 2 (.agg 3), .cell 3 .one] Φ) S) (endP [.cell 2 (.agg 3), .cell 3 .one] Φ))) x ((((((.leaf : Env).set 0 (some t0)).set 2 (some t2_0)).set 3 (some t3_1)).set 5 (some t0)).set 6 (some t6_2)) S) S) S) S) S
theorem p39 (C : Tgt → List Value → M Value) (n : Nat) (Φ : Value → Hp → Prop) (t0 : Value) (S : Hp) : codeP C A39 n 1 b39 (argsEnv [t0] 0 .leaf) (endP [.cell 2 (.agg 3), .cell 3 .one] Φ) S = P39 C n Φ t0 S := by kernel_rfl
theorem g39 : T 39 = some (.go ⟨1, [.cell 2 (.agg 3), .cell 3 .one], b39⟩) := by kernel_rfl
theorem x39_6_0 (C : Tgt → List Value → M Value) (n : Nat) (Φ : Value → Hp → Prop) (t0 t2_0 t3_1 t6_2 : Value) (S : Hp) : (blockP 0 (contP (fun e S => codeP C A39 n 7 (sR (sR b39)) e (endP [.cell 2 (.agg 3), .cell 3 .one] Φ) S) (endP [.cell 2 (.agg 3), .cell 3 .one] Φ))) .ret ((((((.leaf : Env).set 0 (some t0)).set 2 (some t2_0)).set 3 (some t3_1)).set 5 (some t0)).set 6 (some t6_2)) S =
  wp (cellV t2_0 (.agg 3)) (fun t2_6 S =>
  wp (cellV t3_1 .one) (fun t3_7 S =>
  Φ (.tuple ⟨[t2_6, t3_7]⟩) S) S) S := by kernel_rfl
attribute [irreducible] b39
theorem c39 {F : Nat → Option AFn} (hF : F 39 = some (.go ⟨1, [.cell 2 (.agg 3), .cell 3 .one], b39⟩)) {n : Nat} {Φ : Value → Hp → Prop} {t0 : Value} {S : Hp} (h : P39 (callN F n) n Φ t0 S) : wp (callN F (n + 1) (.fn 39) [t0]) Φ S := callP (A := A39) hF rfl (Eq.mpr (p39 (callN F n) n Φ t0 S) h)
def B39_0 : List (Nat × List Nat) := []
def Q39_0 (C : Tgt → List Value → M Value) (n : Nat) (KN : Hp → Prop) (KX : Ext → Hp → Prop) (t2 t3 t7 : Value) (S : Hp) : Prop :=
  wp (X C (.alloc 44 [(.slice none 0 0), (.int .u64 0), (.int .u64 0)])) (fun t4_0 S =>
  wp (X C (.store 3 (.const t4_0) (.const t7))) (fun _ S =>
  wp (X C (.load (.agg 3) (.const t4_0))) (fun t8_1 S =>
  wp (X C (.store 3 (.const t2) (.const t8_1))) (fun _ S =>
  wp (X C (.store 1 (.const t3) (.const (.bool true)))) (fun _ S =>
  KX .ret S) S) S) S) S) S
theorem q39_0 (C : Tgt → List Value → M Value) (n : Nat) (KN : Hp → Prop) (KX : Ext → Hp → Prop) (t2 t3 t7 : Value) (S : Hp) : codeP C B39_0 n 1 (rA (bB (sR (sL (sR b39))))) (zipSet [7] [t7] (((.leaf : Env).set 2 (some t2)).set 3 (some t3))) (contP (fun e1 S1 => codeP C B39_0 n 1 (rB (bB (sR (sL (sR b39))))) e1 (contP (fun _ S2 => KN S2) (fun x _ S2 => KX x S2)) S1) (fun _ _ _ => False)) S = Q39_0 C n KN KX t2 t3 t7 S := by kernel_rfl
noncomputable def b40 : ACode := bodyOf (T 40)
def A40 : List (Nat × List Nat) := []
def P40 (C : Tgt → List Value → M Value) (n : Nat) (Φ : Value → Hp → Prop) (t0 : Value) (S : Hp) : Prop :=
  wp (X C (.eq false (.nil .ptr) (.const t0) (.const (.pointer none)))) (fun t4_0 S =>
  ifP (Wb.asBool t4_0) (fun S =>
   Φ (.int .i64 0) S) (fun S =>
   wp (X C (.nilchk (.const t0))) (fun t6_1 S =>
   wp (X C (.fldA 0 (.const t6_1))) (fun t7_2 S =>
   wp (X C (.load .one (.const t7_2))) (fun t8_3 S =>
   wp (X C (.len .slice (.const t8_3))) (fun t9_4 S =>
   Φ t9_4 S) S) S) S) S) S) S
theorem p40 (C : Tgt → List Value → M Value) (n : Nat) (Φ : Value → Hp → Prop) (t0 : Value) (S : Hp) : codeP C A40 n 1 b40 (argsEnv [t0] 0 .leaf) (endP [.tmp 2] Φ) S = P40 C n Φ t0 S := by kernel_rfl
theorem g40 : T 40 = some (.go ⟨1, [.tmp 2], b40⟩) := by kernel_rfl
attribute [irreducible] b40
theorem c40 {F : Nat → Option AFn} (hF : F 40 = some (.go ⟨1, [.tmp 2], b40⟩)) {n : Nat} {Φ : Value → Hp → Prop} {t0 : Value} {S : Hp} (h : P40 (callN F n) n Φ t0 S) : wp (callN F (n + 1) (.fn 40) [t0]) Φ S := callP (A := A40) hF rfl (Eq.mpr (p40 (callN F n) n Φ t0 S) h)
noncomputable def b41 : ACode := bodyOf (T 41)
def A41 : List (Nat × List Nat) := []
def P41 (C : Tgt → List Value → M Value) (n : Nat) (Φ : Value → Hp → Prop) (t0 : Value) (S : Hp) : Prop :=
  wp (X C (.box 38 (.const t0))) (fun t1_0 S =>
  wp (X C (.mkfn 92 [] [(.const t1_0)])) (fun t3_1 S =>
  Φ t3_1 S) S) S
theorem p41 (C : Tgt → List Value → M Value) (n : Nat) (Φ : Value → Hp → Prop) (t0 : Value) (S : Hp) : codeP C A41 n 1 b41 (argsEnv [t0] 0 .leaf) (endP [.tmp 2] Φ) S = P41 C n Φ t0 S := by kernel_rfl
theorem g41 : T 41 = some (.go ⟨1, [.tmp 2], b41⟩) := by kernel_rfl
attribute [irreducible] b41
theorem c41 {F : Nat → Option AFn} (hF : F 41 = some (.go ⟨1, [.tmp 2], b41⟩)) {n : Nat} {Φ : Value → Hp → Prop} {t0 : Value} {S : Hp} (h : P41 (callN F n) n Φ t0 S) : wp (callN F (n + 1) (.fn 41) [t0]) Φ S := callP (A := A41) hF rfl (Eq.mpr (p41 (callN F n) n Φ t0 S) h)
noncomputable def b86 : ACode := bodyOf (T 86)
def A86 : List (Nat × List Nat) := []
def P86 (C : Tgt → List Value → M Value) (n : Nat) (Φ : Value → Hp → Prop) (t0 : Value) (S : Hp) : Prop :=
  wp (X C (.len .slice (.const t0))) (fun t4_0 S =>
  wp (X C (.max [(.const t4_0), (.const (.int .i64 64))])) (fun t5_1 S =>
  Φ t5_1 S) S) S
theorem p86 (C : Tgt → List Value → M Value) (n : Nat) (Φ : Value → Hp → Prop) (t0 : Value) (S : Hp) : codeP C A86 n 1 b86 (argsEnv [t0] 0 .leaf) (endP [.tmp 2] Φ) S = P86 C n Φ t0 S := by kernel_rfl
theorem g86 : T 86 = some (.go ⟨1, [.tmp 2], b86⟩) := by kernel_rfl
attribute [irreducible] b86
theorem c86 {F : Nat → Option AFn} (hF : F 86 = some (.go ⟨1, [.tmp 2], b86⟩)) {n : Nat} {Φ : Value → Hp → Prop} {t0 : Value} {S : Hp} (h : P86 (callN F n) n Φ t0 S) : wp (callN F (n + 1) (.fn 86) [t0]) Φ S := callP (A := A86) hF rfl (Eq.mpr (p86 (callN F n) n Φ t0 S) h)
noncomputable def b87 : ACode := bodyOf (T 87)
def A87 : List (Nat × List Nat) := []
def P87 (C : Tgt → List Value → M Value) (n : Nat) (Φ : Value → Hp → Prop) (t0 : Value) (S : Hp) : Prop :=
  wp (X C (.bin .geq (.const t0) (.const (.int .i64 1)))) (fun t4_0 S =>
  andP true t4_0 (fun K S =>
   wp (X C (.bin .leq (.const t0) (.const (.int .i64 256)))) (fun t7_1 S =>
   K t7_1 S) S) (fun t8_2 S =>
  Φ t8_2 S) S) S
theorem p87 (C : Tgt → List Value → M Value) (n : Nat) (Φ : Value → Hp → Prop) (t0 : Value) (S : Hp) : codeP C A87 n 1 b87 (argsEnv [t0] 0 .leaf) (endP [.tmp 2] Φ) S = P87 C n Φ t0 S := by kernel_rfl
theorem g87 : T 87 = some (.go ⟨1, [.tmp 2], b87⟩) := by kernel_rfl
attribute [irreducible] b87
theorem c87 {F : Nat → Option AFn} (hF : F 87 = some (.go ⟨1, [.tmp 2], b87⟩)) {n : Nat} {Φ : Value → Hp → Prop} {t0 : Value} {S : Hp} (h : P87 (callN F n) n Φ t0 S) : wp (callN F (n + 1) (.fn 87) [t0]) Φ S := callP (A := A87) hF rfl (Eq.mpr (p87 (callN F n) n Φ t0 S) h)
noncomputable def b88 : ACode := bodyOf (T 88)
def A88 : List (Nat × List Nat) := []
def P88 (C : Tgt → List Value → M Value) (n : Nat) (Φ : Value → Hp → Prop) (t0 : Value) (S : Hp) : Prop :=
  wp (X C (.box 44 (.const t0))) (fun t1_0 S =>
  wp (X C (.alloc 44 [(.slice none 0 0), (.int .u64 0), (.int .u64 0)])) (fun t2_1 S =>
  wp (X C (.fldA 0 (.const t1_0))) (fun t4_2 S =>
  wp (X C (.load .one (.const t4_2))) (fun t5_3 S =>
  wp (X C (.len .slice (.const t5_3))) (fun t6_4 S =>
  wp (X C (.mkslice 5 1 1 [(.int .u8 0)] (.const t6_4) (.const t6_4))) (fun t7_5 S =>
  wp (X C (.fldA 0 (.const t1_0))) (fun t9_6 S =>
  wp (X C (.load .one (.const t9_6))) (fun t10_7 S =>
  wp (X C (.copy 1 (.const t7_5) (.const t10_7))) (fun t11_8 S =>
  wp (X C (.fldA 0 (.const t1_0))) (fun t13_9 S =>
  wp (X C (.store 1 (.const t13_9) (.const t7_5))) (fun _ S =>
  wp (X C (.load (.agg 3) (.const t1_0))) (fun t14_10 S =>
  wp (X C (.store 3 (.const t2_1) (.const t14_10))) (fun _ S =>
  wp (cellV t2_1 (.agg 3)) (fun t2_11 S =>
  Φ t2_11 S) S) S) S) S) S) S) S) S) S) S) S) S) S) S
theorem p88 (C : Tgt → List Value → M Value) (n : Nat) (Φ : Value → Hp → Prop) (t0 : Value) (S : Hp) : codeP C A88 n 1 b88 (argsEnv [t0] 0 .leaf) (endP [.cell 2 (.agg 3)] Φ) S = P88 C n Φ t0 S := by kernel_rfl
theorem g88 : T 88 = some (.go ⟨1, [.cell 2 (.agg 3)], b88⟩) := by kernel_rfl
attribute [irreducible] b88
theorem c88 {F : Nat → Option AFn} (hF : F 88 = some (.go ⟨1, [.cell 2 (.agg 3)], b88⟩)) {n : Nat} {Φ : Value → Hp → Prop} {t0 : Value} {S : Hp} (h : P88 (callN F n) n Φ t0 S) : wp (callN F (n + 1) (.fn 88) [t0]) Φ S := callP (A := A88) hF rfl (Eq.mpr (p88 (callN F n) n Φ t0 S) h)
noncomputable def b89 : ACode := bodyOf (T 89)
def A89 : List (Nat × List Nat) := []
def P89 (C : Tgt → List Value → M Value) (n : Nat) (Φ : Value → Hp → Prop) (t0 t1 : Value) (S : Hp) : Prop :=
  wp (X C (.nilchk (.const t0))) (fun t6_0 S =>
  wp (X C (.fldA 1 (.const t6_0))) (fun t7_1 S =>
  wp (X C (.load .one (.const t7_1))) (fun t8_2 S =>
  wp (X C (.bin .add (.const t8_2) (.const t1))) (fun t10_3 S =>
  wp (X C (.nilchk (.const t0))) (fun t12_4 S =>
  wp (X C (.fldA 0 (.const t12_4))) (fun t13_5 S =>
  wp (X C (.load .one (.const t13_5))) (fun t14_6 S =>
  wp (X C (.len .slice (.const t14_6))) (fun t15_7 S =>
  wp (X C (.bin .rem (.const t10_3) (.const t15_7))) (fun t16_8 S =>
  Φ t16_8 S) S) S) S) S) S) S) S) S) S
theorem p89 (C : Tgt → List Value → M Value) (n : Nat) (Φ : Value → Hp → Prop) (t0 t1 : Value) (S : Hp) : codeP C A89 n 1 b89 (argsEnv [t0, t1] 0 .leaf) (endP [.tmp 4] Φ) S = P89 C n Φ t0 t1 S := by kernel_rfl
theorem g89 : T 89 = some (.go ⟨2, [.tmp 4], b89⟩) := by kernel_rfl
attribute [irreducible] b89
theorem c89 {F : Nat → Option AFn} (hF : F 89 = some (.go ⟨2, [.tmp 4], b89⟩)) {n : Nat} {Φ : Value → Hp → Prop} {t0 t1 : Value} {S : Hp} (h : P89 (callN F n) n Φ t0 t1 S) : wp (callN F (n + 1) (.fn 89) [t0, t1]) Φ S := callP (A := A89) hF rfl (Eq.mpr (p89 (callN F n) n Φ t0 t1 S) h)
noncomputable def b92 : ACode := bodyOf (T 92)
def A92 : List (Nat × List Nat) := [(200, [146]), (6, [0, 1, 3])]
def P92 (C : Tgt → List Value → M Value) (n : Nat) (Φ : Value → Hp → Prop) (t0 t1 : Value) (S : Hp) : Prop :=
  ∃ I0 : Nat → Value → Value → Value → Hp → Prop, (∃ m, m < n ∧ I0 m t0 t1 (.int .i64 0) S) ∧ ∀ (m0 : Nat) (S : Hp) (t0_1 t1_2 t3_3 : Value), I0 m0 t0_1 t1_2 t3_3 S →
   wp (X C (.load .one (.const t1_2))) (fun t5_4 S =>
   wp (X C (.call (.const (.func (.func 29) ⟨[]⟩ ⟨[]⟩)) [(.const t5_4)])) (fun t6_5 S =>
   wp (X C (.bin .lss (.const t3_3) (.const t6_5))) (fun t7_6 S =>
   ifP (Wb.asBool t7_6) (fun S =>
    dstepP 1 [] (X C (.load .one (.const t1_2))) (fun t11_7 ts S =>
    wp (X C (.nilchk (.const t11_7))) (fun t12_8 S =>
    wp (X C (.fldA 0 (.const t12_8))) (fun t13_9 S =>
    dstepP 4 ts (X C (.load .one (.const t13_9))) (fun t14_10 ts S =>
    wp (X C (.load .one (.const t1_2))) (fun t15_11 S =>
    dstepP 7 ts (X C (.call (.const (.func (.func 89) ⟨[]⟩ ⟨[]⟩)) [(.const t15_11), (.const t3_3)])) (fun t17_12 ts S =>
    wp (X C (.ixA 3 (.const t14_10) (.const t17_12))) (fun t18_13 S =>
    wp (X C (.load (.agg 3) (.const t18_13))) (fun t19_14 S =>
    wp (X C (.call (.const (.func (.func 88) ⟨[]⟩ ⟨[]⟩)) [(.const t19_14)])) (fun t20_15 S =>
    wp (X C (.call (.const t0_1) [(.const t20_15)])) (fun t21_16 S =>
    wp (X C (.un .not (.const t21_16))) (fun t22_17 S =>
    okP (apartAll [0, 0, 2, 6, 14, 0, 0, 96, 254, 510, 1022, 2047, 4095] ts) (fun S =>
    ifP (Wb.asBool t22_17) (fun S =>
     Φ (.tuple ⟨[]⟩) S) (fun S =>
     wp (X C (.bin .add (.const t3_3) (.const (.int .i64 1)))) (fun t9_18 S =>
     ∃ j0, j0 < m0 ∧ I0 j0 t0_1 t1_2 t9_18 S) S) S) S) S) S) S) S) S) S) S) S) S) S) S) (fun S =>
    Φ (.tuple ⟨[]⟩) S) S) S) S) S
theorem p92 (C : Tgt → List Value → M Value) (n : Nat) (Φ : Value → Hp → Prop) (t0 t1 : Value) (S : Hp) : codeP C A92 n 1 b92 (argsEnv [t0, t1] 0 .leaf) (endP [] Φ) S = P92 C n Φ t0 t1 S := by kernel_rfl
theorem g92 : T 92 = some (.go ⟨2, [], b92⟩) := by kernel_rfl
attribute [irreducible] b92
theorem c92 {F : Nat → Option AFn} (hF : F 92 = some (.go ⟨2, [], b92⟩)) {n : Nat} {Φ : Value → Hp → Prop} {t0 t1 : Value} {S : Hp} (h : P92 (callN F n) n Φ t0 t1 S) : wp (callN F (n + 1) (.fn 92) [t0, t1]) Φ S := callP (A := A92) hF rfl (Eq.mpr (p92 (callN F n) n Φ t0 t1 S) h)
noncomputable def b30 : ACode := bodyOf (T 30)
def A30 : List (Nat × List Nat) := []
def P30 (C : Tgt → List Value → M Value) (n : Nat) (Φ : Value → Hp → Prop) (t0 : Value) (S : Hp) : Prop :=
  wp (X C (.bin .gtr (.const t0) (.const (.int .i64 0)))) (fun t4_0 S =>
  andP true t4_0 (fun K S =>
   wp (X C (.bin .lss (.const t0) (.const (.int .i64 257)))) (fun t7_1 S =>
   K t7_1 S) S) (fun t8_2 S =>
  Φ t8_2 S) S) S
theorem p30 (C : Tgt → List Value → M Value) (n : Nat) (Φ : Value → Hp → Prop) (t0 : Value) (S : Hp) : codeP C A30 n 1 b30 (argsEnv [t0] 0 .leaf) (endP [.tmp 2] Φ) S = P30 C n Φ t0 S := by kernel_rfl
theorem g30 : T 30 = some (.go ⟨1, [.tmp 2], b30⟩) := by kernel_rfl
attribute [irreducible] b30
theorem c30 {F : Nat → Option AFn} (hF : F 30 = some (.go ⟨1, [.tmp 2], b30⟩)) {n : Nat} {Φ : Value → Hp → Prop} {t0 : Value} {S : Hp} (h : P30 (callN F n) n Φ t0 S) : wp (callN F (n + 1) (.fn 30) [t0]) Φ S := callP (A := A30) hF rfl (Eq.mpr (p30 (callN F n) n Φ t0 S) h)
noncomputable def b31 : ACode := bodyOf (T 31)
def A31 : List (Nat × List Nat) := [(62, [482])]
def P31 (C : Tgt → List Value → M Value) (n : Nat) (Φ : Value → Hp → Prop) (t0 t1 : Value) (S : Hp) : Prop :=
  wp (X C (.box 44 (.const t1))) (fun t3_0 S =>
  wp (X C (.fldA 0 (.const t3_0))) (fun t5_1 S =>
  wp (X C (.load .one (.const t5_1))) (fun t6_2 S =>
  wp (X C (.len .slice (.const t6_2))) (fun t7_3 S =>
  wp (X C (.bin .gtr (.const t7_3) (.const (.int .i64 1600)))) (fun t8_4 S =>
  ifP (Wb.asBool t8_4) (fun S =>
   Φ (.int .i64 3) S) (fun S =>
   wp (X C (.nilchk (.const t0))) (fun t10_5 S =>
   wp (X C (.fldA 0 (.const t10_5))) (fun t11_6 S =>
   wp (X C (.load .one (.const t11_6))) (fun t12_7 S =>
   wp (X C (.len .slice (.const t12_7))) (fun t13_8 S =>
   wp (X C (.nilchk (.const t0))) (fun t15_9 S =>
   wp (X C (.fldA 1 (.const t15_9))) (fun t16_10 S =>
   wp (X C (.load .one (.const t16_10))) (fun t17_11 S =>
   wp (X C (.bin .geq (.const t13_8) (.const t17_11))) (fun t18_12 S =>
   ifP (Wb.asBool t18_12) (fun S =>
    Φ (.int .i64 9) S) (fun S =>
    wp (X C (.bslice 5 0 [] [])) (fun t19_13 S =>
    wp (X C (.fldA 0 (.const t3_0))) (fun t20_14 S =>
    wp (X C (.load .one (.const t20_14))) (fun t21_15 S =>
    wp (X C (.app 1 1 5 (.const t19_13) (.const t21_15))) (fun t22_16 S =>
    wp (X C (.fldA 0 (.const t3_0))) (fun t23_17 S =>
    wp (X C (.store 1 (.const t23_17) (.const t22_16))) (fun _ S =>
    dstepP 1 [] (X C (.bslice 44 0 [] [])) (fun t25_18 ts S =>
    wp (X C (.nilchk (.const t0))) (fun t27_19 S =>
    wp (X C (.fldA 0 (.const t27_19))) (fun t28_20 S =>
    dstepP 5 ts (X C (.load .one (.const t28_20))) (fun t29_21 ts S =>
    dstepP 6 ts (X C (.app 3 40 44 (.const t25_18) (.const t29_21))) (fun t30_22 ts S =>
    dstepP 7 ts (X C (.load (.agg 3) (.const t3_0))) (fun t31_23 ts S =>
    dstepP 8 ts (X C (.bslice 44 1 [(.slice none 0 0), (.int .u64 0), (.int .u64 0)] [(0, 3, (.const t31_23))])) (fun t32_24 ts S =>
    wp (X C (.app 3 40 44 (.const t30_22) (.const t32_24))) (fun t33_25 S =>
    wp (X C (.nilchk (.const t0))) (fun t34_26 S =>
    wp (X C (.fldA 0 (.const t34_26))) (fun t35_27 S =>
    wp (X C (.store 1 (.const t35_27) (.const t33_25))) (fun _ S =>
    okP (apartAll [0, 0, 0, 4, 12, 28, 62, 0, 128, 510, 1023, 2047, 4095] ts) (fun S =>
    Φ (.int .i64 0) S) S) S) S) S) S) S) S) S) S) S) S) S) S) S) S) S) S) S) S) S) S) S) S) S) S) S) S) S) S) S) S) S) S
theorem p31 (C : Tgt → List Value → M Value) (n : Nat) (Φ : Value → Hp → Prop) (t0 t1 : Value) (S : Hp) : codeP C A31 n 1 b31 (argsEnv [t0, t1] 0 .leaf) (endP [.tmp 4] Φ) S = P31 C n Φ t0 t1 S := by kernel_rfl
theorem g31 : T 31 = some (.go ⟨2, [.tmp 4], b31⟩) := by kernel_rfl
attribute [irreducible] b31
theorem c31 {F : Nat → Option AFn} (hF : F 31 = some (.go ⟨2, [.tmp 4], b31⟩)) {n : Nat} {Φ : Value → Hp → Prop} {t0 t1 : Value} {S : Hp} (h : P31 (callN F n) n Φ t0 t1 S) : wp (callN F (n + 1) (.fn 31) [t0, t1]) Φ S := callP (A := A31) hF rfl (Eq.mpr (p31 (callN F n) n Φ t0 t1 S) h)
noncomputable def b32 : ACode := bodyOf (T 32)
def A32 : List (Nat × List Nat) := []
def P32 (C : Tgt → List Value → M Value) (n : Nat) (Φ : Value → Hp → Prop) (t0 : Value) (S : Hp) : Prop :=
  wp (X C (.alloc 44 [(.slice none 0 0), (.int .u64 0), (.int .u64 0)])) (fun t2_0 S =>
  wp (X C (.call (.const (.func (.func 90) ⟨[]⟩ ⟨[]⟩)) [(.const t0)])) (fun t8_1 S =>
  wp (X C (.ext (.const t8_1) 0)) (fun t9_2 S =>
  wp (X C (.ext (.const t8_1) 1)) (fun t10_3 S =>
  wp (X C (.alloc 44 [(.slice none 0 0), (.int .u64 0), (.int .u64 0)])) (fun t4_4 S =>
  wp (X C (.store 3 (.const t4_4) (.const t9_2))) (fun _ S =>
  ifP (Wb.asBool t10_3) (fun S =>
   wp (X C (.nilchk (.const t0))) (fun t14_5 S =>
   wp (X C (.fldA 0 (.const t14_5))) (fun t15_6 S =>
   wp (X C (.load .one (.const t15_6))) (fun t16_7 S =>
   wp (X C (.slc 3 (.const t16_7) (some (.const (.int .i64 1))) none none)) (fun t17_8 S =>
   wp (X C (.nilchk (.const t0))) (fun t18_9 S =>
   wp (X C (.fldA 0 (.const t18_9))) (fun t19_10 S =>
   wp (X C (.store 1 (.const t19_10) (.const t17_8))) (fun _ S =>
   wp (X C (.load (.agg 3) (.const t4_4))) (fun t20_11 S =>
   wp (X C (.store 3 (.const t2_0) (.const t20_11))) (fun _ S =>
   wp (cellV t2_0 (.agg 3)) (fun t2_12 S =>
   Φ (.tuple ⟨[t2_12, t10_3]⟩) S) S) S) S) S) S) S) S) S) S) S) (fun S =>
   wp (X C (.load (.agg 3) (.const t4_4))) (fun t20_13 S =>
   wp (X C (.store 3 (.const t2_0) (.const t20_13))) (fun _ S =>
   wp (cellV t2_0 (.agg 3)) (fun t2_14 S =>
   Φ (.tuple ⟨[t2_14, t10_3]⟩) S) S) S) S) S) S) S) S) S) S) S
theorem p32 (C : Tgt → List Value → M Value) (n : Nat) (Φ : Value → Hp → Prop) (t0 : Value) (S : Hp) : codeP C A32 n 1 b32 (argsEnv [t0] 0 .leaf) (endP [.cell 2 (.agg 3), .tmp 3] Φ) S = P32 C n Φ t0 S := by kernel_rfl
theorem g32 : T 32 = some (.go ⟨1, [.cell 2 (.agg 3), .tmp 3], b32⟩) := by kernel_rfl
attribute [irreducible] b32
theorem c32 {F : Nat → Option AFn} (hF : F 32 = some (.go ⟨1, [.cell 2 (.agg 3), .tmp 3], b32⟩)) {n : Nat} {Φ : Value → Hp → Prop} {t0 : Value} {S : Hp} (h : P32 (callN F n) n Φ t0 S) : wp (callN F (n + 1) (.fn 32) [t0]) Φ S := callP (A := A32) hF rfl (Eq.mpr (p32 (callN F n) n Φ t0 S) h)
noncomputable def b33 : ACode := bodyOf (T 33)
def A33 : List (Nat × List Nat) := []
def P33 (C : Tgt → List Value → M Value) (n : Nat) (Φ : Value → Hp → Prop) (t0 t1 : Value) (S : Hp) : Prop :=
  wp (X C (.box 44 (.const t0))) (fun t2_0 S =>
  wp (X C (.box 44 (.const t1))) (fun t3_1 S =>
  wp (X C (.fldA 0 (.const t2_0))) (fun t5_2 S =>
  wp (X C (.load .one (.const t5_2))) (fun t6_3 S =>
  wp (X C (.conv .b2str (.const t6_3))) (fun t7_4 S =>
  wp (X C (.fldA 0 (.const t3_1))) (fun t8_5 S =>
  wp (X C (.load .one (.const t8_5))) (fun t9_6 S =>
  wp (X C (.conv .b2str (.const t9_6))) (fun t10_7 S =>
  wp (X C (.bin .eql (.const t7_4) (.const t10_7))) (fun t11_8 S =>
  andP true t11_8 (fun K S =>
   wp (X C (.fldA 1 (.const t2_0))) (fun t13_9 S =>
   wp (X C (.load .one (.const t13_9))) (fun t14_10 S =>
   wp (X C (.fldA 1 (.const t3_1))) (fun t15_11 S =>
   wp (X C (.load .one (.const t15_11))) (fun t16_12 S =>
   wp (X C (.bin .eql (.const t14_10) (.const t16_12))) (fun t17_13 S =>
   K t17_13 S) S) S) S) S) S) (fun t18_14 S =>
  andP true t18_14 (fun K S =>
   wp (X C (.fldA 2 (.const t2_0))) (fun t20_15 S =>
   wp (X C (.load .one (.const t20_15))) (fun t21_16 S =>
   wp (X C (.fldA 2 (.const t3_1))) (fun t22_17 S =>
   wp (X C (.load .one (.const t22_17))) (fun t23_18 S =>
   wp (X C (.bin .eql (.const t21_16) (.const t23_18))) (fun t24_19 S =>
   K t24_19 S) S) S) S) S) S) (fun t25_20 S =>
  Φ t25_20 S) S) S) S) S) S) S) S) S) S) S) S
theorem p33 (C : Tgt → List Value → M Value) (n : Nat) (Φ : Value → Hp → Prop) (t0 t1 : Value) (S : Hp) : codeP C A33 n 1 b33 (argsEnv [t0, t1] 0 .leaf) (endP [.tmp 4] Φ) S = P33 C n Φ t0 t1 S := by kernel_rfl
theorem g33 : T 33 = some (.go ⟨2, [.tmp 4], b33⟩) := by kernel_rfl
attribute [irreducible] b33
theorem c33 {F : Nat → Option AFn} (hF : F 33 = some (.go ⟨2, [.tmp 4], b33⟩)) {n : Nat} {Φ : Value → Hp → Prop} {t0 t1 : Value} {S : Hp} (h : P33 (callN F n) n Φ t0 t1 S) : wp (callN F (n + 1) (.fn 33) [t0, t1]) Φ S := callP (A := A33) hF rfl (Eq.mpr (p33 (callN F n) n Φ t0 t1 S) h)
noncomputable def b35 : ACode := bodyOf (T 35)
def A35 : List (Nat × List Nat) := []
def P35 (C : Tgt → List Value → M Value) (n : Nat) (Φ : Value → Hp → Prop) (t0 t1 : Value) (S : Hp) : Prop :=
  wp (X C (.call (.const (.func (.func 30) ⟨[]⟩ ⟨[]⟩)) [(.const t1)])) (fun t8_0 S =>
  wp (X C (.un .not (.const t8_0))) (fun t9_1 S =>
  ifP (Wb.asBool t9_1) (fun S =>
   Φ (.tuple ⟨[(.int .i64 0), (.int .i64 2)]⟩) S) (fun S =>
   wp (X C (.nilchk (.const t0))) (fun t12_2 S =>
   wp (X C (.fldA 1 (.const t12_2))) (fun t13_3 S =>
   wp (X C (.store 1 (.const t13_3) (.const t1))) (fun _ S =>
   wp (X C (.nilchk (.const t0))) (fun t15_4 S =>
   wp (X C (.fldA 0 (.const t15_4))) (fun t16_5 S =>
   wp (X C (.load .one (.const t16_5))) (fun t17_6 S =>
   wp (X C (.len .slice (.const t17_6))) (fun t18_7 S =>
   wp (X C (.bin .sub (.const t18_7) (.const t1))) (fun t20_8 S =>
   wp (X C (.bin .leq (.const t20_8) (.const (.int .i64 0)))) (fun t22_9 S =>
   ifP (Wb.asBool t22_9) (fun S =>
    Φ (.tuple ⟨[(.int .i64 0), (.int .i64 0)]⟩) S) (fun S =>
    wp (X C (.nilchk (.const t0))) (fun t25_10 S =>
    wp (X C (.fldA 0 (.const t25_10))) (fun t26_11 S =>
    wp (X C (.load .one (.const t26_11))) (fun t27_12 S =>
    wp (X C (.slc 3 (.const t27_12) none (some (.const t1)) none)) (fun t29_13 S =>
    wp (X C (.nilchk (.const t0))) (fun t30_14 S =>
    wp (X C (.fldA 0 (.const t30_14))) (fun t31_15 S =>
    wp (X C (.store 1 (.const t31_15) (.const t29_13))) (fun _ S =>
    Φ (.tuple ⟨[t20_8, (.int .i64 0)]⟩) S) S) S) S) S) S) S) S) S) S) S) S) S) S) S) S) S) S) S) S) S
theorem p35 (C : Tgt → List Value → M Value) (n : Nat) (Φ : Value → Hp → Prop) (t0 t1 : Value) (S : Hp) : codeP C A35 n 1 b35 (argsEnv [t0, t1] 0 .leaf) (endP [.tmp 4, .tmp 5] Φ) S = P35 C n Φ t0 t1 S := by kernel_rfl
theorem g35 : T 35 = some (.go ⟨2, [.tmp 4, .tmp 5], b35⟩) := by kernel_rfl
attribute [irreducible] b35
theorem c35 {F : Nat → Option AFn} (hF : F 35 = some (.go ⟨2, [.tmp 4, .tmp 5], b35⟩)) {n : Nat} {Φ : Value → Hp → Prop} {t0 t1 : Value} {S : Hp} (h : P35 (callN F n) n Φ t0 t1 S) : wp (callN F (n + 1) (.fn 35) [t0, t1]) Φ S := callP (A := A35) hF rfl (Eq.mpr (p35 (callN F n) n Φ t0 t1 S) h)
noncomputable def b37 : ACode := bodyOf (T 37)
def A37 : List (Nat × List Nat) := [(6, [0])]
def P37 (C : Tgt → List Value → M Value) (n : Nat) (Φ : Value → Hp → Prop) (t0 : Value) (S : Hp) : Prop :=
  wp (X C (.nilchk (.const t0))) (fun t4_0 S =>
  wp (X C (.fldA 0 (.const t4_0))) (fun t5_1 S =>
  wp (X C (.load .one (.const t5_1))) (fun t6_2 S =>
  wp (X C (.nilchk (.const t0))) (fun t8_3 S =>
  wp (X C (.fldA 1 (.const t8_3))) (fun t9_4 S =>
  wp (X C (.load .one (.const t9_4))) (fun t10_5 S =>
  wp (X C (.build [(.slice none 0 0), (.int .i64 0)] [(0, 1, (.const t6_2)), (1, 1, (.const t10_5))])) (fun t11_6 S =>
  wp (X C (.box 54 (.const t11_6))) (fun t12_7 S =>
  okP (apartAll [0, 1, 3, 7, 0, 16, 48, 112, 255, 511, 1023] []) (fun S =>
  Φ t12_7 S) S) S) S) S) S) S) S) S) S
theorem p37 (C : Tgt → List Value → M Value) (n : Nat) (Φ : Value → Hp → Prop) (t0 : Value) (S : Hp) : codeP C A37 n 1 b37 (argsEnv [t0] 0 .leaf) (endP [.tmp 2] Φ) S = P37 C n Φ t0 S := by kernel_rfl
theorem g37 : T 37 = some (.go ⟨1, [.tmp 2], b37⟩) := by kernel_rfl
attribute [irreducible] b37
theorem c37 {F : Nat → Option AFn} (hF : F 37 = some (.go ⟨1, [.tmp 2], b37⟩)) {n : Nat} {Φ : Value → Hp → Prop} {t0 : Value} {S : Hp} (h : P37 (callN F n) n Φ t0 S) : wp (callN F (n + 1) (.fn 37) [t0]) Φ S := callP (A := A37) hF rfl (Eq.mpr (p37 (callN F n) n Φ t0 S) h)
noncomputable def b90 : ACode := bodyOf (T 90)
def A90 : List (Nat × List Nat) := []
def P90 (C : Tgt → List Value → M Value) (n : Nat) (Φ : Value → Hp → Prop) (t0 : Value) (S : Hp) : Prop :=
  wp (X C (.alloc 44 [(.slice none 0 0), (.int .u64 0), (.int .u64 0)])) (fun t2_0 S =>
  wp (X C (.nilchk (.const t0))) (fun t5_1 S =>
  wp (X C (.fldA 0 (.const t5_1))) (fun t6_2 S =>
  wp (X C (.load .one (.const t6_2))) (fun t7_3 S =>
  wp (X C (.len .slice (.const t7_3))) (fun t8_4 S =>
  wp (X C (.bin .eql (.const t8_4) (.const (.int .i64 0)))) (fun t9_5 S =>
  ifP (Wb.asBool t9_5) (fun S =>
   wp (X C (.build [(.slice none 0 0), (.int .u64 0), (.int .u64 0)] [])) (fun t10_6 S =>
   wp (X C (.store 3 (.const t2_0) (.const t10_6))) (fun _ S =>
   wp (cellV t2_0 (.agg 3)) (fun t2_7 S =>
   Φ (.tuple ⟨[t2_7, (.bool false)]⟩) S) S) S) S) (fun S =>
   wp (X C (.nilchk (.const t0))) (fun t12_8 S =>
   wp (X C (.fldA 0 (.const t12_8))) (fun t13_9 S =>
   wp (X C (.load .one (.const t13_9))) (fun t14_10 S =>
   wp (X C (.ixA 3 (.const t14_10) (.const (.int .i64 0)))) (fun t15_11 S =>
   wp (X C (.load (.agg 3) (.const t15_11))) (fun t16_12 S =>
   wp (X C (.store 3 (.const t2_0) (.const t16_12))) (fun _ S =>
   wp (cellV t2_0 (.agg 3)) (fun t2_13 S =>
   Φ (.tuple ⟨[t2_13, (.bool true)]⟩) S) S) S) S) S) S) S) S) S) S) S) S) S) S) S
theorem p90 (C : Tgt → List Value → M Value) (n : Nat) (Φ : Value → Hp → Prop) (t0 : Value) (S : Hp) : codeP C A90 n 1 b90 (argsEnv [t0] 0 .leaf) (endP [.cell 2 (.agg 3), .tmp 3] Φ) S = P90 C n Φ t0 S := by kernel_rfl
theorem g90 : T 90 = some (.go ⟨1, [.cell 2 (.agg 3), .tmp 3], b90⟩) := by kernel_rfl
attribute [irreducible] b90
theorem c90 {F : Nat → Option AFn} (hF : F 90 = some (.go ⟨1, [.cell 2 (.agg 3), .tmp 3], b90⟩)) {n : Nat} {Φ : Value → Hp → Prop} {t0 : Value} {S : Hp} (h : P90 (callN F n) n Φ t0 S) : wp (callN F (n + 1) (.fn 90) [t0]) Φ S := callP (A := A90) hF rfl (Eq.mpr (p90 (callN F n) n Φ t0 S) h)
noncomputable def b91 : ACode := bodyOf (T 91)
def A91 : List (Nat × List Nat) := []
def P91 (C : Tgt → List Value → M Value) (n : Nat) (Φ : Value → Hp → Prop) (t0 : Value) (S : Hp) : Prop :=
  wp (X C (.len .slice (.const t0))) (fun t4_0 S =>
  wp (X C (.bin .lss (.const t4_0) (.const (.int .i64 64)))) (fun t5_1 S =>
  ifP (Wb.asBool t5_1) (fun S =>
   Φ (.int .i64 64) S) (fun S =>
   wp (X C (.len .slice (.const t0))) (fun t7_2 S =>
   Φ t7_2 S) S) S) S) S
theorem p91 (C : Tgt → List Value → M Value) (n : Nat) (Φ : Value → Hp → Prop) (t0 : Value) (S : Hp) : codeP C A91 n 1 b91 (argsEnv [t0] 0 .leaf) (endP [.tmp 2] Φ) S = P91 C n Φ t0 S := by kernel_rfl
theorem g91 : T 91 = some (.go ⟨1, [.tmp 2], b91⟩) := by kernel_rfl
attribute [irreducible] b91
theorem c91 {F : Nat → Option AFn} (hF : F 91 = some (.go ⟨1, [.tmp 2], b91⟩)) {n : Nat} {Φ : Value → Hp → Prop} {t0 : Value} {S : Hp} (h : P91 (callN F n) n Φ t0 S) : wp (callN F (n + 1) (.fn 91) [t0]) Φ S := callP (A := A91) hF rfl (Eq.mpr (p91 (callN F n) n Φ t0 S) h)
end Go.Proofs.Ytmepokefmpcnnaa.Qu
