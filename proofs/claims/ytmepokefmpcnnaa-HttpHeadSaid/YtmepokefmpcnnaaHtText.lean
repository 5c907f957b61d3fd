/- Layer 41's functions, as texts. -/
import Derived.Test.YtmepokefmpcnnaaEngRX
import Derived.KernelRfl
import Derived.Test.YtmepokefmpcnnaaProg
set_option maxRecDepth 100000
set_option linter.unusedVariables false
namespace Go.Proofs.Ytmepokefmpcnnaa.Ht
open Go.Wb
noncomputable def T0 : Nat → Option AFn := tabOf Try.prog
/-- known() by its answer -/
noncomputable def T1 : Nat → Option AFn := withSum T0 43 (plG T0 43)
noncomputable def T : Nat → Option AFn := withSum T1 185 (plG T1 185)
theorem T1_ok (hm : Try.prog.follows .mixedOrders = true) : TabOk Try.prog T1 := withSum_ok (tabOk Try.prog) (plG_ok hm (tabOk Try.prog) 43)
theorem T_ok (hm : Try.prog.follows .mixedOrders = true) : TabOk Try.prog T := withSum_ok (T1_ok hm) (plG_ok hm (T1_ok hm) 185)
theorem known : plG T0 43 [] = some (.bool true) := plG_known (by kernel_rfl)
theorem kn (n : Nat) (Φ : Value → Hp → Prop) (S : Hp) : wp (callN T (n + 1) (.fn 43) []) Φ S = Φ (.bool true) S := by
  rw [P_sum (F := T) (f := 43) (g := plG T0 43) ((ws_ne rfl).trans ws_eq), known]; rfl
/-- the bytes that a name may have beside letters and digits -/
def signs : Value := .string ⟨⟨[33, 35, 36, 37, 38, 39, 42, 43, 45, 46, 94, 95, 124, 126, 96]⟩⟩
theorem ix45 : plG T1 185 [signs, .int .u8 45] = some (.int .i64 8) := by
  obtain ⟨v, h1, h2⟩ := plG_runs (F := T1) (f := 185) (ok := fun v => match v with | .int .i64 8 => true | _ => false) (args := [signs, .int .u8 45]) (by kernel_rfl) (fun v h => by split at h <;> first | rfl | cases h) (by kernel_rfl)
  rw [h1]; split at h2 <;> first | rfl | cases h2
theorem ix10 : plG T1 185 [signs, .int .u8 10] = some (.int .i64 (-1)) := by
  obtain ⟨v, h1, h2⟩ := plG_runs (F := T1) (f := 185) (ok := fun v => match v with | .int .i64 (-1) => true | _ => false) (args := [signs, .int .u8 10]) (by kernel_rfl) (fun v h => by split at h <;> first | rfl | cases h) (by kernel_rfl)
  rw [h1]; split at h2 <;> first | rfl | cases h2
theorem ix13 : plG T1 185 [signs, .int .u8 13] = some (.int .i64 (-1)) := by
  obtain ⟨v, h1, h2⟩ := plG_runs (F := T1) (f := 185) (ok := fun v => match v with | .int .i64 (-1) => true | _ => false) (args := [signs, .int .u8 13]) (by kernel_rfl) (fun v h => by split at h <;> first | rfl | cases h) (by kernel_rfl)
  rw [h1]; split at h2 <;> first | rfl | cases h2
theorem ix58 : plG T1 185 [signs, .int .u8 58] = some (.int .i64 (-1)) := by
  obtain ⟨v, h1, h2⟩ := plG_runs (F := T1) (f := 185) (ok := fun v => match v with | .int .i64 (-1) => true | _ => false) (args := [signs, .int .u8 58]) (by kernel_rfl) (fun v h => by split at h <;> first | rfl | cases h) (by kernel_rfl)
  rw [h1]; split at h2 <;> first | rfl | cases h2
theorem kix {c r : Int} (h : plG T1 185 [signs, .int .u8 c] = some (.int .i64 r)) (n : Nat) (Φ : Value → Hp → Prop) (S : Hp) : wp (callN T (n + 1) (.fn 185) [signs, .int .u8 c]) Φ S = Φ (.int .i64 r) S := by
  rw [P_sum (F := T) (f := 185) (g := plG T1 185) ws_eq, h]; rfl
noncomputable def b8 : ACode := bodyOf (T 8)
def A8 : List (Nat × List Nat) := [(1042842, [1, 2, 8, 9, 10, 11, 14, 58, 59, 60, 69, 70, 71]), (1018, [1, 2, 8, 9, 10, 11, 58, 59, 60])]
def P8 (C : Tgt → List Value → M Value) (n : Nat) (Φ : Value → Hp → Prop) (t0 t1 t2 t3 : Value) (S : Hp) : Prop :=
  wp (X C (.len .slice (.const t1))) (fun t26_0 S =>
  wp (X C (.bin .gtr (.const t26_0) (.const (.int .i64 20)))) (fun t27_1 S =>
  andP false t27_1 (fun K S =>
   wp (X C (.len .slice (.const t2))) (fun t30_2 S =>
   wp (X C (.bin .gtr (.const t30_2) (.const (.int .i64 40)))) (fun t31_3 S =>
   K t31_3 S) S) S) (fun t32_4 S =>
  ifP (Wb.asBool t32_4) (fun S =>
   wp (X C (.call (.const (.func (.func 43) ⟨[]⟩ ⟨[]⟩)) [])) (fun t33_5 S =>
   Φ t33_5 S) S) (fun S =>
   wp (X C (.conv (.int .i64) (.const t0))) (fun t35_6 S =>
   wp (X C (.bin .rem (.const t35_6) (.const (.int .i64 500)))) (fun t36_7 S =>
   wp (X C (.bin .add (.const (.int .i64 100)) (.const t36_7))) (fun t37_8 S =>
   jn (fun (t10_10 : Value) (S : Hp) =>
    wp (X C (.bin .quo (.const t37_8) (.const (.int .i64 100)))) (fun t40_11 S =>
    wp (X C (.bin .add (.const (.int .i64 48)) (.const t40_11))) (fun t41_12 S =>
    wp (X C (.conv (.int .u8) (.const t41_12))) (fun t42_13 S =>
    wp (X C (.bin .quo (.const t37_8) (.const (.int .i64 10)))) (fun t44_14 S =>
    wp (X C (.bin .rem (.const t44_14) (.const (.int .i64 10)))) (fun t45_15 S =>
    wp (X C (.bin .add (.const (.int .i64 48)) (.const t45_15))) (fun t46_16 S =>
    wp (X C (.conv (.int .u8) (.const t46_16))) (fun t47_17 S =>
    wp (X C (.bin .rem (.const t37_8) (.const (.int .i64 10)))) (fun t49_18 S =>
    wp (X C (.bin .add (.const (.int .i64 48)) (.const t49_18))) (fun t50_19 S =>
    wp (X C (.conv (.int .u8) (.const t50_19))) (fun t51_20 S =>
    wp (X C (.bslice 5 3 [(.int .u8 0), (.int .u8 0), (.int .u8 0)] [(0, 1, (.const t42_13)), (1, 1, (.const t47_17)), (2, 1, (.const t51_20))])) (fun t52_21 S =>
    wp (X C (.conv .b2str (.const t52_21))) (fun t53_22 S =>
    wp (X C (.bin .add (.const (.string ⟨⟨[72, 84, 84, 80, 47, 49, 46, 48, 32]⟩⟩)) (.const t53_22))) (fun t54_23 S =>
    wp (X C (.bin .add (.const t54_23) (.const (.string ⟨⟨[32, 119, 104, 121]⟩⟩)))) (fun t55_24 S =>
    wp (X C (.bin .add (.const t55_24) (.const t10_10))) (fun t57_25 S =>
    wp (X C (.len .slice (.const t1))) (fun t59_26 S =>
    ∃ I27 : Nat → Value → Value → Value → Value → Value → Value → Value → Value → Value → Hp → Prop, (∃ m, m < n ∧ I27 m t1 t2 (.bool false) t37_8 t10_10 t57_25 t1 t59_26 (.int .i64 0) S) ∧ ∀ (m27 : Nat) (S : Hp) (t1_28 t2_29 t8_30 t9_31 t10_32 t11_33 t58_34 t59_35 t60_36 : Value), I27 m27 t1_28 t2_29 t8_30 t9_31 t10_32 t11_33 t58_34 t59_35 t60_36 S →
     wp (X C (.bin .lss (.const t60_36) (.const t59_35))) (fun t61_37 S =>
     ifP (Wb.asBool t61_37) (fun S =>
      wp (X C (.ixA 1 (.const t58_34) (.const t60_36))) (fun t62_38 S =>
      wp (X C (.load .one (.const t62_38))) (fun t63_39 S =>
      wp (X C (.len .str (.const t63_39))) (fun t66_40 S =>
      wp (X C (.min [(.const t66_40), (.const (.int .i64 40))])) (fun t67_41 S =>
      wp (X C (.slcS (.const t63_39) none (some (.const t67_41)))) (fun t68_42 S =>
      wp (X C (.conv (.str2b 5) (.const t68_42))) (fun t69_43 S =>
      wp (X C (.len .slice (.const t69_43))) (fun t70_44 S =>
      ∃ I45 : Nat → Value → Value → Value → Value → Value → Value → Value → Value → Value → Value → Value → Value → Value → Hp → Prop, (∃ m, m < n ∧ I45 m t1_28 t2_29 t8_30 t9_31 t10_32 t11_33 (.slice none 0 0) t58_34 t59_35 t60_36 t69_43 t70_44 (.int .i64 0) S) ∧ ∀ (m45 : Nat) (S : Hp) (t1_46 t2_47 t8_48 t9_49 t10_50 t11_51 t14_52 t58_53 t59_54 t60_55 t69_56 t70_57 t71_58 : Value), I45 m45 t1_46 t2_47 t8_48 t9_49 t10_50 t11_51 t14_52 t58_53 t59_54 t60_55 t69_56 t70_57 t71_58 S →
       wp (X C (.bin .lss (.const t71_58) (.const t70_57))) (fun t72_59 S =>
       ifP (Wb.asBool t72_59) (fun S =>
        wp (X C (.ixA 1 (.const t69_56) (.const t71_58))) (fun t73_60 S =>
        wp (X C (.load .one (.const t73_60))) (fun t74_61 S =>
        wp (X C (.bin .geq (.const t74_61) (.const (.int .u8 32)))) (fun t76_62 S =>
        ifP (Wb.asBool t76_62) (fun S =>
         wp (X C (.bslice 5 1 [(.int .u8 0)] [(0, 1, (.const t74_61))])) (fun t79_63 S =>
         wp (X C (.app 1 1 5 (.const t14_52) (.const t79_63))) (fun t80_64 S =>
         wp (X C (.bin .add (.const t71_58) (.const (.int .i64 1)))) (fun t81_65 S =>
         ∃ j45, j45 < m45 ∧ I45 j45 t1_46 t2_47 t8_48 t9_49 t10_50 t11_51 t80_64 t58_53 t59_54 t60_55 t69_56 t70_57 t81_65 S) S) S) S) (fun S =>
         wp (X C (.bin .add (.const t71_58) (.const (.int .i64 1)))) (fun t81_66 S =>
         ∃ j45, j45 < m45 ∧ I45 j45 t1_46 t2_47 t8_48 t9_49 t10_50 t11_51 t14_52 t58_53 t59_54 t60_55 t69_56 t70_57 t81_66 S) S) S) S) S) S) (fun S =>
        wp (X C (.conv .b2str (.const t14_52))) (fun t84_67 S =>
        wp (X C (.bin .add (.const (.string ⟨⟨[120, 45, 97, 58, 32]⟩⟩)) (.const t84_67))) (fun t85_68 S =>
        wp (X C (.bin .add (.const t85_68) (.const t10_50))) (fun t87_69 S =>
        wp (X C (.bin .add (.const t11_51) (.const t87_69))) (fun t88_70 S =>
        wp (X C (.bin .add (.const t60_55) (.const (.int .i64 1)))) (fun t89_71 S =>
        ∃ j27, j27 < m27 ∧ I27 j27 t1_46 t2_47 t8_48 t9_49 t10_50 t88_70 t58_53 t59_54 t89_71 S) S) S) S) S) S) S) S) S) S) S) S) S) S) S) (fun S =>
      wp (X C (.bin .add (.const t11_33) (.const t10_32))) (fun t92_72 S =>
      wp (X C (.call (.const (.func (.func 44) ⟨[]⟩ ⟨[]⟩)) [])) (fun t93_73 S =>
      wp (X C (.eq false (.nil .ptr) (.const t93_73) (.const (.pointer none)))) (fun t95_74 S =>
      ifP (Wb.asBool t95_74) (fun S =>
       Φ (.bool false) S) (fun S =>
       wp (X C (.len .str (.const t92_72))) (fun t100_75 S =>
       wp (X C (.bin .sub (.const t100_75) (.const (.int .i64 1)))) (fun t101_76 S =>
       wp (X C (.slcS (.const t92_72) none (some (.const t101_76)))) (fun t102_77 S =>
       wp (X C (.conv (.str2b 5) (.const t102_77))) (fun t103_78 S =>
       wp (X C (.call (.const (.func (.func 45) ⟨[]⟩ ⟨[]⟩)) [(.const t93_73), (.const t103_78)])) (fun t104_79 S =>
       wp (X C (.ext (.const t104_79) 0)) (fun t105_80 S =>
       wp (X C (.ext (.const t104_79) 1)) (fun t106_81 S =>
       wp (X C (.call (.const (.func (.func 46) ⟨[]⟩ ⟨[]⟩)) [(.const t93_73)])) (fun t109_82 S =>
       wp (X C (.ext (.const t109_82) 0)) (fun t110_83 S =>
       wp (X C (.ext (.const t109_82) 1)) (fun t111_84 S =>
       wp (X C (.len .str (.const t92_72))) (fun t114_85 S =>
       wp (X C (.bin .sub (.const t114_85) (.const (.int .i64 1)))) (fun t115_86 S =>
       wp (X C (.bin .neq (.const t105_80) (.const t115_86))) (fun t116_87 S =>
       andP false t116_87 (fun K S =>
        K t106_81 S) (fun t119_88 S =>
       andP false t119_88 (fun K S =>
        wp (X C (.bin .neq (.const t111_84) (.const (.int .i64 13)))) (fun t122_89 S =>
        K t122_89 S) S) (fun t123_90 S =>
       ifP (Wb.asBool t123_90) (fun S =>
        Φ (.bool false) S) (fun S =>
        wp (X C (.bslice 5 1 [(.int .u8 0)] [(0, 1, (.const (.int .u8 10)))])) (fun t126_91 S =>
        wp (X C (.conv .sameSl (.const t126_91))) (fun t127_92 S =>
        wp (X C (.app 1 1 5 (.const t127_92) (.const t2_29))) (fun t129_93 S =>
        wp (X C (.call (.const (.func (.func 45) ⟨[]⟩ ⟨[]⟩)) [(.const t93_73), (.const t129_93)])) (fun t130_94 S =>
        wp (X C (.ext (.const t130_94) 0)) (fun t131_95 S =>
        wp (X C (.ext (.const t130_94) 1)) (fun t132_96 S =>
        wp (X C (.call (.const (.func (.func 46) ⟨[]⟩ ⟨[]⟩)) [(.const t93_73)])) (fun t135_97 S =>
        wp (X C (.ext (.const t135_97) 0)) (fun t136_98 S =>
        wp (X C (.ext (.const t135_97) 1)) (fun t137_99 S =>
        wp (X C (.call (.const (.func (.func 45) ⟨[]⟩ ⟨[]⟩)) [(.const t93_73), (.const t2_29)])) (fun t141_100 S =>
        wp (X C (.ext (.const t141_100) 0)) (fun t142_101 S =>
        wp (X C (.ext (.const t141_100) 1)) (fun t143_102 S =>
        wp (X C (.bin .eql (.const t131_95) (.const (.int .i64 1)))) (fun t145_103 S =>
        andP true t145_103 (fun K S =>
         K t132_96 S) (fun t148_104 S =>
        andP true t148_104 (fun K S =>
         wp (X C (.bin .eql (.const t136_98) (.const t9_31))) (fun t152_105 S =>
         K t152_105 S) S) (fun t153_106 S =>
        andP true t153_106 (fun K S =>
         wp (X C (.bin .eql (.const t137_99) (.const (.int .i64 0)))) (fun t156_107 S =>
         K t156_107 S) S) (fun t157_108 S =>
        andP true t157_108 (fun K S =>
         wp (X C (.call (.const (.func (.func 47) ⟨[]⟩ ⟨[]⟩)) [(.const t93_73)])) (fun t160_109 S =>
         wp (X C (.len .slice (.const t1_28))) (fun t162_110 S =>
         wp (X C (.bin .add (.const t162_110) (.const (.int .i64 2)))) (fun t163_111 S =>
         wp (X C (.bin .eql (.const t160_109) (.const t163_111))) (fun t164_112 S =>
         K t164_112 S) S) S) S) S) (fun t165_113 S =>
        andP true t165_113 (fun K S =>
         wp (X C (.bin .eql (.const t142_101) (.const (.int .i64 0)))) (fun t168_114 S =>
         K t168_114 S) S) (fun t169_115 S =>
        andP true t169_115 (fun K S =>
         K t143_102 S) (fun t172_116 S =>
        andP true t172_116 (fun K S =>
         wp (X C (.call (.const (.func (.func 43) ⟨[]⟩ ⟨[]⟩)) [])) (fun t174_117 S =>
         K t174_117 S) S) (fun t175_118 S =>
        Φ t175_118 S) S) S) S) S) S) S) S) S) S) S) S) S) S) S) S) S) S) S) S) S) S) S) S) S) S) S) S) S) S) S) S) S) S) S) S) S) S) S) S) S) S) S) S) S) S) S) S) S) S) S) S) S) S) S) S) S) S) S) (fun J9 =>
   ifP (Wb.asBool t3) (fun S =>
    J9 (.string ⟨⟨[13, 10]⟩⟩) S) (fun S =>
    J9 (.string ⟨⟨[10]⟩⟩) S) S)) S) S) S) S) S) S) S
theorem p8 (C : Tgt → List Value → M Value) (n : Nat) (Φ : Value → Hp → Prop) (t0 t1 t2 t3 : Value) (S : Hp) : codeP C A8 n 1 b8 (argsEnv [t0, t1, t2, t3] 0 .leaf) (endP [.tmp 8] Φ) S = P8 C n Φ t0 t1 t2 t3 S := by kernel_rfl
theorem g8 : T 8 = some (.go ⟨4, [.tmp 8], b8⟩) := by kernel_rfl
attribute [irreducible] b8
theorem c8 {F : Nat → Option AFn} (hF : F 8 = some (.go ⟨4, [.tmp 8], b8⟩)) {n : Nat} {Φ : Value → Hp → Prop} {t0 t1 t2 t3 : Value} {S : Hp} (h : P8 (callN F n) n Φ t0 t1 t2 t3 S) : wp (callN F (n + 1) (.fn 8) [t0, t1, t2, t3]) Φ S := callP (A := A8) hF rfl (Eq.mpr (p8 (callN F n) n Φ t0 t1 t2 t3 S) h)


noncomputable def b44 : ACode := bodyOf (T 44)
def A44 : List (Nat × List Nat) := []
def P44 (C : Tgt → List Value → M Value) (n : Nat) (Φ : Value → Hp → Prop) (S : Hp) : Prop :=
  wp (X C (.build [.nilFunc, (.int .i64 0), (.int .i64 0), (.int .i64 0), (.int .i64 0), (.bool false), (.int .i64 0)] [(0, 1, (.const (.func (.func 93) ⟨[]⟩ ⟨[]⟩)))])) (fun t1_0 S =>
  wp (X C (.box 82 (.const t1_0))) (fun t2_1 S =>
  Φ t2_1 S) S) S
theorem p44 (C : Tgt → List Value → M Value) (n : Nat) (Φ : Value → Hp → Prop) (S : Hp) : codeP C A44 n 1 b44 (argsEnv [] 0 .leaf) (endP [.tmp 0] Φ) S = P44 C n Φ  S := by kernel_rfl
theorem g44 : T 44 = some (.go ⟨0, [.tmp 0], b44⟩) := by kernel_rfl
attribute [irreducible] b44
theorem c44 {F : Nat → Option AFn} (hF : F 44 = some (.go ⟨0, [.tmp 0], b44⟩)) {n : Nat} {Φ : Value → Hp → Prop} {S : Hp} (h : P44 (callN F n) n Φ  S) : wp (callN F (n + 1) (.fn 44) []) Φ S := callP (A := A44) hF rfl (Eq.mpr (p44 (callN F n) n Φ  S) h)


noncomputable def b45 : ACode := bodyOf (T 45)
def A45 : List (Nat × List Nat) := [(58, [0, 4, 5, 10, 11, 12])]
def P45 (C : Tgt → List Value → M Value) (n : Nat) (Φ : Value → Hp → Prop) (t0 t1 : Value) (S : Hp) : Prop :=
  wp (X C (.call (.const (.func (.func 94) ⟨[]⟩ ⟨[]⟩)) [(.const t0)])) (fun t9_0 S =>
  ifP (Wb.asBool t9_0) (fun S =>
   Φ (.tuple ⟨[(.int .i64 0), (.bool true)]⟩) S) (fun S =>
   wp (X C (.len .slice (.const t1))) (fun t11_1 S =>
   jn (fun (t0_3 t4_3 : Value) (S : Hp) =>
    wp (X C (.nilchk (.const t0_3))) (fun t60_4 S =>
    wp (X C (.fldA 5 (.const t60_4))) (fun t61_5 S =>
    wp (X C (.load .one (.const t61_5))) (fun t62_6 S =>
    Φ (.tuple ⟨[t4_3, t62_6]⟩) S) S) S) S) (fun J2 =>
   ∃ I7 : Nat → Value → Value → Value → Value → Value → Value → Hp → Prop, (∃ m, m < n ∧ I7 m t0 (.int .i64 0) (.bool false) t1 t11_1 (.int .i64 0) S) ∧ ∀ (m7 : Nat) (S : Hp) (t0_8 t4_9 t5_10 t10_11 t11_12 t12_13 : Value), I7 m7 t0_8 t4_9 t5_10 t10_11 t11_12 t12_13 S →
    wp (X C (.bin .lss (.const t12_13) (.const t11_12))) (fun t13_14 S =>
    ifP (Wb.asBool t13_14) (fun S =>
     wp (X C (.ixA 1 (.const t10_11) (.const t12_13))) (fun t14_15 S =>
     wp (X C (.load .one (.const t14_15))) (fun t15_16 S =>
     wp (X C (.nilchk (.const t0_8))) (fun t17_17 S =>
     wp (X C (.fldA 5 (.const t17_17))) (fun t18_18 S =>
     wp (X C (.load .one (.const t18_18))) (fun t19_19 S =>
     ifP (Wb.asBool t19_19) (fun S =>
      J2 t0_8 t4_9 S) (fun S =>
      wp (X C (.bin .add (.const t4_9) (.const (.int .i64 1)))) (fun t21_20 S =>
      wp (X C (.nilchk (.const t0_8))) (fun t23_21 S =>
      wp (X C (.fldA 2 (.const t23_21))) (fun t24_22 S =>
      wp (X C (.load .one (.const t24_22))) (fun t25_23 S =>
      wp (X C (.bin .add (.const t25_23) (.const (.int .i64 1)))) (fun t26_24 S =>
      wp (X C (.nilchk (.const t0_8))) (fun t27_25 S =>
      wp (X C (.fldA 2 (.const t27_25))) (fun t28_26 S =>
      wp (X C (.store 1 (.const t28_26) (.const t26_24))) (fun _ S =>
      wp (X C (.nilchk (.const t0_8))) (fun t31_27 S =>
      wp (X C (.fldA 2 (.const t31_27))) (fun t32_28 S =>
      wp (X C (.load .one (.const t32_28))) (fun t33_29 S =>
      wp (X C (.bin .gtr (.const t33_29) (.const (.int .i64 2048)))) (fun t34_30 S =>
      ifP (Wb.asBool t34_30) (fun S =>
       wp (X C (.nilchk (.const t0_8))) (fun t37_31 S =>
       wp (X C (.fldA 5 (.const t37_31))) (fun t38_32 S =>
       wp (X C (.store 1 (.const t38_32) (.const (.bool true)))) (fun _ S =>
       wp (X C (.nilchk (.const t0_8))) (fun t39_33 S =>
       wp (X C (.fldA 6 (.const t39_33))) (fun t40_34 S =>
       wp (X C (.store 1 (.const t40_34) (.const (.int .i64 3)))) (fun _ S =>
       wp (X C (.bin .add (.const t12_13) (.const (.int .i64 1)))) (fun t57_35 S =>
       ∃ j7, j7 < m7 ∧ I7 j7 t0_8 t21_20 t5_10 t10_11 t11_12 t57_35 S) S) S) S) S) S) S) S) (fun S =>
       wp (X C (.nilchk (.const t0_8))) (fun t43_36 S =>
       wp (X C (.fldA 0 (.const t43_36))) (fun t44_37 S =>
       wp (X C (.load .one (.const t44_37))) (fun t45_38 S =>
       wp (X C (.call (.const t45_38) [(.const t0_8)])) (fun t47_39 S =>
       wp (X C (.call (.const t47_39) [(.const t15_16)])) (fun t49_40 S =>
       wp (X C (.un .not (.const t49_40))) (fun t50_41 S =>
       ifP (Wb.asBool t50_41) (fun S =>
        wp (X C (.nilchk (.const t0_8))) (fun t53_42 S =>
        wp (X C (.fldA 5 (.const t53_42))) (fun t54_43 S =>
        wp (X C (.store 1 (.const t54_43) (.const (.bool true)))) (fun _ S =>
        wp (X C (.nilchk (.const t0_8))) (fun t55_44 S =>
        wp (X C (.fldA 6 (.const t55_44))) (fun t56_45 S =>
        wp (X C (.store 1 (.const t56_45) (.const (.int .i64 5)))) (fun _ S =>
        wp (X C (.bin .add (.const t12_13) (.const (.int .i64 1)))) (fun t57_46 S =>
        ∃ j7, j7 < m7 ∧ I7 j7 t0_8 t21_20 t5_10 t10_11 t11_12 t57_46 S) S) S) S) S) S) S) S) (fun S =>
        wp (X C (.bin .add (.const t12_13) (.const (.int .i64 1)))) (fun t57_47 S =>
        ∃ j7, j7 < m7 ∧ I7 j7 t0_8 t21_20 t5_10 t10_11 t11_12 t57_47 S) S) S) S) S) S) S) S) S) S) S) S) S) S) S) S) S) S) S) S) S) S) S) S) S) S) S) S) (fun S =>
     J2 t0_8 t4_9 S) S) S)) S) S) S
theorem p45 (C : Tgt → List Value → M Value) (n : Nat) (Φ : Value → Hp → Prop) (t0 t1 : Value) (S : Hp) : codeP C A45 n 1 b45 (argsEnv [t0, t1] 0 .leaf) (endP [.tmp 4, .tmp 5] Φ) S = P45 C n Φ t0 t1 S := by kernel_rfl
theorem g45 : T 45 = some (.go ⟨2, [.tmp 4, .tmp 5], b45⟩) := by kernel_rfl
attribute [irreducible] b45
theorem c45 {F : Nat → Option AFn} (hF : F 45 = some (.go ⟨2, [.tmp 4, .tmp 5], b45⟩)) {n : Nat} {Φ : Value → Hp → Prop} {t0 t1 : Value} {S : Hp} (h : P45 (callN F n) n Φ t0 t1 S) : wp (callN F (n + 1) (.fn 45) [t0, t1]) Φ S := callP (A := A45) hF rfl (Eq.mpr (p45 (callN F n) n Φ t0 t1 S) h)


noncomputable def b46 : ACode := bodyOf (T 46)
def A46 : List (Nat × List Nat) := []
def P46 (C : Tgt → List Value → M Value) (n : Nat) (Φ : Value → Hp → Prop) (t0 : Value) (S : Hp) : Prop :=
  wp (X C (.call (.const (.func (.func 94) ⟨[]⟩ ⟨[]⟩)) [(.const t0)])) (fun t6_0 S =>
  ifP (Wb.asBool t6_0) (fun S =>
   Φ (.tuple ⟨[(.int .i64 0), (.int .i64 1)]⟩) S) (fun S =>
   wp (X C (.nilchk (.const t0))) (fun t9_1 S =>
   wp (X C (.fldA 5 (.const t9_1))) (fun t10_2 S =>
   wp (X C (.load .one (.const t10_2))) (fun t11_3 S =>
   wp (X C (.un .not (.const t11_3))) (fun t12_4 S =>
   ifP (Wb.asBool t12_4) (fun S =>
    Φ (.tuple ⟨[(.int .i64 0), (.int .i64 13)]⟩) S) (fun S =>
    wp (X C (.nilchk (.const t0))) (fun t15_5 S =>
    wp (X C (.fldA 6 (.const t15_5))) (fun t16_6 S =>
    wp (X C (.load .one (.const t16_6))) (fun t17_7 S =>
    wp (X C (.bin .neq (.const t17_7) (.const (.int .i64 0)))) (fun t18_8 S =>
    ifP (Wb.asBool t18_8) (fun S =>
     wp (X C (.nilchk (.const t0))) (fun t20_9 S =>
     wp (X C (.fldA 6 (.const t20_9))) (fun t21_10 S =>
     wp (X C (.load .one (.const t21_10))) (fun t22_11 S =>
     Φ (.tuple ⟨[(.int .i64 0), t22_11]⟩) S) S) S) S) (fun S =>
     wp (X C (.nilchk (.const t0))) (fun t24_12 S =>
     wp (X C (.fldA 4 (.const t24_12))) (fun t25_13 S =>
     wp (X C (.load .one (.const t25_13))) (fun t26_14 S =>
     Φ (.tuple ⟨[t26_14, (.int .i64 0)]⟩) S) S) S) S) S) S) S) S) S) S) S) S) S) S) S) S
theorem p46 (C : Tgt → List Value → M Value) (n : Nat) (Φ : Value → Hp → Prop) (t0 : Value) (S : Hp) : codeP C A46 n 1 b46 (argsEnv [t0] 0 .leaf) (endP [.tmp 2, .tmp 3] Φ) S = P46 C n Φ t0 S := by kernel_rfl
theorem g46 : T 46 = some (.go ⟨1, [.tmp 2, .tmp 3], b46⟩) := by kernel_rfl
attribute [irreducible] b46
theorem c46 {F : Nat → Option AFn} (hF : F 46 = some (.go ⟨1, [.tmp 2, .tmp 3], b46⟩)) {n : Nat} {Φ : Value → Hp → Prop} {t0 : Value} {S : Hp} (h : P46 (callN F n) n Φ t0 S) : wp (callN F (n + 1) (.fn 46) [t0]) Φ S := callP (A := A46) hF rfl (Eq.mpr (p46 (callN F n) n Φ t0 S) h)


noncomputable def b47 : ACode := bodyOf (T 47)
def A47 : List (Nat × List Nat) := []
def P47 (C : Tgt → List Value → M Value) (n : Nat) (Φ : Value → Hp → Prop) (t0 : Value) (S : Hp) : Prop :=
  wp (X C (.call (.const (.func (.func 94) ⟨[]⟩ ⟨[]⟩)) [(.const t0)])) (fun t4_0 S =>
  ifP (Wb.asBool t4_0) (fun S =>
   Φ (.int .i64 0) S) (fun S =>
   wp (X C (.nilchk (.const t0))) (fun t6_1 S =>
   wp (X C (.fldA 3 (.const t6_1))) (fun t7_2 S =>
   wp (X C (.load .one (.const t7_2))) (fun t8_3 S =>
   Φ t8_3 S) S) S) S) S) S
theorem p47 (C : Tgt → List Value → M Value) (n : Nat) (Φ : Value → Hp → Prop) (t0 : Value) (S : Hp) : codeP C A47 n 1 b47 (argsEnv [t0] 0 .leaf) (endP [.tmp 2] Φ) S = P47 C n Φ t0 S := by kernel_rfl
theorem g47 : T 47 = some (.go ⟨1, [.tmp 2], b47⟩) := by kernel_rfl
attribute [irreducible] b47
theorem c47 {F : Nat → Option AFn} (hF : F 47 = some (.go ⟨1, [.tmp 2], b47⟩)) {n : Nat} {Φ : Value → Hp → Prop} {t0 : Value} {S : Hp} (h : P47 (callN F n) n Φ t0 S) : wp (callN F (n + 1) (.fn 47) [t0]) Φ S := callP (A := A47) hF rfl (Eq.mpr (p47 (callN F n) n Φ t0 S) h)


noncomputable def b93 : ACode := bodyOf (T 93)
def A93 : List (Nat × List Nat) := []
def P93 (C : Tgt → List Value → M Value) (n : Nat) (Φ : Value → Hp → Prop) (t0 : Value) (S : Hp) : Prop :=
  wp (X C (.mkfn 130 [(.const t0)] [])) (fun t4_0 S =>
  Φ t4_0 S) S
theorem p93 (C : Tgt → List Value → M Value) (n : Nat) (Φ : Value → Hp → Prop) (t0 : Value) (S : Hp) : codeP C A93 n 1 b93 (argsEnv [t0] 0 .leaf) (endP [.tmp 2] Φ) S = P93 C n Φ t0 S := by kernel_rfl
theorem g93 : T 93 = some (.go ⟨1, [.tmp 2], b93⟩) := by kernel_rfl
attribute [irreducible] b93
theorem c93 {F : Nat → Option AFn} (hF : F 93 = some (.go ⟨1, [.tmp 2], b93⟩)) {n : Nat} {Φ : Value → Hp → Prop} {t0 : Value} {S : Hp} (h : P93 (callN F n) n Φ t0 S) : wp (callN F (n + 1) (.fn 93) [t0]) Φ S := callP (A := A93) hF rfl (Eq.mpr (p93 (callN F n) n Φ t0 S) h)


noncomputable def b94 : ACode := bodyOf (T 94)
def A94 : List (Nat × List Nat) := []
def P94 (C : Tgt → List Value → M Value) (n : Nat) (Φ : Value → Hp → Prop) (t0 : Value) (S : Hp) : Prop :=
  wp (X C (.eq false (.nil .ptr) (.const t0) (.const (.pointer none)))) (fun t4_0 S =>
  andP false t4_0 (fun K S =>
   wp (X C (.nilchk (.const t0))) (fun t7_1 S =>
   wp (X C (.fldA 0 (.const t7_1))) (fun t8_2 S =>
   wp (X C (.load .one (.const t8_2))) (fun t9_3 S =>
   wp (X C (.eq false (.nil .func) (.const t9_3) (.const .nilFunc))) (fun t10_4 S =>
   K t10_4 S) S) S) S) S) (fun t11_5 S =>
  Φ t11_5 S) S) S
theorem p94 (C : Tgt → List Value → M Value) (n : Nat) (Φ : Value → Hp → Prop) (t0 : Value) (S : Hp) : codeP C A94 n 1 b94 (argsEnv [t0] 0 .leaf) (endP [.tmp 2] Φ) S = P94 C n Φ t0 S := by kernel_rfl
theorem g94 : T 94 = some (.go ⟨1, [.tmp 2], b94⟩) := by kernel_rfl
attribute [irreducible] b94
theorem c94 {F : Nat → Option AFn} (hF : F 94 = some (.go ⟨1, [.tmp 2], b94⟩)) {n : Nat} {Φ : Value → Hp → Prop} {t0 : Value} {S : Hp} (h : P94 (callN F n) n Φ t0 S) : wp (callN F (n + 1) (.fn 94) [t0]) Φ S := callP (A := A94) hF rfl (Eq.mpr (p94 (callN F n) n Φ t0 S) h)


noncomputable def b130 : ACode := bodyOf (T 130)
def A130 : List (Nat × List Nat) := []
def P130 (C : Tgt → List Value → M Value) (n : Nat) (Φ : Value → Hp → Prop) (t0 t1 : Value) (S : Hp) : Prop :=
  wp (X C (.bin .geq (.const t1) (.const (.int .u8 48)))) (fun t7_0 S =>
  andP true t7_0 (fun K S =>
   wp (X C (.bin .leq (.const t1) (.const (.int .u8 57)))) (fun t10_1 S =>
   K t10_1 S) S) (fun t11_2 S =>
  wp (X C (.nilchk (.const t0))) (fun t14_3 S =>
  wp (X C (.fldA 1 (.const t14_3))) (fun t15_4 S =>
  wp (X C (.load .one (.const t15_4))) (fun t16_5 S =>
  wp (X C (.bin .eql (.const t16_5) (.const (.int .i64 12)))) (fun t17_6 S =>
  andP true t17_6 (fun K S =>
   wp (X C (.bin .eql (.const t1) (.const (.int .u8 32)))) (fun t20_7 S =>
   K t20_7 S) S) (fun t21_8 S =>
  ifP (Wb.asBool t21_8) (fun S =>
   wp (X C (.nilchk (.const t0))) (fun t23_9 S =>
   wp (X C (.fldA 0 (.const t23_9))) (fun t24_10 S =>
   wp (X C (.store 1 (.const t24_10) (.const (.func (.func 148) ⟨[]⟩ ⟨[]⟩)))) (fun _ S =>
   Φ (.bool true) S) S) S) S) (fun S =>
   wp (X C (.nilchk (.const t0))) (fun t27_11 S =>
   wp (X C (.fldA 1 (.const t27_11))) (fun t28_12 S =>
   wp (X C (.load .one (.const t28_12))) (fun t29_13 S =>
   wp (X C (.bin .eql (.const t29_13) (.const (.int .i64 12)))) (fun t30_14 S =>
   ifP (Wb.asBool t30_14) (fun S =>
    wp (X C (.call (.const (.func (.func 149) ⟨[]⟩ ⟨[]⟩)) [(.const t0), (.const t1)])) (fun t33_15 S =>
    Φ t33_15 S) S) (fun S =>
    wp (X C (.nilchk (.const t0))) (fun t36_16 S =>
    wp (X C (.fldA 1 (.const t36_16))) (fun t37_17 S =>
    wp (X C (.load .one (.const t37_17))) (fun t38_18 S =>
    wp (X C (.bin .geq (.const t38_18) (.const (.int .i64 9)))) (fun t39_19 S =>
    jn (fun (t4_21 : Value) (S : Hp) =>
     wp (X C (.nilchk (.const t0))) (fun t94_22 S =>
     wp (X C (.fldA 1 (.const t94_22))) (fun t95_23 S =>
     wp (X C (.load .one (.const t95_23))) (fun t96_24 S =>
     wp (X C (.bin .add (.const t96_24) (.const (.int .i64 1)))) (fun t97_25 S =>
     wp (X C (.nilchk (.const t0))) (fun t98_26 S =>
     wp (X C (.fldA 1 (.const t98_26))) (fun t99_27 S =>
     wp (X C (.store 1 (.const t99_27) (.const t97_25))) (fun _ S =>
     Φ (.bool true) S) S) S) S) S) S) S) S) (fun J20 =>
    ifP (Wb.asBool t39_19) (fun S =>
     wp (X C (.un .not (.const t11_2))) (fun t41_28 S =>
     andP false t41_28 (fun K S =>
      wp (X C (.nilchk (.const t0))) (fun t44_29 S =>
      wp (X C (.fldA 1 (.const t44_29))) (fun t45_30 S =>
      wp (X C (.load .one (.const t45_30))) (fun t46_31 S =>
      wp (X C (.bin .eql (.const t46_31) (.const (.int .i64 9)))) (fun t47_32 S =>
      andP true t47_32 (fun K S =>
       wp (X C (.bin .lss (.const t1) (.const (.int .u8 49)))) (fun t50_33 S =>
       andP false t50_33 (fun K S =>
        wp (X C (.bin .gtr (.const t1) (.const (.int .u8 53)))) (fun t53_34 S =>
        K t53_34 S) S) (fun t54_35 S =>
       K t54_35 S) S) S) (fun t55_36 S =>
      K t55_36 S) S) S) S) S) S) (fun t56_37 S =>
     ifP (Wb.asBool t56_37) (fun S =>
      Φ (.bool false) S) (fun S =>
      wp (X C (.nilchk (.const t0))) (fun t59_38 S =>
      wp (X C (.fldA 4 (.const t59_38))) (fun t60_39 S =>
      wp (X C (.load .one (.const t60_39))) (fun t61_40 S =>
      wp (X C (.bin .mul (.const (.int .i64 10)) (.const t61_40))) (fun t62_41 S =>
      wp (X C (.bin .sub (.const t1) (.const (.int .u8 48)))) (fun t64_42 S =>
      wp (X C (.conv (.int .i64) (.const t64_42))) (fun t65_43 S =>
      wp (X C (.bin .add (.const t62_41) (.const t65_43))) (fun t66_44 S =>
      wp (X C (.nilchk (.const t0))) (fun t67_45 S =>
      wp (X C (.fldA 4 (.const t67_45))) (fun t68_46 S =>
      wp (X C (.store 1 (.const t68_46) (.const t66_44))) (fun _ S =>
      J20 (.bool false) S) S) S) S) S) S) S) S) S) S) S) S) S) S) (fun S =>
     wp (X C (.nilchk (.const t0))) (fun t71_47 S =>
     wp (X C (.fldA 1 (.const t71_47))) (fun t72_48 S =>
     wp (X C (.load .one (.const t72_48))) (fun t73_49 S =>
     wp (X C (.bin .eql (.const t73_49) (.const (.int .i64 7)))) (fun t74_50 S =>
     andP true t74_50 (fun K S =>
      wp (X C (.un .not (.const t11_2))) (fun t77_51 S =>
      K t77_51 S) S) (fun t78_52 S =>
     ifP (Wb.asBool t78_52) (fun S =>
      ifP (Wb.asBool t78_52) (fun S =>
       Φ (.bool false) S) (fun S =>
       J20 (.bool false) S) S) (fun S =>
      wp (X C (.nilchk (.const t0))) (fun t80_53 S =>
      wp (X C (.fldA 1 (.const t80_53))) (fun t81_54 S =>
      wp (X C (.load .one (.const t81_54))) (fun t82_55 S =>
      wp (X C (.bin .neq (.const t82_55) (.const (.int .i64 7)))) (fun t83_56 S =>
      andP true t83_56 (fun K S =>
       wp (X C (.nilchk (.const t0))) (fun t87_57 S =>
       wp (X C (.fldA 1 (.const t87_57))) (fun t88_58 S =>
       wp (X C (.load .one (.const t88_58))) (fun t89_59 S =>
       wp (X C (.ixS (.const (.string ⟨⟨[72, 84, 84, 80, 47, 49, 46, 48, 32, 48, 48, 48]⟩⟩)) (.const t89_59))) (fun t90_60 S =>
       wp (X C (.bin .neq (.const t1) (.const t90_60))) (fun t91_61 S =>
       K t91_61 S) S) S) S) S) S) (fun t92_62 S =>
      ifP (Wb.asBool t92_62) (fun S =>
       Φ (.bool false) S) (fun S =>
       J20 (.bool false) S) S) S) S) S) S) S) S) S) S) S) S) S) S)) S) S) S) S) S) S) S) S) S) S) S) S) S) S) S) S) S
theorem p130 (C : Tgt → List Value → M Value) (n : Nat) (Φ : Value → Hp → Prop) (t0 t1 : Value) (S : Hp) : codeP C A130 n 1 b130 (argsEnv [t0, t1] 0 .leaf) (endP [.tmp 4] Φ) S = P130 C n Φ t0 t1 S := by kernel_rfl
theorem g130 : T 130 = some (.go ⟨2, [.tmp 4], b130⟩) := by kernel_rfl
attribute [irreducible] b130
theorem c130 {F : Nat → Option AFn} (hF : F 130 = some (.go ⟨2, [.tmp 4], b130⟩)) {n : Nat} {Φ : Value → Hp → Prop} {t0 t1 : Value} {S : Hp} (h : P130 (callN F n) n Φ t0 t1 S) : wp (callN F (n + 1) (.fn 130) [t0, t1]) Φ S := callP (A := A130) hF rfl (Eq.mpr (p130 (callN F n) n Φ t0 t1 S) h)


noncomputable def b148 : ACode := bodyOf (T 148)
def A148 : List (Nat × List Nat) := []
def P148 (C : Tgt → List Value → M Value) (n : Nat) (Φ : Value → Hp → Prop) (t0 : Value) (S : Hp) : Prop :=
  wp (X C (.mkfn 169 [(.const t0)] [])) (fun t4_0 S =>
  Φ t4_0 S) S
theorem p148 (C : Tgt → List Value → M Value) (n : Nat) (Φ : Value → Hp → Prop) (t0 : Value) (S : Hp) : codeP C A148 n 1 b148 (argsEnv [t0] 0 .leaf) (endP [.tmp 2] Φ) S = P148 C n Φ t0 S := by kernel_rfl
theorem g148 : T 148 = some (.go ⟨1, [.tmp 2], b148⟩) := by kernel_rfl
attribute [irreducible] b148
theorem c148 {F : Nat → Option AFn} (hF : F 148 = some (.go ⟨1, [.tmp 2], b148⟩)) {n : Nat} {Φ : Value → Hp → Prop} {t0 : Value} {S : Hp} (h : P148 (callN F n) n Φ t0 S) : wp (callN F (n + 1) (.fn 148) [t0]) Φ S := callP (A := A148) hF rfl (Eq.mpr (p148 (callN F n) n Φ t0 S) h)


noncomputable def b149 : ACode := bodyOf (T 149)
def A149 : List (Nat × List Nat) := []
def P149 (C : Tgt → List Value → M Value) (n : Nat) (Φ : Value → Hp → Prop) (t0 t1 : Value) (S : Hp) : Prop :=
  wp (X C (.bin .eql (.const t1) (.const (.int .u8 13)))) (fun t7_0 S =>
  ifP (Wb.asBool t7_0) (fun S =>
   wp (X C (.nilchk (.const t0))) (fun t9_1 S =>
   wp (X C (.fldA 0 (.const t9_1))) (fun t10_2 S =>
   wp (X C (.store 1 (.const t10_2) (.const (.func (.func 170) ⟨[]⟩ ⟨[]⟩)))) (fun _ S =>
   Φ (.bool true) S) S) S) S) (fun S =>
   wp (X C (.bin .eql (.const t1) (.const (.int .u8 10)))) (fun t12_3 S =>
   ifP (Wb.asBool t12_3) (fun S =>
    wp (X C (.call (.const (.func (.func 171) ⟨[]⟩ ⟨[]⟩)) [(.const t0), (.const t1)])) (fun t15_4 S =>
    Φ t15_4 S) S) (fun S =>
    Φ (.bool false) S) S) S) S) S
theorem p149 (C : Tgt → List Value → M Value) (n : Nat) (Φ : Value → Hp → Prop) (t0 t1 : Value) (S : Hp) : codeP C A149 n 1 b149 (argsEnv [t0, t1] 0 .leaf) (endP [.tmp 4] Φ) S = P149 C n Φ t0 t1 S := by kernel_rfl
theorem g149 : T 149 = some (.go ⟨2, [.tmp 4], b149⟩) := by kernel_rfl
attribute [irreducible] b149
theorem c149 {F : Nat → Option AFn} (hF : F 149 = some (.go ⟨2, [.tmp 4], b149⟩)) {n : Nat} {Φ : Value → Hp → Prop} {t0 t1 : Value} {S : Hp} (h : P149 (callN F n) n Φ t0 t1 S) : wp (callN F (n + 1) (.fn 149) [t0, t1]) Φ S := callP (A := A149) hF rfl (Eq.mpr (p149 (callN F n) n Φ t0 t1 S) h)


noncomputable def b169 : ACode := bodyOf (T 169)
def A169 : List (Nat × List Nat) := []
def P169 (C : Tgt → List Value → M Value) (n : Nat) (Φ : Value → Hp → Prop) (t0 t1 : Value) (S : Hp) : Prop :=
  wp (X C (.bin .geq (.const t1) (.const (.int .u8 32)))) (fun t6_0 S =>
  andP false t6_0 (fun K S =>
   wp (X C (.bin .eql (.const t1) (.const (.int .u8 9)))) (fun t9_1 S =>
   K t9_1 S) S) (fun t10_2 S =>
  andP false t10_2 (fun K S =>
   wp (X C (.call (.const (.func (.func 149) ⟨[]⟩ ⟨[]⟩)) [(.const t0), (.const t1)])) (fun t14_3 S =>
   K t14_3 S) S) (fun t15_4 S =>
  Φ t15_4 S) S) S) S
theorem p169 (C : Tgt → List Value → M Value) (n : Nat) (Φ : Value → Hp → Prop) (t0 t1 : Value) (S : Hp) : codeP C A169 n 1 b169 (argsEnv [t0, t1] 0 .leaf) (endP [.tmp 4] Φ) S = P169 C n Φ t0 t1 S := by kernel_rfl
theorem g169 : T 169 = some (.go ⟨2, [.tmp 4], b169⟩) := by kernel_rfl
attribute [irreducible] b169
theorem c169 {F : Nat → Option AFn} (hF : F 169 = some (.go ⟨2, [.tmp 4], b169⟩)) {n : Nat} {Φ : Value → Hp → Prop} {t0 t1 : Value} {S : Hp} (h : P169 (callN F n) n Φ t0 t1 S) : wp (callN F (n + 1) (.fn 169) [t0, t1]) Φ S := callP (A := A169) hF rfl (Eq.mpr (p169 (callN F n) n Φ t0 t1 S) h)


noncomputable def b170 : ACode := bodyOf (T 170)
def A170 : List (Nat × List Nat) := []
def P170 (C : Tgt → List Value → M Value) (n : Nat) (Φ : Value → Hp → Prop) (t0 : Value) (S : Hp) : Prop :=
  wp (X C (.mkfn 171 [(.const t0)] [])) (fun t4_0 S =>
  Φ t4_0 S) S
theorem p170 (C : Tgt → List Value → M Value) (n : Nat) (Φ : Value → Hp → Prop) (t0 : Value) (S : Hp) : codeP C A170 n 1 b170 (argsEnv [t0] 0 .leaf) (endP [.tmp 2] Φ) S = P170 C n Φ t0 S := by kernel_rfl
theorem g170 : T 170 = some (.go ⟨1, [.tmp 2], b170⟩) := by kernel_rfl
attribute [irreducible] b170
theorem c170 {F : Nat → Option AFn} (hF : F 170 = some (.go ⟨1, [.tmp 2], b170⟩)) {n : Nat} {Φ : Value → Hp → Prop} {t0 : Value} {S : Hp} (h : P170 (callN F n) n Φ t0 S) : wp (callN F (n + 1) (.fn 170) [t0]) Φ S := callP (A := A170) hF rfl (Eq.mpr (p170 (callN F n) n Φ t0 S) h)


noncomputable def b171 : ACode := bodyOf (T 171)
def A171 : List (Nat × List Nat) := []
def P171 (C : Tgt → List Value → M Value) (n : Nat) (Φ : Value → Hp → Prop) (t0 t1 : Value) (S : Hp) : Prop :=
  wp (X C (.bin .neq (.const t1) (.const (.int .u8 10)))) (fun t6_0 S =>
  ifP (Wb.asBool t6_0) (fun S =>
   Φ (.bool false) S) (fun S =>
   wp (X C (.nilchk (.const t0))) (fun t8_1 S =>
   wp (X C (.fldA 3 (.const t8_1))) (fun t9_2 S =>
   wp (X C (.load .one (.const t9_2))) (fun t10_3 S =>
   wp (X C (.bin .add (.const t10_3) (.const (.int .i64 1)))) (fun t11_4 S =>
   wp (X C (.nilchk (.const t0))) (fun t12_5 S =>
   wp (X C (.fldA 3 (.const t12_5))) (fun t13_6 S =>
   wp (X C (.store 1 (.const t13_6) (.const t11_4))) (fun _ S =>
   wp (X C (.nilchk (.const t0))) (fun t17_7 S =>
   wp (X C (.fldA 1 (.const t17_7))) (fun t18_8 S =>
   wp (X C (.load .one (.const t18_8))) (fun t19_9 S =>
   wp (X C (.bin .eql (.const t19_9) (.const (.int .i64 0)))) (fun t20_10 S =>
   wp (X C (.nilchk (.const t0))) (fun t21_11 S =>
   wp (X C (.fldA 0 (.const t21_11))) (fun t22_12 S =>
   wp (X C (.store 1 (.const t22_12) (.const (.func (.func 181) ⟨[]⟩ ⟨[]⟩)))) (fun _ S =>
   wp (X C (.nilchk (.const t0))) (fun t23_13 S =>
   wp (X C (.fldA 5 (.const t23_13))) (fun t24_14 S =>
   wp (X C (.store 1 (.const t24_14) (.const t20_10))) (fun _ S =>
   wp (X C (.nilchk (.const t0))) (fun t26_15 S =>
   wp (X C (.fldA 1 (.const t26_15))) (fun t27_16 S =>
   wp (X C (.store 1 (.const t27_16) (.const (.int .i64 0)))) (fun _ S =>
   Φ (.bool true) S) S) S) S) S) S) S) S) S) S) S) S) S) S) S) S) S) S) S) S) S) S) S
theorem p171 (C : Tgt → List Value → M Value) (n : Nat) (Φ : Value → Hp → Prop) (t0 t1 : Value) (S : Hp) : codeP C A171 n 1 b171 (argsEnv [t0, t1] 0 .leaf) (endP [.tmp 4] Φ) S = P171 C n Φ t0 t1 S := by kernel_rfl
theorem g171 : T 171 = some (.go ⟨2, [.tmp 4], b171⟩) := by kernel_rfl
attribute [irreducible] b171
theorem c171 {F : Nat → Option AFn} (hF : F 171 = some (.go ⟨2, [.tmp 4], b171⟩)) {n : Nat} {Φ : Value → Hp → Prop} {t0 t1 : Value} {S : Hp} (h : P171 (callN F n) n Φ t0 t1 S) : wp (callN F (n + 1) (.fn 171) [t0, t1]) Φ S := callP (A := A171) hF rfl (Eq.mpr (p171 (callN F n) n Φ t0 t1 S) h)


noncomputable def b181 : ACode := bodyOf (T 181)
def A181 : List (Nat × List Nat) := []
def P181 (C : Tgt → List Value → M Value) (n : Nat) (Φ : Value → Hp → Prop) (t0 : Value) (S : Hp) : Prop :=
  wp (X C (.mkfn 183 [(.const t0)] [])) (fun t4_0 S =>
  Φ t4_0 S) S
theorem p181 (C : Tgt → List Value → M Value) (n : Nat) (Φ : Value → Hp → Prop) (t0 : Value) (S : Hp) : codeP C A181 n 1 b181 (argsEnv [t0] 0 .leaf) (endP [.tmp 2] Φ) S = P181 C n Φ t0 S := by kernel_rfl
theorem g181 : T 181 = some (.go ⟨1, [.tmp 2], b181⟩) := by kernel_rfl
attribute [irreducible] b181
theorem c181 {F : Nat → Option AFn} (hF : F 181 = some (.go ⟨1, [.tmp 2], b181⟩)) {n : Nat} {Φ : Value → Hp → Prop} {t0 : Value} {S : Hp} (h : P181 (callN F n) n Φ t0 S) : wp (callN F (n + 1) (.fn 181) [t0]) Φ S := callP (A := A181) hF rfl (Eq.mpr (p181 (callN F n) n Φ t0 S) h)


noncomputable def b183 : ACode := bodyOf (T 183)
def A183 : List (Nat × List Nat) := []
def P183 (C : Tgt → List Value → M Value) (n : Nat) (Φ : Value → Hp → Prop) (t0 t1 : Value) (S : Hp) : Prop :=
  wp (X C (.call (.const (.func (.func 184) ⟨[]⟩ ⟨[]⟩)) [(.const t1)])) (fun t7_0 S =>
  andP false t7_0 (fun K S =>
   wp (X C (.call (.const (.func (.func 185) ⟨[]⟩ ⟨[]⟩)) [(.const (.string ⟨⟨[33, 35, 36, 37, 38, 39, 42, 43, 45, 46, 94, 95, 124, 126, 96]⟩⟩)), (.const t1)])) (fun t10_1 S =>
   wp (X C (.bin .geq (.const t10_1) (.const (.int .i64 0)))) (fun t11_2 S =>
   K t11_2 S) S) S) (fun t12_3 S =>
  ifP (Wb.asBool t12_3) (fun S =>
   wp (X C (.nilchk (.const t0))) (fun t14_4 S =>
   wp (X C (.fldA 1 (.const t14_4))) (fun t15_5 S =>
   wp (X C (.load .one (.const t15_5))) (fun t16_6 S =>
   wp (X C (.bin .add (.const t16_6) (.const (.int .i64 1)))) (fun t17_7 S =>
   wp (X C (.nilchk (.const t0))) (fun t18_8 S =>
   wp (X C (.fldA 1 (.const t18_8))) (fun t19_9 S =>
   wp (X C (.store 1 (.const t19_9) (.const t17_7))) (fun _ S =>
   Φ (.bool true) S) S) S) S) S) S) S) S) (fun S =>
   wp (X C (.bin .eql (.const t1) (.const (.int .u8 58)))) (fun t22_10 S =>
   andP true t22_10 (fun K S =>
    wp (X C (.nilchk (.const t0))) (fun t25_11 S =>
    wp (X C (.fldA 1 (.const t25_11))) (fun t26_12 S =>
    wp (X C (.load .one (.const t26_12))) (fun t27_13 S =>
    wp (X C (.bin .gtr (.const t27_13) (.const (.int .i64 0)))) (fun t28_14 S =>
    K t28_14 S) S) S) S) S) (fun t29_15 S =>
   ifP (Wb.asBool t29_15) (fun S =>
    wp (X C (.nilchk (.const t0))) (fun t31_16 S =>
    wp (X C (.fldA 0 (.const t31_16))) (fun t32_17 S =>
    wp (X C (.store 1 (.const t32_17) (.const (.func (.func 148) ⟨[]⟩ ⟨[]⟩)))) (fun _ S =>
    Φ (.bool true) S) S) S) S) (fun S =>
    wp (X C (.nilchk (.const t0))) (fun t34_18 S =>
    wp (X C (.fldA 1 (.const t34_18))) (fun t35_19 S =>
    wp (X C (.load .one (.const t35_19))) (fun t36_20 S =>
    wp (X C (.bin .eql (.const t36_20) (.const (.int .i64 0)))) (fun t37_21 S =>
    andP true t37_21 (fun K S =>
     wp (X C (.call (.const (.func (.func 149) ⟨[]⟩ ⟨[]⟩)) [(.const t0), (.const t1)])) (fun t41_22 S =>
     K t41_22 S) S) (fun t42_23 S =>
    Φ t42_23 S) S) S) S) S) S) S) S) S) S) S) S
theorem p183 (C : Tgt → List Value → M Value) (n : Nat) (Φ : Value → Hp → Prop) (t0 t1 : Value) (S : Hp) : codeP C A183 n 1 b183 (argsEnv [t0, t1] 0 .leaf) (endP [.tmp 4] Φ) S = P183 C n Φ t0 t1 S := by kernel_rfl
theorem g183 : T 183 = some (.go ⟨2, [.tmp 4], b183⟩) := by kernel_rfl
attribute [irreducible] b183
theorem c183 {F : Nat → Option AFn} (hF : F 183 = some (.go ⟨2, [.tmp 4], b183⟩)) {n : Nat} {Φ : Value → Hp → Prop} {t0 t1 : Value} {S : Hp} (h : P183 (callN F n) n Φ t0 t1 S) : wp (callN F (n + 1) (.fn 183) [t0, t1]) Φ S := callP (A := A183) hF rfl (Eq.mpr (p183 (callN F n) n Φ t0 t1 S) h)


noncomputable def b184 : ACode := bodyOf (T 184)
def A184 : List (Nat × List Nat) := []
def P184 (C : Tgt → List Value → M Value) (n : Nat) (Φ : Value → Hp → Prop) (t0 : Value) (S : Hp) : Prop :=
  wp (X C (.bin .geq (.const t0) (.const (.int .u8 48)))) (fun t4_0 S =>
  andP true t4_0 (fun K S =>
   wp (X C (.bin .leq (.const t0) (.const (.int .u8 57)))) (fun t7_1 S =>
   K t7_1 S) S) (fun t8_2 S =>
  andP false t8_2 (fun K S =>
   wp (X C (.bin .geq (.const t0) (.const (.int .u8 97)))) (fun t11_3 S =>
   andP true t11_3 (fun K S =>
    wp (X C (.bin .leq (.const t0) (.const (.int .u8 122)))) (fun t14_4 S =>
    K t14_4 S) S) (fun t15_5 S =>
   K t15_5 S) S) S) (fun t16_6 S =>
  andP false t16_6 (fun K S =>
   wp (X C (.bin .geq (.const t0) (.const (.int .u8 65)))) (fun t19_7 S =>
   andP true t19_7 (fun K S =>
    wp (X C (.bin .leq (.const t0) (.const (.int .u8 90)))) (fun t22_8 S =>
    K t22_8 S) S) (fun t23_9 S =>
   K t23_9 S) S) S) (fun t24_10 S =>
  Φ t24_10 S) S) S) S) S
theorem p184 (C : Tgt → List Value → M Value) (n : Nat) (Φ : Value → Hp → Prop) (t0 : Value) (S : Hp) : codeP C A184 n 1 b184 (argsEnv [t0] 0 .leaf) (endP [.tmp 2] Φ) S = P184 C n Φ t0 S := by kernel_rfl
theorem g184 : T 184 = some (.go ⟨1, [.tmp 2], b184⟩) := by kernel_rfl
attribute [irreducible] b184
theorem c184 {F : Nat → Option AFn} (hF : F 184 = some (.go ⟨1, [.tmp 2], b184⟩)) {n : Nat} {Φ : Value → Hp → Prop} {t0 : Value} {S : Hp} (h : P184 (callN F n) n Φ t0 S) : wp (callN F (n + 1) (.fn 184) [t0]) Φ S := callP (A := A184) hF rfl (Eq.mpr (p184 (callN F n) n Φ t0 S) h)



end Go.Proofs.Ytmepokefmpcnnaa.Ht
