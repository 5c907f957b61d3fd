/- Layer 28's functions, as texts. -/
import Derived.Test.YtmepokefmpcnnaaEngRX
import Derived.KernelRfl
import Derived.Test.YtmepokefmpcnnaaProg
set_option maxRecDepth 100000
set_option linter.unusedVariables false
namespace Go.Proofs.Ytmepokefmpcnnaa.Dr
open Go.Wb
noncomputable def T0 : Nat → Option AFn := tabOf Try.prog
noncomputable def T1 : Nat → Option AFn := withExt T0 98 (.insert 1 16)
noncomputable def T2 : Nat → Option AFn := withExt T1 99 (.insert 1 8)
/-- known() by its answer -/
noncomputable def T : Nat → Option AFn := withSum T2 49 (plG T2 49)
theorem T1_ok (hm : Try.prog.follows .mixedOrders = true) : TabOk Try.prog T1 := withExt_ok (tabOk Try.prog) (insert_ok (elem := 9) (ov := 133) (rot := 134) (zero := [.string ⟨⟨[]⟩⟩]) hm (tabOk Try.prog) (by kernel_rfl) (by kernel_rfl) (by kernel_rfl) (by kernel_rfl))
theorem T2_ok (hm : Try.prog.follows .mixedOrders = true) : TabOk Try.prog T2 := withExt_ok (T1_ok hm) (insert_ok (elem := 3) (ov := 135) (rot := 136) (zero := [.int .i64 0]) hm (T1_ok hm) (by kernel_rfl) (by kernel_rfl) (by kernel_rfl) (by kernel_rfl))
theorem T_ok (hm : Try.prog.follows .mixedOrders = true) : TabOk Try.prog T := withSum_ok (T2_ok hm) (plG_ok hm (T2_ok hm) 49)
theorem known : plG T2 49 [] = some (.bool true) := plG_known (by kernel_rfl)
theorem kn (n : Nat) (Φ : Value → Hp → Prop) (S : Hp) : wp (callN T (n + 1) (.fn 49) []) Φ S = Φ (.bool true) S := by
  rw [P_sum (F := T) (f := 49) (g := plG T2 49) ws_eq, known]; rfl
theorem g98 : T 98 = some (.ext (.insert 1 16)) := by kernel_rfl
theorem g99 : T 99 = some (.ext (.insert 1 8)) := by kernel_rfl
noncomputable def b50 : ACode := bodyOf (T 50)
def A50 : List (Nat × List Nat) := []
def P50 (C : Tgt → List Value → M Value) (n : Nat) (Φ : Value → Hp → Prop) (S : Hp) : Prop :=
  wp (X C (.build [(.slice none 0 0), (.slice none 0 0), (.slice none 0 0), (.int .i64 0), (.bool false), (.bool false)] [(4, 1, (.const (.bool true)))])) (fun t1_0 S =>
  wp (X C (.box 113 (.const t1_0))) (fun t2_1 S =>
  Φ t2_1 S) S) S
theorem p50 (C : Tgt → List Value → M Value) (n : Nat) (Φ : Value → Hp → Prop) (S : Hp) : codeP C A50 n 1 b50 (argsEnv [] 0 .leaf) (endP [.tmp 0] Φ) S = P50 C n Φ  S := by kernel_rfl
theorem g50 : T 50 = some (.go ⟨0, [.tmp 0], b50⟩) := by kernel_rfl
attribute [irreducible] b50
theorem c50 {F : Nat → Option AFn} (hF : F 50 = some (.go ⟨0, [.tmp 0], b50⟩)) {n : Nat} {Φ : Value → Hp → Prop} {S : Hp} (h : P50 (callN F n) n Φ  S) : wp (callN F (n + 1) (.fn 50) []) Φ S := callP (A := A50) hF rfl (Eq.mpr (p50 (callN F n) n Φ  S) h)


noncomputable def b52 : ACode := bodyOf (T 52)
def A52 : List (Nat × List Nat) := [(126, [41760])]
def P52 (C : Tgt → List Value → M Value) (n : Nat) (Φ : Value → Hp → Prop) (t0 t1 t2 : Value) (S : Hp) : Prop :=
  wp (X C (.call (.const (.func (.func 95) ⟨[]⟩ ⟨[]⟩)) [(.const t0)])) (fun t10_0 S =>
  ifP (Wb.asBool t10_0) (fun S =>
   Φ (.int .i64 1) S) (fun S =>
   wp (X C (.nilchk (.const t0))) (fun t13_1 S =>
   wp (X C (.fldA 0 (.const t13_1))) (fun t14_2 S =>
   wp (X C (.load .one (.const t14_2))) (fun t15_3 S =>
   wp (X C (.call (.const (.func (.func 96) ⟨[]⟩ ⟨[]⟩)) [(.const t15_3), (.const t1)])) (fun t17_4 S =>
   wp (X C (.ext (.const t17_4) 0)) (fun t18_5 S =>
   wp (X C (.ext (.const t17_4) 1)) (fun t19_6 S =>
   wp (X C (.call (.const (.func (.func 97) ⟨[]⟩ ⟨[]⟩)) [(.const t2)])) (fun t22_7 S =>
   wp (X C (.un .not (.const t22_7))) (fun t23_8 S =>
   ifP (Wb.asBool t23_8) (fun S =>
    Φ (.int .i64 2) S) (fun S =>
    ifP (Wb.asBool t19_6) (fun S =>
     Φ (.int .i64 8) S) (fun S =>
     wp (X C (.nilchk (.const t0))) (fun t28_9 S =>
     wp (X C (.fldA 0 (.const t28_9))) (fun t29_10 S =>
     wp (X C (.load .one (.const t29_10))) (fun t30_11 S =>
     wp (X C (.len .slice (.const t30_11))) (fun t31_12 S =>
     wp (X C (.bin .eql (.const t31_12) (.const (.int .i64 64)))) (fun t32_13 S =>
     ifP (Wb.asBool t32_13) (fun S =>
      Φ (.int .i64 9) S) (fun S =>
      wp (X C (.nilchk (.const t0))) (fun t36_14 S =>
      wp (X C (.fldA 3 (.const t36_14))) (fun t37_15 S =>
      wp (X C (.load .one (.const t37_15))) (fun t38_16 S =>
      wp (X C (.bin .leq (.const t18_5) (.const t38_16))) (fun t39_17 S =>
      andP true t39_17 (fun K S =>
       wp (X C (.nilchk (.const t0))) (fun t42_18 S =>
       wp (X C (.fldA 0 (.const t42_18))) (fun t43_19 S =>
       wp (X C (.load .one (.const t43_19))) (fun t44_20 S =>
       wp (X C (.len .slice (.const t44_20))) (fun t45_21 S =>
       wp (X C (.bin .gtr (.const t45_21) (.const (.int .i64 0)))) (fun t46_22 S =>
       K t46_22 S) S) S) S) S) S) (fun t47_23 S =>
      jn (fun (S : Hp) =>
       wp (X C (.nilchk (.const t0))) (fun t57_25 S =>
       wp (X C (.fldA 0 (.const t57_25))) (fun t58_26 S =>
       wp (X C (.load .one (.const t58_26))) (fun t59_27 S =>
       wp (X C (.bslice 9 1 [(.string ⟨⟨[]⟩⟩)] [(0, 1, (.const t1))])) (fun t62_28 S =>
       wp (X C (.call (.const (.func (.func 98) ⟨[]⟩ ⟨[]⟩)) [(.const t59_27), (.const t18_5), (.const t62_28)])) (fun t63_29 S =>
       wp (X C (.nilchk (.const t0))) (fun t64_30 S =>
       wp (X C (.fldA 0 (.const t64_30))) (fun t65_31 S =>
       wp (X C (.store 1 (.const t65_31) (.const t63_29))) (fun _ S =>
       wp (X C (.nilchk (.const t0))) (fun t69_32 S =>
       wp (X C (.fldA 1 (.const t69_32))) (fun t70_33 S =>
       dstepP 5 [] (X C (.load .one (.const t70_33))) (fun t71_34 ts S =>
       dstepP 8 ts (X C (.bslice 3 1 [(.int .i64 0)] [(0, 1, (.const t2))])) (fun t74_35 ts S =>
       dstepP 9 ts (X C (.call (.const (.func (.func 99) ⟨[]⟩ ⟨[]⟩)) [(.const t71_34), (.const t18_5), (.const t74_35)])) (fun t75_36 ts S =>
       wp (X C (.nilchk (.const t0))) (fun t77_37 S =>
       wp (X C (.fldA 2 (.const t77_37))) (fun t78_38 S =>
       dstepP 13 ts (X C (.load .one (.const t78_38))) (fun t79_39 ts S =>
       dstepP 15 ts (X C (.bslice 3 1 [(.int .i64 0)] [(0, 1, (.const (.int .i64 0)))])) (fun t81_40 ts S =>
       wp (X C (.call (.const (.func (.func 99) ⟨[]⟩ ⟨[]⟩)) [(.const t79_39), (.const t18_5), (.const t81_40)])) (fun t82_41 S =>
       wp (X C (.nilchk (.const t0))) (fun t83_42 S =>
       wp (X C (.fldA 1 (.const t83_42))) (fun t84_43 S =>
       wp (X C (.store 1 (.const t84_43) (.const t75_36))) (fun _ S =>
       wp (X C (.nilchk (.const t0))) (fun t85_44 S =>
       wp (X C (.fldA 2 (.const t85_44))) (fun t86_45 S =>
       wp (X C (.store 1 (.const t86_45) (.const t82_41))) (fun _ S =>
       okP (apartAll [0, 0, 0, 4, 12, 28, 0, 0, 128, 508, 0, 1024, 3072, 7168, 0, 0, 65532, 131069, 262141, 524285, 1048575, 2097151, 4194303] ts) (fun S =>
       Φ (.int .i64 0) S) S) S) S) S) S) S) S) S) S) S) S) S) S) S) S) S) S) S) S) S) S) S) S) S) S) (fun J24 =>
      ifP (Wb.asBool t47_23) (fun S =>
       wp (X C (.nilchk (.const t0))) (fun t49_46 S =>
       wp (X C (.fldA 3 (.const t49_46))) (fun t50_47 S =>
       wp (X C (.load .one (.const t50_47))) (fun t51_48 S =>
       wp (X C (.bin .add (.const t51_48) (.const (.int .i64 1)))) (fun t52_49 S =>
       wp (X C (.nilchk (.const t0))) (fun t53_50 S =>
       wp (X C (.fldA 3 (.const t53_50))) (fun t54_51 S =>
       wp (X C (.store 1 (.const t54_51) (.const t52_49))) (fun _ S =>
       J24 S) S) S) S) S) S) S) S) (fun S =>
       J24 S) S)) S) S) S) S) S) S) S) S) S) S) S) S) S) S) S) S) S) S) S) S) S) S) S
theorem p52 (C : Tgt → List Value → M Value) (n : Nat) (Φ : Value → Hp → Prop) (t0 t1 t2 : Value) (S : Hp) : codeP C A52 n 1 b52 (argsEnv [t0, t1, t2] 0 .leaf) (endP [.tmp 6] Φ) S = P52 C n Φ t0 t1 t2 S := by kernel_rfl
theorem g52 : T 52 = some (.go ⟨3, [.tmp 6], b52⟩) := by kernel_rfl
attribute [irreducible] b52
theorem c52 {F : Nat → Option AFn} (hF : F 52 = some (.go ⟨3, [.tmp 6], b52⟩)) {n : Nat} {Φ : Value → Hp → Prop} {t0 t1 t2 : Value} {S : Hp} (h : P52 (callN F n) n Φ t0 t1 t2 S) : wp (callN F (n + 1) (.fn 52) [t0, t1, t2]) Φ S := callP (A := A52) hF rfl (Eq.mpr (p52 (callN F n) n Φ t0 t1 t2 S) h)


noncomputable def b53 : ACode := bodyOf (T 53)
def A53 : List (Nat × List Nat) := []
def P53 (C : Tgt → List Value → M Value) (n : Nat) (Φ : Value → Hp → Prop) (t0 t1 : Value) (S : Hp) : Prop :=
  wp (X C (.len .slice (.const t0))) (fun t8_0 S =>
  wp (X C (.bin .rem (.const t1) (.const t8_0))) (fun t9_1 S =>
  wp (X C (.ixA 1 (.const t0) (.const t9_1))) (fun t10_2 S =>
  wp (X C (.load .one (.const t10_2))) (fun t11_3 S =>
  wp (X C (.conv (.int .i64) (.const t11_3))) (fun t12_4 S =>
  wp (X C (.bin .rem (.const t12_4) (.const (.int .i64 1537)))) (fun t13_5 S =>
  wp (X C (.bin .add (.const (.int .i64 64)) (.const t13_5))) (fun t14_6 S =>
  Φ t14_6 S) S) S) S) S) S) S) S
theorem p53 (C : Tgt → List Value → M Value) (n : Nat) (Φ : Value → Hp → Prop) (t0 t1 : Value) (S : Hp) : codeP C A53 n 1 b53 (argsEnv [t0, t1] 0 .leaf) (endP [.tmp 4] Φ) S = P53 C n Φ t0 t1 S := by kernel_rfl
theorem g53 : T 53 = some (.go ⟨2, [.tmp 4], b53⟩) := by kernel_rfl
attribute [irreducible] b53
theorem c53 {F : Nat → Option AFn} (hF : F 53 = some (.go ⟨2, [.tmp 4], b53⟩)) {n : Nat} {Φ : Value → Hp → Prop} {t0 t1 : Value} {S : Hp} (h : P53 (callN F n) n Φ t0 t1 S) : wp (callN F (n + 1) (.fn 53) [t0, t1]) Φ S := callP (A := A53) hF rfl (Eq.mpr (p53 (callN F n) n Φ t0 t1 S) h)


noncomputable def b54 : ACode := bodyOf (T 54)
def A54 : List (Nat × List Nat) := [(130612, [0]), (261236, [0]), (510, [0, 4, 5, 7]), (250, [0, 4, 5, 6, 7, 8, 28, 29, 30])]
def P54 (C : Tgt → List Value → M Value) (n : Nat) (Φ : Value → Hp → Prop) (t0 t1 : Value) (S : Hp) : Prop :=
  wp (X C (.box 97 (.const t1))) (fun t3_0 S =>
  wp (X C (.call (.const (.func (.func 95) ⟨[]⟩ ⟨[]⟩)) [(.const t0)])) (fun t13_1 S =>
  andP false t13_1 (fun K S =>
   wp (X C (.load .one (.const t3_0))) (fun t15_2 S =>
   wp (X C (.eq false (.nil .func) (.const t15_2) (.const .nilFunc))) (fun t16_3 S =>
   K t16_3 S) S) S) (fun t17_4 S =>
  ifP (Wb.asBool t17_4) (fun S =>
   Φ (.tuple ⟨[(.string ⟨⟨[]⟩⟩), (.bool false)]⟩) S) (fun S =>
   wp (X C (.mkfn 100 [] [(.const t3_0)])) (fun t18_5 S =>
   wp (X C (.nilchk (.const t0))) (fun t20_6 S =>
   wp (X C (.fldA 0 (.const t20_6))) (fun t21_7 S =>
   wp (X C (.load .one (.const t21_7))) (fun t22_8 S =>
   wp (X C (.len .slice (.const t22_8))) (fun t23_9 S =>
   wp (X C (.mkslice 3 1 8 [(.int .i64 0)] (.const t23_9) (.const t23_9))) (fun t24_10 S =>
   wp (X C (.nilchk (.const t0))) (fun t26_11 S =>
   wp (X C (.fldA 0 (.const t26_11))) (fun t27_12 S =>
   wp (X C (.load .one (.const t27_12))) (fun t28_13 S =>
   wp (X C (.len .slice (.const t28_13))) (fun t29_14 S =>
   ∃ I15 : Nat → Value → Value → Value → Value → Value → Value → Value → Value → Value → Hp → Prop, (∃ m, m < n ∧ I15 m t0 (.string ⟨⟨[]⟩⟩) (.bool false) t18_5 t24_10 (.bool false) t28_13 t29_14 (.int .i64 0) S) ∧ ∀ (m15 : Nat) (S : Hp) (t0_16 t4_17 t5_18 t6_19 t7_20 t8_21 t28_22 t29_23 t30_24 : Value), I15 m15 t0_16 t4_17 t5_18 t6_19 t7_20 t8_21 t28_22 t29_23 t30_24 S →
    wp (X C (.bin .lss (.const t30_24) (.const t29_23))) (fun t31_25 S =>
    ifP (Wb.asBool t31_25) (fun S =>
     wp (X C (.ixA 1 (.const t28_22) (.const t30_24))) (fun t33_26 S =>
     wp (X C (.load .one (.const t33_26))) (fun t34_27 S =>
     wp (X C (.call (.const t6_19) [(.const t34_27)])) (fun t39_28 S =>
     wp (X C (.ixA 1 (.const t7_20) (.const t30_24))) (fun t40_29 S =>
     wp (X C (.store 1 (.const t40_29) (.const t39_28))) (fun _ S =>
     andP false t8_21 (fun K S =>
      wp (X C (.ixA 1 (.const t7_20) (.const t30_24))) (fun t45_30 S =>
      wp (X C (.load .one (.const t45_30))) (fun t46_31 S =>
      wp (X C (.bin .gtr (.const t46_31) (.const (.int .i64 0)))) (fun t47_32 S =>
      K t47_32 S) S) S) S) (fun t48_33 S =>
     wp (X C (.bin .add (.const t30_24) (.const (.int .i64 1)))) (fun t49_34 S =>
     ∃ j15, j15 < m15 ∧ I15 j15 t0_16 t4_17 t5_18 t6_19 t7_20 t48_33 t28_22 t29_23 t49_34 S) S) S) S) S) S) S) S) (fun S =>
     wp (X C (.un .not (.const t8_21))) (fun t51_35 S =>
     ifP (Wb.asBool t51_35) (fun S =>
      wp (X C (.nilchk (.const t0_16))) (fun t53_36 S =>
      wp (X C (.fldA 2 (.const t53_36))) (fun t54_37 S =>
      wp (X C (.load .one (.const t54_37))) (fun t55_38 S =>
      wp (X C (.clear [(.int .i64 0)] (.const t55_38))) (fun _ S =>
      Φ (.tuple ⟨[(.string ⟨⟨[]⟩⟩), (.bool false)]⟩) S) S) S) S) S) (fun S =>
      ∃ I39 : Nat → Value → Value → Value → Value → Hp → Prop, (∃ m, m < n ∧ I39 m t0_16 t4_17 t5_18 t7_20 S) ∧ ∀ (m39 : Nat) (S : Hp) (t0_40 t4_41 t5_42 t7_43 : Value), I39 m39 t0_40 t4_41 t5_42 t7_43 S →
       wp (X C (.nilchk (.const t0_40))) (fun t57_44 S =>
       wp (X C (.fldA 3 (.const t57_44))) (fun t58_45 S =>
       wp (X C (.load .one (.const t58_45))) (fun t59_46 S =>
       wp (X C (.ixA 1 (.const t7_43) (.const t59_46))) (fun t62_47 S =>
       wp (X C (.load .one (.const t62_47))) (fun t63_48 S =>
       wp (X C (.bin .eql (.const t63_48) (.const (.int .i64 0)))) (fun t64_49 S =>
       ifP (Wb.asBool t64_49) (fun S =>
        wp (X C (.nilchk (.const t0_40))) (fun t66_50 S =>
        wp (X C (.fldA 2 (.const t66_50))) (fun t67_51 S =>
        wp (X C (.load .one (.const t67_51))) (fun t68_52 S =>
        wp (X C (.ixA 1 (.const t68_52) (.const t59_46))) (fun t70_53 S =>
        wp (X C (.store 1 (.const t70_53) (.const (.int .i64 0)))) (fun _ S =>
        wp (X C (.call (.const (.func (.func 101) ⟨[]⟩ ⟨[]⟩)) [(.const t0_40)])) (fun t72_54 S =>
        ∃ j39, j39 < m39 ∧ I39 j39 t0_40 t4_41 t5_42 t7_43 S) S) S) S) S) S) S) (fun S =>
        wp (X C (.nilchk (.const t0_40))) (fun t74_55 S =>
        wp (X C (.fldA 5 (.const t74_55))) (fun t75_56 S =>
        wp (X C (.load .one (.const t75_56))) (fun t76_57 S =>
        wp (X C (.un .not (.const t76_57))) (fun t77_58 S =>
        jn (fun (S : Hp) =>
         wp (X C (.ixA 1 (.const t7_43) (.const t59_46))) (fun t99_60 S =>
         wp (X C (.load .one (.const t99_60))) (fun t100_61 S =>
         wp (X C (.nilchk (.const t0_40))) (fun t102_62 S =>
         wp (X C (.fldA 2 (.const t102_62))) (fun t103_63 S =>
         wp (X C (.load .one (.const t103_63))) (fun t104_64 S =>
         wp (X C (.ixA 1 (.const t104_64) (.const t59_46))) (fun t106_65 S =>
         wp (X C (.load .one (.const t106_65))) (fun t107_66 S =>
         wp (X C (.bin .leq (.const t100_61) (.const t107_66))) (fun t108_67 S =>
         ifP (Wb.asBool t108_67) (fun S =>
          wp (X C (.nilchk (.const t0_40))) (fun t110_68 S =>
          wp (X C (.fldA 2 (.const t110_68))) (fun t111_69 S =>
          wp (X C (.load .one (.const t111_69))) (fun t112_70 S =>
          wp (X C (.ixA 1 (.const t112_70) (.const t59_46))) (fun t114_71 S =>
          wp (X C (.load .one (.const t114_71))) (fun t115_72 S =>
          wp (X C (.ixA 1 (.const t7_43) (.const t59_46))) (fun t118_73 S =>
          wp (X C (.load .one (.const t118_73))) (fun t119_74 S =>
          wp (X C (.bin .sub (.const t115_72) (.const t119_74))) (fun t120_75 S =>
          wp (X C (.ixA 1 (.const t112_70) (.const t59_46))) (fun t121_76 S =>
          wp (X C (.store 1 (.const t121_76) (.const t120_75))) (fun _ S =>
          okP (apartAll [0, 1, 3, 7, 0, 31, 63, 0, 0, 384, 896, 2047, 4095, 8191] []) (fun S =>
          wp (X C (.nilchk (.const t0_40))) (fun t123_77 S =>
          wp (X C (.fldA 0 (.const t123_77))) (fun t124_78 S =>
          wp (X C (.load .one (.const t124_78))) (fun t125_79 S =>
          wp (X C (.ixA 1 (.const t125_79) (.const t59_46))) (fun t127_80 S =>
          wp (X C (.load .one (.const t127_80))) (fun t128_81 S =>
          Φ (.tuple ⟨[t128_81, (.bool true)]⟩) S) S) S) S) S) S) S) S) S) S) S) S) S) S) S) S) S) (fun S =>
          wp (X C (.call (.const (.func (.func 101) ⟨[]⟩ ⟨[]⟩)) [(.const t0_40)])) (fun t130_82 S =>
          ∃ j39, j39 < m39 ∧ I39 j39 t0_40 t4_41 t5_42 t7_43 S) S) S) S) S) S) S) S) S) S) S) (fun J59 =>
        ifP (Wb.asBool t77_58) (fun S =>
         wp (X C (.nilchk (.const t0_40))) (fun t79_83 S =>
         wp (X C (.fldA 2 (.const t79_83))) (fun t80_84 S =>
         wp (X C (.load .one (.const t80_84))) (fun t81_85 S =>
         wp (X C (.ixA 1 (.const t81_85) (.const t59_46))) (fun t83_86 S =>
         wp (X C (.load .one (.const t83_86))) (fun t84_87 S =>
         wp (X C (.nilchk (.const t0_40))) (fun t86_88 S =>
         wp (X C (.fldA 1 (.const t86_88))) (fun t87_89 S =>
         wp (X C (.load .one (.const t87_89))) (fun t88_90 S =>
         wp (X C (.ixA 1 (.const t88_90) (.const t59_46))) (fun t90_91 S =>
         wp (X C (.load .one (.const t90_91))) (fun t91_92 S =>
         wp (X C (.bin .add (.const t84_87) (.const t91_92))) (fun t92_93 S =>
         wp (X C (.ixA 1 (.const t81_85) (.const t59_46))) (fun t93_94 S =>
         wp (X C (.store 1 (.const t93_94) (.const t92_93))) (fun _ S =>
         okP (apartAll [0, 1, 3, 7, 0, 31, 63, 0, 128, 384, 896, 0, 3968, 8064, 16383, 32767, 65535] []) (fun S =>
         wp (X C (.nilchk (.const t0_40))) (fun t95_95 S =>
         wp (X C (.fldA 5 (.const t95_95))) (fun t96_96 S =>
         wp (X C (.store 1 (.const t96_96) (.const (.bool true)))) (fun _ S =>
         J59 S) S) S) S) S) S) S) S) S) S) S) S) S) S) S) S) S) S) (fun S =>
         J59 S) S)) S) S) S) S) S) S) S) S) S) S) S) S) S) S) S) S) S) S) S) S) S) S) S) S) S) S) S) S) S
theorem p54 (C : Tgt → List Value → M Value) (n : Nat) (Φ : Value → Hp → Prop) (t0 t1 : Value) (S : Hp) : codeP C A54 n 1 b54 (argsEnv [t0, t1] 0 .leaf) (endP [.tmp 4, .tmp 5] Φ) S = P54 C n Φ t0 t1 S := by kernel_rfl
theorem g54 : T 54 = some (.go ⟨2, [.tmp 4, .tmp 5], b54⟩) := by kernel_rfl
attribute [irreducible] b54
theorem c54 {F : Nat → Option AFn} (hF : F 54 = some (.go ⟨2, [.tmp 4, .tmp 5], b54⟩)) {n : Nat} {Φ : Value → Hp → Prop} {t0 t1 : Value} {S : Hp} (h : P54 (callN F n) n Φ t0 t1 S) : wp (callN F (n + 1) (.fn 54) [t0, t1]) Φ S := callP (A := A54) hF rfl (Eq.mpr (p54 (callN F n) n Φ t0 t1 S) h)


noncomputable def b55 : ACode := bodyOf (T 55)
def A55 : List (Nat × List Nat) := []
def P55 (C : Tgt → List Value → M Value) (n : Nat) (Φ : Value → Hp → Prop) (t0 : Value) (S : Hp) : Prop :=
  wp (X C (.box 91 (.const t0))) (fun t1_0 S =>
  wp (X C (.mkfn 102 [] [(.const t1_0)])) (fun t3_1 S =>
  Φ t3_1 S) S) S
theorem p55 (C : Tgt → List Value → M Value) (n : Nat) (Φ : Value → Hp → Prop) (t0 : Value) (S : Hp) : codeP C A55 n 1 b55 (argsEnv [t0] 0 .leaf) (endP [.tmp 2] Φ) S = P55 C n Φ t0 S := by kernel_rfl
theorem g55 : T 55 = some (.go ⟨1, [.tmp 2], b55⟩) := by kernel_rfl
attribute [irreducible] b55
theorem c55 {F : Nat → Option AFn} (hF : F 55 = some (.go ⟨1, [.tmp 2], b55⟩)) {n : Nat} {Φ : Value → Hp → Prop} {t0 : Value} {S : Hp} (h : P55 (callN F n) n Φ t0 S) : wp (callN F (n + 1) (.fn 55) [t0]) Φ S := callP (A := A55) hF rfl (Eq.mpr (p55 (callN F n) n Φ t0 S) h)


noncomputable def b57 : ACode := bodyOf (T 57)
def A57 : List (Nat × List Nat) := [(126, [8704])]
def P57 (C : Tgt → List Value → M Value) (n : Nat) (Φ : Value → Hp → Prop) (t0 t1 : Value) (S : Hp) : Prop :=
  wp (X C (.call (.const (.func (.func 95) ⟨[]⟩ ⟨[]⟩)) [(.const t0)])) (fun t8_0 S =>
  ifP (Wb.asBool t8_0) (fun S =>
   Φ (.int .i64 1) S) (fun S =>
   wp (X C (.nilchk (.const t0))) (fun t11_1 S =>
   wp (X C (.fldA 0 (.const t11_1))) (fun t12_2 S =>
   wp (X C (.load .one (.const t12_2))) (fun t13_3 S =>
   wp (X C (.call (.const (.func (.func 96) ⟨[]⟩ ⟨[]⟩)) [(.const t13_3), (.const t1)])) (fun t15_4 S =>
   wp (X C (.ext (.const t15_4) 0)) (fun t16_5 S =>
   wp (X C (.ext (.const t15_4) 1)) (fun t17_6 S =>
   wp (X C (.un .not (.const t17_6))) (fun t19_7 S =>
   ifP (Wb.asBool t19_7) (fun S =>
    Φ (.int .i64 7) S) (fun S =>
    wp (X C (.nilchk (.const t0))) (fun t22_8 S =>
    wp (X C (.fldA 0 (.const t22_8))) (fun t23_9 S =>
    wp (X C (.load .one (.const t23_9))) (fun t24_10 S =>
    wp (X C (.bin .add (.const t16_5) (.const (.int .i64 1)))) (fun t27_11 S =>
    wp (X C (.call (.const (.func (.func 105) ⟨[]⟩ ⟨[]⟩)) [(.const t24_10), (.const t16_5), (.const t27_11)])) (fun t28_12 S =>
    wp (X C (.nilchk (.const t0))) (fun t29_13 S =>
    wp (X C (.fldA 0 (.const t29_13))) (fun t30_14 S =>
    wp (X C (.store 1 (.const t30_14) (.const t28_12))) (fun _ S =>
    wp (X C (.nilchk (.const t0))) (fun t34_15 S =>
    wp (X C (.fldA 1 (.const t34_15))) (fun t35_16 S =>
    wp (X C (.load .one (.const t35_16))) (fun t36_17 S =>
    wp (X C (.bin .add (.const t16_5) (.const (.int .i64 1)))) (fun t39_18 S =>
    dstepP 9 [] (X C (.call (.const (.func (.func 106) ⟨[]⟩ ⟨[]⟩)) [(.const t36_17), (.const t16_5), (.const t39_18)])) (fun t40_19 ts S =>
    wp (X C (.nilchk (.const t0))) (fun t42_20 S =>
    wp (X C (.fldA 2 (.const t42_20))) (fun t43_21 S =>
    dstepP 13 ts (X C (.load .one (.const t43_21))) (fun t44_22 ts S =>
    wp (X C (.bin .add (.const t16_5) (.const (.int .i64 1)))) (fun t47_23 S =>
    wp (X C (.call (.const (.func (.func 106) ⟨[]⟩ ⟨[]⟩)) [(.const t44_22), (.const t16_5), (.const t47_23)])) (fun t48_24 S =>
    wp (X C (.nilchk (.const t0))) (fun t49_25 S =>
    wp (X C (.fldA 1 (.const t49_25))) (fun t50_26 S =>
    wp (X C (.store 1 (.const t50_26) (.const t40_19))) (fun _ S =>
    wp (X C (.nilchk (.const t0))) (fun t51_27 S =>
    wp (X C (.fldA 2 (.const t51_27))) (fun t52_28 S =>
    wp (X C (.store 1 (.const t52_28) (.const t48_24))) (fun _ S =>
    okP (apartAll [0, 0, 0, 4, 12, 28, 0, 0, 128, 508, 0, 1024, 3072, 7168, 0, 0, 32768, 131068, 262141, 524285, 1048573, 2097151, 4194303, 8388607] ts) (fun S =>
    wp (X C (.nilchk (.const t0))) (fun t56_29 S =>
    wp (X C (.fldA 3 (.const t56_29))) (fun t57_30 S =>
    wp (X C (.load .one (.const t57_30))) (fun t58_31 S =>
    wp (X C (.bin .lss (.const t16_5) (.const t58_31))) (fun t59_32 S =>
    jn (fun (S : Hp) =>
     wp (X C (.nilchk (.const t0))) (fun t78_34 S =>
     wp (X C (.fldA 3 (.const t78_34))) (fun t79_35 S =>
     wp (X C (.load .one (.const t79_35))) (fun t80_36 S =>
     wp (X C (.nilchk (.const t0))) (fun t82_37 S =>
     wp (X C (.fldA 0 (.const t82_37))) (fun t83_38 S =>
     wp (X C (.load .one (.const t83_38))) (fun t84_39 S =>
     wp (X C (.len .slice (.const t84_39))) (fun t85_40 S =>
     wp (X C (.bin .eql (.const t80_36) (.const t85_40))) (fun t86_41 S =>
     ifP (Wb.asBool t86_41) (fun S =>
      wp (X C (.nilchk (.const t0))) (fun t88_42 S =>
      wp (X C (.fldA 3 (.const t88_42))) (fun t89_43 S =>
      wp (X C (.store 1 (.const t89_43) (.const (.int .i64 0)))) (fun _ S =>
      Φ (.int .i64 0) S) S) S) S) (fun S =>
      Φ (.int .i64 0) S) S) S) S) S) S) S) S) S) S) (fun J33 =>
    ifP (Wb.asBool t59_32) (fun S =>
     wp (X C (.nilchk (.const t0))) (fun t61_44 S =>
     wp (X C (.fldA 3 (.const t61_44))) (fun t62_45 S =>
     wp (X C (.load .one (.const t62_45))) (fun t63_46 S =>
     wp (X C (.bin .sub (.const t63_46) (.const (.int .i64 1)))) (fun t64_47 S =>
     wp (X C (.nilchk (.const t0))) (fun t65_48 S =>
     wp (X C (.fldA 3 (.const t65_48))) (fun t66_49 S =>
     wp (X C (.store 1 (.const t66_49) (.const t64_47))) (fun _ S =>
     J33 S) S) S) S) S) S) S) S) (fun S =>
     wp (X C (.nilchk (.const t0))) (fun t70_50 S =>
     wp (X C (.fldA 3 (.const t70_50))) (fun t71_51 S =>
     wp (X C (.load .one (.const t71_51))) (fun t72_52 S =>
     wp (X C (.bin .eql (.const t16_5) (.const t72_52))) (fun t73_53 S =>
     ifP (Wb.asBool t73_53) (fun S =>
      wp (X C (.nilchk (.const t0))) (fun t75_54 S =>
      wp (X C (.fldA 5 (.const t75_54))) (fun t76_55 S =>
      wp (X C (.store 1 (.const t76_55) (.const (.bool false)))) (fun _ S =>
      J33 S) S) S) S) (fun S =>
      J33 S) S) S) S) S) S) S)) S) S) S) S) S) S) S) S) S) S) S) S) S) S) S) S) S) S) S) S) S) S) S) S) S) S) S) S) S) S) S) S) S) S) S) S) S) S) S
theorem p57 (C : Tgt → List Value → M Value) (n : Nat) (Φ : Value → Hp → Prop) (t0 t1 : Value) (S : Hp) : codeP C A57 n 1 b57 (argsEnv [t0, t1] 0 .leaf) (endP [.tmp 4] Φ) S = P57 C n Φ t0 t1 S := by kernel_rfl
theorem g57 : T 57 = some (.go ⟨2, [.tmp 4], b57⟩) := by kernel_rfl
attribute [irreducible] b57
theorem c57 {F : Nat → Option AFn} (hF : F 57 = some (.go ⟨2, [.tmp 4], b57⟩)) {n : Nat} {Φ : Value → Hp → Prop} {t0 t1 : Value} {S : Hp} (h : P57 (callN F n) n Φ t0 t1 S) : wp (callN F (n + 1) (.fn 57) [t0, t1]) Φ S := callP (A := A57) hF rfl (Eq.mpr (p57 (callN F n) n Φ t0 t1 S) h)


noncomputable def b60 : ACode := bodyOf (T 60)
def A60 : List (Nat × List Nat) := []
def P60 (C : Tgt → List Value → M Value) (n : Nat) (Φ : Value → Hp → Prop) (t0 t1 t2 : Value) (S : Hp) : Prop :=
  wp (X C (.call (.const (.func (.func 95) ⟨[]⟩ ⟨[]⟩)) [(.const t0)])) (fun t10_0 S =>
  ifP (Wb.asBool t10_0) (fun S =>
   Φ (.int .i64 1) S) (fun S =>
   wp (X C (.nilchk (.const t0))) (fun t13_1 S =>
   wp (X C (.fldA 0 (.const t13_1))) (fun t14_2 S =>
   wp (X C (.load .one (.const t14_2))) (fun t15_3 S =>
   wp (X C (.call (.const (.func (.func 96) ⟨[]⟩ ⟨[]⟩)) [(.const t15_3), (.const t1)])) (fun t17_4 S =>
   wp (X C (.ext (.const t17_4) 0)) (fun t18_5 S =>
   wp (X C (.ext (.const t17_4) 1)) (fun t19_6 S =>
   wp (X C (.call (.const (.func (.func 97) ⟨[]⟩ ⟨[]⟩)) [(.const t2)])) (fun t22_7 S =>
   wp (X C (.un .not (.const t22_7))) (fun t23_8 S =>
   ifP (Wb.asBool t23_8) (fun S =>
    Φ (.int .i64 2) S) (fun S =>
    wp (X C (.un .not (.const t19_6))) (fun t26_9 S =>
    ifP (Wb.asBool t26_9) (fun S =>
     Φ (.int .i64 7) S) (fun S =>
     wp (X C (.nilchk (.const t0))) (fun t28_10 S =>
     wp (X C (.fldA 1 (.const t28_10))) (fun t29_11 S =>
     wp (X C (.load .one (.const t29_11))) (fun t30_12 S =>
     wp (X C (.ixA 1 (.const t30_12) (.const t18_5))) (fun t33_13 S =>
     wp (X C (.store 1 (.const t33_13) (.const t2))) (fun _ S =>
     Φ (.int .i64 0) S) S) S) S) S) S) S) S) S) S) S) S) S) S) S) S) S) S) S
theorem p60 (C : Tgt → List Value → M Value) (n : Nat) (Φ : Value → Hp → Prop) (t0 t1 t2 : Value) (S : Hp) : codeP C A60 n 1 b60 (argsEnv [t0, t1, t2] 0 .leaf) (endP [.tmp 6] Φ) S = P60 C n Φ t0 t1 t2 S := by kernel_rfl
theorem g60 : T 60 = some (.go ⟨3, [.tmp 6], b60⟩) := by kernel_rfl
attribute [irreducible] b60
theorem c60 {F : Nat → Option AFn} (hF : F 60 = some (.go ⟨3, [.tmp 6], b60⟩)) {n : Nat} {Φ : Value → Hp → Prop} {t0 t1 t2 : Value} {S : Hp} (h : P60 (callN F n) n Φ t0 t1 t2 S) : wp (callN F (n + 1) (.fn 60) [t0, t1, t2]) Φ S := callP (A := A60) hF rfl (Eq.mpr (p60 (callN F n) n Φ t0 t1 t2 S) h)


noncomputable def b62 : ACode := bodyOf (T 62)
def A62 : List (Nat × List Nat) := [(30, [8976])]
def P62 (C : Tgt → List Value → M Value) (n : Nat) (Φ : Value → Hp → Prop) (t0 : Value) (S : Hp) : Prop :=
  wp (X C (.call (.const (.func (.func 95) ⟨[]⟩ ⟨[]⟩)) [(.const t0)])) (fun t5_0 S =>
  ifP (Wb.asBool t5_0) (fun S =>
   Φ (.pointer none) S) (fun S =>
   wp (X C (.nilchk (.const t0))) (fun t7_1 S =>
   wp (X C (.load (.agg 6) (.const t7_1))) (fun t8_2 S =>
   wp (X C (.alloc 113 [(.slice none 0 0), (.slice none 0 0), (.slice none 0 0), (.int .i64 0), (.bool false), (.bool false)])) (fun t3_3 S =>
   wp (X C (.store 6 (.const t3_3) (.const t8_2))) (fun _ S =>
   wp (X C (.nilchk (.const t0))) (fun t10_4 S =>
   wp (X C (.fldA 0 (.const t10_4))) (fun t11_5 S =>
   wp (X C (.load .one (.const t11_5))) (fun t12_6 S =>
   dstepP 4 [] (X C (.call (.const (.func (.func 109) ⟨[]⟩ ⟨[]⟩)) [(.const t12_6)])) (fun t13_7 ts S =>
   wp (X C (.nilchk (.const t0))) (fun t15_8 S =>
   wp (X C (.fldA 1 (.const t15_8))) (fun t16_9 S =>
   dstepP 8 ts (X C (.load .one (.const t16_9))) (fun t17_10 ts S =>
   dstepP 9 ts (X C (.call (.const (.func (.func 110) ⟨[]⟩ ⟨[]⟩)) [(.const t17_10)])) (fun t18_11 ts S =>
   wp (X C (.nilchk (.const t0))) (fun t20_12 S =>
   wp (X C (.fldA 2 (.const t20_12))) (fun t21_13 S =>
   dstepP 13 ts (X C (.load .one (.const t21_13))) (fun t22_14 ts S =>
   wp (X C (.call (.const (.func (.func 110) ⟨[]⟩ ⟨[]⟩)) [(.const t22_14)])) (fun t23_15 S =>
   wp (X C (.fldA 0 (.const t3_3))) (fun t24_16 S =>
   wp (X C (.store 1 (.const t24_16) (.const t13_7))) (fun _ S =>
   wp (X C (.fldA 1 (.const t3_3))) (fun t25_17 S =>
   wp (X C (.store 1 (.const t25_17) (.const t18_11))) (fun _ S =>
   wp (X C (.fldA 2 (.const t3_3))) (fun t26_18 S =>
   wp (X C (.store 1 (.const t26_18) (.const t23_15))) (fun _ S =>
   okP (apartAll [0, 1, 3, 7, 15, 0, 32, 96, 224, 511, 0, 1024, 3072, 7168, 16383, 32767, 65535, 131071, 262143, 524287, 1048575] ts) (fun S =>
   Φ t3_3 S) S) S) S) S) S) S) S) S) S) S) S) S) S) S) S) S) S) S) S) S) S) S) S) S) S
theorem p62 (C : Tgt → List Value → M Value) (n : Nat) (Φ : Value → Hp → Prop) (t0 : Value) (S : Hp) : codeP C A62 n 1 b62 (argsEnv [t0] 0 .leaf) (endP [.tmp 2] Φ) S = P62 C n Φ t0 S := by kernel_rfl
theorem g62 : T 62 = some (.go ⟨1, [.tmp 2], b62⟩) := by kernel_rfl
attribute [irreducible] b62
theorem c62 {F : Nat → Option AFn} (hF : F 62 = some (.go ⟨1, [.tmp 2], b62⟩)) {n : Nat} {Φ : Value → Hp → Prop} {t0 : Value} {S : Hp} (h : P62 (callN F n) n Φ t0 S) : wp (callN F (n + 1) (.fn 62) [t0]) Φ S := callP (A := A62) hF rfl (Eq.mpr (p62 (callN F n) n Φ t0 S) h)


noncomputable def b64 : ACode := bodyOf (T 64)
def A64 : List (Nat × List Nat) := [(32050, [40]), (250, [0, 1, 2, 6, 42, 43, 44]), (122, [0, 1, 2, 6, 7, 8, 25, 26])]
def P64 (C : Tgt → List Value → M Value) (n : Nat) (Φ : Value → Hp → Prop) (t0 t1 t2 : Value) (S : Hp) : Prop :=
  wp (X C (.call (.const (.func (.func 67) ⟨[]⟩ ⟨[]⟩)) [(.const t0)])) (fun t16_0 S =>
  wp (X C (.call (.const (.func (.func 111) ⟨[]⟩ ⟨[]⟩)) [(.const t1)])) (fun t18_1 S =>
  wp (X C (.len .slice (.const t16_0))) (fun t20_2 S =>
  wp (X C (.len .slice (.const t18_1))) (fun t22_3 S =>
  wp (X C (.bin .neq (.const t20_2) (.const t22_3))) (fun t23_4 S =>
  ifP (Wb.asBool t23_4) (fun S =>
   Φ (.bool false) S) (fun S =>
   wp (X C (.len .slice (.const t16_0))) (fun t25_5 S =>
   ∃ I6 : Nat → Value → Value → Value → Value → Value → Value → Value → Value → Hp → Prop, (∃ m, m < n ∧ I6 m t0 t1 t2 (.bool false) t16_0 t18_1 t25_5 (.int .i64 0) S) ∧ ∀ (m6 : Nat) (S : Hp) (t0_7 t1_8 t2_9 t6_10 t7_11 t8_12 t25_13 t26_14 : Value), I6 m6 t0_7 t1_8 t2_9 t6_10 t7_11 t8_12 t25_13 t26_14 S →
    wp (X C (.bin .lss (.const t26_14) (.const t25_13))) (fun t27_15 S =>
    ifP (Wb.asBool t27_15) (fun S =>
     wp (X C (.ixA 1 (.const t7_11) (.const t26_14))) (fun t31_16 S =>
     wp (X C (.load .one (.const t31_16))) (fun t32_17 S =>
     wp (X C (.ixA 1 (.const t8_12) (.const t26_14))) (fun t35_18 S =>
     wp (X C (.load .one (.const t35_18))) (fun t36_19 S =>
     wp (X C (.bin .neq (.const t32_17) (.const t36_19))) (fun t37_20 S =>
     ifP (Wb.asBool t37_20) (fun S =>
      Φ (.bool false) S) (fun S =>
      wp (X C (.bin .add (.const t26_14) (.const (.int .i64 1)))) (fun t38_21 S =>
      ∃ j6, j6 < m6 ∧ I6 j6 t0_7 t1_8 t2_9 t6_10 t7_11 t8_12 t25_13 t38_21 S) S) S) S) S) S) S) S) (fun S =>
     wp (X C (.nilchk (.const t1_8))) (fun t40_22 S =>
     wp (X C (.fldA 0 (.const t40_22))) (fun t41_23 S =>
     wp (X C (.load .one (.const t41_23))) (fun t42_24 S =>
     wp (X C (.len .slice (.const t42_24))) (fun t43_25 S =>
     ∃ I26 : Nat → Value → Value → Value → Value → Value → Value → Value → Hp → Prop, (∃ m, m < n ∧ I26 m t0_7 t1_8 t2_9 t6_10 t42_24 t43_25 (.int .i64 0) S) ∧ ∀ (m26 : Nat) (S : Hp) (t0_27 t1_28 t2_29 t6_30 t42_31 t43_32 t44_33 : Value), I26 m26 t0_27 t1_28 t2_29 t6_30 t42_31 t43_32 t44_33 S →
      wp (X C (.bin .lss (.const t44_33) (.const t43_32))) (fun t45_34 S =>
      ifP (Wb.asBool t45_34) (fun S =>
       wp (X C (.ixA 3 (.const t42_31) (.const t44_33))) (fun t46_35 S =>
       wp (X C (.load (.agg 3) (.const t46_35))) (fun t47_36 S =>
       wp (X C (.alloc 161 [(.string ⟨⟨[]⟩⟩), (.int .i64 0), (.int .i64 0)])) (fun t11_37 S =>
       wp (X C (.store 3 (.const t11_37) (.const t47_36))) (fun _ S =>
       wp (X C (.fldA 0 (.const t11_37))) (fun t49_38 S =>
       wp (X C (.load .one (.const t49_38))) (fun t50_39 S =>
       dstepP 3 [] (X C (.call (.const (.func (.func 66) ⟨[]⟩ ⟨[]⟩)) [(.const t0_27), (.const t50_39)])) (fun t51_40 ts S =>
       wp (X C (.fldA 2 (.const t11_37))) (fun t52_41 S =>
       dstepP 5 ts (X C (.load .one (.const t52_41))) (fun t53_42 ts S =>
       wp (X C (.bin .neq (.const t51_40) (.const t53_42))) (fun t54_43 S =>
       okP (apartAll [0, 0, 2, 7, 0, 16, 63] ts) (fun S =>
       ifP (Wb.asBool t54_43) (fun S =>
        Φ (.bool false) S) (fun S =>
        wp (X C (.bin .add (.const t44_33) (.const (.int .i64 1)))) (fun t55_44 S =>
        ∃ j26, j26 < m26 ∧ I26 j26 t0_27 t1_28 t2_29 t6_30 t42_31 t43_32 t55_44 S) S) S) S) S) S) S) S) S) S) S) S) S) S) (fun S =>
       wp (X C (.call (.const (.func (.func 65) ⟨[]⟩ ⟨[]⟩)) [(.const t0_27)])) (fun t58_45 S =>
       wp (X C (.ext (.const t58_45) 0)) (fun t59_46 S =>
       wp (X C (.ext (.const t58_45) 1)) (fun t60_47 S =>
       wp (X C (.ext (.const t58_45) 2)) (fun t61_48 S =>
       wp (X C (.nilchk (.const t1_28))) (fun t63_49 S =>
       wp (X C (.fldA 0 (.const t63_49))) (fun t64_50 S =>
       wp (X C (.load .one (.const t64_50))) (fun t65_51 S =>
       wp (X C (.len .slice (.const t65_51))) (fun t66_52 S =>
       wp (X C (.bin .eql (.const t66_52) (.const (.int .i64 0)))) (fun t67_53 S =>
       ifP (Wb.asBool t67_53) (fun S =>
        wp (X C (.bin .eql (.const t59_46) (.const (.string ⟨⟨[]⟩⟩)))) (fun t69_54 S =>
        andP true t69_54 (fun K S =>
         wp (X C (.un .not (.const t60_47))) (fun t72_55 S =>
         K t72_55 S) S) (fun t73_56 S =>
        andP true t73_56 (fun K S =>
         wp (X C (.un .not (.const t61_48))) (fun t76_57 S =>
         K t76_57 S) S) (fun t77_58 S =>
        andP true t77_58 (fun K S =>
         wp (X C (.call (.const (.func (.func 66) ⟨[]⟩ ⟨[]⟩)) [(.const t0_27), (.const t2_29)])) (fun t81_59 S =>
         wp (X C (.bin .eql (.const t81_59) (.const (.int .i64 0)))) (fun t82_60 S =>
         K t82_60 S) S) S) (fun t83_61 S =>
        Φ t83_61 S) S) S) S) S) (fun S =>
        andP true t61_48 (fun K S =>
         wp (X C (.nilchk (.const t1_28))) (fun t88_62 S =>
         wp (X C (.fldA 0 (.const t88_62))) (fun t89_63 S =>
         wp (X C (.load .one (.const t89_63))) (fun t90_64 S =>
         wp (X C (.ixA 3 (.const t90_64) (.const (.int .i64 0)))) (fun t91_65 S =>
         wp (X C (.fldA 0 (.const t91_65))) (fun t92_66 S =>
         wp (X C (.load .one (.const t92_66))) (fun t93_67 S =>
         wp (X C (.bin .eql (.const t59_46) (.const t93_67))) (fun t94_68 S =>
         K t94_68 S) S) S) S) S) S) S) S) (fun t95_69 S =>
        andP true t95_69 (fun K S =>
         wp (X C (.nilchk (.const t1_28))) (fun t99_70 S =>
         wp (X C (.fldA 1 (.const t99_70))) (fun t100_71 S =>
         wp (X C (.load .one (.const t100_71))) (fun t101_72 S =>
         wp (X C (.eq false .bool (.const t60_47) (.const t101_72))) (fun t102_73 S =>
         K t102_73 S) S) S) S) S) (fun t103_74 S =>
        Φ t103_74 S) S) S) S) S) S) S) S) S) S) S) S) S) S) S) S) S) S) S) S) S) S) S) S) S) S) S) S
theorem p64 (C : Tgt → List Value → M Value) (n : Nat) (Φ : Value → Hp → Prop) (t0 t1 t2 : Value) (S : Hp) : codeP C A64 n 1 b64 (argsEnv [t0, t1, t2] 0 .leaf) (endP [.tmp 6] Φ) S = P64 C n Φ t0 t1 t2 S := by kernel_rfl
theorem g64 : T 64 = some (.go ⟨3, [.tmp 6], b64⟩) := by kernel_rfl
attribute [irreducible] b64
theorem c64 {F : Nat → Option AFn} (hF : F 64 = some (.go ⟨3, [.tmp 6], b64⟩)) {n : Nat} {Φ : Value → Hp → Prop} {t0 t1 t2 : Value} {S : Hp} (h : P64 (callN F n) n Φ t0 t1 t2 S) : wp (callN F (n + 1) (.fn 64) [t0, t1, t2]) Φ S := callP (A := A64) hF rfl (Eq.mpr (p64 (callN F n) n Φ t0 t1 t2 S) h)


noncomputable def b65 : ACode := bodyOf (T 65)
def A65 : List (Nat × List Nat) := []
def P65 (C : Tgt → List Value → M Value) (n : Nat) (Φ : Value → Hp → Prop) (t0 : Value) (S : Hp) : Prop :=
  wp (X C (.call (.const (.func (.func 95) ⟨[]⟩ ⟨[]⟩)) [(.const t0)])) (fun t6_0 S =>
  andP false t6_0 (fun K S =>
   wp (X C (.nilchk (.const t0))) (fun t9_1 S =>
   wp (X C (.fldA 0 (.const t9_1))) (fun t10_2 S =>
   wp (X C (.load .one (.const t10_2))) (fun t11_3 S =>
   wp (X C (.len .slice (.const t11_3))) (fun t12_4 S =>
   wp (X C (.bin .eql (.const t12_4) (.const (.int .i64 0)))) (fun t13_5 S =>
   K t13_5 S) S) S) S) S) S) (fun t14_6 S =>
  ifP (Wb.asBool t14_6) (fun S =>
   Φ (.tuple ⟨[(.string ⟨⟨[]⟩⟩), (.bool false), (.bool false)]⟩) S) (fun S =>
   wp (X C (.nilchk (.const t0))) (fun t16_7 S =>
   wp (X C (.fldA 0 (.const t16_7))) (fun t17_8 S =>
   wp (X C (.load .one (.const t17_8))) (fun t18_9 S =>
   wp (X C (.nilchk (.const t0))) (fun t20_10 S =>
   wp (X C (.fldA 3 (.const t20_10))) (fun t21_11 S =>
   wp (X C (.load .one (.const t21_11))) (fun t22_12 S =>
   wp (X C (.ixA 1 (.const t18_9) (.const t22_12))) (fun t23_13 S =>
   wp (X C (.load .one (.const t23_13))) (fun t24_14 S =>
   wp (X C (.nilchk (.const t0))) (fun t26_15 S =>
   wp (X C (.fldA 5 (.const t26_15))) (fun t27_16 S =>
   wp (X C (.load .one (.const t27_16))) (fun t28_17 S =>
   wp (X C (.un .not (.const t28_17))) (fun t29_18 S =>
   Φ (.tuple ⟨[t24_14, t29_18, (.bool true)]⟩) S) S) S) S) S) S) S) S) S) S) S) S) S) S) S) S
theorem p65 (C : Tgt → List Value → M Value) (n : Nat) (Φ : Value → Hp → Prop) (t0 : Value) (S : Hp) : codeP C A65 n 1 b65 (argsEnv [t0] 0 .leaf) (endP [.tmp 2, .tmp 3, .tmp 4] Φ) S = P65 C n Φ t0 S := by kernel_rfl
theorem g65 : T 65 = some (.go ⟨1, [.tmp 2, .tmp 3, .tmp 4], b65⟩) := by kernel_rfl
attribute [irreducible] b65
theorem c65 {F : Nat → Option AFn} (hF : F 65 = some (.go ⟨1, [.tmp 2, .tmp 3, .tmp 4], b65⟩)) {n : Nat} {Φ : Value → Hp → Prop} {t0 : Value} {S : Hp} (h : P65 (callN F n) n Φ t0 S) : wp (callN F (n + 1) (.fn 65) [t0]) Φ S := callP (A := A65) hF rfl (Eq.mpr (p65 (callN F n) n Φ t0 S) h)


noncomputable def b66 : ACode := bodyOf (T 66)
def A66 : List (Nat × List Nat) := []
def P66 (C : Tgt → List Value → M Value) (n : Nat) (Φ : Value → Hp → Prop) (t0 t1 : Value) (S : Hp) : Prop :=
  wp (X C (.call (.const (.func (.func 95) ⟨[]⟩ ⟨[]⟩)) [(.const t0)])) (fun t8_0 S =>
  ifP (Wb.asBool t8_0) (fun S =>
   Φ (.int .i64 0) S) (fun S =>
   wp (X C (.nilchk (.const t0))) (fun t11_1 S =>
   wp (X C (.fldA 0 (.const t11_1))) (fun t12_2 S =>
   wp (X C (.load .one (.const t12_2))) (fun t13_3 S =>
   wp (X C (.call (.const (.func (.func 96) ⟨[]⟩ ⟨[]⟩)) [(.const t13_3), (.const t1)])) (fun t15_4 S =>
   wp (X C (.ext (.const t15_4) 0)) (fun t16_5 S =>
   wp (X C (.ext (.const t15_4) 1)) (fun t17_6 S =>
   wp (X C (.un .not (.const t17_6))) (fun t19_7 S =>
   ifP (Wb.asBool t19_7) (fun S =>
    Φ (.int .i64 0) S) (fun S =>
    wp (X C (.nilchk (.const t0))) (fun t21_8 S =>
    wp (X C (.fldA 2 (.const t21_8))) (fun t22_9 S =>
    wp (X C (.load .one (.const t22_9))) (fun t23_10 S =>
    wp (X C (.ixA 1 (.const t23_10) (.const t16_5))) (fun t25_11 S =>
    wp (X C (.load .one (.const t25_11))) (fun t26_12 S =>
    Φ t26_12 S) S) S) S) S) S) S) S) S) S) S) S) S) S) S) S
theorem p66 (C : Tgt → List Value → M Value) (n : Nat) (Φ : Value → Hp → Prop) (t0 t1 : Value) (S : Hp) : codeP C A66 n 1 b66 (argsEnv [t0, t1] 0 .leaf) (endP [.tmp 4] Φ) S = P66 C n Φ t0 t1 S := by kernel_rfl
theorem g66 : T 66 = some (.go ⟨2, [.tmp 4], b66⟩) := by kernel_rfl
attribute [irreducible] b66
theorem c66 {F : Nat → Option AFn} (hF : F 66 = some (.go ⟨2, [.tmp 4], b66⟩)) {n : Nat} {Φ : Value → Hp → Prop} {t0 t1 : Value} {S : Hp} (h : P66 (callN F n) n Φ t0 t1 S) : wp (callN F (n + 1) (.fn 66) [t0, t1]) Φ S := callP (A := A66) hF rfl (Eq.mpr (p66 (callN F n) n Φ t0 t1 S) h)


noncomputable def b67 : ACode := bodyOf (T 67)
def A67 : List (Nat × List Nat) := []
def P67 (C : Tgt → List Value → M Value) (n : Nat) (Φ : Value → Hp → Prop) (t0 : Value) (S : Hp) : Prop :=
  wp (X C (.call (.const (.func (.func 95) ⟨[]⟩ ⟨[]⟩)) [(.const t0)])) (fun t4_0 S =>
  ifP (Wb.asBool t4_0) (fun S =>
   Φ (.slice none 0 0) S) (fun S =>
   wp (X C (.nilchk (.const t0))) (fun t6_1 S =>
   wp (X C (.fldA 0 (.const t6_1))) (fun t7_2 S =>
   wp (X C (.load .one (.const t7_2))) (fun t8_3 S =>
   wp (X C (.call (.const (.func (.func 109) ⟨[]⟩ ⟨[]⟩)) [(.const t8_3)])) (fun t9_4 S =>
   Φ t9_4 S) S) S) S) S) S) S
theorem p67 (C : Tgt → List Value → M Value) (n : Nat) (Φ : Value → Hp → Prop) (t0 : Value) (S : Hp) : codeP C A67 n 1 b67 (argsEnv [t0] 0 .leaf) (endP [.tmp 2] Φ) S = P67 C n Φ t0 S := by kernel_rfl
theorem g67 : T 67 = some (.go ⟨1, [.tmp 2], b67⟩) := by kernel_rfl
attribute [irreducible] b67
theorem c67 {F : Nat → Option AFn} (hF : F 67 = some (.go ⟨1, [.tmp 2], b67⟩)) {n : Nat} {Φ : Value → Hp → Prop} {t0 : Value} {S : Hp} (h : P67 (callN F n) n Φ t0 S) : wp (callN F (n + 1) (.fn 67) [t0]) Φ S := callP (A := A67) hF rfl (Eq.mpr (p67 (callN F n) n Φ t0 S) h)


noncomputable def b95 : ACode := bodyOf (T 95)
def A95 : List (Nat × List Nat) := []
def P95 (C : Tgt → List Value → M Value) (n : Nat) (Φ : Value → Hp → Prop) (t0 : Value) (S : Hp) : Prop :=
  wp (X C (.eq false (.nil .ptr) (.const t0) (.const (.pointer none)))) (fun t4_0 S =>
  andP false t4_0 (fun K S =>
   wp (X C (.nilchk (.const t0))) (fun t7_1 S =>
   wp (X C (.fldA 4 (.const t7_1))) (fun t8_2 S =>
   wp (X C (.load .one (.const t8_2))) (fun t9_3 S =>
   wp (X C (.un .not (.const t9_3))) (fun t10_4 S =>
   K t10_4 S) S) S) S) S) (fun t11_5 S =>
  Φ t11_5 S) S) S
theorem p95 (C : Tgt → List Value → M Value) (n : Nat) (Φ : Value → Hp → Prop) (t0 : Value) (S : Hp) : codeP C A95 n 1 b95 (argsEnv [t0] 0 .leaf) (endP [.tmp 2] Φ) S = P95 C n Φ t0 S := by kernel_rfl
theorem g95 : T 95 = some (.go ⟨1, [.tmp 2], b95⟩) := by kernel_rfl
attribute [irreducible] b95
theorem c95 {F : Nat → Option AFn} (hF : F 95 = some (.go ⟨1, [.tmp 2], b95⟩)) {n : Nat} {Φ : Value → Hp → Prop} {t0 : Value} {S : Hp} (h : P95 (callN F n) n Φ t0 S) : wp (callN F (n + 1) (.fn 95) [t0]) Φ S := callP (A := A95) hF rfl (Eq.mpr (p95 (callN F n) n Φ t0 S) h)


noncomputable def b96 : ACode := bodyOf (T 96)
def A96 : List (Nat × List Nat) := [(60, [0, 1, 4, 5, 6, 7, 8])]
def P96 (C : Tgt → List Value → M Value) (n : Nat) (Φ : Value → Hp → Prop) (t0 t1 : Value) (S : Hp) : Prop :=
  wp (X C (.len .slice (.const t0))) (fun t11_0 S =>
  ∃ I1 : Nat → Value → Value → Value → Value → Value → Value → Value → Hp → Prop, (∃ m, m < n ∧ I1 m t0 t1 (.int .i64 0) (.bool false) t11_0 (.int .i64 0) t11_0 S) ∧ ∀ (m1 : Nat) (S : Hp) (t0_2 t1_3 t4_4 t5_5 t6_6 t7_7 t8_8 : Value), I1 m1 t0_2 t1_3 t4_4 t5_5 t6_6 t7_7 t8_8 S →
   wp (X C (.bin .lss (.const t7_7) (.const t8_8))) (fun t15_9 S =>
   ifP (Wb.asBool t15_9) (fun S =>
    wp (X C (.bin .add (.const t7_7) (.const t8_8))) (fun t18_10 S =>
    wp (X C (.conv (.int .u64) (.const t18_10))) (fun t19_11 S =>
    wp (X C (.bin .shr (.const t19_11) (.const (.int .u64 1)))) (fun t20_12 S =>
    wp (X C (.conv (.int .i64) (.const t20_12))) (fun t21_13 S =>
    wp (X C (.ixA 1 (.const t0_2) (.const t21_13))) (fun t24_14 S =>
    wp (X C (.load .one (.const t24_14))) (fun t25_15 S =>
    wp (X C (.call (.const (.func (.func 131) ⟨[]⟩ ⟨[]⟩)) [(.const t25_15), (.const t1_3)])) (fun t27_16 S =>
    ifP (Wb.asBool t27_16) (fun S =>
     wp (X C (.bin .add (.const t21_13) (.const (.int .i64 1)))) (fun t29_17 S =>
     ∃ j1, j1 < m1 ∧ I1 j1 t0_2 t1_3 t4_4 t5_5 t6_6 t29_17 t8_8 S) S) (fun S =>
     ∃ j1, j1 < m1 ∧ I1 j1 t0_2 t1_3 t4_4 t5_5 t6_6 t7_7 t21_13 S) S) S) S) S) S) S) S) S) (fun S =>
    wp (X C (.bin .lss (.const t7_7) (.const t6_6))) (fun t34_18 S =>
    andP true t34_18 (fun K S =>
     wp (X C (.ixA 1 (.const t0_2) (.const t7_7))) (fun t38_19 S =>
     wp (X C (.load .one (.const t38_19))) (fun t39_20 S =>
     wp (X C (.bin .eql (.const t39_20) (.const t1_3))) (fun t41_21 S =>
     andP false t41_21 (fun K S =>
      wp (X C (.ixA 1 (.const t0_2) (.const t7_7))) (fun t45_22 S =>
      wp (X C (.load .one (.const t45_22))) (fun t46_23 S =>
      wp (X C (.call (.const (.func (.func 132) ⟨[]⟩ ⟨[]⟩)) [(.const t46_23)])) (fun t47_24 S =>
      andP true t47_24 (fun K S =>
       wp (X C (.call (.const (.func (.func 132) ⟨[]⟩ ⟨[]⟩)) [(.const t1_3)])) (fun t50_25 S =>
       K t50_25 S) S) (fun t51_26 S =>
      K t51_26 S) S) S) S) S) (fun t52_27 S =>
     K t52_27 S) S) S) S) S) (fun t53_28 S =>
    Φ (.tuple ⟨[t7_7, t53_28]⟩) S) S) S) S) S) S
theorem p96 (C : Tgt → List Value → M Value) (n : Nat) (Φ : Value → Hp → Prop) (t0 t1 : Value) (S : Hp) : codeP C A96 n 1 b96 (argsEnv [t0, t1] 0 .leaf) (endP [.tmp 4, .tmp 5] Φ) S = P96 C n Φ t0 t1 S := by kernel_rfl
theorem g96 : T 96 = some (.go ⟨2, [.tmp 4, .tmp 5], b96⟩) := by kernel_rfl
attribute [irreducible] b96
theorem c96 {F : Nat → Option AFn} (hF : F 96 = some (.go ⟨2, [.tmp 4, .tmp 5], b96⟩)) {n : Nat} {Φ : Value → Hp → Prop} {t0 t1 : Value} {S : Hp} (h : P96 (callN F n) n Φ t0 t1 S) : wp (callN F (n + 1) (.fn 96) [t0, t1]) Φ S := callP (A := A96) hF rfl (Eq.mpr (p96 (callN F n) n Φ t0 t1 S) h)


noncomputable def b97 : ACode := bodyOf (T 97)
def A97 : List (Nat × List Nat) := []
def P97 (C : Tgt → List Value → M Value) (n : Nat) (Φ : Value → Hp → Prop) (t0 : Value) (S : Hp) : Prop :=
  wp (X C (.bin .geq (.const t0) (.const (.int .i64 1600)))) (fun t4_0 S =>
  andP true t4_0 (fun K S =>
   wp (X C (.bin .leq (.const t0) (.const (.int .i64 65536)))) (fun t7_1 S =>
   K t7_1 S) S) (fun t8_2 S =>
  Φ t8_2 S) S) S
theorem p97 (C : Tgt → List Value → M Value) (n : Nat) (Φ : Value → Hp → Prop) (t0 : Value) (S : Hp) : codeP C A97 n 1 b97 (argsEnv [t0] 0 .leaf) (endP [.tmp 2] Φ) S = P97 C n Φ t0 S := by kernel_rfl
theorem g97 : T 97 = some (.go ⟨1, [.tmp 2], b97⟩) := by kernel_rfl
attribute [irreducible] b97
theorem c97 {F : Nat → Option AFn} (hF : F 97 = some (.go ⟨1, [.tmp 2], b97⟩)) {n : Nat} {Φ : Value → Hp → Prop} {t0 : Value} {S : Hp} (h : P97 (callN F n) n Φ t0 S) : wp (callN F (n + 1) (.fn 97) [t0]) Φ S := callP (A := A97) hF rfl (Eq.mpr (p97 (callN F n) n Φ t0 S) h)


noncomputable def b100 : ACode := bodyOf (T 100)
def A100 : List (Nat × List Nat) := []
def P100 (C : Tgt → List Value → M Value) (n : Nat) (Φ : Value → Hp → Prop) (t0 t1 : Value) (S : Hp) : Prop :=
  wp (X C (.load .one (.const t1))) (fun t7_0 S =>
  wp (X C (.call (.const t7_0) [(.const t0)])) (fun t9_1 S =>
  wp (X C (.ext (.const t9_1) 0)) (fun t10_2 S =>
  wp (X C (.ext (.const t9_1) 1)) (fun t11_3 S =>
  wp (X C (.un .not (.const t11_3))) (fun t13_4 S =>
  andP false t13_4 (fun K S =>
   wp (X C (.bin .lss (.const t10_2) (.const (.int .i64 1)))) (fun t16_5 S =>
   K t16_5 S) S) (fun t17_6 S =>
  andP false t17_6 (fun K S =>
   wp (X C (.bin .gtr (.const t10_2) (.const (.int .i64 1600)))) (fun t20_7 S =>
   K t20_7 S) S) (fun t21_8 S =>
  ifP (Wb.asBool t21_8) (fun S =>
   Φ (.int .i64 0) S) (fun S =>
   Φ t10_2 S) S) S) S) S) S) S) S) S
theorem p100 (C : Tgt → List Value → M Value) (n : Nat) (Φ : Value → Hp → Prop) (t0 t1 : Value) (S : Hp) : codeP C A100 n 1 b100 (argsEnv [t0, t1] 0 .leaf) (endP [.tmp 3] Φ) S = P100 C n Φ t0 t1 S := by kernel_rfl
theorem g100 : T 100 = some (.go ⟨2, [.tmp 3], b100⟩) := by kernel_rfl
attribute [irreducible] b100
theorem c100 {F : Nat → Option AFn} (hF : F 100 = some (.go ⟨2, [.tmp 3], b100⟩)) {n : Nat} {Φ : Value → Hp → Prop} {t0 t1 : Value} {S : Hp} (h : P100 (callN F n) n Φ t0 t1 S) : wp (callN F (n + 1) (.fn 100) [t0, t1]) Φ S := callP (A := A100) hF rfl (Eq.mpr (p100 (callN F n) n Φ t0 t1 S) h)


noncomputable def b101 : ACode := bodyOf (T 101)
def A101 : List (Nat × List Nat) := [(1, [0])]
def P101 (C : Tgt → List Value → M Value) (n : Nat) (Φ : Value → Hp → Prop) (t0 : Value) (S : Hp) : Prop :=
  wp (X C (.nilchk (.const t0))) (fun t5_0 S =>
  wp (X C (.fldA 3 (.const t5_0))) (fun t6_1 S =>
  wp (X C (.load .one (.const t6_1))) (fun t7_2 S =>
  wp (X C (.bin .add (.const t7_2) (.const (.int .i64 1)))) (fun t8_3 S =>
  wp (X C (.nilchk (.const t0))) (fun t10_4 S =>
  wp (X C (.fldA 0 (.const t10_4))) (fun t11_5 S =>
  wp (X C (.load .one (.const t11_5))) (fun t12_6 S =>
  wp (X C (.len .slice (.const t12_6))) (fun t13_7 S =>
  wp (X C (.bin .rem (.const t8_3) (.const t13_7))) (fun t14_8 S =>
  wp (X C (.nilchk (.const t0))) (fun t15_9 S =>
  wp (X C (.fldA 3 (.const t15_9))) (fun t16_10 S =>
  wp (X C (.store 1 (.const t16_10) (.const t14_8))) (fun _ S =>
  wp (X C (.nilchk (.const t0))) (fun t17_11 S =>
  wp (X C (.fldA 5 (.const t17_11))) (fun t18_12 S =>
  wp (X C (.store 1 (.const t18_12) (.const (.bool false)))) (fun _ S =>
  okP (apartAll [0, 0, 0, 4, 12, 28, 60, 0, 128, 384, 896, 1920, 4092, 8189, 16381, 32765, 65535, 131071, 262143] []) (fun S =>
  Φ (.tuple ⟨[]⟩) S) S) S) S) S) S) S) S) S) S) S) S) S) S) S) S) S
theorem p101 (C : Tgt → List Value → M Value) (n : Nat) (Φ : Value → Hp → Prop) (t0 : Value) (S : Hp) : codeP C A101 n 1 b101 (argsEnv [t0] 0 .leaf) (endP [] Φ) S = P101 C n Φ t0 S := by kernel_rfl
theorem g101 : T 101 = some (.go ⟨1, [], b101⟩) := by kernel_rfl
attribute [irreducible] b101
theorem c101 {F : Nat → Option AFn} (hF : F 101 = some (.go ⟨1, [], b101⟩)) {n : Nat} {Φ : Value → Hp → Prop} {t0 : Value} {S : Hp} (h : P101 (callN F n) n Φ t0 S) : wp (callN F (n + 1) (.fn 101) [t0]) Φ S := callP (A := A101) hF rfl (Eq.mpr (p101 (callN F n) n Φ t0 S) h)


noncomputable def b102 : ACode := bodyOf (T 102)
def A102 : List (Nat × List Nat) := [(26, [0, 3, 4, 7, 8, 9])]
def P102 (C : Tgt → List Value → M Value) (n : Nat) (Φ : Value → Hp → Prop) (t0 t1 : Value) (S : Hp) : Prop :=
  wp (X C (.load .one (.const t1))) (fun t7_0 S =>
  wp (X C (.len .slice (.const t7_0))) (fun t8_1 S =>
  ∃ I2 : Nat → Value → Value → Value → Value → Value → Value → Hp → Prop, (∃ m, m < n ∧ I2 m t0 (.int .i64 0) (.bool false) t7_0 t8_1 (.int .i64 0) S) ∧ ∀ (m2 : Nat) (S : Hp) (t0_3 t3_4 t4_5 t7_6 t8_7 t9_8 : Value), I2 m2 t0_3 t3_4 t4_5 t7_6 t8_7 t9_8 S →
   wp (X C (.bin .lss (.const t9_8) (.const t8_7))) (fun t10_9 S =>
   ifP (Wb.asBool t10_9) (fun S =>
    wp (X C (.ixA 2 (.const t7_6) (.const t9_8))) (fun t11_10 S =>
    wp (X C (.load (.agg 2) (.const t11_10))) (fun t12_11 S =>
    wp (X C (.alloc 94 [(.string ⟨⟨[]⟩⟩), (.int .i64 0)])) (fun t6_12 S =>
    wp (X C (.store 2 (.const t6_12) (.const t12_11))) (fun _ S =>
    wp (X C (.fldA 0 (.const t6_12))) (fun t13_13 S =>
    wp (X C (.load .one (.const t13_13))) (fun t14_14 S =>
    wp (X C (.bin .eql (.const t14_14) (.const t0_3))) (fun t16_15 S =>
    ifP (Wb.asBool t16_15) (fun S =>
     wp (X C (.fldA 1 (.const t6_12))) (fun t17_16 S =>
     wp (X C (.load .one (.const t17_16))) (fun t18_17 S =>
     wp (X C (.fldA 1 (.const t6_12))) (fun t19_18 S =>
     wp (X C (.load .one (.const t19_18))) (fun t20_19 S =>
     wp (X C (.bin .neq (.const t20_19) (.const (.int .i64 0)))) (fun t21_20 S =>
     Φ (.tuple ⟨[t18_17, t21_20]⟩) S) S) S) S) S) S) (fun S =>
     wp (X C (.bin .add (.const t9_8) (.const (.int .i64 1)))) (fun t22_21 S =>
     ∃ j2, j2 < m2 ∧ I2 j2 t0_3 t3_4 t4_5 t7_6 t8_7 t22_21 S) S) S) S) S) S) S) S) S) S) (fun S =>
    Φ (.tuple ⟨[(.int .i64 0), (.bool false)]⟩) S) S) S) S) S
theorem p102 (C : Tgt → List Value → M Value) (n : Nat) (Φ : Value → Hp → Prop) (t0 t1 : Value) (S : Hp) : codeP C A102 n 1 b102 (argsEnv [t0, t1] 0 .leaf) (endP [.tmp 3, .tmp 4] Φ) S = P102 C n Φ t0 t1 S := by kernel_rfl
theorem g102 : T 102 = some (.go ⟨2, [.tmp 3, .tmp 4], b102⟩) := by kernel_rfl
attribute [irreducible] b102
theorem c102 {F : Nat → Option AFn} (hF : F 102 = some (.go ⟨2, [.tmp 3, .tmp 4], b102⟩)) {n : Nat} {Φ : Value → Hp → Prop} {t0 t1 : Value} {S : Hp} (h : P102 (callN F n) n Φ t0 t1 S) : wp (callN F (n + 1) (.fn 102) [t0, t1]) Φ S := callP (A := A102) hF rfl (Eq.mpr (p102 (callN F n) n Φ t0 t1 S) h)


noncomputable def b105 : ACode := bodyOf (T 105)
def A105 : List (Nat × List Nat) := [(62, [0])]
def P105 (C : Tgt → List Value → M Value) (n : Nat) (Φ : Value → Hp → Prop) (t0 t1 t2 : Value) (S : Hp) : Prop :=
  wp (X C (.len .slice (.const t0))) (fun t12_0 S =>
  wp (X C (.slc 1 (.const t0) (some (.const t1)) (some (.const t2)) (some (.const t12_0)))) (fun t13_1 S =>
  wp (X C (.bin .eql (.const t1) (.const t2))) (fun t16_2 S =>
  ifP (Wb.asBool t16_2) (fun S =>
   Φ t0 S) (fun S =>
   wp (X C (.len .slice (.const t0))) (fun t19_3 S =>
   wp (X C (.slc 1 (.const t0) none (some (.const t1)) none)) (fun t22_4 S =>
   wp (X C (.slc 1 (.const t0) (some (.const t2)) none none)) (fun t25_5 S =>
   wp (X C (.app 1 16 9 (.const t22_4) (.const t25_5))) (fun t26_6 S =>
   okP (apartAll [0, 0, 3, 0, 0, 24, 63, 127] []) (fun S =>
   wp (X C (.len .slice (.const t26_6))) (fun t29_7 S =>
   wp (X C (.slc 1 (.const t26_6) (some (.const t29_7)) (some (.const t19_3)) none)) (fun t31_8 S =>
   wp (X C (.clear [(.string ⟨⟨[]⟩⟩)] (.const t31_8))) (fun _ S =>
   Φ t26_6 S) S) S) S) S) S) S) S) S) S) S) S) S
theorem p105 (C : Tgt → List Value → M Value) (n : Nat) (Φ : Value → Hp → Prop) (t0 t1 t2 : Value) (S : Hp) : codeP C A105 n 1 b105 (argsEnv [t0, t1, t2] 0 .leaf) (endP [.tmp 6] Φ) S = P105 C n Φ t0 t1 t2 S := by kernel_rfl
theorem g105 : T 105 = some (.go ⟨3, [.tmp 6], b105⟩) := by kernel_rfl
attribute [irreducible] b105
theorem c105 {F : Nat → Option AFn} (hF : F 105 = some (.go ⟨3, [.tmp 6], b105⟩)) {n : Nat} {Φ : Value → Hp → Prop} {t0 t1 t2 : Value} {S : Hp} (h : P105 (callN F n) n Φ t0 t1 t2 S) : wp (callN F (n + 1) (.fn 105) [t0, t1, t2]) Φ S := callP (A := A105) hF rfl (Eq.mpr (p105 (callN F n) n Φ t0 t1 t2 S) h)


noncomputable def b106 : ACode := bodyOf (T 106)
def A106 : List (Nat × List Nat) := [(62, [0])]
def P106 (C : Tgt → List Value → M Value) (n : Nat) (Φ : Value → Hp → Prop) (t0 t1 t2 : Value) (S : Hp) : Prop :=
  wp (X C (.len .slice (.const t0))) (fun t12_0 S =>
  wp (X C (.slc 1 (.const t0) (some (.const t1)) (some (.const t2)) (some (.const t12_0)))) (fun t13_1 S =>
  wp (X C (.bin .eql (.const t1) (.const t2))) (fun t16_2 S =>
  ifP (Wb.asBool t16_2) (fun S =>
   Φ t0 S) (fun S =>
   wp (X C (.len .slice (.const t0))) (fun t19_3 S =>
   wp (X C (.slc 1 (.const t0) none (some (.const t1)) none)) (fun t22_4 S =>
   wp (X C (.slc 1 (.const t0) (some (.const t2)) none none)) (fun t25_5 S =>
   wp (X C (.app 1 8 3 (.const t22_4) (.const t25_5))) (fun t26_6 S =>
   okP (apartAll [0, 0, 3, 0, 0, 24, 63, 127] []) (fun S =>
   wp (X C (.len .slice (.const t26_6))) (fun t29_7 S =>
   wp (X C (.slc 1 (.const t26_6) (some (.const t29_7)) (some (.const t19_3)) none)) (fun t31_8 S =>
   wp (X C (.clear [(.int .i64 0)] (.const t31_8))) (fun _ S =>
   Φ t26_6 S) S) S) S) S) S) S) S) S) S) S) S) S
theorem p106 (C : Tgt → List Value → M Value) (n : Nat) (Φ : Value → Hp → Prop) (t0 t1 t2 : Value) (S : Hp) : codeP C A106 n 1 b106 (argsEnv [t0, t1, t2] 0 .leaf) (endP [.tmp 6] Φ) S = P106 C n Φ t0 t1 t2 S := by kernel_rfl
theorem g106 : T 106 = some (.go ⟨3, [.tmp 6], b106⟩) := by kernel_rfl
attribute [irreducible] b106
theorem c106 {F : Nat → Option AFn} (hF : F 106 = some (.go ⟨3, [.tmp 6], b106⟩)) {n : Nat} {Φ : Value → Hp → Prop} {t0 t1 t2 : Value} {S : Hp} (h : P106 (callN F n) n Φ t0 t1 t2 S) : wp (callN F (n + 1) (.fn 106) [t0, t1, t2]) Φ S := callP (A := A106) hF rfl (Eq.mpr (p106 (callN F n) n Φ t0 t1 t2 S) h)


noncomputable def b109 : ACode := bodyOf (T 109)
def A109 : List (Nat × List Nat) := []
def P109 (C : Tgt → List Value → M Value) (n : Nat) (Φ : Value → Hp → Prop) (t0 : Value) (S : Hp) : Prop :=
  wp (X C (.eq false (.nil .slice) (.const t0) (.const (.slice none 0 0)))) (fun t4_0 S =>
  ifP (Wb.asBool t4_0) (fun S =>
   Φ (.slice none 0 0) S) (fun S =>
   wp (X C (.bslice 9 0 [] [])) (fun t5_1 S =>
   wp (X C (.app 1 16 9 (.const t5_1) (.const t0))) (fun t7_2 S =>
   Φ t7_2 S) S) S) S) S
theorem p109 (C : Tgt → List Value → M Value) (n : Nat) (Φ : Value → Hp → Prop) (t0 : Value) (S : Hp) : codeP C A109 n 1 b109 (argsEnv [t0] 0 .leaf) (endP [.tmp 2] Φ) S = P109 C n Φ t0 S := by kernel_rfl
theorem g109 : T 109 = some (.go ⟨1, [.tmp 2], b109⟩) := by kernel_rfl
attribute [irreducible] b109
theorem c109 {F : Nat → Option AFn} (hF : F 109 = some (.go ⟨1, [.tmp 2], b109⟩)) {n : Nat} {Φ : Value → Hp → Prop} {t0 : Value} {S : Hp} (h : P109 (callN F n) n Φ t0 S) : wp (callN F (n + 1) (.fn 109) [t0]) Φ S := callP (A := A109) hF rfl (Eq.mpr (p109 (callN F n) n Φ t0 S) h)


noncomputable def b110 : ACode := bodyOf (T 110)
def A110 : List (Nat × List Nat) := []
def P110 (C : Tgt → List Value → M Value) (n : Nat) (Φ : Value → Hp → Prop) (t0 : Value) (S : Hp) : Prop :=
  wp (X C (.eq false (.nil .slice) (.const t0) (.const (.slice none 0 0)))) (fun t4_0 S =>
  ifP (Wb.asBool t4_0) (fun S =>
   Φ (.slice none 0 0) S) (fun S =>
   wp (X C (.bslice 3 0 [] [])) (fun t5_1 S =>
   wp (X C (.app 1 8 3 (.const t5_1) (.const t0))) (fun t7_2 S =>
   Φ t7_2 S) S) S) S) S
theorem p110 (C : Tgt → List Value → M Value) (n : Nat) (Φ : Value → Hp → Prop) (t0 : Value) (S : Hp) : codeP C A110 n 1 b110 (argsEnv [t0] 0 .leaf) (endP [.tmp 2] Φ) S = P110 C n Φ t0 S := by kernel_rfl
theorem g110 : T 110 = some (.go ⟨1, [.tmp 2], b110⟩) := by kernel_rfl
attribute [irreducible] b110
theorem c110 {F : Nat → Option AFn} (hF : F 110 = some (.go ⟨1, [.tmp 2], b110⟩)) {n : Nat} {Φ : Value → Hp → Prop} {t0 : Value} {S : Hp} (h : P110 (callN F n) n Φ t0 S) : wp (callN F (n + 1) (.fn 110) [t0]) Φ S := callP (A := A110) hF rfl (Eq.mpr (p110 (callN F n) n Φ t0 S) h)


noncomputable def b51 : ACode := bodyOf (T 51)
def A51 : List (Nat × List Nat) := []
def P51 (C : Tgt → List Value → M Value) (n : Nat) (Φ : Value → Hp → Prop) (t0 : Value) (S : Hp) : Prop :=
  wp (X C (.bin .geq (.const t0) (.const (.int .i64 1600)))) (fun t4_0 S =>
  andP true t4_0 (fun K S =>
   wp (X C (.bin .leq (.const t0) (.const (.int .i64 65536)))) (fun t7_1 S =>
   K t7_1 S) S) (fun t8_2 S =>
  Φ t8_2 S) S) S
theorem p51 (C : Tgt → List Value → M Value) (n : Nat) (Φ : Value → Hp → Prop) (t0 : Value) (S : Hp) : codeP C A51 n 1 b51 (argsEnv [t0] 0 .leaf) (endP [.tmp 2] Φ) S = P51 C n Φ t0 S := by kernel_rfl
theorem g51 : T 51 = some (.go ⟨1, [.tmp 2], b51⟩) := by kernel_rfl
attribute [irreducible] b51
theorem c51 {F : Nat → Option AFn} (hF : F 51 = some (.go ⟨1, [.tmp 2], b51⟩)) {n : Nat} {Φ : Value → Hp → Prop} {t0 : Value} {S : Hp} (h : P51 (callN F n) n Φ t0 S) : wp (callN F (n + 1) (.fn 51) [t0]) Φ S := callP (A := A51) hF rfl (Eq.mpr (p51 (callN F n) n Φ t0 S) h)


noncomputable def b56 : ACode := bodyOf (T 56)
def A56 : List (Nat × List Nat) := [(4064, [0]), (508, [0, 1, 2, 6, 7])]
def P56 (C : Tgt → List Value → M Value) (n : Nat) (Φ : Value → Hp → Prop) (t0 t1 t2 : Value) (S : Hp) : Prop :=
  wp (X C (.call (.const (.func (.func 51) ⟨[]⟩ ⟨[]⟩)) [(.const t2)])) (fun t10_0 S =>
  wp (X C (.un .not (.const t10_0))) (fun t11_1 S =>
  ifP (Wb.asBool t11_1) (fun S =>
   Φ (.int .i64 2) S) (fun S =>
   wp (X C (.call (.const (.func (.func 103) ⟨[]⟩ ⟨[]⟩)) [(.const t0), (.const t1)])) (fun t14_2 S =>
   wp (X C (.bin .geq (.const t14_2) (.const (.int .i64 0)))) (fun t15_3 S =>
   ifP (Wb.asBool t15_3) (fun S =>
    Φ (.int .i64 8) S) (fun S =>
    wp (X C (.nilchk (.const t0))) (fun t17_4 S =>
    wp (X C (.fldA 0 (.const t17_4))) (fun t18_5 S =>
    wp (X C (.load .one (.const t18_5))) (fun t19_6 S =>
    wp (X C (.len .slice (.const t19_6))) (fun t20_7 S =>
    wp (X C (.bin .geq (.const t20_7) (.const (.int .i64 64)))) (fun t21_8 S =>
    ifP (Wb.asBool t21_8) (fun S =>
     Φ (.int .i64 9) S) (fun S =>
     wp (X C (.nilchk (.const t0))) (fun t23_9 S =>
     wp (X C (.fldA 0 (.const t23_9))) (fun t24_10 S =>
     wp (X C (.load .one (.const t24_10))) (fun t25_11 S =>
     wp (X C (.len .slice (.const t25_11))) (fun t26_12 S =>
     wp (X C (.bin .eql (.const t26_12) (.const (.int .i64 0)))) (fun t27_13 S =>
     ifP (Wb.asBool t27_13) (fun S =>
      wp (X C (.nilchk (.const t0))) (fun t29_14 S =>
      wp (X C (.fldA 1 (.const t29_14))) (fun t30_15 S =>
      wp (X C (.store 1 (.const t30_15) (.const (.bool true)))) (fun _ S =>
      wp (X C (.build [(.string ⟨⟨[]⟩⟩), (.int .i64 0), (.int .i64 0)] [(0, 1, (.const t1)), (1, 1, (.const t2))])) (fun t34_16 S =>
      wp (X C (.bslice 161 1 [(.string ⟨⟨[]⟩⟩), (.int .i64 0), (.int .i64 0)] [(0, 3, (.const t34_16))])) (fun t35_17 S =>
      wp (X C (.nilchk (.const t0))) (fun t36_18 S =>
      wp (X C (.fldA 0 (.const t36_18))) (fun t37_19 S =>
      wp (X C (.store 1 (.const t37_19) (.const t35_17))) (fun _ S =>
      Φ (.int .i64 0) S) S) S) S) S) S) S) S) S) (fun S =>
      ∃ I20 : Nat → Value → Value → Value → Value → Value → Hp → Prop, (∃ m, m < n ∧ I20 m t0 t1 t2 (.int .i64 0) (.int .i64 0) S) ∧ ∀ (m20 : Nat) (S : Hp) (t0_21 t1_22 t2_23 t6_24 t7_25 : Value), I20 m20 t0_21 t1_22 t2_23 t6_24 t7_25 S →
       wp (X C (.bin .add (.const t7_25) (.const (.int .i64 1)))) (fun t39_26 S =>
       wp (X C (.nilchk (.const t0_21))) (fun t41_27 S =>
       wp (X C (.fldA 0 (.const t41_27))) (fun t42_28 S =>
       wp (X C (.load .one (.const t42_28))) (fun t43_29 S =>
       wp (X C (.len .slice (.const t43_29))) (fun t44_30 S =>
       wp (X C (.bin .lss (.const t39_26) (.const t44_30))) (fun t45_31 S =>
       wp (G (wanted true t45_31) (X C (.mov (.const t0_21)))) (fun t47_32 S =>
       wp (G (wanted true t45_31) (X C (.nilchk (.const t47_32)))) (fun t48_33 S =>
       wp (G (wanted true t45_31) (X C (.fldA 0 (.const t48_33)))) (fun t49_34 S =>
       wp (G (wanted true t45_31) (X C (.load .one (.const t49_34)))) (fun t50_35 S =>
       wp (G (wanted true t45_31) (X C (.mov (.const t7_25)))) (fun t51_36 S =>
       wp (G (wanted true t45_31) (X C (.ixA 3 (.const t50_35) (.const t51_36)))) (fun t52_37 S =>
       wp (G (wanted true t45_31) (X C (.fldA 0 (.const t52_37)))) (fun t53_38 S =>
       wp (G (wanted true t45_31) (X C (.load .one (.const t53_38)))) (fun t54_39 S =>
       wp (G (wanted true t45_31) (X C (.mov (.const t1_22)))) (fun t55_40 S =>
       wp (G (wanted true t45_31) (X C (.mov (.const t0_21)))) (fun t56_41 S =>
       wp (G (wanted true t45_31) (X C (.nilchk (.const t56_41)))) (fun t57_42 S =>
       wp (G (wanted true t45_31) (X C (.fldA 0 (.const t57_42)))) (fun t58_43 S =>
       wp (G (wanted true t45_31) (X C (.load .one (.const t58_43)))) (fun t59_44 S =>
       wp (G (wanted true t45_31) (X C (.mov (.const t7_25)))) (fun t60_45 S =>
       wp (G (wanted true t45_31) (X C (.bin .add (.const t60_45) (.const (.int .i64 1))))) (fun t61_46 S =>
       wp (G (wanted true t45_31) (X C (.ixA 3 (.const t59_44) (.const t61_46)))) (fun t62_47 S =>
       wp (G (wanted true t45_31) (X C (.fldA 0 (.const t62_47)))) (fun t63_48 S =>
       wp (G (wanted true t45_31) (X C (.load .one (.const t63_48)))) (fun t64_49 S =>
       wp (G (wanted true t45_31) (X C (.call (.const (.func (.func 104) ⟨[]⟩ ⟨[]⟩)) [(.const t54_39), (.const t55_40), (.const t64_49)]))) (fun t65_50 S =>
       wp (G (wanted true t45_31) (X C (.un .not (.const t65_50)))) (fun t66_51 S =>
       wp (X C (.pick (.const t45_31) (.const t66_51) (.const (.bool false)))) (fun t67_52 S =>
       okP (apartAll [0, 1, 0, 4, 12, 28, 60, 127, 255, 511, 1023, 2047, 4095, 511, 16383, 32767, 65535, 511, 511, 262655, 786943, 1835519, 511, 4194815, 16515583, 33292799, 66847231, 134217727, 268435455, 536870911] []) (fun S =>
       ifP (Wb.asBool t67_52) (fun S =>
        wp (X C (.bin .add (.const t7_25) (.const (.int .i64 1)))) (fun t69_53 S =>
        ∃ j20, j20 < m20 ∧ I20 j20 t0_21 t1_22 t2_23 t6_24 t69_53 S) S) (fun S =>
        wp (X C (.bslice 161 0 [] [])) (fun t70_54 S =>
        wp (X C (.nilchk (.const t0_21))) (fun t72_55 S =>
        wp (X C (.fldA 0 (.const t72_55))) (fun t73_56 S =>
        wp (X C (.load .one (.const t73_56))) (fun t74_57 S =>
        wp (X C (.bin .add (.const t7_25) (.const (.int .i64 1)))) (fun t76_58 S =>
        wp (X C (.slc 3 (.const t74_57) none (some (.const t76_58)) none)) (fun t77_59 S =>
        wp (X C (.app 3 32 161 (.const t70_54) (.const t77_59))) (fun t78_60 S =>
        wp (X C (.build [(.string ⟨⟨[]⟩⟩), (.int .i64 0), (.int .i64 0)] [(0, 1, (.const t1_22)), (1, 1, (.const t2_23))])) (fun t81_61 S =>
        wp (X C (.bslice 161 1 [(.string ⟨⟨[]⟩⟩), (.int .i64 0), (.int .i64 0)] [(0, 3, (.const t81_61))])) (fun t82_62 S =>
        wp (X C (.app 3 32 161 (.const t78_60) (.const t82_62))) (fun t83_63 S =>
        wp (X C (.nilchk (.const t0_21))) (fun t87_64 S =>
        wp (X C (.fldA 0 (.const t87_64))) (fun t88_65 S =>
        wp (X C (.load .one (.const t88_65))) (fun t89_66 S =>
        wp (X C (.bin .add (.const t7_25) (.const (.int .i64 1)))) (fun t91_67 S =>
        wp (X C (.slc 3 (.const t89_66) (some (.const t91_67)) none none)) (fun t92_68 S =>
        wp (X C (.app 3 32 161 (.const t83_63) (.const t92_68))) (fun t93_69 S =>
        wp (X C (.nilchk (.const t0_21))) (fun t94_70 S =>
        wp (X C (.fldA 0 (.const t94_70))) (fun t95_71 S =>
        wp (X C (.store 1 (.const t95_71) (.const t93_69))) (fun _ S =>
        Φ (.int .i64 0) S) S) S) S) S) S) S) S) S) S) S) S) S) S) S) S) S) S) S) S) S) S) S) S) S) S) S) S) S) S) S) S) S) S) S) S) S) S) S) S) S) S) S) S) S) S) S) S) S) S) S) S) S) S) S) S) S) S) S) S) S) S) S) S) S) S) S
theorem p56 (C : Tgt → List Value → M Value) (n : Nat) (Φ : Value → Hp → Prop) (t0 t1 t2 : Value) (S : Hp) : codeP C A56 n 1 b56 (argsEnv [t0, t1, t2] 0 .leaf) (endP [.tmp 6] Φ) S = P56 C n Φ t0 t1 t2 S := by kernel_rfl
theorem g56 : T 56 = some (.go ⟨3, [.tmp 6], b56⟩) := by kernel_rfl
attribute [irreducible] b56
theorem c56 {F : Nat → Option AFn} (hF : F 56 = some (.go ⟨3, [.tmp 6], b56⟩)) {n : Nat} {Φ : Value → Hp → Prop} {t0 t1 t2 : Value} {S : Hp} (h : P56 (callN F n) n Φ t0 t1 t2 S) : wp (callN F (n + 1) (.fn 56) [t0, t1, t2]) Φ S := callP (A := A56) hF rfl (Eq.mpr (p56 (callN F n) n Φ t0 t1 t2 S) h)


noncomputable def b58 : ACode := bodyOf (T 58)
def A58 : List (Nat × List Nat) := [(62, [37282])]
def P58 (C : Tgt → List Value → M Value) (n : Nat) (Φ : Value → Hp → Prop) (t0 t1 : Value) (S : Hp) : Prop :=
  wp (X C (.call (.const (.func (.func 103) ⟨[]⟩ ⟨[]⟩)) [(.const t0), (.const t1)])) (fun t8_0 S =>
  wp (X C (.bin .lss (.const t8_0) (.const (.int .i64 0)))) (fun t10_1 S =>
  ifP (Wb.asBool t10_1) (fun S =>
   Φ (.int .i64 7) S) (fun S =>
   wp (X C (.bin .eql (.const t8_0) (.const (.int .i64 0)))) (fun t12_2 S =>
   jn (fun (S : Hp) =>
    dstepP 1 [] (X C (.bslice 161 0 [] [])) (fun t17_4 ts S =>
    wp (X C (.nilchk (.const t0))) (fun t19_5 S =>
    wp (X C (.fldA 0 (.const t19_5))) (fun t20_6 S =>
    dstepP 5 ts (X C (.load .one (.const t20_6))) (fun t21_7 ts S =>
    dstepP 7 ts (X C (.slc 3 (.const t21_7) none (some (.const t8_0)) none)) (fun t23_8 ts S =>
    dstepP 8 ts (X C (.app 3 32 161 (.const t17_4) (.const t23_8))) (fun t24_9 ts S =>
    wp (X C (.nilchk (.const t0))) (fun t26_10 S =>
    wp (X C (.fldA 0 (.const t26_10))) (fun t27_11 S =>
    dstepP 12 ts (X C (.load .one (.const t27_11))) (fun t28_12 ts S =>
    wp (X C (.bin .add (.const t8_0) (.const (.int .i64 1)))) (fun t30_13 S =>
    dstepP 15 ts (X C (.slc 3 (.const t28_12) (some (.const t30_13)) none none)) (fun t31_14 ts S =>
    wp (X C (.app 3 32 161 (.const t24_9) (.const t31_14))) (fun t32_15 S =>
    wp (X C (.nilchk (.const t0))) (fun t33_16 S =>
    wp (X C (.fldA 0 (.const t33_16))) (fun t34_17 S =>
    wp (X C (.store 1 (.const t34_17) (.const t32_15))) (fun _ S =>
    okP (apartAll [0, 0, 0, 4, 12, 28, 0, 124, 254, 0, 512, 1536, 3584, 0, 8192, 32256, 65534, 131071, 262143, 524287] ts) (fun S =>
    Φ (.int .i64 0) S) S) S) S) S) S) S) S) S) S) S) S) S) S) S) S) S) (fun J3 =>
   ifP (Wb.asBool t12_2) (fun S =>
    wp (X C (.nilchk (.const t0))) (fun t14_18 S =>
    wp (X C (.fldA 1 (.const t14_18))) (fun t15_19 S =>
    wp (X C (.store 1 (.const t15_19) (.const (.bool true)))) (fun _ S =>
    J3 S) S) S) S) (fun S =>
    J3 S) S)) S) S) S) S
theorem p58 (C : Tgt → List Value → M Value) (n : Nat) (Φ : Value → Hp → Prop) (t0 t1 : Value) (S : Hp) : codeP C A58 n 1 b58 (argsEnv [t0, t1] 0 .leaf) (endP [.tmp 4] Φ) S = P58 C n Φ t0 t1 S := by kernel_rfl
theorem g58 : T 58 = some (.go ⟨2, [.tmp 4], b58⟩) := by kernel_rfl
attribute [irreducible] b58
theorem c58 {F : Nat → Option AFn} (hF : F 58 = some (.go ⟨2, [.tmp 4], b58⟩)) {n : Nat} {Φ : Value → Hp → Prop} {t0 t1 : Value} {S : Hp} (h : P58 (callN F n) n Φ t0 t1 S) : wp (callN F (n + 1) (.fn 58) [t0, t1]) Φ S := callP (A := A58) hF rfl (Eq.mpr (p58 (callN F n) n Φ t0 t1 S) h)


noncomputable def b59 : ACode := bodyOf (T 59)
def A59 : List (Nat × List Nat) := [(32308, [0]), (64628, [0]), (126, [0, 1, 4, 5]), (2002, [0, 1, 4, 5, 8]), (58, [0, 1, 4, 5, 6, 7])]
def P59 (C : Tgt → List Value → M Value) (n : Nat) (Φ : Value → Hp → Prop) (t0 t1 : Value) (S : Hp) : Prop :=
  ∃ I0 : Nat → Value → Value → Value → Value → Value → Value → Hp → Prop, (∃ m, m < n ∧ I0 m t0 t1 (.string ⟨⟨[]⟩⟩) (.bool false) (.bool false) (.int .i64 0) S) ∧ ∀ (m0 : Nat) (S : Hp) (t0_1 t1_2 t4_3 t5_4 t6_5 t7_6 : Value), I0 m0 t0_1 t1_2 t4_3 t5_4 t6_5 t7_6 S →
   wp (X C (.nilchk (.const t0_1))) (fun t12_7 S =>
   wp (X C (.fldA 0 (.const t12_7))) (fun t13_8 S =>
   wp (X C (.load .one (.const t13_8))) (fun t14_9 S =>
   wp (X C (.len .slice (.const t14_9))) (fun t15_10 S =>
   wp (X C (.bin .lss (.const t7_6) (.const t15_10))) (fun t16_11 S =>
   ifP (Wb.asBool t16_11) (fun S =>
    andP false t6_5 (fun K S =>
     wp (X C (.nilchk (.const t0_1))) (fun t23_12 S =>
     wp (X C (.fldA 0 (.const t23_12))) (fun t24_13 S =>
     wp (X C (.load .one (.const t24_13))) (fun t25_14 S =>
     wp (X C (.ixA 3 (.const t25_14) (.const t7_6))) (fun t27_15 S =>
     wp (X C (.fldA 0 (.const t27_15))) (fun t28_16 S =>
     wp (X C (.load .one (.const t28_16))) (fun t29_17 S =>
     wp (X C (.call (.const (.func (.func 107) ⟨[]⟩ ⟨[]⟩)) [(.const t1_2), (.const t29_17)])) (fun t30_18 S =>
     wp (X C (.bin .gtr (.const t30_18) (.const (.int .i64 0)))) (fun t31_19 S =>
     K t31_19 S) S) S) S) S) S) S) S) S) (fun t32_20 S =>
    wp (X C (.bin .add (.const t7_6) (.const (.int .i64 1)))) (fun t18_21 S =>
    ∃ j0, j0 < m0 ∧ I0 j0 t0_1 t1_2 t4_3 t5_4 t32_20 t18_21 S) S) S) (fun S =>
    wp (X C (.bslice 161 0 [] [])) (fun t34_22 S =>
    wp (X C (.nilchk (.const t0_1))) (fun t36_23 S =>
    wp (X C (.fldA 0 (.const t36_23))) (fun t37_24 S =>
    wp (X C (.load .one (.const t37_24))) (fun t38_25 S =>
    wp (X C (.app 3 32 161 (.const t34_22) (.const t38_25))) (fun t39_26 S =>
    wp (X C (.nilchk (.const t0_1))) (fun t40_27 S =>
    wp (X C (.fldA 0 (.const t40_27))) (fun t41_28 S =>
    wp (X C (.store 1 (.const t41_28) (.const t39_26))) (fun _ S =>
    wp (X C (.un .not (.const t6_5))) (fun t43_29 S =>
    ifP (Wb.asBool t43_29) (fun S =>
     ∃ I30 : Nat → Value → Value → Value → Value → Value → Hp → Prop, (∃ m, m < n ∧ I30 m t0_1 t1_2 t4_3 t5_4 (.int .i64 0) S) ∧ ∀ (m30 : Nat) (S : Hp) (t0_31 t1_32 t4_33 t5_34 t8_35 : Value), I30 m30 t0_31 t1_32 t4_33 t5_34 t8_35 S →
      wp (X C (.nilchk (.const t0_31))) (fun t46_36 S =>
      wp (X C (.fldA 0 (.const t46_36))) (fun t47_37 S =>
      wp (X C (.load .one (.const t47_37))) (fun t48_38 S =>
      wp (X C (.len .slice (.const t48_38))) (fun t49_39 S =>
      wp (X C (.bin .lss (.const t8_35) (.const t49_39))) (fun t50_40 S =>
      ifP (Wb.asBool t50_40) (fun S =>
       wp (X C (.nilchk (.const t0_31))) (fun t54_41 S =>
       wp (X C (.fldA 0 (.const t54_41))) (fun t55_42 S =>
       wp (X C (.load .one (.const t55_42))) (fun t56_43 S =>
       wp (X C (.ixA 3 (.const t56_43) (.const t8_35))) (fun t58_44 S =>
       wp (X C (.fldA 2 (.const t58_44))) (fun t59_45 S =>
       wp (X C (.store 1 (.const t59_45) (.const (.int .i64 0)))) (fun _ S =>
       wp (X C (.bin .add (.const t8_35) (.const (.int .i64 1)))) (fun t52_46 S =>
       ∃ j30, j30 < m30 ∧ I30 j30 t0_31 t1_32 t4_33 t5_34 t52_46 S) S) S) S) S) S) S) S) (fun S =>
       Φ (.tuple ⟨[(.string ⟨⟨[]⟩⟩), (.bool false)]⟩) S) S) S) S) S) S) S) (fun S =>
     ∃ I47 : Nat → Value → Value → Value → Value → Hp → Prop, (∃ m, m < n ∧ I47 m t0_1 t1_2 t4_3 t5_4 S) ∧ ∀ (m47 : Nat) (S : Hp) (t0_48 t1_49 t4_50 t5_51 : Value), I47 m47 t0_48 t1_49 t4_50 t5_51 S →
      wp (X C (.nilchk (.const t0_48))) (fun t62_52 S =>
      wp (X C (.fldA 0 (.const t62_52))) (fun t63_53 S =>
      wp (X C (.load .one (.const t63_53))) (fun t64_54 S =>
      wp (X C (.ixA 3 (.const t64_54) (.const (.int .i64 0)))) (fun t65_55 S =>
      wp (X C (.fldA 0 (.const t65_55))) (fun t66_56 S =>
      wp (X C (.load .one (.const t66_56))) (fun t67_57 S =>
      wp (X C (.call (.const (.func (.func 107) ⟨[]⟩ ⟨[]⟩)) [(.const t1_49), (.const t67_57)])) (fun t68_58 S =>
      wp (X C (.bin .eql (.const t68_58) (.const (.int .i64 0)))) (fun t70_59 S =>
      ifP (Wb.asBool t70_59) (fun S =>
       wp (X C (.nilchk (.const t0_48))) (fun t72_60 S =>
       wp (X C (.fldA 0 (.const t72_60))) (fun t73_61 S =>
       wp (X C (.load .one (.const t73_61))) (fun t74_62 S =>
       wp (X C (.ixA 3 (.const t74_62) (.const (.int .i64 0)))) (fun t75_63 S =>
       wp (X C (.fldA 2 (.const t75_63))) (fun t76_64 S =>
       wp (X C (.store 1 (.const t76_64) (.const (.int .i64 0)))) (fun _ S =>
       wp (X C (.call (.const (.func (.func 108) ⟨[]⟩ ⟨[]⟩)) [(.const t0_48)])) (fun t78_65 S =>
       ∃ j47, j47 < m47 ∧ I47 j47 t0_48 t1_49 t4_50 t5_51 S) S) S) S) S) S) S) S) (fun S =>
       wp (X C (.nilchk (.const t0_48))) (fun t80_66 S =>
       wp (X C (.fldA 1 (.const t80_66))) (fun t81_67 S =>
       wp (X C (.load .one (.const t81_67))) (fun t82_68 S =>
       jn (fun (S : Hp) =>
        wp (X C (.nilchk (.const t0_48))) (fun t109_70 S =>
        wp (X C (.fldA 0 (.const t109_70))) (fun t110_71 S =>
        wp (X C (.load .one (.const t110_71))) (fun t111_72 S =>
        wp (X C (.ixA 3 (.const t111_72) (.const (.int .i64 0)))) (fun t112_73 S =>
        wp (X C (.fldA 2 (.const t112_73))) (fun t113_74 S =>
        wp (X C (.load .one (.const t113_74))) (fun t114_75 S =>
        wp (X C (.bin .leq (.const t68_58) (.const t114_75))) (fun t115_76 S =>
        ifP (Wb.asBool t115_76) (fun S =>
         wp (X C (.nilchk (.const t0_48))) (fun t117_77 S =>
         wp (X C (.fldA 0 (.const t117_77))) (fun t118_78 S =>
         wp (X C (.load .one (.const t118_78))) (fun t119_79 S =>
         wp (X C (.nilchk (.const t0_48))) (fun t121_80 S =>
         wp (X C (.fldA 0 (.const t121_80))) (fun t122_81 S =>
         wp (X C (.load .one (.const t122_81))) (fun t123_82 S =>
         wp (X C (.ixA 3 (.const t123_82) (.const (.int .i64 0)))) (fun t124_83 S =>
         wp (X C (.fldA 2 (.const t124_83))) (fun t125_84 S =>
         wp (X C (.load .one (.const t125_84))) (fun t126_85 S =>
         wp (X C (.bin .sub (.const t126_85) (.const t68_58))) (fun t128_86 S =>
         wp (X C (.ixA 3 (.const t119_79) (.const (.int .i64 0)))) (fun t129_87 S =>
         wp (X C (.fldA 2 (.const t129_87))) (fun t130_88 S =>
         wp (X C (.store 1 (.const t130_88) (.const t128_86))) (fun _ S =>
         okP (apartAll [0, 1, 3, 7, 0, 16, 48, 112, 240, 496, 1008, 0, 4080, 8191, 16383, 32767] []) (fun S =>
         wp (X C (.nilchk (.const t0_48))) (fun t132_89 S =>
         wp (X C (.fldA 0 (.const t132_89))) (fun t133_90 S =>
         wp (X C (.load .one (.const t133_90))) (fun t134_91 S =>
         wp (X C (.ixA 3 (.const t134_91) (.const (.int .i64 0)))) (fun t135_92 S =>
         wp (X C (.fldA 0 (.const t135_92))) (fun t136_93 S =>
         wp (X C (.load .one (.const t136_93))) (fun t137_94 S =>
         Φ (.tuple ⟨[t137_94, (.bool true)]⟩) S) S) S) S) S) S) S) S) S) S) S) S) S) S) S) S) S) S) S) S) S) (fun S =>
         wp (X C (.call (.const (.func (.func 108) ⟨[]⟩ ⟨[]⟩)) [(.const t0_48)])) (fun t139_95 S =>
         ∃ j47, j47 < m47 ∧ I47 j47 t0_48 t1_49 t4_50 t5_51 S) S) S) S) S) S) S) S) S) S) (fun J69 =>
       ifP (Wb.asBool t82_68) (fun S =>
        wp (X C (.nilchk (.const t0_48))) (fun t84_96 S =>
        wp (X C (.fldA 0 (.const t84_96))) (fun t85_97 S =>
        wp (X C (.load .one (.const t85_97))) (fun t86_98 S =>
        wp (X C (.nilchk (.const t0_48))) (fun t88_99 S =>
        wp (X C (.fldA 0 (.const t88_99))) (fun t89_100 S =>
        wp (X C (.load .one (.const t89_100))) (fun t90_101 S =>
        wp (X C (.ixA 3 (.const t90_101) (.const (.int .i64 0)))) (fun t91_102 S =>
        wp (X C (.fldA 2 (.const t91_102))) (fun t92_103 S =>
        wp (X C (.load .one (.const t92_103))) (fun t93_104 S =>
        wp (X C (.nilchk (.const t0_48))) (fun t95_105 S =>
        wp (X C (.fldA 0 (.const t95_105))) (fun t96_106 S =>
        wp (X C (.load .one (.const t96_106))) (fun t97_107 S =>
        wp (X C (.ixA 3 (.const t97_107) (.const (.int .i64 0)))) (fun t98_108 S =>
        wp (X C (.fldA 1 (.const t98_108))) (fun t99_109 S =>
        wp (X C (.load .one (.const t99_109))) (fun t100_110 S =>
        wp (X C (.bin .add (.const t93_104) (.const t100_110))) (fun t101_111 S =>
        wp (X C (.ixA 3 (.const t86_98) (.const (.int .i64 0)))) (fun t102_112 S =>
        wp (X C (.fldA 2 (.const t102_112))) (fun t103_113 S =>
        wp (X C (.store 1 (.const t103_113) (.const t101_111))) (fun _ S =>
        okP (apartAll [0, 1, 3, 7, 0, 16, 48, 112, 240, 496, 1008, 0, 2048, 6144, 14336, 30720, 63488, 129024, 262128, 524287, 1048575, 2097151] []) (fun S =>
        wp (X C (.nilchk (.const t0_48))) (fun t105_114 S =>
        wp (X C (.fldA 1 (.const t105_114))) (fun t106_115 S =>
        wp (X C (.store 1 (.const t106_115) (.const (.bool false)))) (fun _ S =>
        J69 S) S) S) S) S) S) S) S) S) S) S) S) S) S) S) S) S) S) S) S) S) S) S) S) (fun S =>
        J69 S) S)) S) S) S) S) S) S) S) S) S) S) S) S) S) S) S) S) S) S) S) S) S) S) S) S) S) S) S) S
theorem p59 (C : Tgt → List Value → M Value) (n : Nat) (Φ : Value → Hp → Prop) (t0 t1 : Value) (S : Hp) : codeP C A59 n 1 b59 (argsEnv [t0, t1] 0 .leaf) (endP [.tmp 4, .tmp 5] Φ) S = P59 C n Φ t0 t1 S := by kernel_rfl
theorem g59 : T 59 = some (.go ⟨2, [.tmp 4, .tmp 5], b59⟩) := by kernel_rfl
attribute [irreducible] b59
theorem c59 {F : Nat → Option AFn} (hF : F 59 = some (.go ⟨2, [.tmp 4, .tmp 5], b59⟩)) {n : Nat} {Φ : Value → Hp → Prop} {t0 t1 : Value} {S : Hp} (h : P59 (callN F n) n Φ t0 t1 S) : wp (callN F (n + 1) (.fn 59) [t0, t1]) Φ S := callP (A := A59) hF rfl (Eq.mpr (p59 (callN F n) n Φ t0 t1 S) h)


noncomputable def b61 : ACode := bodyOf (T 61)
def A61 : List (Nat × List Nat) := []
def P61 (C : Tgt → List Value → M Value) (n : Nat) (Φ : Value → Hp → Prop) (t0 t1 t2 : Value) (S : Hp) : Prop :=
  wp (X C (.call (.const (.func (.func 51) ⟨[]⟩ ⟨[]⟩)) [(.const t2)])) (fun t9_0 S =>
  wp (X C (.un .not (.const t9_0))) (fun t10_1 S =>
  ifP (Wb.asBool t10_1) (fun S =>
   Φ (.int .i64 2) S) (fun S =>
   wp (X C (.call (.const (.func (.func 103) ⟨[]⟩ ⟨[]⟩)) [(.const t0), (.const t1)])) (fun t13_2 S =>
   wp (X C (.bin .lss (.const t13_2) (.const (.int .i64 0)))) (fun t15_3 S =>
   ifP (Wb.asBool t15_3) (fun S =>
    Φ (.int .i64 7) S) (fun S =>
    wp (X C (.bslice 161 0 [] [])) (fun t17_4 S =>
    wp (X C (.nilchk (.const t0))) (fun t19_5 S =>
    wp (X C (.fldA 0 (.const t19_5))) (fun t20_6 S =>
    wp (X C (.load .one (.const t20_6))) (fun t21_7 S =>
    wp (X C (.app 3 32 161 (.const t17_4) (.const t21_7))) (fun t22_8 S =>
    wp (X C (.nilchk (.const t0))) (fun t23_9 S =>
    wp (X C (.fldA 0 (.const t23_9))) (fun t24_10 S =>
    wp (X C (.store 1 (.const t24_10) (.const t22_8))) (fun _ S =>
    wp (X C (.nilchk (.const t0))) (fun t26_11 S =>
    wp (X C (.fldA 0 (.const t26_11))) (fun t27_12 S =>
    wp (X C (.load .one (.const t27_12))) (fun t28_13 S =>
    wp (X C (.ixA 3 (.const t28_13) (.const t13_2))) (fun t31_14 S =>
    wp (X C (.fldA 1 (.const t31_14))) (fun t32_15 S =>
    wp (X C (.store 1 (.const t32_15) (.const t2))) (fun _ S =>
    Φ (.int .i64 0) S) S) S) S) S) S) S) S) S) S) S) S) S) S) S) S) S) S) S) S) S
theorem p61 (C : Tgt → List Value → M Value) (n : Nat) (Φ : Value → Hp → Prop) (t0 t1 t2 : Value) (S : Hp) : codeP C A61 n 1 b61 (argsEnv [t0, t1, t2] 0 .leaf) (endP [.tmp 6] Φ) S = P61 C n Φ t0 t1 t2 S := by kernel_rfl
theorem g61 : T 61 = some (.go ⟨3, [.tmp 6], b61⟩) := by kernel_rfl
attribute [irreducible] b61
theorem c61 {F : Nat → Option AFn} (hF : F 61 = some (.go ⟨3, [.tmp 6], b61⟩)) {n : Nat} {Φ : Value → Hp → Prop} {t0 t1 t2 : Value} {S : Hp} (h : P61 (callN F n) n Φ t0 t1 t2 S) : wp (callN F (n + 1) (.fn 61) [t0, t1, t2]) Φ S := callP (A := A61) hF rfl (Eq.mpr (p61 (callN F n) n Φ t0 t1 t2 S) h)


noncomputable def b63 : ACode := bodyOf (T 63)
def A63 : List (Nat × List Nat) := []
def P63 (C : Tgt → List Value → M Value) (n : Nat) (Φ : Value → Hp → Prop) (t0 : Value) (S : Hp) : Prop :=
  wp (X C (.nilchk (.const t0))) (fun t5_0 S =>
  wp (X C (.load (.agg 2) (.const t5_0))) (fun t6_1 S =>
  wp (X C (.alloc 104 [(.slice none 0 0), (.bool false)])) (fun t3_2 S =>
  wp (X C (.store 2 (.const t3_2) (.const t6_1))) (fun _ S =>
  Φ t3_2 S) S) S) S) S
theorem p63 (C : Tgt → List Value → M Value) (n : Nat) (Φ : Value → Hp → Prop) (t0 : Value) (S : Hp) : codeP C A63 n 1 b63 (argsEnv [t0] 0 .leaf) (endP [.tmp 2] Φ) S = P63 C n Φ t0 S := by kernel_rfl
theorem g63 : T 63 = some (.go ⟨1, [.tmp 2], b63⟩) := by kernel_rfl
attribute [irreducible] b63
theorem c63 {F : Nat → Option AFn} (hF : F 63 = some (.go ⟨1, [.tmp 2], b63⟩)) {n : Nat} {Φ : Value → Hp → Prop} {t0 : Value} {S : Hp} (h : P63 (callN F n) n Φ t0 S) : wp (callN F (n + 1) (.fn 63) [t0]) Φ S := callP (A := A63) hF rfl (Eq.mpr (p63 (callN F n) n Φ t0 S) h)


noncomputable def b103 : ACode := bodyOf (T 103)
def A103 : List (Nat × List Nat) := [(26, [0, 1, 4, 5])]
def P103 (C : Tgt → List Value → M Value) (n : Nat) (Φ : Value → Hp → Prop) (t0 t1 : Value) (S : Hp) : Prop :=
  ∃ I0 : Nat → Value → Value → Value → Value → Hp → Prop, (∃ m, m < n ∧ I0 m t0 t1 (.int .i64 0) (.int .i64 0) S) ∧ ∀ (m0 : Nat) (S : Hp) (t0_1 t1_2 t4_3 t5_4 : Value), I0 m0 t0_1 t1_2 t4_3 t5_4 S →
   wp (X C (.nilchk (.const t0_1))) (fun t8_5 S =>
   wp (X C (.fldA 0 (.const t8_5))) (fun t9_6 S =>
   wp (X C (.load .one (.const t9_6))) (fun t10_7 S =>
   wp (X C (.len .slice (.const t10_7))) (fun t11_8 S =>
   wp (X C (.bin .lss (.const t5_4) (.const t11_8))) (fun t12_9 S =>
   ifP (Wb.asBool t12_9) (fun S =>
    wp (X C (.nilchk (.const t0_1))) (fun t16_10 S =>
    wp (X C (.fldA 0 (.const t16_10))) (fun t17_11 S =>
    wp (X C (.load .one (.const t17_11))) (fun t18_12 S =>
    wp (X C (.ixA 3 (.const t18_12) (.const t5_4))) (fun t20_13 S =>
    wp (X C (.fldA 0 (.const t20_13))) (fun t21_14 S =>
    wp (X C (.load .one (.const t21_14))) (fun t22_15 S =>
    wp (X C (.bin .eql (.const t22_15) (.const t1_2))) (fun t24_16 S =>
    ifP (Wb.asBool t24_16) (fun S =>
     Φ t5_4 S) (fun S =>
     wp (X C (.bin .add (.const t5_4) (.const (.int .i64 1)))) (fun t14_17 S =>
     ∃ j0, j0 < m0 ∧ I0 j0 t0_1 t1_2 t4_3 t14_17 S) S) S) S) S) S) S) S) S) S) (fun S =>
    Φ (.int .i64 (Int.negSucc 0)) S) S) S) S) S) S) S
theorem p103 (C : Tgt → List Value → M Value) (n : Nat) (Φ : Value → Hp → Prop) (t0 t1 : Value) (S : Hp) : codeP C A103 n 1 b103 (argsEnv [t0, t1] 0 .leaf) (endP [.tmp 4] Φ) S = P103 C n Φ t0 t1 S := by kernel_rfl
theorem g103 : T 103 = some (.go ⟨2, [.tmp 4], b103⟩) := by kernel_rfl
attribute [irreducible] b103
theorem c103 {F : Nat → Option AFn} (hF : F 103 = some (.go ⟨2, [.tmp 4], b103⟩)) {n : Nat} {Φ : Value → Hp → Prop} {t0 t1 : Value} {S : Hp} (h : P103 (callN F n) n Φ t0 t1 S) : wp (callN F (n + 1) (.fn 103) [t0, t1]) Φ S := callP (A := A103) hF rfl (Eq.mpr (p103 (callN F n) n Φ t0 t1 S) h)


noncomputable def b104 : ACode := bodyOf (T 104)
def A104 : List (Nat × List Nat) := []
def P104 (C : Tgt → List Value → M Value) (n : Nat) (Φ : Value → Hp → Prop) (t0 t1 t2 : Value) (S : Hp) : Prop :=
  wp (X C (.bin .lss (.const t0) (.const t2))) (fun t9_0 S =>
  ifP (Wb.asBool t9_0) (fun S =>
   wp (X C (.bin .lss (.const t0) (.const t1))) (fun t12_1 S =>
   andP true t12_1 (fun K S =>
    wp (X C (.bin .lss (.const t1) (.const t2))) (fun t16_2 S =>
    K t16_2 S) S) (fun t17_3 S =>
   Φ t17_3 S) S) S) (fun S =>
   wp (X C (.bin .gtr (.const t1) (.const t0))) (fun t20_4 S =>
   andP false t20_4 (fun K S =>
    wp (X C (.bin .lss (.const t1) (.const t2))) (fun t24_5 S =>
    K t24_5 S) S) (fun t25_6 S =>
   Φ t25_6 S) S) S) S) S
theorem p104 (C : Tgt → List Value → M Value) (n : Nat) (Φ : Value → Hp → Prop) (t0 t1 t2 : Value) (S : Hp) : codeP C A104 n 1 b104 (argsEnv [t0, t1, t2] 0 .leaf) (endP [.tmp 6] Φ) S = P104 C n Φ t0 t1 t2 S := by kernel_rfl
theorem g104 : T 104 = some (.go ⟨3, [.tmp 6], b104⟩) := by kernel_rfl
attribute [irreducible] b104
theorem c104 {F : Nat → Option AFn} (hF : F 104 = some (.go ⟨3, [.tmp 6], b104⟩)) {n : Nat} {Φ : Value → Hp → Prop} {t0 t1 t2 : Value} {S : Hp} (h : P104 (callN F n) n Φ t0 t1 t2 S) : wp (callN F (n + 1) (.fn 104) [t0, t1, t2]) Φ S := callP (A := A104) hF rfl (Eq.mpr (p104 (callN F n) n Φ t0 t1 t2 S) h)


noncomputable def b107 : ACode := bodyOf (T 107)
def A107 : List (Nat × List Nat) := [(26, [0, 1, 4, 5])]
def P107 (C : Tgt → List Value → M Value) (n : Nat) (Φ : Value → Hp → Prop) (t0 t1 : Value) (S : Hp) : Prop :=
  ∃ I0 : Nat → Value → Value → Value → Value → Hp → Prop, (∃ m, m < n ∧ I0 m t0 t1 (.int .i64 0) (.int .i64 0) S) ∧ ∀ (m0 : Nat) (S : Hp) (t0_1 t1_2 t4_3 t5_4 : Value), I0 m0 t0_1 t1_2 t4_3 t5_4 S →
   wp (X C (.len .slice (.const t0_1))) (fun t8_5 S =>
   wp (X C (.bin .lss (.const t5_4) (.const t8_5))) (fun t9_6 S =>
   ifP (Wb.asBool t9_6) (fun S =>
    wp (X C (.ixA 2 (.const t0_1) (.const t5_4))) (fun t14_7 S =>
    wp (X C (.fldA 0 (.const t14_7))) (fun t15_8 S =>
    wp (X C (.load .one (.const t15_8))) (fun t16_9 S =>
    wp (X C (.bin .eql (.const t16_9) (.const t1_2))) (fun t18_10 S =>
    andP true t18_10 (fun K S =>
     wp (X C (.ixA 2 (.const t0_1) (.const t5_4))) (fun t22_11 S =>
     wp (X C (.fldA 1 (.const t22_11))) (fun t23_12 S =>
     wp (X C (.load .one (.const t23_12))) (fun t24_13 S =>
     wp (X C (.bin .gtr (.const t24_13) (.const (.int .i64 0)))) (fun t25_14 S =>
     K t25_14 S) S) S) S) S) (fun t26_15 S =>
    andP true t26_15 (fun K S =>
     wp (X C (.ixA 2 (.const t0_1) (.const t5_4))) (fun t30_16 S =>
     wp (X C (.fldA 1 (.const t30_16))) (fun t31_17 S =>
     wp (X C (.load .one (.const t31_17))) (fun t32_18 S =>
     wp (X C (.bin .leq (.const t32_18) (.const (.int .i64 1600)))) (fun t33_19 S =>
     K t33_19 S) S) S) S) S) (fun t34_20 S =>
    ifP (Wb.asBool t34_20) (fun S =>
     wp (X C (.ixA 2 (.const t0_1) (.const t5_4))) (fun t37_21 S =>
     wp (X C (.fldA 1 (.const t37_21))) (fun t38_22 S =>
     wp (X C (.load .one (.const t38_22))) (fun t39_23 S =>
     Φ t39_23 S) S) S) S) (fun S =>
     wp (X C (.ixA 2 (.const t0_1) (.const t5_4))) (fun t42_24 S =>
     wp (X C (.fldA 0 (.const t42_24))) (fun t43_25 S =>
     wp (X C (.load .one (.const t43_25))) (fun t44_26 S =>
     wp (X C (.bin .eql (.const t44_26) (.const t1_2))) (fun t46_27 S =>
     ifP (Wb.asBool t46_27) (fun S =>
      Φ (.int .i64 0) S) (fun S =>
      wp (X C (.bin .add (.const t5_4) (.const (.int .i64 1)))) (fun t11_28 S =>
      ∃ j0, j0 < m0 ∧ I0 j0 t0_1 t1_2 t4_3 t11_28 S) S) S) S) S) S) S) S) S) S) S) S) S) S) (fun S =>
    Φ (.int .i64 0) S) S) S) S
theorem p107 (C : Tgt → List Value → M Value) (n : Nat) (Φ : Value → Hp → Prop) (t0 t1 : Value) (S : Hp) : codeP C A107 n 1 b107 (argsEnv [t0, t1] 0 .leaf) (endP [.tmp 4] Φ) S = P107 C n Φ t0 t1 S := by kernel_rfl
theorem g107 : T 107 = some (.go ⟨2, [.tmp 4], b107⟩) := by kernel_rfl
attribute [irreducible] b107
theorem c107 {F : Nat → Option AFn} (hF : F 107 = some (.go ⟨2, [.tmp 4], b107⟩)) {n : Nat} {Φ : Value → Hp → Prop} {t0 t1 : Value} {S : Hp} (h : P107 (callN F n) n Φ t0 t1 S) : wp (callN F (n + 1) (.fn 107) [t0, t1]) Φ S := callP (A := A107) hF rfl (Eq.mpr (p107 (callN F n) n Φ t0 t1 S) h)


noncomputable def b108 : ACode := bodyOf (T 108)
def A108 : List (Nat × List Nat) := [(2, [26850])]
def P108 (C : Tgt → List Value → M Value) (n : Nat) (Φ : Value → Hp → Prop) (t0 : Value) (S : Hp) : Prop :=
  dstepP 1 [] (X C (.bslice 161 0 [] [])) (fun t3_0 ts S =>
  wp (X C (.nilchk (.const t0))) (fun t5_1 S =>
  wp (X C (.fldA 0 (.const t5_1))) (fun t6_2 S =>
  dstepP 5 ts (X C (.load .one (.const t6_2))) (fun t7_3 ts S =>
  dstepP 6 ts (X C (.slc 3 (.const t7_3) (some (.const (.int .i64 1))) none none)) (fun t8_4 ts S =>
  dstepP 7 ts (X C (.app 3 32 161 (.const t3_0) (.const t8_4))) (fun t9_5 ts S =>
  wp (X C (.nilchk (.const t0))) (fun t11_6 S =>
  wp (X C (.fldA 0 (.const t11_6))) (fun t12_7 S =>
  dstepP 11 ts (X C (.load .one (.const t12_7))) (fun t13_8 ts S =>
  wp (X C (.ixA 3 (.const t13_8) (.const (.int .i64 0)))) (fun t14_9 S =>
  dstepP 13 ts (X C (.load (.agg 3) (.const t14_9))) (fun t15_10 ts S =>
  dstepP 14 ts (X C (.bslice 161 1 [(.string ⟨⟨[]⟩⟩), (.int .i64 0), (.int .i64 0)] [(0, 3, (.const t15_10))])) (fun t16_11 ts S =>
  wp (X C (.app 3 32 161 (.const t9_5) (.const t16_11))) (fun t17_12 S =>
  wp (X C (.nilchk (.const t0))) (fun t18_13 S =>
  wp (X C (.fldA 0 (.const t18_13))) (fun t19_14 S =>
  wp (X C (.store 1 (.const t19_14) (.const t17_12))) (fun _ S =>
  okP (apartAll [0, 0, 0, 4, 12, 28, 60, 126, 0, 256, 768, 1792, 3840, 7936, 16128, 32766, 65535, 131071, 262143] ts) (fun S =>
  wp (X C (.nilchk (.const t0))) (fun t21_15 S =>
  wp (X C (.fldA 1 (.const t21_15))) (fun t22_16 S =>
  wp (X C (.store 1 (.const t22_16) (.const (.bool true)))) (fun _ S =>
  Φ (.tuple ⟨[]⟩) S) S) S) S) S) S) S) S) S) S) S) S) S) S) S) S) S) S) S) S) S
theorem p108 (C : Tgt → List Value → M Value) (n : Nat) (Φ : Value → Hp → Prop) (t0 : Value) (S : Hp) : codeP C A108 n 1 b108 (argsEnv [t0] 0 .leaf) (endP [] Φ) S = P108 C n Φ t0 S := by kernel_rfl
theorem g108 : T 108 = some (.go ⟨1, [], b108⟩) := by kernel_rfl
attribute [irreducible] b108
theorem c108 {F : Nat → Option AFn} (hF : F 108 = some (.go ⟨1, [], b108⟩)) {n : Nat} {Φ : Value → Hp → Prop} {t0 : Value} {S : Hp} (h : P108 (callN F n) n Φ t0 S) : wp (callN F (n + 1) (.fn 108) [t0]) Φ S := callP (A := A108) hF rfl (Eq.mpr (p108 (callN F n) n Φ t0 S) h)


noncomputable def b111 : ACode := bodyOf (T 111)
def A111 : List (Nat × List Nat) := [(7462, [12569]), (7460, [0, 2, 3, 4, 5]), (58, [0, 2, 3, 4])]
def P111 (C : Tgt → List Value → M Value) (n : Nat) (Φ : Value → Hp → Prop) (t0 : Value) (S : Hp) : Prop :=
  ∃ I0 : Nat → Value → Value → Value → Value → Hp → Prop, (∃ m, m < n ∧ I0 m t0 (.slice none 0 0) (.slice none 0 0) (.int .i64 0) S) ∧ ∀ (m0 : Nat) (S : Hp) (t0_1 t2_2 t3_3 t4_4 : Value), I0 m0 t0_1 t2_2 t3_3 t4_4 S →
   wp (X C (.nilchk (.const t0_1))) (fun t9_5 S =>
   wp (X C (.fldA 0 (.const t9_5))) (fun t10_6 S =>
   wp (X C (.load .one (.const t10_6))) (fun t11_7 S =>
   wp (X C (.len .slice (.const t11_7))) (fun t12_8 S =>
   wp (X C (.bin .lss (.const t4_4) (.const t12_8))) (fun t13_9 S =>
   ifP (Wb.asBool t13_9) (fun S =>
    ∃ I10 : Nat → Value → Value → Value → Value → Value → Hp → Prop, (∃ m, m < n ∧ I10 m t0_1 t2_2 t3_3 t4_4 (.int .i64 0) S) ∧ ∀ (m10 : Nat) (S : Hp) (t0_11 t2_12 t3_13 t4_14 t5_15 : Value), I10 m10 t0_11 t2_12 t3_13 t4_14 t5_15 S →
     wp (X C (.len .slice (.const t3_13))) (fun t18_16 S =>
     wp (X C (.bin .lss (.const t5_15) (.const t18_16))) (fun t19_17 S =>
     andP true t19_17 (fun K S =>
      wp (X C (.ixA 1 (.const t3_13) (.const t5_15))) (fun t23_18 S =>
      wp (X C (.load .one (.const t23_18))) (fun t24_19 S =>
      wp (X C (.nilchk (.const t0_11))) (fun t26_20 S =>
      wp (X C (.fldA 0 (.const t26_20))) (fun t27_21 S =>
      wp (X C (.load .one (.const t27_21))) (fun t28_22 S =>
      wp (X C (.ixA 3 (.const t28_22) (.const t4_14))) (fun t30_23 S =>
      wp (X C (.fldA 0 (.const t30_23))) (fun t31_24 S =>
      wp (X C (.load .one (.const t31_24))) (fun t32_25 S =>
      wp (X C (.bin .lss (.const t24_19) (.const t32_25))) (fun t33_26 S =>
      K t33_26 S) S) S) S) S) S) S) S) S) S) (fun t34_27 S =>
     ifP (Wb.asBool t34_27) (fun S =>
      wp (X C (.bin .add (.const t5_15) (.const (.int .i64 1)))) (fun t36_28 S =>
      ∃ j10, j10 < m10 ∧ I10 j10 t0_11 t2_12 t3_13 t4_14 t36_28 S) S) (fun S =>
      dstepP 0 [] (X C (.bslice 9 0 [] [])) (fun t37_29 ts S =>
      dstepP 3 ts (X C (.slc 1 (.const t3_13) none (some (.const t5_15)) none)) (fun t40_30 ts S =>
      dstepP 4 ts (X C (.app 1 16 9 (.const t37_29) (.const t40_30))) (fun t41_31 ts S =>
      wp (X C (.nilchk (.const t0_11))) (fun t43_32 S =>
      wp (X C (.fldA 0 (.const t43_32))) (fun t44_33 S =>
      dstepP 8 ts (X C (.load .one (.const t44_33))) (fun t45_34 ts S =>
      wp (X C (.ixA 3 (.const t45_34) (.const t4_14))) (fun t47_35 S =>
      wp (X C (.fldA 0 (.const t47_35))) (fun t48_36 S =>
      dstepP 12 ts (X C (.load .one (.const t48_36))) (fun t49_37 ts S =>
      dstepP 13 ts (X C (.bslice 9 1 [(.string ⟨⟨[]⟩⟩)] [(0, 1, (.const t49_37))])) (fun t50_38 ts S =>
      wp (X C (.app 1 16 9 (.const t41_31) (.const t50_38))) (fun t51_39 S =>
      okP (apartAll [0, 0, 0, 6, 15, 0, 32, 96, 224, 0, 992, 2016, 4064, 8160, 16383, 32767] ts) (fun S =>
      wp (X C (.slc 1 (.const t3_13) (some (.const t5_15)) none none)) (fun t55_40 S =>
      wp (X C (.app 1 16 9 (.const t51_39) (.const t55_40))) (fun t56_41 S =>
      wp (X C (.bin .add (.const t4_14) (.const (.int .i64 1)))) (fun t15_42 S =>
      ∃ j0, j0 < m0 ∧ I0 j0 t0_11 t2_12 t56_41 t15_42 S) S) S) S) S) S) S) S) S) S) S) S) S) S) S) S) S) S) S) S) (fun S =>
    Φ t3_3 S) S) S) S) S) S) S
theorem p111 (C : Tgt → List Value → M Value) (n : Nat) (Φ : Value → Hp → Prop) (t0 : Value) (S : Hp) : codeP C A111 n 1 b111 (argsEnv [t0] 0 .leaf) (endP [.tmp 2] Φ) S = P111 C n Φ t0 S := by kernel_rfl
theorem g111 : T 111 = some (.go ⟨1, [.tmp 2], b111⟩) := by kernel_rfl
attribute [irreducible] b111
theorem c111 {F : Nat → Option AFn} (hF : F 111 = some (.go ⟨1, [.tmp 2], b111⟩)) {n : Nat} {Φ : Value → Hp → Prop} {t0 : Value} {S : Hp} (h : P111 (callN F n) n Φ t0 S) : wp (callN F (n + 1) (.fn 111) [t0]) Φ S := callP (A := A111) hF rfl (Eq.mpr (p111 (callN F n) n Φ t0 S) h)


noncomputable def b131 : ACode := bodyOf (T 131)
def A131 : List (Nat × List Nat) := []
def P131 (C : Tgt → List Value → M Value) (n : Nat) (Φ : Value → Hp → Prop) (t0 t1 : Value) (S : Hp) : Prop :=
  wp (X C (.call (.const (.func (.func 150) ⟨[]⟩ ⟨[]⟩)) [(.const t0)])) (fun t6_0 S =>
  andP true t6_0 (fun K S =>
   wp (X C (.call (.const (.func (.func 150) ⟨[]⟩ ⟨[]⟩)) [(.const t1)])) (fun t9_1 S =>
   wp (X C (.un .not (.const t9_1))) (fun t10_2 S =>
   K t10_2 S) S) S) (fun t11_3 S =>
  andP false t11_3 (fun K S =>
   wp (X C (.bin .lss (.const t0) (.const t1))) (fun t15_4 S =>
   K t15_4 S) S) (fun t16_5 S =>
  Φ t16_5 S) S) S) S
theorem p131 (C : Tgt → List Value → M Value) (n : Nat) (Φ : Value → Hp → Prop) (t0 t1 : Value) (S : Hp) : codeP C A131 n 1 b131 (argsEnv [t0, t1] 0 .leaf) (endP [.tmp 4] Φ) S = P131 C n Φ t0 t1 S := by kernel_rfl
theorem g131 : T 131 = some (.go ⟨2, [.tmp 4], b131⟩) := by kernel_rfl
attribute [irreducible] b131
theorem c131 {F : Nat → Option AFn} (hF : F 131 = some (.go ⟨2, [.tmp 4], b131⟩)) {n : Nat} {Φ : Value → Hp → Prop} {t0 t1 : Value} {S : Hp} (h : P131 (callN F n) n Φ t0 t1 S) : wp (callN F (n + 1) (.fn 131) [t0, t1]) Φ S := callP (A := A131) hF rfl (Eq.mpr (p131 (callN F n) n Φ t0 t1 S) h)


noncomputable def b132 : ACode := bodyOf (T 132)
def A132 : List (Nat × List Nat) := []
def P132 (C : Tgt → List Value → M Value) (n : Nat) (Φ : Value → Hp → Prop) (t0 : Value) (S : Hp) : Prop :=
  wp (X C (.bin .neq (.const t0) (.const t0))) (fun t5_0 S =>
  Φ t5_0 S) S
theorem p132 (C : Tgt → List Value → M Value) (n : Nat) (Φ : Value → Hp → Prop) (t0 : Value) (S : Hp) : codeP C A132 n 1 b132 (argsEnv [t0] 0 .leaf) (endP [.tmp 2] Φ) S = P132 C n Φ t0 S := by kernel_rfl
theorem g132 : T 132 = some (.go ⟨1, [.tmp 2], b132⟩) := by kernel_rfl
attribute [irreducible] b132
theorem c132 {F : Nat → Option AFn} (hF : F 132 = some (.go ⟨1, [.tmp 2], b132⟩)) {n : Nat} {Φ : Value → Hp → Prop} {t0 : Value} {S : Hp} (h : P132 (callN F n) n Φ t0 S) : wp (callN F (n + 1) (.fn 132) [t0]) Φ S := callP (A := A132) hF rfl (Eq.mpr (p132 (callN F n) n Φ t0 S) h)


noncomputable def b150 : ACode := bodyOf (T 150)
def A150 : List (Nat × List Nat) := []
def P150 (C : Tgt → List Value → M Value) (n : Nat) (Φ : Value → Hp → Prop) (t0 : Value) (S : Hp) : Prop :=
  wp (X C (.bin .neq (.const t0) (.const t0))) (fun t5_0 S =>
  Φ t5_0 S) S
theorem p150 (C : Tgt → List Value → M Value) (n : Nat) (Φ : Value → Hp → Prop) (t0 : Value) (S : Hp) : codeP C A150 n 1 b150 (argsEnv [t0] 0 .leaf) (endP [.tmp 2] Φ) S = P150 C n Φ t0 S := by kernel_rfl
theorem g150 : T 150 = some (.go ⟨1, [.tmp 2], b150⟩) := by kernel_rfl
attribute [irreducible] b150
theorem c150 {F : Nat → Option AFn} (hF : F 150 = some (.go ⟨1, [.tmp 2], b150⟩)) {n : Nat} {Φ : Value → Hp → Prop} {t0 : Value} {S : Hp} (h : P150 (callN F n) n Φ t0 S) : wp (callN F (n + 1) (.fn 150) [t0]) Φ S := callP (A := A150) hF rfl (Eq.mpr (p150 (callN F n) n Φ t0 S) h)


noncomputable def b10 : ACode := bodyOf (T 10)
def A10 : List (Nat × List Nat) := [(17086021222, [0, 1, 3, 8, 9, 10, 11, 20, 85, 86, 167, 168, 172, 173]), (66742270, [0, 1, 3, 8, 9, 10, 11, 85, 86, 167, 168]), (8342782, [4104]), (133484185, [25136]), (2085690, [0, 1, 3, 8, 9, 10, 11, 15, 85, 86, 95, 96]), (1018, [0, 1, 3, 8, 9, 10, 11, 85, 86]), (129638, [528]), (506, [0, 1, 2, 3, 8, 9, 10, 11, 47, 48, 49]), (62, [36])]
def P10 (C : Tgt → List Value → M Value) (n : Nat) (Φ : Value → Hp → Prop) (t0 t1 t2 t3 : Value) (S : Hp) : Prop :=
  wp (X C (.len .slice (.const t1))) (fun t23_0 S =>
  wp (X C (.bin .lss (.const t23_0) (.const (.int .i64 2)))) (fun t24_1 S =>
  andP false t24_1 (fun K S =>
   wp (X C (.len .slice (.const t1))) (fun t27_2 S =>
   wp (X C (.bin .gtr (.const t27_2) (.const (.int .i64 6)))) (fun t28_3 S =>
   K t28_3 S) S) S) (fun t29_4 S =>
  andP false t29_4 (fun K S =>
   wp (X C (.len .slice (.const t0))) (fun t32_5 S =>
   wp (X C (.len .slice (.const t1))) (fun t34_6 S =>
   wp (X C (.bin .lss (.const t32_5) (.const t34_6))) (fun t35_7 S =>
   K t35_7 S) S) S) S) (fun t36_8 S =>
  ifP (Wb.asBool t36_8) (fun S =>
   wp (X C (.call (.const (.func (.func 49) ⟨[]⟩ ⟨[]⟩)) [])) (fun t37_9 S =>
   Φ t37_9 S) S) (fun S =>
   wp (X C (.call (.const (.func (.func 50) ⟨[]⟩ ⟨[]⟩)) [])) (fun t38_10 S =>
   wp (X C (.eq false (.nil .ptr) (.const t38_10) (.const (.pointer none)))) (fun t40_11 S =>
   ifP (Wb.asBool t40_11) (fun S =>
    Φ (.bool false) S) (fun S =>
    wp (X C (.len .slice (.const t1))) (fun t42_12 S =>
    dstepP 2 [] (X C (.mkslice 3 1 8 [(.int .i64 0)] (.const t42_12) (.const t42_12))) (fun t43_13 ts S =>
    wp (X C (.len .slice (.const t1))) (fun t45_14 S =>
    dstepP 5 ts (X C (.mkslice 3 1 8 [(.int .i64 0)] (.const t45_14) (.const t45_14))) (fun t46_15 ts S =>
    okP (apartAll [0, 1, 3, 0, 8, 24, 7, 127] ts) (fun S =>
    wp (X C (.len .slice (.const t1))) (fun t48_16 S =>
    ∃ I17 : Nat → Value → Value → Value → Value → Value → Value → Value → Value → Value → Value → Value → Hp → Prop, (∃ m, m < n ∧ I17 m t0 t1 t2 t3 (.bool false) t38_10 t43_13 t46_15 t1 t48_16 (.int .i64 0) S) ∧ ∀ (m17 : Nat) (S : Hp) (t0_18 t1_19 t2_20 t3_21 t8_22 t9_23 t10_24 t11_25 t47_26 t48_27 t49_28 : Value), I17 m17 t0_18 t1_19 t2_20 t3_21 t8_22 t9_23 t10_24 t11_25 t47_26 t48_27 t49_28 S →
     wp (X C (.bin .lss (.const t49_28) (.const t48_27))) (fun t50_29 S =>
     ifP (Wb.asBool t50_29) (fun S =>
      wp (X C (.ixA 1 (.const t47_26) (.const t49_28))) (fun t52_30 S =>
      wp (X C (.load .one (.const t52_30))) (fun t53_31 S =>
      wp (X C (.len .slice (.const t53_31))) (fun t55_32 S =>
      wp (X C (.bin .lss (.const t55_32) (.const (.int .i64 1)))) (fun t56_33 S =>
      andP false t56_33 (fun K S =>
       wp (X C (.len .slice (.const t53_31))) (fun t59_34 S =>
       wp (X C (.bin .gtr (.const t59_34) (.const (.int .i64 20)))) (fun t60_35 S =>
       K t60_35 S) S) S) (fun t61_36 S =>
      andP false t61_36 (fun K S =>
       wp (X C (.ixA 1 (.const t0_18) (.const t49_28))) (fun t65_37 S =>
       wp (X C (.load .one (.const t65_37))) (fun t66_38 S =>
       wp (X C (.call (.const (.func (.func 51) ⟨[]⟩ ⟨[]⟩)) [(.const t66_38)])) (fun t67_39 S =>
       wp (X C (.un .not (.const t67_39))) (fun t68_40 S =>
       K t68_40 S) S) S) S) S) (fun t69_41 S =>
      ifP (Wb.asBool t69_41) (fun S =>
       wp (X C (.call (.const (.func (.func 49) ⟨[]⟩ ⟨[]⟩)) [])) (fun t70_42 S =>
       Φ t70_42 S) S) (fun S =>
       wp (X C (.bin .add (.const (.int .i64 97)) (.const t49_28))) (fun t73_43 S =>
       wp (X C (.conv (.int .u8) (.const t73_43))) (fun t74_44 S =>
       dstepP 4 [] (X C (.bslice 5 1 [(.int .u8 0)] [(0, 1, (.const t74_44))])) (fun t75_45 ts S =>
       wp (X C (.conv .b2str (.const t75_45))) (fun t76_46 S =>
       wp (X C (.ixA 1 (.const t0_18) (.const t49_28))) (fun t79_47 S =>
       dstepP 9 ts (X C (.load .one (.const t79_47))) (fun t80_48 ts S =>
       wp (X C (.call (.const (.func (.func 52) ⟨[]⟩ ⟨[]⟩)) [(.const t9_23), (.const t76_46), (.const t80_48)])) (fun t81_49 S =>
       wp (X C (.bin .neq (.const t81_49) (.const (.int .i64 0)))) (fun t82_50 S =>
       okP (apartAll [0, 0, 2, 6, 14, 30, 0, 0, 192, 448, 1023, 2047] ts) (fun S =>
       ifP (Wb.asBool t82_50) (fun S =>
        Φ (.bool false) S) (fun S =>
        wp (X C (.bin .add (.const t49_28) (.const (.int .i64 1)))) (fun t83_51 S =>
        ∃ j17, j17 < m17 ∧ I17 j17 t0_18 t1_19 t2_20 t3_21 t8_22 t9_23 t10_24 t11_25 t47_26 t48_27 t83_51 S) S) S) S) S) S) S) S) S) S) S) S) S) S) S) S) S) S) S) (fun S =>
      wp (X C (.conv (.int .i64) (.const t2_20))) (fun t85_52 S =>
      ∃ I53 : Nat → Value → Value → Value → Value → Value → Value → Value → Value → Value → Hp → Prop, (∃ m, m < n ∧ I53 m t0_18 t1_19 t3_21 t8_22 t9_23 t10_24 t11_25 t85_52 (.int .i64 0) S) ∧ ∀ (m53 : Nat) (S : Hp) (t0_54 t1_55 t3_56 t8_57 t9_58 t10_59 t11_60 t85_61 t86_62 : Value), I53 m53 t0_54 t1_55 t3_56 t8_57 t9_58 t10_59 t11_60 t85_61 t86_62 S →
       wp (X C (.bin .lss (.const t86_62) (.const t85_61))) (fun t87_63 S =>
       ifP (Wb.asBool t87_63) (fun S =>
        wp (X C (.conv (.int .i64) (.const t3_56))) (fun t91_64 S =>
        wp (X C (.bin .eql (.const t86_62) (.const t91_64))) (fun t92_65 S =>
        jn (fun (S : Hp) =>
         wp (X C (.len .slice (.const t1_55))) (fun t95_67 S =>
         ∃ I68 : Nat → Value → Value → Value → Value → Value → Value → Value → Value → Value → Value → Value → Value → Hp → Prop, (∃ m, m < n ∧ I68 m t0_54 t1_55 t3_56 t8_57 t9_58 t10_59 t11_60 (.slice none 0 0) t85_61 t86_62 t95_67 (.int .i64 0) S) ∧ ∀ (m68 : Nat) (S : Hp) (t0_69 t1_70 t3_71 t8_72 t9_73 t10_74 t11_75 t15_76 t85_77 t86_78 t95_79 t96_80 : Value), I68 m68 t0_69 t1_70 t3_71 t8_72 t9_73 t10_74 t11_75 t15_76 t85_77 t86_78 t95_79 t96_80 S →
          wp (X C (.bin .lss (.const t96_80) (.const t95_79))) (fun t97_81 S =>
          ifP (Wb.asBool t97_81) (fun S =>
           wp (X C (.bin .add (.const (.int .i64 97)) (.const t96_80))) (fun t101_82 S =>
           wp (X C (.conv (.int .u8) (.const t101_82))) (fun t102_83 S =>
           dstepP 4 [] (X C (.bslice 5 1 [(.int .u8 0)] [(0, 1, (.const t102_83))])) (fun t103_84 ts S =>
           dstepP 5 ts (X C (.conv .b2str (.const t103_84))) (fun t104_85 ts S =>
           wp (X C (.ixA 1 (.const t1_70) (.const t96_80))) (fun t107_86 S =>
           dstepP 9 ts (X C (.load .one (.const t107_86))) (fun t108_87 ts S =>
           wp (X C (.ixA 1 (.const t10_74) (.const t96_80))) (fun t111_88 S =>
           dstepP 13 ts (X C (.load .one (.const t111_88))) (fun t112_89 ts S =>
           dstepP 14 ts (X C (.call (.const (.func (.func 53) ⟨[]⟩ ⟨[]⟩)) [(.const t108_87), (.const t112_89)])) (fun t113_90 ts S =>
           wp (X C (.build [(.string ⟨⟨[]⟩⟩), (.int .i64 0)] [(0, 1, (.const t104_85)), (1, 1, (.const t113_90))])) (fun t114_91 S =>
           wp (X C (.bslice 94 1 [(.string ⟨⟨[]⟩⟩), (.int .i64 0)] [(0, 2, (.const t114_91))])) (fun t115_92 S =>
           wp (X C (.app 2 24 94 (.const t15_76) (.const t115_92))) (fun t116_93 S =>
           okP (apartAll [0, 0, 2, 6, 14, 30, 0, 0, 192, 448, 0, 0, 3072, 7168, 16320, 32766, 65534, 131071, 262143] ts) (fun S =>
           wp (X C (.bin .add (.const t96_80) (.const (.int .i64 1)))) (fun t117_94 S =>
           ∃ j68, j68 < m68 ∧ I68 j68 t0_69 t1_70 t3_71 t8_72 t9_73 t10_74 t11_75 t116_93 t85_77 t86_78 t95_79 t117_94 S) S) S) S) S) S) S) S) S) S) S) S) S) S) S) (fun S =>
           wp (X C (.call (.const (.func (.func 55) ⟨[]⟩ ⟨[]⟩)) [(.const t15_76)])) (fun t121_95 S =>
           wp (X C (.call (.const (.func (.func 54) ⟨[]⟩ ⟨[]⟩)) [(.const t9_73), (.const t121_95)])) (fun t122_96 S =>
           wp (X C (.ext (.const t122_96) 0)) (fun t123_97 S =>
           wp (X C (.ext (.const t122_96) 1)) (fun t124_98 S =>
           wp (X C (.un .not (.const t124_98))) (fun t126_99 S =>
           andP false t126_99 (fun K S =>
            wp (X C (.len .str (.const t123_97))) (fun t129_100 S =>
            wp (X C (.bin .neq (.const t129_100) (.const (.int .i64 1)))) (fun t130_101 S =>
            K t130_101 S) S) S) (fun t131_102 S =>
           andP false t131_102 (fun K S =>
            wp (X C (.ixS (.const t123_97) (.const (.int .i64 0)))) (fun t134_103 S =>
            wp (X C (.bin .sub (.const t134_103) (.const (.int .u8 97)))) (fun t135_104 S =>
            wp (X C (.conv (.int .i64) (.const t135_104))) (fun t136_105 S =>
            wp (X C (.len .slice (.const t1_70))) (fun t138_106 S =>
            wp (X C (.bin .geq (.const t136_105) (.const t138_106))) (fun t139_107 S =>
            K t139_107 S) S) S) S) S) S) (fun t140_108 S =>
           ifP (Wb.asBool t140_108) (fun S =>
            Φ (.bool false) S) (fun S =>
            wp (X C (.ixS (.const t123_97) (.const (.int .i64 0)))) (fun t142_109 S =>
            wp (X C (.bin .sub (.const t142_109) (.const (.int .u8 97)))) (fun t143_110 S =>
            wp (X C (.conv (.int .i64) (.const t143_110))) (fun t144_111 S =>
            wp (X C (.ixA 1 (.const t11_75) (.const t144_111))) (fun t147_112 S =>
            dstepP 3 [] (X C (.load .one (.const t147_112))) (fun t148_113 ts S =>
            wp (X C (.ixA 1 (.const t1_70) (.const t144_111))) (fun t151_114 S =>
            wp (X C (.load .one (.const t151_114))) (fun t152_115 S =>
            wp (X C (.ixA 1 (.const t10_74) (.const t144_111))) (fun t155_116 S =>
            wp (X C (.load .one (.const t155_116))) (fun t156_117 S =>
            dstepP 12 ts (X C (.call (.const (.func (.func 53) ⟨[]⟩ ⟨[]⟩)) [(.const t152_115), (.const t156_117)])) (fun t157_118 ts S =>
            wp (X C (.bin .add (.const t148_113) (.const t157_118))) (fun t158_119 S =>
            wp (X C (.ixA 1 (.const t11_75) (.const t144_111))) (fun t159_120 S =>
            wp (X C (.store 1 (.const t159_120) (.const t158_119))) (fun _ S =>
            okP (apartAll [0, 0, 3, 7, 0, 0, 48, 112, 0, 0, 768, 1792, 4080, 8191, 16383, 32767] ts) (fun S =>
            wp (X C (.ixA 1 (.const t10_74) (.const t144_111))) (fun t162_121 S =>
            wp (X C (.load .one (.const t162_121))) (fun t163_122 S =>
            wp (X C (.bin .add (.const t163_122) (.const (.int .i64 1)))) (fun t164_123 S =>
            wp (X C (.ixA 1 (.const t10_74) (.const t144_111))) (fun t165_124 S =>
            wp (X C (.store 1 (.const t165_124) (.const t164_123))) (fun _ S =>
            wp (X C (.len .slice (.const t11_75))) (fun t167_125 S =>
            ∃ I126 : Nat → Value → Value → Value → Value → Value → Value → Value → Value → Value → Value → Value → Hp → Prop, (∃ m, m < n ∧ I126 m t0_69 t1_70 t3_71 t8_72 t9_73 t10_74 t11_75 t85_77 t86_78 t167_125 (.int .i64 0) S) ∧ ∀ (m126 : Nat) (S : Hp) (t0_127 t1_128 t3_129 t8_130 t9_131 t10_132 t11_133 t85_134 t86_135 t167_136 t168_137 : Value), I126 m126 t0_127 t1_128 t3_129 t8_130 t9_131 t10_132 t11_133 t85_134 t86_135 t167_136 t168_137 S →
             wp (X C (.bin .lss (.const t168_137) (.const t167_136))) (fun t169_138 S =>
             ifP (Wb.asBool t169_138) (fun S =>
              wp (X C (.len .slice (.const t11_133))) (fun t172_139 S =>
              ∃ I140 : Nat → Value → Value → Value → Value → Value → Value → Value → Value → Value → Value → Value → Value → Value → Value → Hp → Prop, (∃ m, m < n ∧ I140 m t0_127 t1_128 t3_129 t8_130 t9_131 t10_132 t11_133 t168_137 t85_134 t86_135 t167_136 t168_137 t172_139 (.int .i64 0) S) ∧ ∀ (m140 : Nat) (S : Hp) (t0_141 t1_142 t3_143 t8_144 t9_145 t10_146 t11_147 t20_148 t85_149 t86_150 t167_151 t168_152 t172_153 t173_154 : Value), I140 m140 t0_141 t1_142 t3_143 t8_144 t9_145 t10_146 t11_147 t20_148 t85_149 t86_150 t167_151 t168_152 t172_153 t173_154 S →
               wp (X C (.bin .lss (.const t173_154) (.const t172_153))) (fun t174_155 S =>
               ifP (Wb.asBool t174_155) (fun S =>
                wp (X C (.ixA 1 (.const t11_147) (.const t20_148))) (fun t178_156 S =>
                wp (X C (.load .one (.const t178_156))) (fun t179_157 S =>
                wp (X C (.ixA 1 (.const t0_141) (.const t173_154))) (fun t182_158 S =>
                wp (X C (.load .one (.const t182_158))) (fun t183_159 S =>
                wp (X C (.bin .mul (.const t179_157) (.const t183_159))) (fun t184_160 S =>
                wp (X C (.ixA 1 (.const t11_147) (.const t173_154))) (fun t187_161 S =>
                wp (X C (.load .one (.const t187_161))) (fun t188_162 S =>
                wp (X C (.ixA 1 (.const t0_141) (.const t20_148))) (fun t191_163 S =>
                wp (X C (.load .one (.const t191_163))) (fun t192_164 S =>
                wp (X C (.bin .mul (.const t188_162) (.const t192_164))) (fun t193_165 S =>
                wp (X C (.bin .sub (.const t184_160) (.const t193_165))) (fun t194_166 S =>
                wp (X C (.ixA 1 (.const t0_141) (.const t20_148))) (fun t197_167 S =>
                wp (X C (.load .one (.const t197_167))) (fun t198_168 S =>
                wp (X C (.ixA 1 (.const t0_141) (.const t173_154))) (fun t201_169 S =>
                wp (X C (.load .one (.const t201_169))) (fun t202_170 S =>
                wp (X C (.bin .mul (.const t198_168) (.const t202_170))) (fun t203_171 S =>
                wp (X C (.ixA 1 (.const t0_141) (.const t20_148))) (fun t206_172 S =>
                wp (X C (.load .one (.const t206_172))) (fun t207_173 S =>
                wp (X C (.ixA 1 (.const t0_141) (.const t173_154))) (fun t210_174 S =>
                wp (X C (.load .one (.const t210_174))) (fun t211_175 S =>
                wp (X C (.bin .add (.const t207_173) (.const t211_175))) (fun t212_176 S =>
                wp (X C (.bin .mul (.const (.int .i64 1600)) (.const t212_176))) (fun t213_177 S =>
                wp (X C (.bin .add (.const t203_171) (.const t213_177))) (fun t214_178 S =>
                wp (X C (.bin .gtr (.const t194_166) (.const t214_178))) (fun t215_179 S =>
                ifP (Wb.asBool t215_179) (fun S =>
                 Φ (.bool false) S) (fun S =>
                 wp (X C (.bin .add (.const t173_154) (.const (.int .i64 1)))) (fun t216_180 S =>
                 ∃ j140, j140 < m140 ∧ I140 j140 t0_141 t1_142 t3_143 t8_144 t9_145 t10_146 t11_147 t20_148 t85_149 t86_150 t167_151 t168_152 t172_153 t216_180 S) S) S) S) S) S) S) S) S) S) S) S) S) S) S) S) S) S) S) S) S) S) S) S) S) S) S) (fun S =>
                wp (X C (.bin .add (.const t168_152) (.const (.int .i64 1)))) (fun t217_181 S =>
                ∃ j126, j126 < m126 ∧ I126 j126 t0_141 t1_142 t3_143 t8_144 t9_145 t10_146 t11_147 t85_149 t86_150 t167_151 t217_181 S) S) S) S) S) (fun S =>
              wp (X C (.bin .add (.const t86_135) (.const (.int .i64 1)))) (fun t218_182 S =>
              ∃ j53, j53 < m53 ∧ I53 j53 t0_127 t1_128 t3_129 t8_130 t9_131 t10_132 t11_133 t85_134 t218_182 S) S) S) S) S) S) S) S) S) S) S) S) S) S) S) S) S) S) S) S) S) S) S) S) S) S) S) S) S) S) S) S) S) S) S) (fun J66 =>
        ifP (Wb.asBool t92_65) (fun S =>
         wp (X C (.clear [(.int .i64 0)] (.const t11_60))) (fun _ S =>
         J66 S) S) (fun S =>
         J66 S) S)) S) S) (fun S =>
        wp (X C (.call (.const (.func (.func 49) ⟨[]⟩ ⟨[]⟩)) [])) (fun t219_183 S =>
        Φ t219_183 S) S) S) S) S) S) S) S) S) S) S) S) S) S) S) S) S) S) S) S) S
theorem p10 (C : Tgt → List Value → M Value) (n : Nat) (Φ : Value → Hp → Prop) (t0 t1 t2 t3 : Value) (S : Hp) : codeP C A10 n 1 b10 (argsEnv [t0, t1, t2, t3] 0 .leaf) (endP [.tmp 8] Φ) S = P10 C n Φ t0 t1 t2 t3 S := by kernel_rfl
theorem g10 : T 10 = some (.go ⟨4, [.tmp 8], b10⟩) := by kernel_rfl
attribute [irreducible] b10
theorem c10 {F : Nat → Option AFn} (hF : F 10 = some (.go ⟨4, [.tmp 8], b10⟩)) {n : Nat} {Φ : Value → Hp → Prop} {t0 t1 t2 t3 : Value} {S : Hp} (h : P10 (callN F n) n Φ t0 t1 t2 t3 S) : wp (callN F (n + 1) (.fn 10) [t0, t1, t2, t3]) Φ S := callP (A := A10) hF rfl (Eq.mpr (p10 (callN F n) n Φ t0 t1 t2 t3 S) h)


noncomputable def b11 : ACode := bodyOf (T 11)
def A11 : List (Nat × List Nat) := [(265501438, [1312]), (16593838, [72]), (4148458, [1312]), (506, [2, 3, 4, 23, 24, 25])]
def P11 (C : Tgt → List Value → M Value) (n : Nat) (Φ : Value → Hp → Prop) (t0 : Value) (S : Hp) : Prop :=
  wp (X C (.len .slice (.const t0))) (fun t15_0 S =>
  wp (X C (.bin .gtr (.const t15_0) (.const (.int .i64 60)))) (fun t16_1 S =>
  ifP (Wb.asBool t16_1) (fun S =>
   wp (X C (.call (.const (.func (.func 49) ⟨[]⟩ ⟨[]⟩)) [])) (fun t17_2 S =>
   Φ t17_2 S) S) (fun S =>
   wp (X C (.call (.const (.func (.func 50) ⟨[]⟩ ⟨[]⟩)) [])) (fun t18_3 S =>
   wp (X C (.eq false (.nil .ptr) (.const t18_3) (.const (.pointer none)))) (fun t20_4 S =>
   ifP (Wb.asBool t20_4) (fun S =>
    Φ (.bool false) S) (fun S =>
    wp (X C (.build [(.slice none 0 0), (.bool false)] [(1, 1, (.const (.bool true)))])) (fun t21_5 S =>
    wp (X C (.box 104 (.const t21_5))) (fun t22_6 S =>
    wp (X C (.len .slice (.const t0))) (fun t24_7 S =>
    ∃ I8 : Nat → Value → Value → Value → Value → Value → Value → Hp → Prop, (∃ m, m < n ∧ I8 m (.bool false) t18_3 t22_6 t0 t24_7 (.int .i64 0) S) ∧ ∀ (m8 : Nat) (S : Hp) (t2_9 t3_10 t4_11 t23_12 t24_13 t25_14 : Value), I8 m8 t2_9 t3_10 t4_11 t23_12 t24_13 t25_14 S →
     wp (X C (.bin .lss (.const t25_14) (.const t24_13))) (fun t26_15 S =>
     ifP (Wb.asBool t26_15) (fun S =>
      wp (X C (.ixA 4 (.const t23_12) (.const t25_14))) (fun t27_16 S =>
      wp (X C (.load (.agg 4) (.const t27_16))) (fun t28_17 S =>
      wp (X C (.alloc 106 [(.int .i64 0), (.int .i64 0), (.string ⟨⟨[]⟩⟩), (.slice none 0 0)])) (fun t6_18 S =>
      wp (X C (.store 4 (.const t6_18) (.const t28_17))) (fun _ S =>
      wp (X C (.fldA 2 (.const t6_18))) (fun t29_19 S =>
      wp (X C (.load .one (.const t29_19))) (fun t30_20 S =>
      wp (X C (.len .str (.const t30_20))) (fun t31_21 S =>
      wp (X C (.bin .gtr (.const t31_21) (.const (.int .i64 20)))) (fun t32_22 S =>
      andP false t32_22 (fun K S =>
       wp (X C (.fldA 3 (.const t6_18))) (fun t34_23 S =>
       wp (X C (.load .one (.const t34_23))) (fun t35_24 S =>
       wp (X C (.len .slice (.const t35_24))) (fun t36_25 S =>
       wp (X C (.bin .gtr (.const t36_25) (.const (.int .i64 20)))) (fun t37_26 S =>
       K t37_26 S) S) S) S) S) (fun t38_27 S =>
      ifP (Wb.asBool t38_27) (fun S =>
       wp (X C (.call (.const (.func (.func 49) ⟨[]⟩ ⟨[]⟩)) [])) (fun t39_28 S =>
       Φ t39_28 S) S) (fun S =>
       wp (X C (.fldA 0 (.const t6_18))) (fun t40_29 S =>
       wp (X C (.load .one (.const t40_29))) (fun t41_30 S =>
       wp (X C (.bin .eql (.const t41_30) (.const (.int .i64 1)))) (fun t43_31 S =>
       jn (fun (t3_33 t4_34 t7_35 : Value) (S : Hp) =>
        wp (X C (.un .not (.const t7_35))) (fun t135_36 S =>
        andP false t135_36 (fun K S =>
         wp (X C (.fldA 2 (.const t6_18))) (fun t139_37 S =>
         wp (X C (.load .one (.const t139_37))) (fun t140_38 S =>
         wp (X C (.call (.const (.func (.func 64) ⟨[]⟩ ⟨[]⟩)) [(.const t3_33), (.const t4_34), (.const t140_38)])) (fun t141_39 S =>
         wp (X C (.un .not (.const t141_39))) (fun t142_40 S =>
         K t142_40 S) S) S) S) S) (fun t143_41 S =>
        ifP (Wb.asBool t143_41) (fun S =>
         Φ (.bool false) S) (fun S =>
         wp (X C (.bin .add (.const t25_14) (.const (.int .i64 1)))) (fun t144_42 S =>
         ∃ j8, j8 < m8 ∧ I8 j8 t2_9 t3_33 t4_34 t23_12 t24_13 t144_42 S) S) S) S) S) (fun J32 =>
       ifP (Wb.asBool t43_31) (fun S =>
        wp (X C (.fldA 2 (.const t6_18))) (fun t45_43 S =>
        wp (X C (.load .one (.const t45_43))) (fun t46_44 S =>
        wp (X C (.fldA 1 (.const t6_18))) (fun t47_45 S =>
        wp (X C (.load .one (.const t47_45))) (fun t48_46 S =>
        dstepP 5 [] (X C (.call (.const (.func (.func 52) ⟨[]⟩ ⟨[]⟩)) [(.const t3_10), (.const t46_44), (.const t48_46)])) (fun t49_47 ts S =>
        wp (X C (.fldA 2 (.const t6_18))) (fun t51_48 S =>
        dstepP 8 ts (X C (.load .one (.const t51_48))) (fun t52_49 ts S =>
        wp (X C (.fldA 1 (.const t6_18))) (fun t53_50 S =>
        dstepP 10 ts (X C (.load .one (.const t53_50))) (fun t54_51 ts S =>
        wp (X C (.call (.const (.func (.func 56) ⟨[]⟩ ⟨[]⟩)) [(.const t4_11), (.const t52_49), (.const t54_51)])) (fun t55_52 S =>
        wp (X C (.bin .eql (.const t49_47) (.const t55_52))) (fun t56_53 S =>
        okP (apartAll [0, 0, 2, 0, 8, 31, 0, 0, 128, 0, 512, 2047, 4095, 8191] ts) (fun S =>
        J32 t3_10 t4_11 t56_53 S) S) S) S) S) S) S) S) S) S) S) S) S) (fun S =>
        wp (X C (.bin .eql (.const t41_30) (.const (.int .i64 2)))) (fun t58_54 S =>
        ifP (Wb.asBool t58_54) (fun S =>
         wp (X C (.fldA 2 (.const t6_18))) (fun t60_55 S =>
         wp (X C (.load .one (.const t60_55))) (fun t61_56 S =>
         dstepP 3 [] (X C (.call (.const (.func (.func 57) ⟨[]⟩ ⟨[]⟩)) [(.const t3_10), (.const t61_56)])) (fun t62_57 ts S =>
         wp (X C (.fldA 2 (.const t6_18))) (fun t64_58 S =>
         dstepP 6 ts (X C (.load .one (.const t64_58))) (fun t65_59 ts S =>
         wp (X C (.call (.const (.func (.func 58) ⟨[]⟩ ⟨[]⟩)) [(.const t4_11), (.const t65_59)])) (fun t66_60 S =>
         wp (X C (.bin .eql (.const t62_57) (.const t66_60))) (fun t67_61 S =>
         okP (apartAll [0, 0, 2, 7, 0, 0, 32, 127, 255, 511] ts) (fun S =>
         J32 t3_10 t4_11 t67_61 S) S) S) S) S) S) S) S) S) (fun S =>
         wp (X C (.bin .eql (.const t41_30) (.const (.int .i64 3)))) (fun t69_62 S =>
         ifP (Wb.asBool t69_62) (fun S =>
          wp (X C (.fldA 3 (.const t6_18))) (fun t72_63 S =>
          wp (X C (.load .one (.const t72_63))) (fun t73_64 S =>
          wp (X C (.call (.const (.func (.func 55) ⟨[]⟩ ⟨[]⟩)) [(.const t73_64)])) (fun t74_65 S =>
          wp (X C (.call (.const (.func (.func 54) ⟨[]⟩ ⟨[]⟩)) [(.const t3_10), (.const t74_65)])) (fun t75_66 S =>
          wp (X C (.ext (.const t75_66) 0)) (fun t76_67 S =>
          wp (X C (.ext (.const t75_66) 1)) (fun t77_68 S =>
          wp (X C (.fldA 3 (.const t6_18))) (fun t80_69 S =>
          wp (X C (.load .one (.const t80_69))) (fun t81_70 S =>
          wp (X C (.call (.const (.func (.func 59) ⟨[]⟩ ⟨[]⟩)) [(.const t4_11), (.const t81_70)])) (fun t82_71 S =>
          wp (X C (.ext (.const t82_71) 0)) (fun t83_72 S =>
          wp (X C (.ext (.const t82_71) 1)) (fun t84_73 S =>
          wp (X C (.bin .eql (.const t76_67) (.const t83_72))) (fun t87_74 S =>
          andP true t87_74 (fun K S =>
           wp (X C (.eq false .bool (.const t77_68) (.const t84_73))) (fun t91_75 S =>
           K t91_75 S) S) (fun t92_76 S =>
          J32 t3_10 t4_11 t92_76 S) S) S) S) S) S) S) S) S) S) S) S) S) S) (fun S =>
          wp (X C (.bin .eql (.const t41_30) (.const (.int .i64 4)))) (fun t94_77 S =>
          ifP (Wb.asBool t94_77) (fun S =>
           wp (X C (.fldA 2 (.const t6_18))) (fun t96_78 S =>
           wp (X C (.load .one (.const t96_78))) (fun t97_79 S =>
           wp (X C (.fldA 1 (.const t6_18))) (fun t98_80 S =>
           wp (X C (.load .one (.const t98_80))) (fun t99_81 S =>
           dstepP 5 [] (X C (.call (.const (.func (.func 60) ⟨[]⟩ ⟨[]⟩)) [(.const t3_10), (.const t97_79), (.const t99_81)])) (fun t100_82 ts S =>
           wp (X C (.fldA 2 (.const t6_18))) (fun t102_83 S =>
           dstepP 8 ts (X C (.load .one (.const t102_83))) (fun t103_84 ts S =>
           wp (X C (.fldA 1 (.const t6_18))) (fun t104_85 S =>
           dstepP 10 ts (X C (.load .one (.const t104_85))) (fun t105_86 ts S =>
           wp (X C (.call (.const (.func (.func 61) ⟨[]⟩ ⟨[]⟩)) [(.const t4_11), (.const t103_84), (.const t105_86)])) (fun t106_87 S =>
           wp (X C (.bin .eql (.const t100_82) (.const t106_87))) (fun t107_88 S =>
           okP (apartAll [0, 0, 2, 0, 8, 31, 0, 0, 128, 0, 512, 2047, 4095, 8191] ts) (fun S =>
           J32 t3_10 t4_11 t107_88 S) S) S) S) S) S) S) S) S) S) S) S) S) (fun S =>
           wp (X C (.bin .eql (.const t41_30) (.const (.int .i64 5)))) (fun t109_89 S =>
           ifP (Wb.asBool t109_89) (fun S =>
            wp (X C (.call (.const (.func (.func 62) ⟨[]⟩ ⟨[]⟩)) [(.const t3_10)])) (fun t111_90 S =>
            wp (X C (.fldA 2 (.const t6_18))) (fun t113_91 S =>
            wp (X C (.load .one (.const t113_91))) (fun t114_92 S =>
            wp (X C (.call (.const (.func (.func 57) ⟨[]⟩ ⟨[]⟩)) [(.const t3_10), (.const t114_92)])) (fun t115_93 S =>
            wp (X C (.call (.const (.func (.func 63) ⟨[]⟩ ⟨[]⟩)) [(.const t4_11)])) (fun t118_94 S =>
            J32 t111_90 t118_94 (.bool true) S) S) S) S) S) S) (fun S =>
            wp (X C (.bin .eql (.const t41_30) (.const (.int .i64 6)))) (fun t120_95 S =>
            ifP (Wb.asBool t120_95) (fun S =>
             wp (X C (.call (.const (.func (.func 62) ⟨[]⟩ ⟨[]⟩)) [(.const t3_10)])) (fun t122_96 S =>
             wp (X C (.fldA 2 (.const t6_18))) (fun t124_97 S =>
             wp (X C (.load .one (.const t124_97))) (fun t125_98 S =>
             wp (X C (.fldA 1 (.const t6_18))) (fun t126_99 S =>
             wp (X C (.load .one (.const t126_99))) (fun t127_100 S =>
             wp (X C (.call (.const (.func (.func 52) ⟨[]⟩ ⟨[]⟩)) [(.const t122_96), (.const t125_98), (.const t127_100)])) (fun t128_101 S =>
             wp (X C (.fldA 3 (.const t6_18))) (fun t130_102 S =>
             wp (X C (.load .one (.const t130_102))) (fun t131_103 S =>
             wp (X C (.call (.const (.func (.func 55) ⟨[]⟩ ⟨[]⟩)) [(.const t131_103)])) (fun t132_104 S =>
             wp (X C (.call (.const (.func (.func 54) ⟨[]⟩ ⟨[]⟩)) [(.const t122_96), (.const t132_104)])) (fun t133_105 S =>
             J32 t3_10 t4_11 (.bool true) S) S) S) S) S) S) S) S) S) S) S) (fun S =>
             J32 t3_10 t4_11 (.bool true) S) S) S) S) S) S) S) S) S) S) S) S)) S) S) S) S) S) S) S) S) S) S) S) S) S) (fun S =>
      wp (X C (.call (.const (.func (.func 49) ⟨[]⟩ ⟨[]⟩)) [])) (fun t145_106 S =>
      Φ t145_106 S) S) S) S) S) S) S) S) S) S) S) S) S
theorem p11 (C : Tgt → List Value → M Value) (n : Nat) (Φ : Value → Hp → Prop) (t0 : Value) (S : Hp) : codeP C A11 n 1 b11 (argsEnv [t0] 0 .leaf) (endP [.tmp 2] Φ) S = P11 C n Φ t0 S := by kernel_rfl
theorem g11 : T 11 = some (.go ⟨1, [.tmp 2], b11⟩) := by kernel_rfl
attribute [irreducible] b11
theorem c11 {F : Nat → Option AFn} (hF : F 11 = some (.go ⟨1, [.tmp 2], b11⟩)) {n : Nat} {Φ : Value → Hp → Prop} {t0 : Value} {S : Hp} (h : P11 (callN F n) n Φ t0 S) : wp (callN F (n + 1) (.fn 11) [t0]) Φ S := callP (A := A11) hF rfl (Eq.mpr (p11 (callN F n) n Φ t0 S) h)



end Go.Proofs.Ytmepokefmpcnnaa.Dr
