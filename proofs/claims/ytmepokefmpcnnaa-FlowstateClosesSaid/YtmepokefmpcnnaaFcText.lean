/- Layer 15's functions, as texts. -/
import Derived.Test.YtmepokefmpcnnaaEngT
import Derived.KernelRfl
import Derived.Test.YtmepokefmpcnnaaProg
set_option maxRecDepth 100000
set_option linter.unusedVariables false
namespace Go.Proofs.Ytmepokefmpcnnaa.Fc
open Go.Wb
noncomputable def T : Nat → Option AFn := tabOf Try.prog
noncomputable def b16 : ACode := bodyOf (T 16)
def A16 : List (Nat × List Nat) := []
def P16 (C : Tgt → List Value → M Value) (n : Nat) (Φ : Value → Hp → Prop) (t0 t1 : Value) (S : Hp) : Prop :=
  wp (X C (.box 5 (.const t1))) (fun t3_0 S =>
  wp (X C (.mkfn 80 [] [(.const t3_0)])) (fun t7_1 S =>
  wp (X C (.bin .eql (.const t0) (.const (.int .u8 17)))) (fun t10_2 S =>
  ifP (Wb.asBool t10_2) (fun S =>
   Φ (.tuple ⟨[(.int .u8 1), (.bool true)]⟩) S) (fun S =>
   wp (X C (.bin .neq (.const t0) (.const (.int .u8 6)))) (fun t13_3 S =>
   jn (fun (t11_5 : Value) (S : Hp) =>
    ifP (Wb.asBool t11_5) (fun S =>
     Φ (.tuple ⟨[(.int .u8 0), (.bool false)]⟩) S) (fun S =>
     wp (X C (.call (.const t7_1) [(.const (.int .u8 1))])) (fun t21_6 S =>
     ifP (Wb.asBool t21_6) (fun S =>
      Φ (.tuple ⟨[(.int .u8 4), (.bool true)]⟩) S) (fun S =>
      wp (X C (.call (.const t7_1) [(.const (.int .u8 2))])) (fun t24_7 S =>
      ifP (Wb.asBool t24_7) (fun S =>
       Φ (.tuple ⟨[(.int .u8 2), (.bool true)]⟩) S) (fun S =>
       Φ (.tuple ⟨[(.int .u8 3), (.bool true)]⟩) S) S) S) S) S) S) (fun J4 =>
   ifP (Wb.asBool t13_3) (fun S =>
    J4 t13_3 S) (fun S =>
    wp (X C (.load .one (.const t3_0))) (fun t14_8 S =>
    wp (X C (.call (.const (.func (.func 81) ⟨[]⟩ ⟨[]⟩)) [(.const t14_8)])) (fun t15_9 S =>
    wp (X C (.un .not (.const t15_9))) (fun t16_10 S =>
    ifP (Wb.asBool t16_10) (fun S =>
     J4 t16_10 S) (fun S =>
     wp (X C (.call (.const t7_1) [(.const (.int .u8 4))])) (fun t18_11 S =>
     J4 t18_11 S) S) S) S) S) S) S)) S) S) S) S) S
theorem p16 (C : Tgt → List Value → M Value) (n : Nat) (Φ : Value → Hp → Prop) (t0 t1 : Value) (S : Hp) : codeP C A16 n 1 b16 (argsEnv [t0, t1] 0 .leaf) (endP [.tmp 4, .tmp 5] Φ) S = P16 C n Φ t0 t1 S := by kernel_rfl
theorem g16 : T 16 = some (.go ⟨2, [.tmp 4, .tmp 5], b16⟩) := by kernel_rfl
theorem c16 {F : Nat → Option AFn} (hF : F 16 = some (.go ⟨2, [.tmp 4, .tmp 5], b16⟩)) {n : Nat} {Φ : Value → Hp → Prop} {t0 t1 : Value} {S : Hp} (h : P16 (callN F n) n Φ t0 t1 S) : wp (callN F (n + 1) (.fn 16) [t0, t1]) Φ S := callP hF rfl ((p16 (callN F n) n Φ t0 t1 S).symm ▸ h)
noncomputable def b3 : ACode := bodyOf (T 3)
def A3 : List (Nat × List Nat) := [(506, [0, 4, 5, 7, 47, 48, 49])]
def P3 (C : Tgt → List Value → M Value) (n : Nat) (Φ : Value → Hp → Prop) (t0 t1 : Value) (S : Hp) : Prop :=
  wp (X C (.len .slice (.const t1))) (fun t14_0 S =>
  wp (X C (.bin .gtr (.const t14_0) (.const (.int .i64 60)))) (fun t15_1 S =>
  andP false t15_1 (fun K S =>
   wp (X C (.len .slice (.const t1))) (fun t18_2 S =>
   wp (X C (.bin .eql (.const t18_2) (.const (.int .i64 0)))) (fun t19_3 S =>
   K t19_3 S) S) S) (fun t20_4 S =>
  ifP (Wb.asBool t20_4) (fun S =>
   wp (X C (.call (.const (.func (.func 15) ⟨[]⟩ ⟨[]⟩)) [])) (fun t21_5 S =>
   Φ t21_5 S) S) (fun S =>
   wp (X C (.ixA 1 (.const t1) (.const (.int .i64 0)))) (fun t25_6 S =>
   wp (X C (.load .one (.const t25_6))) (fun t26_7 S =>
   wp (X C (.call (.const (.func (.func 16) ⟨[]⟩ ⟨[]⟩)) [(.const t0), (.const t26_7)])) (fun t27_8 S =>
   wp (X C (.ext (.const t27_8) 0)) (fun t28_9 S =>
   wp (X C (.ext (.const t27_8) 1)) (fun t29_10 S =>
   wp (X C (.un .not (.const t29_10))) (fun t31_11 S =>
   ifP (Wb.asBool t31_11) (fun S =>
    wp (X C (.bin .eql (.const t28_9) (.const (.int .u8 0)))) (fun t33_12 S =>
    andP true t33_12 (fun K S =>
     wp (X C (.call (.const (.func (.func 15) ⟨[]⟩ ⟨[]⟩)) [])) (fun t35_13 S =>
     K t35_13 S) S) (fun t36_14 S =>
    Φ t36_14 S) S) S) (fun S =>
    wp (X C (.bin .eql (.const t0) (.const (.int .u8 6)))) (fun t38_15 S =>
    andP true t38_15 (fun K S =>
     wp (X C (.ixA 1 (.const t1) (.const (.int .i64 0)))) (fun t41_16 S =>
     wp (X C (.load .one (.const t41_16))) (fun t42_17 S =>
     wp (X C (.bin .and (.const t42_17) (.const (.int .u8 1)))) (fun t43_18 S =>
     wp (X C (.bin .neq (.const t43_18) (.const (.int .u8 0)))) (fun t44_19 S =>
     K t44_19 S) S) S) S) S) (fun t45_20 S =>
    wp (X C (.slc 1 (.const t1) (some (.const (.int .i64 1))) none none)) (fun t47_21 S =>
    wp (X C (.len .slice (.const t47_21))) (fun t48_22 S =>
    ∃ I23 : Nat → Value → Value → Value → Value → Value → Value → Value → Hp → Prop, (∃ m, m < n ∧ I23 m t0 (.bool false) t28_9 t45_20 t47_21 t48_22 (.int .i64 0) S) ∧ ∀ (m23 : Nat) (S : Hp) (t0_24 t4_25 t5_26 t7_27 t47_28 t48_29 t49_30 : Value), I23 m23 t0_24 t4_25 t5_26 t7_27 t47_28 t48_29 t49_30 S →
     wp (X C (.bin .lss (.const t49_30) (.const t48_29))) (fun t50_31 S =>
     ifP (Wb.asBool t50_31) (fun S =>
      wp (X C (.ixA 1 (.const t47_28) (.const t49_30))) (fun t51_32 S =>
      wp (X C (.load .one (.const t51_32))) (fun t52_33 S =>
      wp (X C (.call (.const (.func (.func 17) ⟨[]⟩ ⟨[]⟩)) [(.const t5_26), (.const t52_33)])) (fun t56_34 S =>
      wp (X C (.ext (.const t56_34) 0)) (fun t57_35 S =>
      wp (X C (.ext (.const t56_34) 1)) (fun t58_36 S =>
      wp (X C (.ext (.const t56_34) 2)) (fun t59_37 S =>
      wp (X C (.bin .neq (.const t59_37) (.const (.int .i64 0)))) (fun t61_38 S =>
      ifP (Wb.asBool t61_38) (fun S =>
       wp (X C (.bin .eql (.const t57_35) (.const (.int .u8 0)))) (fun t63_39 S =>
       andP true t63_39 (fun K S =>
        wp (X C (.bin .eql (.const t58_36) (.const (.int .u8 0)))) (fun t66_40 S =>
        K t66_40 S) S) (fun t67_41 S =>
       andP true t67_41 (fun K S =>
        wp (X C (.bin .eql (.const t0_24) (.const (.int .u8 6)))) (fun t70_42 S =>
        K t70_42 S) S) (fun t71_43 S =>
       andP true t71_43 (fun K S =>
        wp (X C (.call (.const (.func (.func 15) ⟨[]⟩ ⟨[]⟩)) [])) (fun t73_44 S =>
        K t73_44 S) S) (fun t74_45 S =>
       Φ t74_45 S) S) S) S) S) (fun S =>
       wp (X C (.call (.const (.func (.func 18) ⟨[]⟩ ⟨[]⟩)) [(.const t58_36)])) (fun t77_46 S =>
       wp (X C (.un .not (.const t77_46))) (fun t78_47 S =>
       andP false t78_47 (fun K S =>
        wp (X C (.bin .eql (.const t0_24) (.const (.int .u8 17)))) (fun t81_48 S =>
        andP true t81_48 (fun K S =>
         wp (X C (.bin .neq (.const t58_36) (.const (.int .u8 1)))) (fun t84_49 S =>
         andP false t84_49 (fun K S =>
          wp (X C (.bin .neq (.const t57_35) (.const (.int .u8 1)))) (fun t87_50 S =>
          K t87_50 S) S) (fun t88_51 S =>
         K t88_51 S) S) S) (fun t89_52 S =>
        K t89_52 S) S) S) (fun t90_53 S =>
       andP false t90_53 (fun K S =>
        wp (X C (.bin .eql (.const t0_24) (.const (.int .u8 6)))) (fun t93_54 S =>
        andP true t93_54 (fun K S =>
         wp (X C (.bin .eql (.const t58_36) (.const (.int .u8 1)))) (fun t96_55 S =>
         K t96_55 S) S) (fun t97_56 S =>
        K t97_56 S) S) S) (fun t98_57 S =>
       ifP (Wb.asBool t98_57) (fun S =>
        Φ (.bool false) S) (fun S =>
        wp (X C (.bin .eql (.const t57_35) (.const (.int .u8 2)))) (fun t101_58 S =>
        ifP (Wb.asBool t101_58) (fun S =>
         wp (X C (.bin .and (.const t52_33) (.const (.int .u8 4)))) (fun t103_59 S =>
         wp (X C (.bin .neq (.const t103_59) (.const (.int .u8 0)))) (fun t104_60 S =>
         andP true t104_60 (fun K S =>
          wp (X C (.call (.const (.func (.func 15) ⟨[]⟩ ⟨[]⟩)) [])) (fun t106_61 S =>
          K t106_61 S) S) (fun t107_62 S =>
         Φ t107_62 S) S) S) S) (fun S =>
         wp (X C (.bin .eql (.const t57_35) (.const (.int .u8 3)))) (fun t110_63 S =>
         jn (fun (t4_65 t7_66 : Value) (S : Hp) =>
          andP false t7_66 (fun K S =>
           wp (X C (.bin .eql (.const t0_24) (.const (.int .u8 6)))) (fun t125_67 S =>
           andP true t125_67 (fun K S =>
            wp (X C (.bin .and (.const t52_33) (.const (.int .u8 1)))) (fun t128_68 S =>
            wp (X C (.bin .neq (.const t128_68) (.const (.int .u8 0)))) (fun t129_69 S =>
            K t129_69 S) S) S) (fun t130_70 S =>
           K t130_70 S) S) S) (fun t131_71 S =>
          wp (X C (.bin .eql (.const t58_36) (.const (.int .u8 4)))) (fun t134_72 S =>
          wp (X C (.eq true .bool (.const t131_71) (.const t134_72))) (fun t135_73 S =>
          ifP (Wb.asBool t135_73) (fun S =>
           Φ (.bool false) S) (fun S =>
           wp (X C (.bin .add (.const t49_30) (.const (.int .i64 1)))) (fun t137_74 S =>
           ∃ j23, j23 < m23 ∧ I23 j23 t0_24 t4_65 t58_36 t131_71 t47_28 t48_29 t137_74 S) S) S) S) S) S) (fun J64 =>
         ifP (Wb.asBool t110_63) (fun S =>
          wp (X C (.un .not (.const t7_27))) (fun t112_75 S =>
          andP false t112_75 (fun K S =>
           wp (X C (.bin .and (.const t52_33) (.const (.int .u8 2)))) (fun t115_76 S =>
           wp (X C (.bin .eql (.const t115_76) (.const (.int .u8 0)))) (fun t116_77 S =>
           K t116_77 S) S) S) (fun t117_78 S =>
          andP false t117_78 (fun K S =>
           wp (X C (.bin .neq (.const t58_36) (.const (.int .u8 2)))) (fun t120_79 S =>
           K t120_79 S) S) (fun t121_80 S =>
          ifP (Wb.asBool t121_80) (fun S =>
           Φ (.bool false) S) (fun S =>
           J64 t4_25 (.bool false) S) S) S) S) S) (fun S =>
          J64 t4_25 t7_27 S) S)) S) S) S) S) S) S) S) S) S) S) S) S) S) S) S) S) (fun S =>
      wp (X C (.call (.const (.func (.func 15) ⟨[]⟩ ⟨[]⟩)) [])) (fun t138_81 S =>
      Φ t138_81 S) S) S) S) S) S) S) S) S) S) S) S) S) S) S) S) S) S) S
theorem p3 (C : Tgt → List Value → M Value) (n : Nat) (Φ : Value → Hp → Prop) (t0 t1 : Value) (S : Hp) : codeP C A3 n 1 b3 (argsEnv [t0, t1] 0 .leaf) (endP [.tmp 4] Φ) S = P3 C n Φ t0 t1 S := by kernel_rfl
theorem g3 : T 3 = some (.go ⟨2, [.tmp 4], b3⟩) := by kernel_rfl
theorem c3 {F : Nat → Option AFn} (hF : F 3 = some (.go ⟨2, [.tmp 4], b3⟩)) {n : Nat} {Φ : Value → Hp → Prop} {t0 t1 : Value} {S : Hp} (h : P3 (callN F n) n Φ t0 t1 S) : wp (callN F (n + 1) (.fn 3) [t0, t1]) Φ S := callP hF rfl ((p3 (callN F n) n Φ t0 t1 S).symm ▸ h)
end Go.Proofs.Ytmepokefmpcnnaa.Fc
