/- The loops of layer 28's first law, each with an abstract exit. -/
import Derived.Test.YtmepokefmpcnnaaDrOpen
import Derived.Test.YtmepokefmpcnnaaEngRX
set_option linter.unusedVariables false
namespace Go.Proofs.Ytmepokefmpcnnaa.Dr
open Go.Wb
def L17 (C : Tgt → List Value → M Value) (n : Nat) (Φ : Value → Hp → Prop) (K : Value → Value → Value → Value → Value → Value → Value → Value → Hp → Prop) (t0 t1 t2 t3 t38_10 t43_13 t46_15 t48_16 : Value) (S : Hp) : Prop :=
  ∃ I17 : Nat → Value → Value → Value → Value → Value → Value → Value → Value → Value → Value → Value → Hp → Prop, (∃ m, m < n ∧ I17 m t0 t1 t2 t3 (.bool false) t38_10 t43_13 t46_15 t1 t48_16 (.int .i64 0) S) ∧ ∀ (m17 : Nat) (S : Hp) (t0_18 t1_19 t2_20 t3_21 t8_22 t9_23 t10_24 t11_25 t47_26 t48_27 t49_28 : Value), I17 m17 t0_18 t1_19 t2_20 t3_21 t8_22 t9_23 t10_24 t11_25 t47_26 t48_27 t49_28 S →
     wp (X C (.bin .lss (.const t49_28) (.const t48_27))) (fun t50_29 S =>
     ifP (Wb.asBool t50_29) (fun S =>
      wp (X C (.ixA 1 (.const t47_26) (.const t49_28))) (fun t52_30 S =>
      wp (X C (.load .one (.const t52_30))) (fun t53_31 S =>
      wp (X C (.len .slice (.const t53_31))) (fun t55_32 S =>
      wp (X C (.bin .lss (.const t55_32) (.const (.int .i64 1)))) (fun t56_33 S =>
      andP false t56_33 (fun K S =>
       wp (X C (.len .slice (.const t53_31))) (fun t59_34 S =>
       wp (X C (.bin .gtr (.const t59_34) (.const (.int .i64 20)))) (fun t60_35 S =>
       K t60_35 S) S) S) (fun t61_36 S =>
      andP false t61_36 (fun K S =>
       wp (X C (.ixA 1 (.const t0_18) (.const t49_28))) (fun t65_37 S =>
       wp (X C (.load .one (.const t65_37))) (fun t66_38 S =>
       wp (X C (.call (.const (.func (.func 51) ⟨[]⟩ ⟨[]⟩)) [(.const t66_38)])) (fun t67_39 S =>
       wp (X C (.un .not (.const t67_39))) (fun t68_40 S =>
       K t68_40 S) S) S) S) S) (fun t69_41 S =>
      ifP (Wb.asBool t69_41) (fun S =>
       wp (X C (.call (.const (.func (.func 49) ⟨[]⟩ ⟨[]⟩)) [])) (fun t70_42 S =>
       Φ t70_42 S) S) (fun S =>
       wp (X C (.bin .add (.const (.int .i64 97)) (.const t49_28))) (fun t73_43 S =>
       wp (X C (.conv (.int .u8) (.const t73_43))) (fun t74_44 S =>
       dstepP 4 [] (X C (.bslice 5 1 [(.int .u8 0)] [(0, 1, (.const t74_44))])) (fun t75_45 ts S =>
       wp (X C (.conv .b2str (.const t75_45))) (fun t76_46 S =>
       wp (X C (.ixA 1 (.const t0_18) (.const t49_28))) (fun t79_47 S =>
       dstepP 9 ts (X C (.load .one (.const t79_47))) (fun t80_48 ts S =>
       wp (X C (.call (.const (.func (.func 52) ⟨[]⟩ ⟨[]⟩)) [(.const t9_23), (.const t76_46), (.const t80_48)])) (fun t81_49 S =>
       wp (X C (.bin .neq (.const t81_49) (.const (.int .i64 0)))) (fun t82_50 S =>
       okP (apartAll [0, 0, 2, 6, 14, 30, 0, 0, 192, 448, 1023, 2047] ts) (fun S =>
       ifP (Wb.asBool t82_50) (fun S =>
        Φ (.bool false) S) (fun S =>
        wp (X C (.bin .add (.const t49_28) (.const (.int .i64 1)))) (fun t83_51 S =>
        ∃ j17, j17 < m17 ∧ I17 j17 t0_18 t1_19 t2_20 t3_21 t8_22 t9_23 t10_24 t11_25 t47_26 t48_27 t83_51 S) S) S) S) S) S) S) S) S) S) S) S) S) S) S) S) S) S) S) (fun S =>
      K t2_20 t0_18 t1_19 t3_21 t8_22 t9_23 t10_24 t11_25 S) S) S
def L68 (C : Tgt → List Value → M Value) (n : Nat) (Φ : Value → Hp → Prop) (K : Value → Value → Value → Value → Value → Value → Value → Value → Value → Value → Hp → Prop) (t0_54 t1_55 t3_56 t8_57 t9_58 t10_59 t11_60 t85_61 t86_62 t95_67 : Value) (S : Hp) : Prop :=
  ∃ I68 : Nat → Value → Value → Value → Value → Value → Value → Value → Value → Value → Value → Value → Value → Hp → Prop, (∃ m, m < n ∧ I68 m t0_54 t1_55 t3_56 t8_57 t9_58 t10_59 t11_60 (.slice none 0 0) t85_61 t86_62 t95_67 (.int .i64 0) S) ∧ ∀ (m68 : Nat) (S : Hp) (t0_69 t1_70 t3_71 t8_72 t9_73 t10_74 t11_75 t15_76 t85_77 t86_78 t95_79 t96_80 : Value), I68 m68 t0_69 t1_70 t3_71 t8_72 t9_73 t10_74 t11_75 t15_76 t85_77 t86_78 t95_79 t96_80 S →
          wp (X C (.bin .lss (.const t96_80) (.const t95_79))) (fun t97_81 S =>
          ifP (Wb.asBool t97_81) (fun S =>
           wp (X C (.bin .add (.const (.int .i64 97)) (.const t96_80))) (fun t101_82 S =>
           wp (X C (.conv (.int .u8) (.const t101_82))) (fun t102_83 S =>
           dstepP 4 [] (X C (.bslice 5 1 [(.int .u8 0)] [(0, 1, (.const t102_83))])) (fun t103_84 ts S =>
           dstepP 5 ts (X C (.conv .b2str (.const t103_84))) (fun t104_85 ts S =>
           wp (X C (.ixA 1 (.const t1_70) (.const t96_80))) (fun t107_86 S =>
           dstepP 9 ts (X C (.load .one (.const t107_86))) (fun t108_87 ts S =>
           wp (X C (.ixA 1 (.const t10_74) (.const t96_80))) (fun t111_88 S =>
           dstepP 13 ts (X C (.load .one (.const t111_88))) (fun t112_89 ts S =>
           dstepP 14 ts (X C (.call (.const (.func (.func 53) ⟨[]⟩ ⟨[]⟩)) [(.const t108_87), (.const t112_89)])) (fun t113_90 ts S =>
           wp (X C (.build [(.string ⟨⟨[]⟩⟩), (.int .i64 0)] [(0, 1, (.const t104_85)), (1, 1, (.const t113_90))])) (fun t114_91 S =>
           wp (X C (.bslice 94 1 [(.string ⟨⟨[]⟩⟩), (.int .i64 0)] [(0, 2, (.const t114_91))])) (fun t115_92 S =>
           wp (X C (.app 2 24 94 (.const t15_76) (.const t115_92))) (fun t116_93 S =>
           okP (apartAll [0, 0, 2, 6, 14, 30, 0, 0, 192, 448, 0, 0, 3072, 7168, 16320, 32766, 65534, 131071, 262143] ts) (fun S =>
           wp (X C (.bin .add (.const t96_80) (.const (.int .i64 1)))) (fun t117_94 S =>
           ∃ j68, j68 < m68 ∧ I68 j68 t0_69 t1_70 t3_71 t8_72 t9_73 t10_74 t11_75 t116_93 t85_77 t86_78 t95_79 t117_94 S) S) S) S) S) S) S) S) S) S) S) S) S) S) S) (fun S =>
           K t15_76 t9_73 t1_70 t11_75 t10_74 t0_69 t3_71 t8_72 t85_77 t86_78 S) S) S
def L140 (C : Tgt → List Value → M Value) (n : Nat) (Φ : Value → Hp → Prop) (K : Value → Value → Value → Value → Value → Value → Value → Value → Value → Value → Value → Hp → Prop) (t0_127 t1_128 t3_129 t8_130 t9_131 t10_132 t11_133 t168_137 t85_134 t86_135 t167_136 t172_139 : Value) (S : Hp) : Prop :=
  ∃ I140 : Nat → Value → Value → Value → Value → Value → Value → Value → Value → Value → Value → Value → Value → Value → Value → Hp → Prop, (∃ m, m < n ∧ I140 m t0_127 t1_128 t3_129 t8_130 t9_131 t10_132 t11_133 t168_137 t85_134 t86_135 t167_136 t168_137 t172_139 (.int .i64 0) S) ∧ ∀ (m140 : Nat) (S : Hp) (t0_141 t1_142 t3_143 t8_144 t9_145 t10_146 t11_147 t20_148 t85_149 t86_150 t167_151 t168_152 t172_153 t173_154 : Value), I140 m140 t0_141 t1_142 t3_143 t8_144 t9_145 t10_146 t11_147 t20_148 t85_149 t86_150 t167_151 t168_152 t172_153 t173_154 S →
               wp (X C (.bin .lss (.const t173_154) (.const t172_153))) (fun t174_155 S =>
               ifP (Wb.asBool t174_155) (fun S =>
                wp (X C (.ixA 1 (.const t11_147) (.const t20_148))) (fun t178_156 S =>
                wp (X C (.load .one (.const t178_156))) (fun t179_157 S =>
                wp (X C (.ixA 1 (.const t0_141) (.const t173_154))) (fun t182_158 S =>
                wp (X C (.load .one (.const t182_158))) (fun t183_159 S =>
                wp (X C (.bin .mul (.const t179_157) (.const t183_159))) (fun t184_160 S =>
                wp (X C (.ixA 1 (.const t11_147) (.const t173_154))) (fun t187_161 S =>
                wp (X C (.load .one (.const t187_161))) (fun t188_162 S =>
                wp (X C (.ixA 1 (.const t0_141) (.const t20_148))) (fun t191_163 S =>
                wp (X C (.load .one (.const t191_163))) (fun t192_164 S =>
                wp (X C (.bin .mul (.const t188_162) (.const t192_164))) (fun t193_165 S =>
                wp (X C (.bin .sub (.const t184_160) (.const t193_165))) (fun t194_166 S =>
                wp (X C (.ixA 1 (.const t0_141) (.const t20_148))) (fun t197_167 S =>
                wp (X C (.load .one (.const t197_167))) (fun t198_168 S =>
                wp (X C (.ixA 1 (.const t0_141) (.const t173_154))) (fun t201_169 S =>
                wp (X C (.load .one (.const t201_169))) (fun t202_170 S =>
                wp (X C (.bin .mul (.const t198_168) (.const t202_170))) (fun t203_171 S =>
                wp (X C (.ixA 1 (.const t0_141) (.const t20_148))) (fun t206_172 S =>
                wp (X C (.load .one (.const t206_172))) (fun t207_173 S =>
                wp (X C (.ixA 1 (.const t0_141) (.const t173_154))) (fun t210_174 S =>
                wp (X C (.load .one (.const t210_174))) (fun t211_175 S =>
                wp (X C (.bin .add (.const t207_173) (.const t211_175))) (fun t212_176 S =>
                wp (X C (.bin .mul (.const (.int .i64 1600)) (.const t212_176))) (fun t213_177 S =>
                wp (X C (.bin .add (.const t203_171) (.const t213_177))) (fun t214_178 S =>
                wp (X C (.bin .gtr (.const t194_166) (.const t214_178))) (fun t215_179 S =>
                ifP (Wb.asBool t215_179) (fun S =>
                 Φ (.bool false) S) (fun S =>
                 wp (X C (.bin .add (.const t173_154) (.const (.int .i64 1)))) (fun t216_180 S =>
                 ∃ j140, j140 < m140 ∧ I140 j140 t0_141 t1_142 t3_143 t8_144 t9_145 t10_146 t11_147 t20_148 t85_149 t86_150 t167_151 t168_152 t172_153 t216_180 S) S) S) S) S) S) S) S) S) S) S) S) S) S) S) S) S) S) S) S) S) S) S) S) S) S) S) (fun S =>
                K t168_152 t0_141 t1_142 t3_143 t8_144 t9_145 t10_146 t11_147 t85_149 t86_150 t167_151 S) S) S
def L126 (C : Tgt → List Value → M Value) (n : Nat) (Φ : Value → Hp → Prop) (K : Value → Value → Value → Value → Value → Value → Value → Value → Value → Hp → Prop) (t0_69 t1_70 t3_71 t8_72 t9_73 t10_74 t11_75 t85_77 t86_78 t167_125 : Value) (S : Hp) : Prop :=
  ∃ I126 : Nat → Value → Value → Value → Value → Value → Value → Value → Value → Value → Value → Value → Hp → Prop, (∃ m, m < n ∧ I126 m t0_69 t1_70 t3_71 t8_72 t9_73 t10_74 t11_75 t85_77 t86_78 t167_125 (.int .i64 0) S) ∧ ∀ (m126 : Nat) (S : Hp) (t0_127 t1_128 t3_129 t8_130 t9_131 t10_132 t11_133 t85_134 t86_135 t167_136 t168_137 : Value), I126 m126 t0_127 t1_128 t3_129 t8_130 t9_131 t10_132 t11_133 t85_134 t86_135 t167_136 t168_137 S →
             wp (X C (.bin .lss (.const t168_137) (.const t167_136))) (fun t169_138 S =>
             ifP (Wb.asBool t169_138) (fun S =>
              wp (X C (.len .slice (.const t11_133))) (fun t172_139 S =>
              ∃ I140 : Nat → Value → Value → Value → Value → Value → Value → Value → Value → Value → Value → Value → Value → Value → Value → Hp → Prop, (∃ m, m < n ∧ I140 m t0_127 t1_128 t3_129 t8_130 t9_131 t10_132 t11_133 t168_137 t85_134 t86_135 t167_136 t168_137 t172_139 (.int .i64 0) S) ∧ ∀ (m140 : Nat) (S : Hp) (t0_141 t1_142 t3_143 t8_144 t9_145 t10_146 t11_147 t20_148 t85_149 t86_150 t167_151 t168_152 t172_153 t173_154 : Value), I140 m140 t0_141 t1_142 t3_143 t8_144 t9_145 t10_146 t11_147 t20_148 t85_149 t86_150 t167_151 t168_152 t172_153 t173_154 S →
               wp (X C (.bin .lss (.const t173_154) (.const t172_153))) (fun t174_155 S =>
               ifP (Wb.asBool t174_155) (fun S =>
                wp (X C (.ixA 1 (.const t11_147) (.const t20_148))) (fun t178_156 S =>
                wp (X C (.load .one (.const t178_156))) (fun t179_157 S =>
                wp (X C (.ixA 1 (.const t0_141) (.const t173_154))) (fun t182_158 S =>
                wp (X C (.load .one (.const t182_158))) (fun t183_159 S =>
                wp (X C (.bin .mul (.const t179_157) (.const t183_159))) (fun t184_160 S =>
                wp (X C (.ixA 1 (.const t11_147) (.const t173_154))) (fun t187_161 S =>
                wp (X C (.load .one (.const t187_161))) (fun t188_162 S =>
                wp (X C (.ixA 1 (.const t0_141) (.const t20_148))) (fun t191_163 S =>
                wp (X C (.load .one (.const t191_163))) (fun t192_164 S =>
                wp (X C (.bin .mul (.const t188_162) (.const t192_164))) (fun t193_165 S =>
                wp (X C (.bin .sub (.const t184_160) (.const t193_165))) (fun t194_166 S =>
                wp (X C (.ixA 1 (.const t0_141) (.const t20_148))) (fun t197_167 S =>
                wp (X C (.load .one (.const t197_167))) (fun t198_168 S =>
                wp (X C (.ixA 1 (.const t0_141) (.const t173_154))) (fun t201_169 S =>
                wp (X C (.load .one (.const t201_169))) (fun t202_170 S =>
                wp (X C (.bin .mul (.const t198_168) (.const t202_170))) (fun t203_171 S =>
                wp (X C (.ixA 1 (.const t0_141) (.const t20_148))) (fun t206_172 S =>
                wp (X C (.load .one (.const t206_172))) (fun t207_173 S =>
                wp (X C (.ixA 1 (.const t0_141) (.const t173_154))) (fun t210_174 S =>
                wp (X C (.load .one (.const t210_174))) (fun t211_175 S =>
                wp (X C (.bin .add (.const t207_173) (.const t211_175))) (fun t212_176 S =>
                wp (X C (.bin .mul (.const (.int .i64 1600)) (.const t212_176))) (fun t213_177 S =>
                wp (X C (.bin .add (.const t203_171) (.const t213_177))) (fun t214_178 S =>
                wp (X C (.bin .gtr (.const t194_166) (.const t214_178))) (fun t215_179 S =>
                ifP (Wb.asBool t215_179) (fun S =>
                 Φ (.bool false) S) (fun S =>
                 wp (X C (.bin .add (.const t173_154) (.const (.int .i64 1)))) (fun t216_180 S =>
                 ∃ j140, j140 < m140 ∧ I140 j140 t0_141 t1_142 t3_143 t8_144 t9_145 t10_146 t11_147 t20_148 t85_149 t86_150 t167_151 t168_152 t172_153 t216_180 S) S) S) S) S) S) S) S) S) S) S) S) S) S) S) S) S) S) S) S) S) S) S) S) S) S) S) (fun S =>
                wp (X C (.bin .add (.const t168_152) (.const (.int .i64 1)))) (fun t217_181 S =>
                ∃ j126, j126 < m126 ∧ I126 j126 t0_141 t1_142 t3_143 t8_144 t9_145 t10_146 t11_147 t85_149 t86_150 t167_151 t217_181 S) S) S) S) S) (fun S =>
              K t86_135 t0_127 t1_128 t3_129 t8_130 t9_131 t10_132 t11_133 t85_134 S) S) S
def R126 (C : Tgt → List Value → M Value) (n : Nat) (Φ : Value → Hp → Prop) (N : Value → Value → Value → Value → Value → Value → Value → Value → Value → Hp → Prop) (t86_135 t0_127 t1_128 t3_129 t8_130 t9_131 t10_132 t11_133 t85_134 : Value) (S : Hp) : Prop :=
  wp (X C (.bin .add (.const t86_135) (.const (.int .i64 1)))) (fun t218_182 S =>
              N t0_127 t1_128 t3_129 t8_130 t9_131 t10_132 t11_133 t85_134 t218_182 S) S
def R68 (C : Tgt → List Value → M Value) (n : Nat) (Φ : Value → Hp → Prop) (N : Value → Value → Value → Value → Value → Value → Value → Value → Value → Hp → Prop) (t15_76 t9_73 t1_70 t11_75 t10_74 t0_69 t3_71 t8_72 t85_77 t86_78 : Value) (S : Hp) : Prop :=
  wp (X C (.call (.const (.func (.func 55) ⟨[]⟩ ⟨[]⟩)) [(.const t15_76)])) (fun t121_95 S =>
           wp (X C (.call (.const (.func (.func 54) ⟨[]⟩ ⟨[]⟩)) [(.const t9_73), (.const t121_95)])) (fun t122_96 S =>
           wp (X C (.ext (.const t122_96) 0)) (fun t123_97 S =>
           wp (X C (.ext (.const t122_96) 1)) (fun t124_98 S =>
           wp (X C (.un .not (.const t124_98))) (fun t126_99 S =>
           andP false t126_99 (fun K S =>
            wp (X C (.len .str (.const t123_97))) (fun t129_100 S =>
            wp (X C (.bin .neq (.const t129_100) (.const (.int .i64 1)))) (fun t130_101 S =>
            K t130_101 S) S) S) (fun t131_102 S =>
           andP false t131_102 (fun K S =>
            wp (X C (.ixS (.const t123_97) (.const (.int .i64 0)))) (fun t134_103 S =>
            wp (X C (.bin .sub (.const t134_103) (.const (.int .u8 97)))) (fun t135_104 S =>
            wp (X C (.conv (.int .i64) (.const t135_104))) (fun t136_105 S =>
            wp (X C (.len .slice (.const t1_70))) (fun t138_106 S =>
            wp (X C (.bin .geq (.const t136_105) (.const t138_106))) (fun t139_107 S =>
            K t139_107 S) S) S) S) S) S) (fun t140_108 S =>
           ifP (Wb.asBool t140_108) (fun S =>
            Φ (.bool false) S) (fun S =>
            wp (X C (.ixS (.const t123_97) (.const (.int .i64 0)))) (fun t142_109 S =>
            wp (X C (.bin .sub (.const t142_109) (.const (.int .u8 97)))) (fun t143_110 S =>
            wp (X C (.conv (.int .i64) (.const t143_110))) (fun t144_111 S =>
            wp (X C (.ixA 1 (.const t11_75) (.const t144_111))) (fun t147_112 S =>
            dstepP 3 [] (X C (.load .one (.const t147_112))) (fun t148_113 ts S =>
            wp (X C (.ixA 1 (.const t1_70) (.const t144_111))) (fun t151_114 S =>
            wp (X C (.load .one (.const t151_114))) (fun t152_115 S =>
            wp (X C (.ixA 1 (.const t10_74) (.const t144_111))) (fun t155_116 S =>
            wp (X C (.load .one (.const t155_116))) (fun t156_117 S =>
            dstepP 12 ts (X C (.call (.const (.func (.func 53) ⟨[]⟩ ⟨[]⟩)) [(.const t152_115), (.const t156_117)])) (fun t157_118 ts S =>
            wp (X C (.bin .add (.const t148_113) (.const t157_118))) (fun t158_119 S =>
            wp (X C (.ixA 1 (.const t11_75) (.const t144_111))) (fun t159_120 S =>
            wp (X C (.store 1 (.const t159_120) (.const t158_119))) (fun _ S =>
            okP (apartAll [0, 0, 3, 7, 0, 0, 48, 112, 0, 0, 768, 1792, 4080, 8191, 16383, 32767] ts) (fun S =>
            wp (X C (.ixA 1 (.const t10_74) (.const t144_111))) (fun t162_121 S =>
            wp (X C (.load .one (.const t162_121))) (fun t163_122 S =>
            wp (X C (.bin .add (.const t163_122) (.const (.int .i64 1)))) (fun t164_123 S =>
            wp (X C (.ixA 1 (.const t10_74) (.const t144_111))) (fun t165_124 S =>
            wp (X C (.store 1 (.const t165_124) (.const t164_123))) (fun _ S =>
            wp (X C (.len .slice (.const t11_75))) (fun t167_125 S =>
            L126 C n Φ (R126 C n Φ N) t0_69 t1_70 t3_71 t8_72 t9_73 t10_74 t11_75 t85_77 t86_78 t167_125 S) S) S) S) S) S) S) S) S) S) S) S) S) S) S) S) S) S) S) S) S) S) S) S) S) S) S) S) S
def L53 (C : Tgt → List Value → M Value) (n : Nat) (Φ : Value → Hp → Prop) (t0_18 t1_19 t3_21 t8_22 t9_23 t10_24 t11_25 t85_52 : Value) (S : Hp) : Prop :=
  ∃ I53 : Nat → Value → Value → Value → Value → Value → Value → Value → Value → Value → Hp → Prop, (∃ m, m < n ∧ I53 m t0_18 t1_19 t3_21 t8_22 t9_23 t10_24 t11_25 t85_52 (.int .i64 0) S) ∧ ∀ (m53 : Nat) (S : Hp) (t0_54 t1_55 t3_56 t8_57 t9_58 t10_59 t11_60 t85_61 t86_62 : Value), I53 m53 t0_54 t1_55 t3_56 t8_57 t9_58 t10_59 t11_60 t85_61 t86_62 S →
       wp (X C (.bin .lss (.const t86_62) (.const t85_61))) (fun t87_63 S =>
       ifP (Wb.asBool t87_63) (fun S =>
        wp (X C (.conv (.int .i64) (.const t3_56))) (fun t91_64 S =>
        wp (X C (.bin .eql (.const t86_62) (.const t91_64))) (fun t92_65 S =>
        jn (fun (S : Hp) =>
         wp (X C (.len .slice (.const t1_55))) (fun t95_67 S =>
         L68 C n Φ (R68 C n Φ (fun t0 t1 t3 t8 t9 t10 t11 t85 t86 S => ∃ j53, j53 < m53 ∧ I53 j53 t0 t1 t3 t8 t9 t10 t11 t85 t86 S)) t0_54 t1_55 t3_56 t8_57 t9_58 t10_59 t11_60 t85_61 t86_62 t95_67 S) S) (fun J66 =>
        ifP (Wb.asBool t92_65) (fun S =>
         wp (X C (.clear [(.int .i64 0)] (.const t11_60))) (fun _ S =>
         J66 S) S) (fun S =>
         J66 S) S)) S) S) (fun S =>
        wp (X C (.call (.const (.func (.func 49) ⟨[]⟩ ⟨[]⟩)) [])) (fun t219_183 S =>
        Φ t219_183 S) S) S) S
def R17 (C : Tgt → List Value → M Value) (n : Nat) (Φ : Value → Hp → Prop) (t2_20 t0_18 t1_19 t3_21 t8_22 t9_23 t10_24 t11_25 : Value) (S : Hp) : Prop :=
  wp (X C (.conv (.int .i64) (.const t2_20))) (fun t85_52 S =>
      L53 C n Φ t0_18 t1_19 t3_21 t8_22 t9_23 t10_24 t11_25 t85_52 S) S
def G10 (C : Tgt → List Value → M Value) (n : Nat) (Φ : Value → Hp → Prop) (t0 t1 t2 t3 : Value) (S : Hp) : Prop :=
  wp (X C (.call (.const (.func (.func 50) ⟨[]⟩ ⟨[]⟩)) [])) (fun t38_10 S =>
   wp (X C (.eq false (.nil .ptr) (.const t38_10) (.const (.pointer none)))) (fun t40_11 S =>
   ifP (Wb.asBool t40_11) (fun S =>
    Φ (.bool false) S) (fun S =>
    wp (X C (.len .slice (.const t1))) (fun t42_12 S =>
    dstepP 2 [] (X C (.mkslice 3 1 8 [(.int .i64 0)] (.const t42_12) (.const t42_12))) (fun t43_13 ts S =>
    wp (X C (.len .slice (.const t1))) (fun t45_14 S =>
    dstepP 5 ts (X C (.mkslice 3 1 8 [(.int .i64 0)] (.const t45_14) (.const t45_14))) (fun t46_15 ts S =>
    okP (apartAll [0, 1, 3, 0, 8, 24, 7, 127] ts) (fun S =>
    wp (X C (.len .slice (.const t1))) (fun t48_16 S =>
    L17 C n Φ (R17 C n Φ) t0 t1 t2 t3 t38_10 t43_13 t46_15 t48_16 S) S) S) S) S) S) S) S) S) S
def H10 (C : Tgt → List Value → M Value) (n : Nat) (Φ : Value → Hp → Prop) (K : Hp → Prop) (t0 t1 t2 t3 : Value) (S : Hp) : Prop :=
    wp (X C (.len .slice (.const t1))) (fun t23_0 S =>
  wp (X C (.bin .lss (.const t23_0) (.const (.int .i64 2)))) (fun t24_1 S =>
  andP false t24_1 (fun K S =>
   wp (X C (.len .slice (.const t1))) (fun t27_2 S =>
   wp (X C (.bin .gtr (.const t27_2) (.const (.int .i64 6)))) (fun t28_3 S =>
   K t28_3 S) S) S) (fun t29_4 S =>
  andP false t29_4 (fun K S =>
   wp (X C (.len .slice (.const t0))) (fun t32_5 S =>
   wp (X C (.len .slice (.const t1))) (fun t34_6 S =>
   wp (X C (.bin .lss (.const t32_5) (.const t34_6))) (fun t35_7 S =>
   K t35_7 S) S) S) S) (fun t36_8 S =>
  ifP (Wb.asBool t36_8) (fun S =>
   wp (X C (.call (.const (.func (.func 49) ⟨[]⟩ ⟨[]⟩)) [])) (fun t37_9 S =>
   Φ t37_9 S) S) (fun S =>
   K S) S) S) S) S) S
theorem h10 (C : Tgt → List Value → M Value) (n : Nat) (Φ : Value → Hp → Prop) (t0 t1 t2 t3 : Value) (S : Hp) : P10 C n Φ t0 t1 t2 t3 S = H10 C n Φ (G10 C n Φ t0 t1 t2 t3) t0 t1 t2 t3 S := by kernel_rfl
end Go.Proofs.Ytmepokefmpcnnaa.Dr
