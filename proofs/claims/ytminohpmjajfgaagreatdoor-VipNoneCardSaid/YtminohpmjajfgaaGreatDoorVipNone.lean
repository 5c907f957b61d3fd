/- That the law 'VipNone' is true for every input (its tied card: none of the listed variables is read); it has no other conditions. -/
import Derived.Test.YtminohpmjajfgaaGreatDoorEngQ
import Derived.Test.YtminohpmjajfgaaGreatDoorEngLO
import Derived.Test.YtminohpmjajfgaaGreatDoorNoGlo
import Derived.Test.YtminohpmjajfgaaGreatDoorEngJn
import Derived.Shelf.Strings.OnBuilder
import Derived.Test.YtminohpmjajfgaaGreatDoorRows
import Derived.Test.YtminohpmjajfgaaGreatDoorCards
import Derived.Test.YtminohpmjajfgaaGreatDoorTie
import Derived.ProofKit
import Derived.OpenShut
import Derived.LaidMore
import Derived.Lay
import Derived.SevenTiedAt
import Derived.Stop.Joined
namespace Go.Proofs.YtminohpmjajfgaaGreatDoor.VipNone
open Go.ChangeShapes Go.WideShapes Go.ChangeAt Go.RowKit Go.Wb
open Go.Proofs.YtminohpmjajfgaaGreatDoor
instance : GloK := noGlo
set_option linter.unusedVariables false
set_option maxRecDepth 100000

theorem own : ownKnob Tryz.prog.godebug = none := by kernel_rfl
theorem laid : laidOutB Tryz.prog = true := by kernel_rfl
theorem par : Tryz.f3.params.toList = [29] := by kernel_rfl
def jren : Go.Shelf.Ren :=
 {
  f := fun x =>
    match x with
    | 156 => 130
    | 165 => 155
    | 166 => 156
    | 169 => 157
    | 240 => 176
    | 241 => 177
    | 276 => 193
    | 277 => 194
    | n => n,
  t := fun x =>
    match x with
    | 31 => 44
    | 9 => 9
    | 3 => 3
    | 4 => 4
    | 0 => 0
    | 20 => 20
    | 72 => 223
    | 76 => 225
    | 70 => 221
    | 37 => 170
    | 75 => 218
    | 127 => 239
    | 164 => 257
    | 5 => 5
    | 80 => 227
    | n => n,
  g := fun x => x }
theorem jlays : Lays.n156 Tryz.prog jren :=
 { mixed := Eq.refl true, f156 := Eq.trans Tryz.func130 (congrArg some (Eq.refl (Body.n156 jren))),
    f165 := Eq.trans Tryz.func155 (congrArg some (Eq.refl (Body.n165 jren))),
    f166 := Eq.trans Tryz.func156 (congrArg some (Eq.refl (Body.n166 jren))),
    f169 := Eq.trans Tryz.func157 (congrArg some (Eq.refl (Body.n169 jren))),
    f240 := Eq.trans Tryz.func176 (congrArg some (Eq.refl (Body.n240 jren))),
    f241 := Eq.trans Tryz.func177 (congrArg some (Eq.refl (Body.n241 jren))),
    f276 := Eq.trans Tryz.func193 (congrArg some (Eq.refl (Body.n276 jren))),
    f277 := Eq.trans Tryz.func194 (congrArg some (Eq.refl (Body.n277 jren))), t0 := Tryz.underlying0,
    a0 := Tryz.isAgg0, z0 := Tryz.sizeOf0, v0 := Tryz.zeroValue0, t3 := Tryz.underlying3, a3 := Tryz.isAgg3,
    z3 := Tryz.sizeOf3, v3 := Tryz.zeroValue3, t4 := Tryz.underlying4, a4 := Tryz.isAgg4, z4 := Tryz.sizeOf4,
    v4 := Tryz.zeroValue4, t9 := Tryz.underlying9, a9 := Tryz.isAgg9, z9 := Tryz.sizeOf9, v9 := Tryz.zeroValue9,
    t20 := Tryz.underlying20, a20 := Tryz.isAgg20, z20 := Tryz.sizeOf20, v20 := Tryz.zeroValue20,
    t31 := Tryz.underlying44, a31 := Tryz.isAgg44, z31 := Tryz.sizeOf44, v31 := Tryz.zeroValue44,
    t37 := Tryz.underlying170, a37 := Tryz.isAgg170, z37 := Tryz.sizeOf170, v37 := Tryz.zeroValue170,
    t70 := Tryz.underlying221, a70 := Tryz.isAgg221, z70 := Tryz.sizeOf221, v70 := Tryz.zeroValue221,
    t72 := Tryz.underlying223, a72 := Tryz.isAgg223, z72 := Tryz.sizeOf223, v72 := Tryz.zeroValue223,
    t75 := Tryz.underlying218, a75 := Tryz.isAgg218, z75 := Tryz.sizeOf218, v75 := Tryz.zeroValue218,
    t76 := Tryz.underlying225, a76 := Tryz.isAgg225, z76 := Tryz.sizeOf225, v76 := Tryz.zeroValue225,
    t127 := Tryz.underlying239, a127 := Tryz.isAgg239, z127 := Tryz.sizeOf239, v127 := Tryz.zeroValue239,
    t164 := Tryz.underlying257, a164 := Tryz.isAgg257, z164 := Tryz.sizeOf257, v164 := Tryz.zeroValue257 }
theorem jextra : Builder.Extra Tryz.prog jren where
  sizeBuilder := by kernel_rfl
  liesBuilder := by kernel_rfl
  t5 := Tryz.underlying5
  a5 := Tryz.isAgg5
  z5 := Tryz.sizeOf5
  v5 := Tryz.zeroValue5
  infoByte := by kernel_rfl
  cellsByte := by kernel_rfl
  sizeByte := by kernel_rfl
  neB5 := by decide
noncomputable def T0 : Nat → Option AFn := withExt (tabOf Tryz.prog) 130 .join
theorem T0_ok : TabOk Tryz.prog T0 := withExt_ok (tabOk _) (join_ok Tryz.func130 (c := ((Tryz.f130).body).getD .skip) (by kernel_rfl) (by decide) (fun a c sep w => Any.strings_Join_none jlays jextra a c sep w) (fun bk o c xs sep w => Any.strings_Join jlays jextra bk o c xs sep w))
theorem goes : isGo (T0 3) = true := by kernel_rfl
theorem quick (x0 : Int) (x1 : ByteArray) (x2 : Bool) (x3 : Int) (x4 : Int) (x5 : Int) (x6 : Int) (x7 : Int) (x8 : Int) (x9 : Int) (x10 : Int) (x11 : Int) (x12 : Int) (x13 : Int) (x14 : Int) (x15 : Int) (x16 : Int) (x17 : Int) (x18 : Int) (x19 : Int) (x20 : Int) (x21 : Int) (x22 : Bool) (x23 : Int) (x24 : Int) (x25 : Int) (x26 : Int) (x27 : Int) (x28 : Int) (x29 : Int) (x30 : Int) (x31 : Int) (x32 : Int) (x33 : Int) (x34 : Int) (x35 : Int) (x36 : Int) (x37 : Int) (x38 : Int) (x39 : Int) (x40 : Int) (x41 : Int) (x42 : Int) (x43 : Int) (x44 : Int) (x45 : Int) (x46 : Int) (x47 : Int) (x48 : Int) (x49 : Int) (x50 : Int) (x51 : Int) (x52 : Int) (x53 : Int) (x54 : Int) (x55 : Int) (x56 : Int) (x57 : Int) : Q.runsTrue T0 5000 3 [.agg ⟨.int .i64 x0 :: .string x1 :: .bool x2 :: .int .u8 x3 :: .int .u8 x4 :: .int .u8 x5 :: .int .u8 x6 :: .int .u8 x7 :: .int .u8 x8 :: .int .u8 x9 :: .int .u8 x10 :: .int .u8 x11 :: .int .u8 x12 :: .int .u8 x13 :: .int .u8 x14 :: .int .u8 x15 :: .int .u8 x16 :: .int .u8 x17 :: .int .u8 x18 :: .int .u16 x19 :: .int .u8 x20 :: .int .i64 x21 :: .bool x22 :: .int .u8 x23 :: .int .u8 x24 :: .int .u8 x25 :: .int .u8 x26 :: .int .u8 x27 :: .int .u8 x28 :: .int .u8 x29 :: .int .u8 x30 :: .int .u8 x31 :: .int .u8 x32 :: .int .u8 x33 :: .int .u8 x34 :: .int .u8 x35 :: .int .u8 x36 :: .int .u8 x37 :: .int .u8 x38 :: .int .u8 x39 :: .int .u8 x40 :: .int .u8 x41 :: .int .u8 x42 :: .int .u8 x43 :: .int .u8 x44 :: .int .u8 x45 :: .int .u8 x46 :: .int .u8 x47 :: .int .u8 x48 :: .int .u8 x49 :: .int .u8 x50 :: .int .u8 x51 :: .int .u8 x52 :: .int .u8 x53 :: .int .u8 x54 :: .int .u8 x55 :: .int .u16 x56 :: .int .u16 x57 :: []⟩] 0 = true := by
  have h : Q.runsTrue T0 5000 3 [.agg ⟨.int .i64 x0 :: .string x1 :: .bool x2 :: .int .u8 x3 :: .int .u8 x4 :: .int .u8 x5 :: .int .u8 x6 :: .int .u8 x7 :: .int .u8 x8 :: .int .u8 x9 :: .int .u8 x10 :: .int .u8 x11 :: .int .u8 x12 :: .int .u8 x13 :: .int .u8 x14 :: .int .u8 x15 :: .int .u8 x16 :: .int .u8 x17 :: .int .u8 x18 :: .int .u16 x19 :: .int .u8 x20 :: .int .i64 x21 :: .bool x22 :: .int .u8 x23 :: .int .u8 x24 :: .int .u8 x25 :: .int .u8 x26 :: .int .u8 x27 :: .int .u8 x28 :: .int .u8 x29 :: .int .u8 x30 :: .int .u8 x31 :: .int .u8 x32 :: .int .u8 x33 :: .int .u8 x34 :: .int .u8 x35 :: .int .u8 x36 :: .int .u8 x37 :: .int .u8 x38 :: .int .u8 x39 :: .int .u8 x40 :: .int .u8 x41 :: .int .u8 x42 :: .int .u8 x43 :: .int .u8 x44 :: .int .u8 x45 :: .int .u8 x46 :: .int .u8 x47 :: .int .u8 x48 :: .int .u8 x49 :: .int .u8 x50 :: .int .u8 x51 :: .int .u8 x52 :: .int .u8 x53 :: .int .u8 x54 :: .int .u8 x55 :: .int .u16 x56 :: .int .u16 x57 :: []⟩] 0 = Q.ifB (Nat.blt 60 x1.size) true true := by kernel_rfl
  rw [h]
  simp only [Q.ifB_eq, ite_self]

theorem opened0 {W : World} {base : Nat} {v0 : Value} (h0 : Value.okWide Tryz.prog W .any base 29 v0) : ∃ x0 x1 x2 x3 x4 x5 x6 x7 x8 x9 x10 x11 x12 x13 x14 x15 x16 x17 x18 x19 x20 x21 x22 x23 x24 x25 x26 x27 x28 x29 x30 x31 x32 x33 x34 x35 x36 x37 x38 x39 x40 x41 x42 x43 x44 x45 x46 x47 x48 x49 x50 x51 x52 x53 x54 x55 x56 x57, v0 = .agg ⟨.int .i64 x0 :: .string x1 :: .bool x2 :: .int .u8 x3 :: .int .u8 x4 :: .int .u8 x5 :: .int .u8 x6 :: .int .u8 x7 :: .int .u8 x8 :: .int .u8 x9 :: .int .u8 x10 :: .int .u8 x11 :: .int .u8 x12 :: .int .u8 x13 :: .int .u8 x14 :: .int .u8 x15 :: .int .u8 x16 :: .int .u8 x17 :: .int .u8 x18 :: .int .u16 x19 :: .int .u8 x20 :: .int .i64 x21 :: .bool x22 :: .int .u8 x23 :: .int .u8 x24 :: .int .u8 x25 :: .int .u8 x26 :: .int .u8 x27 :: .int .u8 x28 :: .int .u8 x29 :: .int .u8 x30 :: .int .u8 x31 :: .int .u8 x32 :: .int .u8 x33 :: .int .u8 x34 :: .int .u8 x35 :: .int .u8 x36 :: .int .u8 x37 :: .int .u8 x38 :: .int .u8 x39 :: .int .u8 x40 :: .int .u8 x41 :: .int .u8 x42 :: .int .u8 x43 :: .int .u8 x44 :: .int .u8 x45 :: .int .u8 x46 :: .int .u8 x47 :: .int .u8 x48 :: .int .u8 x49 :: .int .u8 x50 :: .int .u8 x51 :: .int .u8 x52 :: .int .u8 x53 :: .int .u8 x54 :: .int .u8 x55 :: .int .u16 x56 :: .int .u16 x57 :: []⟩ := by
  have hct : Tryz.prog.cellTypes Tryz.prog.depth 29 = some [3, 9, 4, 5, 5, 5, 5, 5, 5, 5, 5, 5, 5, 5, 5, 5, 5, 5, 5, 23, 5, 3, 4, 5, 5, 5, 5, 5, 5, 5, 5, 5, 5, 5, 5, 5, 5, 5, 5, 5, 5, 5, 5, 5, 5, 5, 5, 5, 5, 5, 5, 5, 5, 5, 5, 5, 23, 23] := by kernel_rfl
  have hcs : Tryz.prog.cellsOf 29 = 58 := by kernel_rfl
  simp only [Value.okWide, Tryz.underlying29] at h0
  obtain ⟨cs, rfl, hsz, ts, hts, _, hcell⟩ := h0
  rw [hct] at hts
  obtain rfl : [3, 9, 4, 5, 5, 5, 5, 5, 5, 5, 5, 5, 5, 5, 5, 5, 5, 5, 5, 23, 5, 3, 4, 5, 5, 5, 5, 5, 5, 5, 5, 5, 5, 5, 5, 5, 5, 5, 5, 5, 5, 5, 5, 5, 5, 5, 5, 5, 5, 5, 5, 5, 5, 5, 5, 5, 23, 23] = ts := by simpa using hts
  rw [hcs] at hsz
  obtain ⟨l0, hl0, rfl⟩ := cells_list hsz
  obtain ⟨y0, l1, rfl⟩ := list_cons (n := 57) hl0
  have hl1 : l1.length = 57 := Nat.succ.inj hl0
  obtain ⟨y1, l2, rfl⟩ := list_cons (n := 56) hl1
  have hl2 : l2.length = 56 := Nat.succ.inj hl1
  obtain ⟨y2, l3, rfl⟩ := list_cons (n := 55) hl2
  have hl3 : l3.length = 55 := Nat.succ.inj hl2
  obtain ⟨y3, l4, rfl⟩ := list_cons (n := 54) hl3
  have hl4 : l4.length = 54 := Nat.succ.inj hl3
  obtain ⟨y4, l5, rfl⟩ := list_cons (n := 53) hl4
  have hl5 : l5.length = 53 := Nat.succ.inj hl4
  obtain ⟨y5, l6, rfl⟩ := list_cons (n := 52) hl5
  have hl6 : l6.length = 52 := Nat.succ.inj hl5
  obtain ⟨y6, l7, rfl⟩ := list_cons (n := 51) hl6
  have hl7 : l7.length = 51 := Nat.succ.inj hl6
  obtain ⟨y7, l8, rfl⟩ := list_cons (n := 50) hl7
  have hl8 : l8.length = 50 := Nat.succ.inj hl7
  obtain ⟨y8, l9, rfl⟩ := list_cons (n := 49) hl8
  have hl9 : l9.length = 49 := Nat.succ.inj hl8
  obtain ⟨y9, l10, rfl⟩ := list_cons (n := 48) hl9
  have hl10 : l10.length = 48 := Nat.succ.inj hl9
  obtain ⟨y10, l11, rfl⟩ := list_cons (n := 47) hl10
  have hl11 : l11.length = 47 := Nat.succ.inj hl10
  obtain ⟨y11, l12, rfl⟩ := list_cons (n := 46) hl11
  have hl12 : l12.length = 46 := Nat.succ.inj hl11
  obtain ⟨y12, l13, rfl⟩ := list_cons (n := 45) hl12
  have hl13 : l13.length = 45 := Nat.succ.inj hl12
  obtain ⟨y13, l14, rfl⟩ := list_cons (n := 44) hl13
  have hl14 : l14.length = 44 := Nat.succ.inj hl13
  obtain ⟨y14, l15, rfl⟩ := list_cons (n := 43) hl14
  have hl15 : l15.length = 43 := Nat.succ.inj hl14
  obtain ⟨y15, l16, rfl⟩ := list_cons (n := 42) hl15
  have hl16 : l16.length = 42 := Nat.succ.inj hl15
  obtain ⟨y16, l17, rfl⟩ := list_cons (n := 41) hl16
  have hl17 : l17.length = 41 := Nat.succ.inj hl16
  obtain ⟨y17, l18, rfl⟩ := list_cons (n := 40) hl17
  have hl18 : l18.length = 40 := Nat.succ.inj hl17
  obtain ⟨y18, l19, rfl⟩ := list_cons (n := 39) hl18
  have hl19 : l19.length = 39 := Nat.succ.inj hl18
  obtain ⟨y19, l20, rfl⟩ := list_cons (n := 38) hl19
  have hl20 : l20.length = 38 := Nat.succ.inj hl19
  obtain ⟨y20, l21, rfl⟩ := list_cons (n := 37) hl20
  have hl21 : l21.length = 37 := Nat.succ.inj hl20
  obtain ⟨y21, l22, rfl⟩ := list_cons (n := 36) hl21
  have hl22 : l22.length = 36 := Nat.succ.inj hl21
  obtain ⟨y22, l23, rfl⟩ := list_cons (n := 35) hl22
  have hl23 : l23.length = 35 := Nat.succ.inj hl22
  obtain ⟨y23, l24, rfl⟩ := list_cons (n := 34) hl23
  have hl24 : l24.length = 34 := Nat.succ.inj hl23
  obtain ⟨y24, l25, rfl⟩ := list_cons (n := 33) hl24
  have hl25 : l25.length = 33 := Nat.succ.inj hl24
  obtain ⟨y25, l26, rfl⟩ := list_cons (n := 32) hl25
  have hl26 : l26.length = 32 := Nat.succ.inj hl25
  obtain ⟨y26, l27, rfl⟩ := list_cons (n := 31) hl26
  have hl27 : l27.length = 31 := Nat.succ.inj hl26
  obtain ⟨y27, l28, rfl⟩ := list_cons (n := 30) hl27
  have hl28 : l28.length = 30 := Nat.succ.inj hl27
  obtain ⟨y28, l29, rfl⟩ := list_cons (n := 29) hl28
  have hl29 : l29.length = 29 := Nat.succ.inj hl28
  obtain ⟨y29, l30, rfl⟩ := list_cons (n := 28) hl29
  have hl30 : l30.length = 28 := Nat.succ.inj hl29
  obtain ⟨y30, l31, rfl⟩ := list_cons (n := 27) hl30
  have hl31 : l31.length = 27 := Nat.succ.inj hl30
  obtain ⟨y31, l32, rfl⟩ := list_cons (n := 26) hl31
  have hl32 : l32.length = 26 := Nat.succ.inj hl31
  obtain ⟨y32, l33, rfl⟩ := list_cons (n := 25) hl32
  have hl33 : l33.length = 25 := Nat.succ.inj hl32
  obtain ⟨y33, l34, rfl⟩ := list_cons (n := 24) hl33
  have hl34 : l34.length = 24 := Nat.succ.inj hl33
  obtain ⟨y34, l35, rfl⟩ := list_cons (n := 23) hl34
  have hl35 : l35.length = 23 := Nat.succ.inj hl34
  obtain ⟨y35, l36, rfl⟩ := list_cons (n := 22) hl35
  have hl36 : l36.length = 22 := Nat.succ.inj hl35
  obtain ⟨y36, l37, rfl⟩ := list_cons (n := 21) hl36
  have hl37 : l37.length = 21 := Nat.succ.inj hl36
  obtain ⟨y37, l38, rfl⟩ := list_cons (n := 20) hl37
  have hl38 : l38.length = 20 := Nat.succ.inj hl37
  obtain ⟨y38, l39, rfl⟩ := list_cons (n := 19) hl38
  have hl39 : l39.length = 19 := Nat.succ.inj hl38
  obtain ⟨y39, l40, rfl⟩ := list_cons (n := 18) hl39
  have hl40 : l40.length = 18 := Nat.succ.inj hl39
  obtain ⟨y40, l41, rfl⟩ := list_cons (n := 17) hl40
  have hl41 : l41.length = 17 := Nat.succ.inj hl40
  obtain ⟨y41, l42, rfl⟩ := list_cons (n := 16) hl41
  have hl42 : l42.length = 16 := Nat.succ.inj hl41
  obtain ⟨y42, l43, rfl⟩ := list_cons (n := 15) hl42
  have hl43 : l43.length = 15 := Nat.succ.inj hl42
  obtain ⟨y43, l44, rfl⟩ := list_cons (n := 14) hl43
  have hl44 : l44.length = 14 := Nat.succ.inj hl43
  obtain ⟨y44, l45, rfl⟩ := list_cons (n := 13) hl44
  have hl45 : l45.length = 13 := Nat.succ.inj hl44
  obtain ⟨y45, l46, rfl⟩ := list_cons (n := 12) hl45
  have hl46 : l46.length = 12 := Nat.succ.inj hl45
  obtain ⟨y46, l47, rfl⟩ := list_cons (n := 11) hl46
  have hl47 : l47.length = 11 := Nat.succ.inj hl46
  obtain ⟨y47, l48, rfl⟩ := list_cons (n := 10) hl47
  have hl48 : l48.length = 10 := Nat.succ.inj hl47
  obtain ⟨y48, l49, rfl⟩ := list_cons (n := 9) hl48
  have hl49 : l49.length = 9 := Nat.succ.inj hl48
  obtain ⟨y49, l50, rfl⟩ := list_cons (n := 8) hl49
  have hl50 : l50.length = 8 := Nat.succ.inj hl49
  obtain ⟨y50, l51, rfl⟩ := list_cons (n := 7) hl50
  have hl51 : l51.length = 7 := Nat.succ.inj hl50
  obtain ⟨y51, l52, rfl⟩ := list_cons (n := 6) hl51
  have hl52 : l52.length = 6 := Nat.succ.inj hl51
  obtain ⟨y52, l53, rfl⟩ := list_cons (n := 5) hl52
  have hl53 : l53.length = 5 := Nat.succ.inj hl52
  obtain ⟨y53, l54, rfl⟩ := list_cons (n := 4) hl53
  have hl54 : l54.length = 4 := Nat.succ.inj hl53
  obtain ⟨y54, l55, rfl⟩ := list_cons (n := 3) hl54
  have hl55 : l55.length = 3 := Nat.succ.inj hl54
  obtain ⟨y55, l56, rfl⟩ := list_cons (n := 2) hl55
  have hl56 : l56.length = 2 := Nat.succ.inj hl55
  obtain ⟨y56, l57, rfl⟩ := list_cons (n := 1) hl56
  have hl57 : l57.length = 1 := Nat.succ.inj hl56
  obtain ⟨y57, l58, rfl⟩ := list_cons (n := 0) hl57
  have hl58 : l58.length = 0 := Nat.succ.inj hl57
  obtain rfl := List.length_eq_zero_iff.1 hl58
  obtain ⟨u0, hu0, hy0⟩ := hcell 0 y0 rfl
  obtain rfl : 3 = u0 := Option.some.inj hu0
  obtain ⟨x0, rfl⟩ := cell_int Tryz.underlying3 hy0
  obtain ⟨u1, hu1, hy1⟩ := hcell 1 y1 rfl
  obtain rfl : 9 = u1 := Option.some.inj hu1
  obtain ⟨x1, rfl⟩ := cell_str Tryz.underlying9 hy1
  obtain ⟨u2, hu2, hy2⟩ := hcell 2 y2 rfl
  obtain rfl : 4 = u2 := Option.some.inj hu2
  obtain ⟨x2, rfl⟩ := cell_bool Tryz.underlying4 hy2
  obtain ⟨u3, hu3, hy3⟩ := hcell 3 y3 rfl
  obtain rfl : 5 = u3 := Option.some.inj hu3
  obtain ⟨x3, rfl⟩ := cell_int Tryz.underlying5 hy3
  obtain ⟨u4, hu4, hy4⟩ := hcell 4 y4 rfl
  obtain rfl : 5 = u4 := Option.some.inj hu4
  obtain ⟨x4, rfl⟩ := cell_int Tryz.underlying5 hy4
  obtain ⟨u5, hu5, hy5⟩ := hcell 5 y5 rfl
  obtain rfl : 5 = u5 := Option.some.inj hu5
  obtain ⟨x5, rfl⟩ := cell_int Tryz.underlying5 hy5
  obtain ⟨u6, hu6, hy6⟩ := hcell 6 y6 rfl
  obtain rfl : 5 = u6 := Option.some.inj hu6
  obtain ⟨x6, rfl⟩ := cell_int Tryz.underlying5 hy6
  obtain ⟨u7, hu7, hy7⟩ := hcell 7 y7 rfl
  obtain rfl : 5 = u7 := Option.some.inj hu7
  obtain ⟨x7, rfl⟩ := cell_int Tryz.underlying5 hy7
  obtain ⟨u8, hu8, hy8⟩ := hcell 8 y8 rfl
  obtain rfl : 5 = u8 := Option.some.inj hu8
  obtain ⟨x8, rfl⟩ := cell_int Tryz.underlying5 hy8
  obtain ⟨u9, hu9, hy9⟩ := hcell 9 y9 rfl
  obtain rfl : 5 = u9 := Option.some.inj hu9
  obtain ⟨x9, rfl⟩ := cell_int Tryz.underlying5 hy9
  obtain ⟨u10, hu10, hy10⟩ := hcell 10 y10 rfl
  obtain rfl : 5 = u10 := Option.some.inj hu10
  obtain ⟨x10, rfl⟩ := cell_int Tryz.underlying5 hy10
  obtain ⟨u11, hu11, hy11⟩ := hcell 11 y11 rfl
  obtain rfl : 5 = u11 := Option.some.inj hu11
  obtain ⟨x11, rfl⟩ := cell_int Tryz.underlying5 hy11
  obtain ⟨u12, hu12, hy12⟩ := hcell 12 y12 rfl
  obtain rfl : 5 = u12 := Option.some.inj hu12
  obtain ⟨x12, rfl⟩ := cell_int Tryz.underlying5 hy12
  obtain ⟨u13, hu13, hy13⟩ := hcell 13 y13 rfl
  obtain rfl : 5 = u13 := Option.some.inj hu13
  obtain ⟨x13, rfl⟩ := cell_int Tryz.underlying5 hy13
  obtain ⟨u14, hu14, hy14⟩ := hcell 14 y14 rfl
  obtain rfl : 5 = u14 := Option.some.inj hu14
  obtain ⟨x14, rfl⟩ := cell_int Tryz.underlying5 hy14
  obtain ⟨u15, hu15, hy15⟩ := hcell 15 y15 rfl
  obtain rfl : 5 = u15 := Option.some.inj hu15
  obtain ⟨x15, rfl⟩ := cell_int Tryz.underlying5 hy15
  obtain ⟨u16, hu16, hy16⟩ := hcell 16 y16 rfl
  obtain rfl : 5 = u16 := Option.some.inj hu16
  obtain ⟨x16, rfl⟩ := cell_int Tryz.underlying5 hy16
  obtain ⟨u17, hu17, hy17⟩ := hcell 17 y17 rfl
  obtain rfl : 5 = u17 := Option.some.inj hu17
  obtain ⟨x17, rfl⟩ := cell_int Tryz.underlying5 hy17
  obtain ⟨u18, hu18, hy18⟩ := hcell 18 y18 rfl
  obtain rfl : 5 = u18 := Option.some.inj hu18
  obtain ⟨x18, rfl⟩ := cell_int Tryz.underlying5 hy18
  obtain ⟨u19, hu19, hy19⟩ := hcell 19 y19 rfl
  obtain rfl : 23 = u19 := Option.some.inj hu19
  obtain ⟨x19, rfl⟩ := cell_int Tryz.underlying23 hy19
  obtain ⟨u20, hu20, hy20⟩ := hcell 20 y20 rfl
  obtain rfl : 5 = u20 := Option.some.inj hu20
  obtain ⟨x20, rfl⟩ := cell_int Tryz.underlying5 hy20
  obtain ⟨u21, hu21, hy21⟩ := hcell 21 y21 rfl
  obtain rfl : 3 = u21 := Option.some.inj hu21
  obtain ⟨x21, rfl⟩ := cell_int Tryz.underlying3 hy21
  obtain ⟨u22, hu22, hy22⟩ := hcell 22 y22 rfl
  obtain rfl : 4 = u22 := Option.some.inj hu22
  obtain ⟨x22, rfl⟩ := cell_bool Tryz.underlying4 hy22
  obtain ⟨u23, hu23, hy23⟩ := hcell 23 y23 rfl
  obtain rfl : 5 = u23 := Option.some.inj hu23
  obtain ⟨x23, rfl⟩ := cell_int Tryz.underlying5 hy23
  obtain ⟨u24, hu24, hy24⟩ := hcell 24 y24 rfl
  obtain rfl : 5 = u24 := Option.some.inj hu24
  obtain ⟨x24, rfl⟩ := cell_int Tryz.underlying5 hy24
  obtain ⟨u25, hu25, hy25⟩ := hcell 25 y25 rfl
  obtain rfl : 5 = u25 := Option.some.inj hu25
  obtain ⟨x25, rfl⟩ := cell_int Tryz.underlying5 hy25
  obtain ⟨u26, hu26, hy26⟩ := hcell 26 y26 rfl
  obtain rfl : 5 = u26 := Option.some.inj hu26
  obtain ⟨x26, rfl⟩ := cell_int Tryz.underlying5 hy26
  obtain ⟨u27, hu27, hy27⟩ := hcell 27 y27 rfl
  obtain rfl : 5 = u27 := Option.some.inj hu27
  obtain ⟨x27, rfl⟩ := cell_int Tryz.underlying5 hy27
  obtain ⟨u28, hu28, hy28⟩ := hcell 28 y28 rfl
  obtain rfl : 5 = u28 := Option.some.inj hu28
  obtain ⟨x28, rfl⟩ := cell_int Tryz.underlying5 hy28
  obtain ⟨u29, hu29, hy29⟩ := hcell 29 y29 rfl
  obtain rfl : 5 = u29 := Option.some.inj hu29
  obtain ⟨x29, rfl⟩ := cell_int Tryz.underlying5 hy29
  obtain ⟨u30, hu30, hy30⟩ := hcell 30 y30 rfl
  obtain rfl : 5 = u30 := Option.some.inj hu30
  obtain ⟨x30, rfl⟩ := cell_int Tryz.underlying5 hy30
  obtain ⟨u31, hu31, hy31⟩ := hcell 31 y31 rfl
  obtain rfl : 5 = u31 := Option.some.inj hu31
  obtain ⟨x31, rfl⟩ := cell_int Tryz.underlying5 hy31
  obtain ⟨u32, hu32, hy32⟩ := hcell 32 y32 rfl
  obtain rfl : 5 = u32 := Option.some.inj hu32
  obtain ⟨x32, rfl⟩ := cell_int Tryz.underlying5 hy32
  obtain ⟨u33, hu33, hy33⟩ := hcell 33 y33 rfl
  obtain rfl : 5 = u33 := Option.some.inj hu33
  obtain ⟨x33, rfl⟩ := cell_int Tryz.underlying5 hy33
  obtain ⟨u34, hu34, hy34⟩ := hcell 34 y34 rfl
  obtain rfl : 5 = u34 := Option.some.inj hu34
  obtain ⟨x34, rfl⟩ := cell_int Tryz.underlying5 hy34
  obtain ⟨u35, hu35, hy35⟩ := hcell 35 y35 rfl
  obtain rfl : 5 = u35 := Option.some.inj hu35
  obtain ⟨x35, rfl⟩ := cell_int Tryz.underlying5 hy35
  obtain ⟨u36, hu36, hy36⟩ := hcell 36 y36 rfl
  obtain rfl : 5 = u36 := Option.some.inj hu36
  obtain ⟨x36, rfl⟩ := cell_int Tryz.underlying5 hy36
  obtain ⟨u37, hu37, hy37⟩ := hcell 37 y37 rfl
  obtain rfl : 5 = u37 := Option.some.inj hu37
  obtain ⟨x37, rfl⟩ := cell_int Tryz.underlying5 hy37
  obtain ⟨u38, hu38, hy38⟩ := hcell 38 y38 rfl
  obtain rfl : 5 = u38 := Option.some.inj hu38
  obtain ⟨x38, rfl⟩ := cell_int Tryz.underlying5 hy38
  obtain ⟨u39, hu39, hy39⟩ := hcell 39 y39 rfl
  obtain rfl : 5 = u39 := Option.some.inj hu39
  obtain ⟨x39, rfl⟩ := cell_int Tryz.underlying5 hy39
  obtain ⟨u40, hu40, hy40⟩ := hcell 40 y40 rfl
  obtain rfl : 5 = u40 := Option.some.inj hu40
  obtain ⟨x40, rfl⟩ := cell_int Tryz.underlying5 hy40
  obtain ⟨u41, hu41, hy41⟩ := hcell 41 y41 rfl
  obtain rfl : 5 = u41 := Option.some.inj hu41
  obtain ⟨x41, rfl⟩ := cell_int Tryz.underlying5 hy41
  obtain ⟨u42, hu42, hy42⟩ := hcell 42 y42 rfl
  obtain rfl : 5 = u42 := Option.some.inj hu42
  obtain ⟨x42, rfl⟩ := cell_int Tryz.underlying5 hy42
  obtain ⟨u43, hu43, hy43⟩ := hcell 43 y43 rfl
  obtain rfl : 5 = u43 := Option.some.inj hu43
  obtain ⟨x43, rfl⟩ := cell_int Tryz.underlying5 hy43
  obtain ⟨u44, hu44, hy44⟩ := hcell 44 y44 rfl
  obtain rfl : 5 = u44 := Option.some.inj hu44
  obtain ⟨x44, rfl⟩ := cell_int Tryz.underlying5 hy44
  obtain ⟨u45, hu45, hy45⟩ := hcell 45 y45 rfl
  obtain rfl : 5 = u45 := Option.some.inj hu45
  obtain ⟨x45, rfl⟩ := cell_int Tryz.underlying5 hy45
  obtain ⟨u46, hu46, hy46⟩ := hcell 46 y46 rfl
  obtain rfl : 5 = u46 := Option.some.inj hu46
  obtain ⟨x46, rfl⟩ := cell_int Tryz.underlying5 hy46
  obtain ⟨u47, hu47, hy47⟩ := hcell 47 y47 rfl
  obtain rfl : 5 = u47 := Option.some.inj hu47
  obtain ⟨x47, rfl⟩ := cell_int Tryz.underlying5 hy47
  obtain ⟨u48, hu48, hy48⟩ := hcell 48 y48 rfl
  obtain rfl : 5 = u48 := Option.some.inj hu48
  obtain ⟨x48, rfl⟩ := cell_int Tryz.underlying5 hy48
  obtain ⟨u49, hu49, hy49⟩ := hcell 49 y49 rfl
  obtain rfl : 5 = u49 := Option.some.inj hu49
  obtain ⟨x49, rfl⟩ := cell_int Tryz.underlying5 hy49
  obtain ⟨u50, hu50, hy50⟩ := hcell 50 y50 rfl
  obtain rfl : 5 = u50 := Option.some.inj hu50
  obtain ⟨x50, rfl⟩ := cell_int Tryz.underlying5 hy50
  obtain ⟨u51, hu51, hy51⟩ := hcell 51 y51 rfl
  obtain rfl : 5 = u51 := Option.some.inj hu51
  obtain ⟨x51, rfl⟩ := cell_int Tryz.underlying5 hy51
  obtain ⟨u52, hu52, hy52⟩ := hcell 52 y52 rfl
  obtain rfl : 5 = u52 := Option.some.inj hu52
  obtain ⟨x52, rfl⟩ := cell_int Tryz.underlying5 hy52
  obtain ⟨u53, hu53, hy53⟩ := hcell 53 y53 rfl
  obtain rfl : 5 = u53 := Option.some.inj hu53
  obtain ⟨x53, rfl⟩ := cell_int Tryz.underlying5 hy53
  obtain ⟨u54, hu54, hy54⟩ := hcell 54 y54 rfl
  obtain rfl : 5 = u54 := Option.some.inj hu54
  obtain ⟨x54, rfl⟩ := cell_int Tryz.underlying5 hy54
  obtain ⟨u55, hu55, hy55⟩ := hcell 55 y55 rfl
  obtain rfl : 5 = u55 := Option.some.inj hu55
  obtain ⟨x55, rfl⟩ := cell_int Tryz.underlying5 hy55
  obtain ⟨u56, hu56, hy56⟩ := hcell 56 y56 rfl
  obtain rfl : 23 = u56 := Option.some.inj hu56
  obtain ⟨x56, rfl⟩ := cell_int Tryz.underlying23 hy56
  obtain ⟨u57, hu57, hy57⟩ := hcell 57 y57 rfl
  obtain rfl : 23 = u57 := Option.some.inj hu57
  obtain ⟨x57, rfl⟩ := cell_int Tryz.underlying23 hy57
  exact ⟨x0, x1, x2, x3, x4, x5, x6, x7, x8, x9, x10, x11, x12, x13, x14, x15, x16, x17, x18, x19, x20, x21, x22, x23, x24, x25, x26, x27, x28, x29, x30, x31, x32, x33, x34, x35, x36, x37, x38, x39, x40, x41, x42, x43, x44, x45, x46, x47, x48, x49, x50, x51, x52, x53, x54, x55, x56, x57, rfl⟩

theorem walk {W : World} {base : Nat} {v0 : Value} (h0 : Value.okWide Tryz.prog W .any base 29 v0) :
    Calls Tryz.prog 3 #[v0] W fun e w' => e = .returned (.bool true) ∧ Below W.heap.size W w' := by
  obtain ⟨x0, x1, x2, x3, x4, x5, x6, x7, x8, x9, x10, x11, x12, x13, x14, x15, x16, x17, x18, x19, x20, x21, x22, x23, x24, x25, x26, x27, x28, x29, x30, x31, x32, x33, x34, x35, x36, x37, x38, x39, x40, x41, x42, x43, x44, x45, x46, x47, x48, x49, x50, x51, x52, x53, x54, x55, x56, x57, rfl⟩ := opened0 h0
  exact run_calls Tryz.checked.mixed T0_ok (Q.runsTrue_callN (quick x0 x1 x2 x3 x4 x5 x6 x7 x8 x9 x10 x11 x12 x13 x14 x15 x16 x17 x18 x19 x20 x21 x22 x23 x24 x25 x26 x27 x28 x29 x30 x31 x32 x33 x34 x35 x36 x37 x38 x39 x40 x41 x42 x43 x44 x45 x46 x47 x48 x49 x50 x51 x52 x53 x54 x55 x56 x57)) goes rfl (r := Ren.of []) (fun id h => absurd h (Nat.not_lt_zero _))
    (.cons (LRel.agg (.cons (.int _ _) (.cons (.string _) (.cons (.bool _) (.cons (.int _ _) (.cons (.int _ _) (.cons (.int _ _) (.cons (.int _ _) (.cons (.int _ _) (.cons (.int _ _) (.cons (.int _ _) (.cons (.int _ _) (.cons (.int _ _) (.cons (.int _ _) (.cons (.int _ _) (.cons (.int _ _) (.cons (.int _ _) (.cons (.int _ _) (.cons (.int _ _) (.cons (.int _ _) (.cons (.int _ _) (.cons (.int _ _) (.cons (.int _ _) (.cons (.bool _) (.cons (.int _ _) (.cons (.int _ _) (.cons (.int _ _) (.cons (.int _ _) (.cons (.int _ _) (.cons (.int _ _) (.cons (.int _ _) (.cons (.int _ _) (.cons (.int _ _) (.cons (.int _ _) (.cons (.int _ _) (.cons (.int _ _) (.cons (.int _ _) (.cons (.int _ _) (.cons (.int _ _) (.cons (.int _ _) (.cons (.int _ _) (.cons (.int _ _) (.cons (.int _ _) (.cons (.int _ _) (.cons (.int _ _) (.cons (.int _ _) (.cons (.int _ _) (.cons (.int _ _) (.cons (.int _ _) (.cons (.int _ _) (.cons (.int _ _) (.cons (.int _ _) (.cons (.int _ _) (.cons (.int _ _) (.cons (.int _ _) (.cons (.int _ _) (.cons (.int _ _) (.cons (.int _ _) (.cons (.int _ _) .nil))))))))))))))))))))))))))))))))))))))))))))))))))))))))))) .nil)

theorem contract (H : Type) (enc : TypeId × Value → H) (W : World) (base : Nat) (args : Array Value) (ds gs : List (DataW H)) (before : List MemPlace)
    (hval : ∀ (j : Nat) t v, Tryz.f3.params[j]? = some t → args[j]? = some v → Value.okWide Tryz.prog W .any base t v)
    (hW : DataW.Whole enc Tryz.prog Tryz.f3.params.toList Rows.vipNoneSpec.vars false W args.toList ds gs before) :
    Calls Tryz.prog 3 args W fun e W' => ∃ v, e = .returned v ∧ Rows.vipNoneSpec.post enc Tryz.prog Tryz.f3 false true false false W args v W' := by
  obtain ⟨p, q, hA, hV, _⟩ := id hW
  obtain ⟨rfl, _⟩ := trodVars_none hV
  rw [Tryz.params3] at hA hval
  obtain ⟨v0, d0, rfl, rfl, h0⟩ := trodAll_one hA
  refine (walk (hval 0 29 v0 rfl rfl)).mono fun e W' ⟨he, hb⟩ => ?_
  subst he
  exact ⟨_, rfl, law_post laid rfl rfl (t := 4) (by rfl) Tryz.underlying4 (by kernel_rfl) hW hb⟩

theorem lifted (os : Os) (started : os.Started) (H : Type) (enc : TypeId × Value → H) :
    ReturnsInHanded {} Tryz.checked os 3 .any (fun w args => (Rows.vipNoneSpec.pre enc Tryz.prog Tryz.f3 Rows.vipNoneRow.domain false w args ∧ laidMetH Tryz.prog Rows.vipNoneRow.laid w) ∧ sizedMet enc Tryz.prog Tryz.f3 (OpenSpec.ofChange Rows.vipNoneSpec) false w args)
      (Rows.vipNoneSpec.post enc Tryz.prog Tryz.f3 false true false false) := by
  refine returnsInHanded_of_change_and (C := Tryz.checked) (X := fun w _ => laidMetH Tryz.prog Rows.vipNoneRow.laid w) (fun _ _ _ hh h => h.of_heap hh) own started (by kernel_rfl) Tryz.func3
    (ChangeSpec.witness_shaped (enc := enc) (C := Tryz.checked) (os := os) (X := fun w _ => laidMetH Tryz.prog Rows.vipNoneRow.laid w) false (World.laidAll Tryz.prog os Rows.vipNoneRow.laid) #[.agg ⟨.int .i64 0 :: .string .empty :: .bool false :: .int .u8 0 :: .int .u8 0 :: .int .u8 0 :: .int .u8 0 :: .int .u8 0 :: .int .u8 0 :: .int .u8 0 :: .int .u8 0 :: .int .u8 0 :: .int .u8 0 :: .int .u8 0 :: .int .u8 0 :: .int .u8 0 :: .int .u8 0 :: .int .u8 0 :: .int .u8 0 :: .int .u16 0 :: .int .u8 0 :: .int .i64 0 :: .bool false :: .int .u8 0 :: .int .u8 0 :: .int .u8 0 :: .int .u8 0 :: .int .u8 0 :: .int .u8 0 :: .int .u8 0 :: .int .u8 0 :: .int .u8 0 :: .int .u8 0 :: .int .u8 0 :: .int .u8 0 :: .int .u8 0 :: .int .u8 0 :: .int .u8 0 :: .int .u8 0 :: .int .u8 0 :: .int .u8 0 :: .int .u8 0 :: .int .u8 0 :: .int .u8 0 :: .int .u8 0 :: .int .u8 0 :: .int .u8 0 :: .int .u8 0 :: .int .u8 0 :: .int .u8 0 :: .int .u8 0 :: .int .u8 0 :: .int .u8 0 :: .int .u8 0 :: .int .u8 0 :: .int .u8 0 :: .int .u16 0 :: .int .u16 0 :: []⟩] 8 (World.laidAll_os _ _ _)
      (World.shaped_of_ZipB (by kernel_rfl) (by kernel_rfl)) (by kernel_rfl) (by kernel_rfl) (by kernel_rfl)
      (by rw [MakeChecks.laidMetH_plain _ _ _ (by kernel_rfl)]; exact laidMet_laidAll _ (by kernel_rfl) (by kernel_rfl))) ?_
  intro W base args ds gs before hval0 hW hc _ hL _
  exact contract H enc W base args ds gs before hval0 hW

theorem holds : Rows.VipNoneSaid :=
  OpenClaim.holds_of_wide 3 Tryz.f3 rfl rfl rfl rfl rfl rfl rfl ⟨rfl, rfl, rfl, rfl, rfl⟩ rfl rfl rfl rfl rfl (by kernel_rfl) Tryz.func3 (by kernel_rfl)
    (of_decide_eq_true (by kernel_rfl)) (by unfold Func.isWrapper; first | (rw [if_pos (by decide +kernel)]; kernel_rfl) | (rw [if_neg (by decide +kernel)]; exact ⟨rfl, rfl⟩))
    (fun os started H enc _ => lifted os started H enc)
theorem proved : Rows.VipNoneCardSaid :=
  Claim7.holds_tied_plain_at .later [] [.data, .data, .data, .data, .sentinel, .sentinel, .pinned] true (true, "a57379dec3d3a62d11dbcd017b5418871e40e316fcea6e8a2a0bd465c335553e") true holds (fun _ h => by cases h) (by kernel_rfl) (fun _ h => by cases h) vipNone_row_tie rfl ⟨rfl, rfl⟩ (by kernel_rfl) rfl
    (fun f fn hf hfn => by
      obtain rfl : f = 3 := Option.some.inj ((show Tryz.prog.funcNamed "weighbridge/weighbridgelaw26.VipNone" = some 3 by kernel_rfl).symm.trans hf) |>.symm
      obtain rfl : fn = Tryz.f3 := (Option.some.inj (Tryz.func3.symm.trans hfn)).symm
      exact ⟨by kernel_rfl, fun j t ht => by
        have hm : t ∈ [29] := by
          have := Array.mem_of_getElem? ht
          rw [← par]
          simpa using this
        have hall : ([29].all fun u => !Tryz.prog.wantsStandIn u) = true := by kernel_rfl
        exact (show Tryz.prog.wantsStandIn t = false by simpa using List.all_eq_true.1 hall t hm)⟩)
    (by kernel_rfl)
end Go.Proofs.YtminohpmjajfgaaGreatDoor.VipNone
