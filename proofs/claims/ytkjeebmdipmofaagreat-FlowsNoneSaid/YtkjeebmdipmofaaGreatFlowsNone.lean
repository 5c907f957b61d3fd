/- That the law 'FlowsNone' is true for every input; it has no conditions. -/
import Derived.Test.YtkjeebmdipmofaaGreatEngQ7
import Derived.Test.YtkjeebmdipmofaaGreatEngO
import Derived.Test.YtkjeebmdipmofaaGreatRows
namespace Go.Proofs.YtkjeebmdipmofaaGreat.FlowsNone
open Go.ChangeShapes Go.WideShapes Go.ChangeAt Go.RowKit Go.Wb
open Go.Proofs.YtkjeebmdipmofaaGreat
set_option linter.unusedVariables false
set_option maxRecDepth 100000

theorem own : ownKnob Tryz.prog.godebug = none := by kernel_rfl
theorem laid : laidOutB Tryz.prog = true := by kernel_rfl
theorem goes : isGo (tabOf Tryz.prog 3) = true := by kernel_rfl
theorem quick0 (x0 : Bool) (x1 : Int) (x2 : Int) (x3 : Int) (x4 : Int) (x5 : Int) (x6 : Int) (x7 : Int) (x8 : Int) (x9 : Int) (x10 : Int) (x11 : Int) (x12 : Int) (x13 : Int) (x14 : Int) (x15 : Int) (x16 : Int) (x17 : Int) (x18 : Int) (x19 : Int) (x20 : Int) (x21 : Int) (x22 : Int) (x23 : Int) (x24 : Int) (x25 : Int) (x26 : Int) (x27 : Int) (x28 : Int) (x29 : Int) (x30 : Int) (x31 : Int) (x32 : Int) (x33 : Int) (x34 : Int) (x35 : Int) : Q.runsTrue (tabOf Tryz.prog) 5000 3 [.agg ⟨.bool x0 :: .int .u8 x1 :: .int .u8 x2 :: .int .u8 x3 :: .int .u8 x4 :: .int .u8 x5 :: .int .u8 x6 :: .int .u8 x7 :: .int .u8 x8 :: .int .u8 x9 :: .int .u8 x10 :: .int .u8 x11 :: .int .u8 x12 :: .int .u8 x13 :: .int .u8 x14 :: .int .u8 x15 :: .int .u8 x16 :: .int .u8 x17 :: .int .u8 x18 :: .int .u8 x19 :: .int .u8 x20 :: .int .u8 x21 :: .int .u8 x22 :: .int .u8 x23 :: .int .u8 x24 :: .int .u8 x25 :: .int .u8 x26 :: .int .u8 x27 :: .int .u8 x28 :: .int .u8 x29 :: .int .u8 x30 :: .int .u8 x31 :: .int .u8 x32 :: .int .u8 x33 :: .int .u16 x34 :: .int .u16 x35 :: []⟩, .int .i64 (.ofNat 0)] 0 = true := by kernel_rfl
theorem quick1 (x0 : Bool) (x1 : Int) (x2 : Int) (x3 : Int) (x4 : Int) (x5 : Int) (x6 : Int) (x7 : Int) (x8 : Int) (x9 : Int) (x10 : Int) (x11 : Int) (x12 : Int) (x13 : Int) (x14 : Int) (x15 : Int) (x16 : Int) (x17 : Int) (x18 : Int) (x19 : Int) (x20 : Int) (x21 : Int) (x22 : Int) (x23 : Int) (x24 : Int) (x25 : Int) (x26 : Int) (x27 : Int) (x28 : Int) (x29 : Int) (x30 : Int) (x31 : Int) (x32 : Int) (x33 : Int) (x34 : Int) (x35 : Int) (m : Nat) : Q.runsTrue (tabOf Tryz.prog) 5000 3 [.agg ⟨.bool x0 :: .int .u8 x1 :: .int .u8 x2 :: .int .u8 x3 :: .int .u8 x4 :: .int .u8 x5 :: .int .u8 x6 :: .int .u8 x7 :: .int .u8 x8 :: .int .u8 x9 :: .int .u8 x10 :: .int .u8 x11 :: .int .u8 x12 :: .int .u8 x13 :: .int .u8 x14 :: .int .u8 x15 :: .int .u8 x16 :: .int .u8 x17 :: .int .u8 x18 :: .int .u8 x19 :: .int .u8 x20 :: .int .u8 x21 :: .int .u8 x22 :: .int .u8 x23 :: .int .u8 x24 :: .int .u8 x25 :: .int .u8 x26 :: .int .u8 x27 :: .int .u8 x28 :: .int .u8 x29 :: .int .u8 x30 :: .int .u8 x31 :: .int .u8 x32 :: .int .u8 x33 :: .int .u16 x34 :: .int .u16 x35 :: []⟩, .int .i64 (.ofNat (.succ m))] 0 = true := by kernel_rfl
theorem quick2 (x0 : Bool) (x1 : Int) (x2 : Int) (x3 : Int) (x4 : Int) (x5 : Int) (x6 : Int) (x7 : Int) (x8 : Int) (x9 : Int) (x10 : Int) (x11 : Int) (x12 : Int) (x13 : Int) (x14 : Int) (x15 : Int) (x16 : Int) (x17 : Int) (x18 : Int) (x19 : Int) (x20 : Int) (x21 : Int) (x22 : Int) (x23 : Int) (x24 : Int) (x25 : Int) (x26 : Int) (x27 : Int) (x28 : Int) (x29 : Int) (x30 : Int) (x31 : Int) (x32 : Int) (x33 : Int) (x34 : Int) (x35 : Int) (m : Nat) : Q.runsTrue (tabOf Tryz.prog) 5000 3 [.agg ⟨.bool x0 :: .int .u8 x1 :: .int .u8 x2 :: .int .u8 x3 :: .int .u8 x4 :: .int .u8 x5 :: .int .u8 x6 :: .int .u8 x7 :: .int .u8 x8 :: .int .u8 x9 :: .int .u8 x10 :: .int .u8 x11 :: .int .u8 x12 :: .int .u8 x13 :: .int .u8 x14 :: .int .u8 x15 :: .int .u8 x16 :: .int .u8 x17 :: .int .u8 x18 :: .int .u8 x19 :: .int .u8 x20 :: .int .u8 x21 :: .int .u8 x22 :: .int .u8 x23 :: .int .u8 x24 :: .int .u8 x25 :: .int .u8 x26 :: .int .u8 x27 :: .int .u8 x28 :: .int .u8 x29 :: .int .u8 x30 :: .int .u8 x31 :: .int .u8 x32 :: .int .u8 x33 :: .int .u16 x34 :: .int .u16 x35 :: []⟩, .int .i64 (.negSucc m)] 0 = true := by kernel_rfl
theorem quick (x0 : Bool) (x1 : Int) (x2 : Int) (x3 : Int) (x4 : Int) (x5 : Int) (x6 : Int) (x7 : Int) (x8 : Int) (x9 : Int) (x10 : Int) (x11 : Int) (x12 : Int) (x13 : Int) (x14 : Int) (x15 : Int) (x16 : Int) (x17 : Int) (x18 : Int) (x19 : Int) (x20 : Int) (x21 : Int) (x22 : Int) (x23 : Int) (x24 : Int) (x25 : Int) (x26 : Int) (x27 : Int) (x28 : Int) (x29 : Int) (x30 : Int) (x31 : Int) (x32 : Int) (x33 : Int) (x34 : Int) (x35 : Int) (x36 : Int) : Q.runsTrue (tabOf Tryz.prog) 5000 3 [.agg ⟨.bool x0 :: .int .u8 x1 :: .int .u8 x2 :: .int .u8 x3 :: .int .u8 x4 :: .int .u8 x5 :: .int .u8 x6 :: .int .u8 x7 :: .int .u8 x8 :: .int .u8 x9 :: .int .u8 x10 :: .int .u8 x11 :: .int .u8 x12 :: .int .u8 x13 :: .int .u8 x14 :: .int .u8 x15 :: .int .u8 x16 :: .int .u8 x17 :: .int .u8 x18 :: .int .u8 x19 :: .int .u8 x20 :: .int .u8 x21 :: .int .u8 x22 :: .int .u8 x23 :: .int .u8 x24 :: .int .u8 x25 :: .int .u8 x26 :: .int .u8 x27 :: .int .u8 x28 :: .int .u8 x29 :: .int .u8 x30 :: .int .u8 x31 :: .int .u8 x32 :: .int .u8 x33 :: .int .u16 x34 :: .int .u16 x35 :: []⟩, .int .i64 x36] 0 = true := by
  cases x36 with
  | ofNat m => cases m with
    | zero => exact quick0 x0 x1 x2 x3 x4 x5 x6 x7 x8 x9 x10 x11 x12 x13 x14 x15 x16 x17 x18 x19 x20 x21 x22 x23 x24 x25 x26 x27 x28 x29 x30 x31 x32 x33 x34 x35
    | succ m => exact quick1 x0 x1 x2 x3 x4 x5 x6 x7 x8 x9 x10 x11 x12 x13 x14 x15 x16 x17 x18 x19 x20 x21 x22 x23 x24 x25 x26 x27 x28 x29 x30 x31 x32 x33 x34 x35 m
  | negSucc m => exact quick2 x0 x1 x2 x3 x4 x5 x6 x7 x8 x9 x10 x11 x12 x13 x14 x15 x16 x17 x18 x19 x20 x21 x22 x23 x24 x25 x26 x27 x28 x29 x30 x31 x32 x33 x34 x35 m

theorem opened0 {W : World} {base : Nat} {v0 : Value} (h0 : Value.okWide Tryz.prog W .any base 25 v0) : ∃ x0 x1 x2 x3 x4 x5 x6 x7 x8 x9 x10 x11 x12 x13 x14 x15 x16 x17 x18 x19 x20 x21 x22 x23 x24 x25 x26 x27 x28 x29 x30 x31 x32 x33 x34 x35, v0 = .agg ⟨.bool x0 :: .int .u8 x1 :: .int .u8 x2 :: .int .u8 x3 :: .int .u8 x4 :: .int .u8 x5 :: .int .u8 x6 :: .int .u8 x7 :: .int .u8 x8 :: .int .u8 x9 :: .int .u8 x10 :: .int .u8 x11 :: .int .u8 x12 :: .int .u8 x13 :: .int .u8 x14 :: .int .u8 x15 :: .int .u8 x16 :: .int .u8 x17 :: .int .u8 x18 :: .int .u8 x19 :: .int .u8 x20 :: .int .u8 x21 :: .int .u8 x22 :: .int .u8 x23 :: .int .u8 x24 :: .int .u8 x25 :: .int .u8 x26 :: .int .u8 x27 :: .int .u8 x28 :: .int .u8 x29 :: .int .u8 x30 :: .int .u8 x31 :: .int .u8 x32 :: .int .u8 x33 :: .int .u16 x34 :: .int .u16 x35 :: []⟩ := by
  have hct : Tryz.prog.cellTypes Tryz.prog.depth 25 = some [4, 5, 5, 5, 5, 5, 5, 5, 5, 5, 5, 5, 5, 5, 5, 5, 5, 5, 5, 5, 5, 5, 5, 5, 5, 5, 5, 5, 5, 5, 5, 5, 5, 5, 23, 23] := by kernel_rfl
  have hcs : Tryz.prog.cellsOf 25 = 36 := by kernel_rfl
  simp only [Value.okWide, Tryz.underlying25] at h0
  obtain ⟨cs, rfl, hsz, ts, hts, _, hcell⟩ := h0
  rw [hct] at hts
  obtain rfl : [4, 5, 5, 5, 5, 5, 5, 5, 5, 5, 5, 5, 5, 5, 5, 5, 5, 5, 5, 5, 5, 5, 5, 5, 5, 5, 5, 5, 5, 5, 5, 5, 5, 5, 23, 23] = ts := by simpa using hts
  rw [hcs] at hsz
  obtain ⟨l0, hl0, rfl⟩ := cells_list hsz
  obtain ⟨y0, l1, rfl⟩ := list_cons (n := 35) hl0
  have hl1 : l1.length = 35 := Nat.succ.inj hl0
  obtain ⟨y1, l2, rfl⟩ := list_cons (n := 34) hl1
  have hl2 : l2.length = 34 := Nat.succ.inj hl1
  obtain ⟨y2, l3, rfl⟩ := list_cons (n := 33) hl2
  have hl3 : l3.length = 33 := Nat.succ.inj hl2
  obtain ⟨y3, l4, rfl⟩ := list_cons (n := 32) hl3
  have hl4 : l4.length = 32 := Nat.succ.inj hl3
  obtain ⟨y4, l5, rfl⟩ := list_cons (n := 31) hl4
  have hl5 : l5.length = 31 := Nat.succ.inj hl4
  obtain ⟨y5, l6, rfl⟩ := list_cons (n := 30) hl5
  have hl6 : l6.length = 30 := Nat.succ.inj hl5
  obtain ⟨y6, l7, rfl⟩ := list_cons (n := 29) hl6
  have hl7 : l7.length = 29 := Nat.succ.inj hl6
  obtain ⟨y7, l8, rfl⟩ := list_cons (n := 28) hl7
  have hl8 : l8.length = 28 := Nat.succ.inj hl7
  obtain ⟨y8, l9, rfl⟩ := list_cons (n := 27) hl8
  have hl9 : l9.length = 27 := Nat.succ.inj hl8
  obtain ⟨y9, l10, rfl⟩ := list_cons (n := 26) hl9
  have hl10 : l10.length = 26 := Nat.succ.inj hl9
  obtain ⟨y10, l11, rfl⟩ := list_cons (n := 25) hl10
  have hl11 : l11.length = 25 := Nat.succ.inj hl10
  obtain ⟨y11, l12, rfl⟩ := list_cons (n := 24) hl11
  have hl12 : l12.length = 24 := Nat.succ.inj hl11
  obtain ⟨y12, l13, rfl⟩ := list_cons (n := 23) hl12
  have hl13 : l13.length = 23 := Nat.succ.inj hl12
  obtain ⟨y13, l14, rfl⟩ := list_cons (n := 22) hl13
  have hl14 : l14.length = 22 := Nat.succ.inj hl13
  obtain ⟨y14, l15, rfl⟩ := list_cons (n := 21) hl14
  have hl15 : l15.length = 21 := Nat.succ.inj hl14
  obtain ⟨y15, l16, rfl⟩ := list_cons (n := 20) hl15
  have hl16 : l16.length = 20 := Nat.succ.inj hl15
  obtain ⟨y16, l17, rfl⟩ := list_cons (n := 19) hl16
  have hl17 : l17.length = 19 := Nat.succ.inj hl16
  obtain ⟨y17, l18, rfl⟩ := list_cons (n := 18) hl17
  have hl18 : l18.length = 18 := Nat.succ.inj hl17
  obtain ⟨y18, l19, rfl⟩ := list_cons (n := 17) hl18
  have hl19 : l19.length = 17 := Nat.succ.inj hl18
  obtain ⟨y19, l20, rfl⟩ := list_cons (n := 16) hl19
  have hl20 : l20.length = 16 := Nat.succ.inj hl19
  obtain ⟨y20, l21, rfl⟩ := list_cons (n := 15) hl20
  have hl21 : l21.length = 15 := Nat.succ.inj hl20
  obtain ⟨y21, l22, rfl⟩ := list_cons (n := 14) hl21
  have hl22 : l22.length = 14 := Nat.succ.inj hl21
  obtain ⟨y22, l23, rfl⟩ := list_cons (n := 13) hl22
  have hl23 : l23.length = 13 := Nat.succ.inj hl22
  obtain ⟨y23, l24, rfl⟩ := list_cons (n := 12) hl23
  have hl24 : l24.length = 12 := Nat.succ.inj hl23
  obtain ⟨y24, l25, rfl⟩ := list_cons (n := 11) hl24
  have hl25 : l25.length = 11 := Nat.succ.inj hl24
  obtain ⟨y25, l26, rfl⟩ := list_cons (n := 10) hl25
  have hl26 : l26.length = 10 := Nat.succ.inj hl25
  obtain ⟨y26, l27, rfl⟩ := list_cons (n := 9) hl26
  have hl27 : l27.length = 9 := Nat.succ.inj hl26
  obtain ⟨y27, l28, rfl⟩ := list_cons (n := 8) hl27
  have hl28 : l28.length = 8 := Nat.succ.inj hl27
  obtain ⟨y28, l29, rfl⟩ := list_cons (n := 7) hl28
  have hl29 : l29.length = 7 := Nat.succ.inj hl28
  obtain ⟨y29, l30, rfl⟩ := list_cons (n := 6) hl29
  have hl30 : l30.length = 6 := Nat.succ.inj hl29
  obtain ⟨y30, l31, rfl⟩ := list_cons (n := 5) hl30
  have hl31 : l31.length = 5 := Nat.succ.inj hl30
  obtain ⟨y31, l32, rfl⟩ := list_cons (n := 4) hl31
  have hl32 : l32.length = 4 := Nat.succ.inj hl31
  obtain ⟨y32, l33, rfl⟩ := list_cons (n := 3) hl32
  have hl33 : l33.length = 3 := Nat.succ.inj hl32
  obtain ⟨y33, l34, rfl⟩ := list_cons (n := 2) hl33
  have hl34 : l34.length = 2 := Nat.succ.inj hl33
  obtain ⟨y34, l35, rfl⟩ := list_cons (n := 1) hl34
  have hl35 : l35.length = 1 := Nat.succ.inj hl34
  obtain ⟨y35, l36, rfl⟩ := list_cons (n := 0) hl35
  have hl36 : l36.length = 0 := Nat.succ.inj hl35
  obtain rfl := List.length_eq_zero_iff.1 hl36
  obtain ⟨u0, hu0, hy0⟩ := hcell 0 y0 rfl
  obtain rfl : 4 = u0 := Option.some.inj hu0
  obtain ⟨x0, rfl⟩ := cell_bool Tryz.underlying4 hy0
  obtain ⟨u1, hu1, hy1⟩ := hcell 1 y1 rfl
  obtain rfl : 5 = u1 := Option.some.inj hu1
  obtain ⟨x1, rfl⟩ := cell_int Tryz.underlying5 hy1
  obtain ⟨u2, hu2, hy2⟩ := hcell 2 y2 rfl
  obtain rfl : 5 = u2 := Option.some.inj hu2
  obtain ⟨x2, rfl⟩ := cell_int Tryz.underlying5 hy2
  obtain ⟨u3, hu3, hy3⟩ := hcell 3 y3 rfl
  obtain rfl : 5 = u3 := Option.some.inj hu3
  obtain ⟨x3, rfl⟩ := cell_int Tryz.underlying5 hy3
  obtain ⟨u4, hu4, hy4⟩ := hcell 4 y4 rfl
  obtain rfl : 5 = u4 := Option.some.inj hu4
  obtain ⟨x4, rfl⟩ := cell_int Tryz.underlying5 hy4
  obtain ⟨u5, hu5, hy5⟩ := hcell 5 y5 rfl
  obtain rfl : 5 = u5 := Option.some.inj hu5
  obtain ⟨x5, rfl⟩ := cell_int Tryz.underlying5 hy5
  obtain ⟨u6, hu6, hy6⟩ := hcell 6 y6 rfl
  obtain rfl : 5 = u6 := Option.some.inj hu6
  obtain ⟨x6, rfl⟩ := cell_int Tryz.underlying5 hy6
  obtain ⟨u7, hu7, hy7⟩ := hcell 7 y7 rfl
  obtain rfl : 5 = u7 := Option.some.inj hu7
  obtain ⟨x7, rfl⟩ := cell_int Tryz.underlying5 hy7
  obtain ⟨u8, hu8, hy8⟩ := hcell 8 y8 rfl
  obtain rfl : 5 = u8 := Option.some.inj hu8
  obtain ⟨x8, rfl⟩ := cell_int Tryz.underlying5 hy8
  obtain ⟨u9, hu9, hy9⟩ := hcell 9 y9 rfl
  obtain rfl : 5 = u9 := Option.some.inj hu9
  obtain ⟨x9, rfl⟩ := cell_int Tryz.underlying5 hy9
  obtain ⟨u10, hu10, hy10⟩ := hcell 10 y10 rfl
  obtain rfl : 5 = u10 := Option.some.inj hu10
  obtain ⟨x10, rfl⟩ := cell_int Tryz.underlying5 hy10
  obtain ⟨u11, hu11, hy11⟩ := hcell 11 y11 rfl
  obtain rfl : 5 = u11 := Option.some.inj hu11
  obtain ⟨x11, rfl⟩ := cell_int Tryz.underlying5 hy11
  obtain ⟨u12, hu12, hy12⟩ := hcell 12 y12 rfl
  obtain rfl : 5 = u12 := Option.some.inj hu12
  obtain ⟨x12, rfl⟩ := cell_int Tryz.underlying5 hy12
  obtain ⟨u13, hu13, hy13⟩ := hcell 13 y13 rfl
  obtain rfl : 5 = u13 := Option.some.inj hu13
  obtain ⟨x13, rfl⟩ := cell_int Tryz.underlying5 hy13
  obtain ⟨u14, hu14, hy14⟩ := hcell 14 y14 rfl
  obtain rfl : 5 = u14 := Option.some.inj hu14
  obtain ⟨x14, rfl⟩ := cell_int Tryz.underlying5 hy14
  obtain ⟨u15, hu15, hy15⟩ := hcell 15 y15 rfl
  obtain rfl : 5 = u15 := Option.some.inj hu15
  obtain ⟨x15, rfl⟩ := cell_int Tryz.underlying5 hy15
  obtain ⟨u16, hu16, hy16⟩ := hcell 16 y16 rfl
  obtain rfl : 5 = u16 := Option.some.inj hu16
  obtain ⟨x16, rfl⟩ := cell_int Tryz.underlying5 hy16
  obtain ⟨u17, hu17, hy17⟩ := hcell 17 y17 rfl
  obtain rfl : 5 = u17 := Option.some.inj hu17
  obtain ⟨x17, rfl⟩ := cell_int Tryz.underlying5 hy17
  obtain ⟨u18, hu18, hy18⟩ := hcell 18 y18 rfl
  obtain rfl : 5 = u18 := Option.some.inj hu18
  obtain ⟨x18, rfl⟩ := cell_int Tryz.underlying5 hy18
  obtain ⟨u19, hu19, hy19⟩ := hcell 19 y19 rfl
  obtain rfl : 5 = u19 := Option.some.inj hu19
  obtain ⟨x19, rfl⟩ := cell_int Tryz.underlying5 hy19
  obtain ⟨u20, hu20, hy20⟩ := hcell 20 y20 rfl
  obtain rfl : 5 = u20 := Option.some.inj hu20
  obtain ⟨x20, rfl⟩ := cell_int Tryz.underlying5 hy20
  obtain ⟨u21, hu21, hy21⟩ := hcell 21 y21 rfl
  obtain rfl : 5 = u21 := Option.some.inj hu21
  obtain ⟨x21, rfl⟩ := cell_int Tryz.underlying5 hy21
  obtain ⟨u22, hu22, hy22⟩ := hcell 22 y22 rfl
  obtain rfl : 5 = u22 := Option.some.inj hu22
  obtain ⟨x22, rfl⟩ := cell_int Tryz.underlying5 hy22
  obtain ⟨u23, hu23, hy23⟩ := hcell 23 y23 rfl
  obtain rfl : 5 = u23 := Option.some.inj hu23
  obtain ⟨x23, rfl⟩ := cell_int Tryz.underlying5 hy23
  obtain ⟨u24, hu24, hy24⟩ := hcell 24 y24 rfl
  obtain rfl : 5 = u24 := Option.some.inj hu24
  obtain ⟨x24, rfl⟩ := cell_int Tryz.underlying5 hy24
  obtain ⟨u25, hu25, hy25⟩ := hcell 25 y25 rfl
  obtain rfl : 5 = u25 := Option.some.inj hu25
  obtain ⟨x25, rfl⟩ := cell_int Tryz.underlying5 hy25
  obtain ⟨u26, hu26, hy26⟩ := hcell 26 y26 rfl
  obtain rfl : 5 = u26 := Option.some.inj hu26
  obtain ⟨x26, rfl⟩ := cell_int Tryz.underlying5 hy26
  obtain ⟨u27, hu27, hy27⟩ := hcell 27 y27 rfl
  obtain rfl : 5 = u27 := Option.some.inj hu27
  obtain ⟨x27, rfl⟩ := cell_int Tryz.underlying5 hy27
  obtain ⟨u28, hu28, hy28⟩ := hcell 28 y28 rfl
  obtain rfl : 5 = u28 := Option.some.inj hu28
  obtain ⟨x28, rfl⟩ := cell_int Tryz.underlying5 hy28
  obtain ⟨u29, hu29, hy29⟩ := hcell 29 y29 rfl
  obtain rfl : 5 = u29 := Option.some.inj hu29
  obtain ⟨x29, rfl⟩ := cell_int Tryz.underlying5 hy29
  obtain ⟨u30, hu30, hy30⟩ := hcell 30 y30 rfl
  obtain rfl : 5 = u30 := Option.some.inj hu30
  obtain ⟨x30, rfl⟩ := cell_int Tryz.underlying5 hy30
  obtain ⟨u31, hu31, hy31⟩ := hcell 31 y31 rfl
  obtain rfl : 5 = u31 := Option.some.inj hu31
  obtain ⟨x31, rfl⟩ := cell_int Tryz.underlying5 hy31
  obtain ⟨u32, hu32, hy32⟩ := hcell 32 y32 rfl
  obtain rfl : 5 = u32 := Option.some.inj hu32
  obtain ⟨x32, rfl⟩ := cell_int Tryz.underlying5 hy32
  obtain ⟨u33, hu33, hy33⟩ := hcell 33 y33 rfl
  obtain rfl : 5 = u33 := Option.some.inj hu33
  obtain ⟨x33, rfl⟩ := cell_int Tryz.underlying5 hy33
  obtain ⟨u34, hu34, hy34⟩ := hcell 34 y34 rfl
  obtain rfl : 23 = u34 := Option.some.inj hu34
  obtain ⟨x34, rfl⟩ := cell_int Tryz.underlying23 hy34
  obtain ⟨u35, hu35, hy35⟩ := hcell 35 y35 rfl
  obtain rfl : 23 = u35 := Option.some.inj hu35
  obtain ⟨x35, rfl⟩ := cell_int Tryz.underlying23 hy35
  exact ⟨x0, x1, x2, x3, x4, x5, x6, x7, x8, x9, x10, x11, x12, x13, x14, x15, x16, x17, x18, x19, x20, x21, x22, x23, x24, x25, x26, x27, x28, x29, x30, x31, x32, x33, x34, x35, rfl⟩

theorem walk {W : World} {base : Nat} {v0 v1 : Value} (h0 : Value.okWide Tryz.prog W .any base 25 v0) (h1 : Value.okWide Tryz.prog W .any base 3 v1) :
    Calls Tryz.prog 3 #[v0, v1] W fun e w' => e = .returned (.bool true) ∧ Below W.heap.size W w' := by
  obtain ⟨x0, x1, x2, x3, x4, x5, x6, x7, x8, x9, x10, x11, x12, x13, x14, x15, x16, x17, x18, x19, x20, x21, x22, x23, x24, x25, x26, x27, x28, x29, x30, x31, x32, x33, x34, x35, rfl⟩ := opened0 h0
  obtain ⟨x36, rfl⟩ := okWide_int Tryz.underlying3 h1
  exact run_calls Tryz.checked.mixed (tabOk _) (Q.runsTrue_callN (quick x0 x1 x2 x3 x4 x5 x6 x7 x8 x9 x10 x11 x12 x13 x14 x15 x16 x17 x18 x19 x20 x21 x22 x23 x24 x25 x26 x27 x28 x29 x30 x31 x32 x33 x34 x35 x36)) goes (r := Ren.of []) (fun id h => absurd h (Nat.not_lt_zero _))
    (.cons (LRel.agg (.cons (.bool _) (.cons (.int _ _) (.cons (.int _ _) (.cons (.int _ _) (.cons (.int _ _) (.cons (.int _ _) (.cons (.int _ _) (.cons (.int _ _) (.cons (.int _ _) (.cons (.int _ _) (.cons (.int _ _) (.cons (.int _ _) (.cons (.int _ _) (.cons (.int _ _) (.cons (.int _ _) (.cons (.int _ _) (.cons (.int _ _) (.cons (.int _ _) (.cons (.int _ _) (.cons (.int _ _) (.cons (.int _ _) (.cons (.int _ _) (.cons (.int _ _) (.cons (.int _ _) (.cons (.int _ _) (.cons (.int _ _) (.cons (.int _ _) (.cons (.int _ _) (.cons (.int _ _) (.cons (.int _ _) (.cons (.int _ _) (.cons (.int _ _) (.cons (.int _ _) (.cons (.int _ _) (.cons (.int _ _) (.cons (.int _ _) .nil))))))))))))))))))))))))))))))))))))) (.cons (.int _ _) .nil))

theorem contract (H : Type) (enc : TypeId × Value → H) (W : World) (base : Nat) (args : Array Value) (ds gs : List (DataW H)) (before : List MemPlace)
    (hval : ∀ (j : Nat) t v, Tryz.f3.params[j]? = some t → args[j]? = some v → Value.okWide Tryz.prog W .any base t v)
    (hW : DataW.Whole enc Tryz.prog Tryz.f3.params.toList Rows.flowsNoneSpec.vars false W args.toList ds gs before) :
    Calls Tryz.prog 3 args W fun e W' => ∃ v, e = .returned v ∧ Rows.flowsNoneSpec.post enc Tryz.prog Tryz.f3 false true false false W args v W' := by
  obtain ⟨p, q, hA, hV, _⟩ := id hW
  obtain ⟨rfl, _⟩ := trodVars_none hV
  rw [Tryz.params3] at hA hval
  obtain ⟨v0, v1, d0, d1, p0, p1, rfl, rfl, rfl, h0, h1⟩ := trodAll_two hA
  refine (walk (hval 0 25 v0 rfl rfl) (hval 1 3 v1 rfl rfl)).mono fun e W' ⟨he, hb⟩ => ?_
  subst he
  exact ⟨_, rfl, law_post laid rfl rfl (t := 4) (by rfl) Tryz.underlying4 (by kernel_rfl) hW hb⟩

theorem lifted (os : Os) (started : os.Started) (H : Type) (enc : TypeId × Value → H) :
    ReturnsInHanded {} Tryz.checked os 3 .any (Rows.flowsNoneSpec.pre6 enc Tryz.prog Tryz.f3 Rows.flowsNoneRow.domain false) (Rows.flowsNoneSpec.post enc Tryz.prog Tryz.f3 false true false false) := by
  refine returnsInHanded_of_change (C := Tryz.checked) own started (by kernel_rfl) Tryz.func3
    (ChangeSpec.witness6 (enc := enc) (C := Tryz.checked) false ⟨#[], #[.agg ⟨.bool false :: .int .u8 0 :: .int .u8 0 :: .int .u8 0 :: .int .u8 0 :: .int .u8 0 :: .int .u8 0 :: .int .u8 0 :: .int .u8 0 :: .int .u8 0 :: .int .u8 0 :: .int .u8 0 :: .int .u8 0 :: .int .u8 0 :: .int .u8 0 :: .int .u8 0 :: .int .u8 0 :: .int .u8 0 :: .int .u8 0 :: .int .u8 0 :: .int .u8 0 :: .int .u8 0 :: .int .u8 0 :: .int .u8 0 :: .int .u8 0 :: .int .u8 0 :: .int .u8 0 :: .int .u8 0 :: .int .u8 0 :: .int .u8 0 :: .int .u8 0 :: .int .u8 0 :: .int .u8 0 :: .int .u8 0 :: .int .u16 0 :: .int .u16 0 :: []⟩, .int .i64 0], []⟩ 8 (by kernel_rfl) (by kernel_rfl) (by kernel_rfl) (by kernel_rfl)) ?_
  intro W base args ds gs before hval hW _ _
  exact contract H enc W base args ds gs before hval hW

theorem proved : Rows.FlowsNoneSaid :=
  OpenClaim.holds_of_wide 3 Tryz.f3 rfl rfl rfl rfl rfl rfl rfl ⟨rfl, rfl, rfl, rfl, rfl⟩ rfl rfl rfl rfl rfl (by kernel_rfl) Tryz.func3 (by kernel_rfl)
    (of_decide_eq_true (by kernel_rfl)) (by unfold Func.isWrapper; first | (rw [if_pos (by decide +kernel)]; kernel_rfl) | (rw [if_neg (by decide +kernel)]; exact ⟨rfl, rfl⟩))
    (fun os started H enc _ => lifted os started H enc)
end Go.Proofs.YtkjeebmdipmofaaGreat.FlowsNone
