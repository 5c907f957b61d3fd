/- That the law 'ConfNone' is true for every input (its tied card: of the listed variables only the table of ten's powers is read); it has no other conditions. -/
import Derived.Test.YtminohpmjajfgaaGreatDoorEngQ
import Derived.Test.YtminohpmjajfgaaGreatDoorEngLO
import Derived.Test.YtminohpmjajfgaaGreatDoorCfGlo
import Derived.Test.YtminohpmjajfgaaGreatDoorEngGq
import Derived.Test.YtminohpmjajfgaaGreatDoorEngJn
import Derived.Shelf.Strings.OnBuilder
import Derived.Test.YtminohpmjajfgaaGreatDoorEngMd3
import Derived.Test.YtminohpmjajfgaaGreatDoorRows
import Derived.Test.YtminohpmjajfgaaGreatDoorCards
import Derived.Test.YtminohpmjajfgaaGreatDoorTie
import Derived.ProofKit
import Derived.OpenShut
import Derived.LaidMore
import Derived.Lay
import Derived.SevenTiedAt
import Derived.Stop.Joined
namespace Go.Proofs.YtminohpmjajfgaaGreatDoor.ConfNone
open Go.ChangeShapes Go.WideShapes Go.ChangeAt Go.RowKit Go.Wb
open Go.Proofs.YtminohpmjajfgaaGreatDoor
instance : GloK := gloPow 3
set_option linter.unusedVariables false
set_option maxRecDepth 100000

theorem own : ownKnob Tryz.prog.godebug = none := by kernel_rfl
theorem laid : laidOutB Tryz.prog = true := by kernel_rfl
theorem par : Tryz.f4.params.toList = [3] := by kernel_rfl
def jren : Go.Shelf.Ren :=
 {
  f := fun x =>
    match x with
    | 156 => 130
    | 165 => 155
    | 166 => 156
    | 169 => 157
    | 240 => 176
    | 241 => 177
    | 276 => 193
    | 277 => 194
    | n => n,
  t := fun x =>
    match x with
    | 31 => 44
    | 9 => 9
    | 3 => 3
    | 4 => 4
    | 0 => 0
    | 20 => 20
    | 72 => 223
    | 76 => 225
    | 70 => 221
    | 37 => 170
    | 75 => 218
    | 127 => 239
    | 164 => 257
    | 5 => 5
    | 80 => 227
    | n => n,
  g := fun x => x }
theorem jlays : Lays.n156 Tryz.prog jren :=
 { mixed := Eq.refl true, f156 := Eq.trans Tryz.func130 (congrArg some (Eq.refl (Body.n156 jren))),
    f165 := Eq.trans Tryz.func155 (congrArg some (Eq.refl (Body.n165 jren))),
    f166 := Eq.trans Tryz.func156 (congrArg some (Eq.refl (Body.n166 jren))),
    f169 := Eq.trans Tryz.func157 (congrArg some (Eq.refl (Body.n169 jren))),
    f240 := Eq.trans Tryz.func176 (congrArg some (Eq.refl (Body.n240 jren))),
    f241 := Eq.trans Tryz.func177 (congrArg some (Eq.refl (Body.n241 jren))),
    f276 := Eq.trans Tryz.func193 (congrArg some (Eq.refl (Body.n276 jren))),
    f277 := Eq.trans Tryz.func194 (congrArg some (Eq.refl (Body.n277 jren))), t0 := Tryz.underlying0,
    a0 := Tryz.isAgg0, z0 := Tryz.sizeOf0, v0 := Tryz.zeroValue0, t3 := Tryz.underlying3, a3 := Tryz.isAgg3,
    z3 := Tryz.sizeOf3, v3 := Tryz.zeroValue3, t4 := Tryz.underlying4, a4 := Tryz.isAgg4, z4 := Tryz.sizeOf4,
    v4 := Tryz.zeroValue4, t9 := Tryz.underlying9, a9 := Tryz.isAgg9, z9 := Tryz.sizeOf9, v9 := Tryz.zeroValue9,
    t20 := Tryz.underlying20, a20 := Tryz.isAgg20, z20 := Tryz.sizeOf20, v20 := Tryz.zeroValue20,
    t31 := Tryz.underlying44, a31 := Tryz.isAgg44, z31 := Tryz.sizeOf44, v31 := Tryz.zeroValue44,
    t37 := Tryz.underlying170, a37 := Tryz.isAgg170, z37 := Tryz.sizeOf170, v37 := Tryz.zeroValue170,
    t70 := Tryz.underlying221, a70 := Tryz.isAgg221, z70 := Tryz.sizeOf221, v70 := Tryz.zeroValue221,
    t72 := Tryz.underlying223, a72 := Tryz.isAgg223, z72 := Tryz.sizeOf223, v72 := Tryz.zeroValue223,
    t75 := Tryz.underlying218, a75 := Tryz.isAgg218, z75 := Tryz.sizeOf218, v75 := Tryz.zeroValue218,
    t76 := Tryz.underlying225, a76 := Tryz.isAgg225, z76 := Tryz.sizeOf225, v76 := Tryz.zeroValue225,
    t127 := Tryz.underlying239, a127 := Tryz.isAgg239, z127 := Tryz.sizeOf239, v127 := Tryz.zeroValue239,
    t164 := Tryz.underlying257, a164 := Tryz.isAgg257, z164 := Tryz.sizeOf257, v164 := Tryz.zeroValue257 }
theorem jextra : Builder.Extra Tryz.prog jren where
  sizeBuilder := by kernel_rfl
  liesBuilder := by kernel_rfl
  t5 := Tryz.underlying5
  a5 := Tryz.isAgg5
  z5 := Tryz.sizeOf5
  v5 := Tryz.zeroValue5
  infoByte := by kernel_rfl
  cellsByte := by kernel_rfl
  sizeByte := by kernel_rfl
  neB5 := by decide
noncomputable def T0 : Nat → Option AFn := withExt (tabOf Tryz.prog) 130 .join
theorem T0_ok : TabOk Tryz.prog T0 := withExt_ok (tabOk _) (join_ok Tryz.func130 (c := ((Tryz.f130).body).getD .skip) (by kernel_rfl) (by decide) (fun a c sep w => Any.strings_Join_none jlays jextra a c sep w) (fun bk o c xs sep w => Any.strings_Join jlays jextra bk o c xs sep w))
noncomputable def T1 : Nat → Option AFn := withExt T0 85 (.sw 22 ⟨#[105, 112, 105, 112]⟩ ⟨#[103, 117, 101]⟩ 1 2)
theorem T1_ok : TabOk Tryz.prog T1 := withExt_ok T0_ok (sw_ok (k1 := ⟨#[105, 112, 105, 112]⟩) (k2 := ⟨#[103, 117, 101]⟩) (v1 := 1) (v2 := 2) (off := 22) (tm := 184) (kt := 9) (el := 56) Tryz.checked.mixed Tryz.func85 (by decide) rfl rfl (by kernel_rfl)
  Tryz.underlying184 (by kernel_rfl) (by kernel_rfl) (by kernel_rfl) (by kernel_rfl) (by kernel_rfl) (by kernel_rfl) (by kernel_rfl) (by kernel_rfl) (by kernel_rfl) (by kernel_rfl) (by kernel_rfl) (by kernel_rfl) (by kernel_rfl))
theorem tab_cells {W : World} (h : laidMetH Tryz.prog Rows.confNoneRow.laid W) : GloAt W := by
  rw [MakeChecks.laidMetH_plain _ _ _ (by kernel_rfl)] at h
  obtain ⟨ps, ⟨g1, t1, cs1, f1, p1, q1, hg1, ht1, hv1, hd1, ⟨g0, t0, cs0, f0, p0, q0, hg0, ht0, hv0, hd0, ⟨g, t, cs, fuel, p, q, hg, ht, hv, hd, _, _⟩, _⟩, _⟩, _, _⟩ := h
  obtain rfl := Option.some.inj ((show Tryz.prog.globalNamed "internal/strconv.uint64pow10" = some 3 by kernel_rfl).symm.trans hg)
  obtain rfl := Option.some.inj ((show (Tryz.prog.globals[3]?).map (·.type) = some 255 by kernel_rfl).symm.trans ht)
  refine gloPow_at fun r hr => ?_
  obtain ⟨xs, m, _, ex, _, hl, hel⟩ := DataW.trod_array Tryz.underlying255 hd
  have c5 : Tryz.prog.cellsOf 168 = 1 := by kernel_rfl
  have hE := hel r hr
  rw [c5, Nat.mul_one, List.getElem?_eq_getElem (by omega)] at hE
  obtain ⟨z, e1, e2, _⟩ := DataW.trod_int Tryz.underlying168 hE
  have e3 : (xs.map (·.1)) = pow10L.map fun n => .lit (.int .u64 n) := (DataW.agg.inj (Prod.mk.inj ex).1).symm
  have hlen : pow10L.length = 20 := rfl
  have e4 : (xs.map (·.1))[r]? = (pow10L.map fun n => (DataW.lit (.int .u64 n) : DataW Unit))[r]? := by rw [e3]
  rw [List.getElem?_map, List.getElem?_map, List.getElem?_eq_getElem (by omega : r < xs.length), List.getElem?_eq_getElem (by omega : r < pow10L.length), e2] at e4
  have hz : z = pow10L.getD r 0 := by
    simp only [Option.map_some, Option.some.injEq, DataW.lit.injEq, Lit.int.injEq, true_and] at e4
    rw [e4, List.getD, List.getElem?_eq_getElem (by omega : r < pow10L.length)]; rfl
  rw [World.var?_cell hg hv r, ← hz]
  have : cs.toList[r]? = some (.int .u64 z) := by
    have h0 : ((cs.toList.drop r).take 1)[0]? = some (.int .u64 z) := by rw [e1]; rfl
    simpa using h0
  simpa using this
theorem goes : isGo (T1 4) = true := by kernel_rfl
theorem quick (x0 : Int) : Q.callQ T1 5000 (.fn 4) [.int .i64 x0] startG Q.isTrue = true := by kernel_rfl


theorem walk {W : World} {base : Nat} {v0 : Value} (h0 : Value.okWide Tryz.prog W .any base 3 v0) (hw : GloAt W) :
    Calls Tryz.prog 4 #[v0] W fun e w' => e = .returned (.bool true) ∧ Below W.heap.size W w' := by
  obtain ⟨x0, rfl⟩ := okWide_int Tryz.underlying3 h0
  exact run_gst Tryz.checked.mixed T1_ok (quick x0) goes hw
    (.cons (.int _ _) .nil)

theorem contract (H : Type) (enc : TypeId × Value → H) (W : World) (base : Nat) (args : Array Value) (ds gs : List (DataW H)) (before : List MemPlace)
    (hval : ∀ (j : Nat) t v, Tryz.f4.params[j]? = some t → args[j]? = some v → Value.okWide Tryz.prog W .any base t v)
    (hW : DataW.Whole enc Tryz.prog Tryz.f4.params.toList Rows.confNoneSpec.vars false W args.toList ds gs before) (hL : laidMetH Tryz.prog Rows.confNoneRow.laid W) :
    Calls Tryz.prog 4 args W fun e W' => ∃ v, e = .returned v ∧ Rows.confNoneSpec.post enc Tryz.prog Tryz.f4 false true false false W args v W' := by
  obtain ⟨p, q, hA, hV, _⟩ := id hW
  obtain ⟨rfl, _⟩ := trodVars_none hV
  rw [Tryz.params4] at hA hval
  obtain ⟨v0, d0, rfl, rfl, h0⟩ := trodAll_one hA
  refine (walk (hval 0 3 v0 rfl rfl) (tab_cells hL)).mono fun e W' ⟨he, hb⟩ => ?_
  subst he
  exact ⟨_, rfl, law_post laid rfl rfl (t := 4) (by rfl) Tryz.underlying4 (by kernel_rfl) hW hb⟩

theorem lifted (os : Os) (started : os.Started) (H : Type) (enc : TypeId × Value → H) :
    ReturnsInHanded {} Tryz.checked os 4 .any (fun w args => (Rows.confNoneSpec.pre enc Tryz.prog Tryz.f4 Rows.confNoneRow.domain false w args ∧ laidMetH Tryz.prog Rows.confNoneRow.laid w) ∧ sizedMet enc Tryz.prog Tryz.f4 (OpenSpec.ofChange Rows.confNoneSpec) false w args)
      (Rows.confNoneSpec.post enc Tryz.prog Tryz.f4 false true false false) := by
  refine returnsInHanded_of_change_and (C := Tryz.checked) (X := fun w _ => laidMetH Tryz.prog Rows.confNoneRow.laid w) (fun _ _ _ hh h => h.of_heap hh) own started (by kernel_rfl) Tryz.func4
    (ChangeSpec.witness_shaped (enc := enc) (C := Tryz.checked) (os := os) (X := fun w _ => laidMetH Tryz.prog Rows.confNoneRow.laid w) false (World.laidAll Tryz.prog os Rows.confNoneRow.laid) #[.int .i64 0] 8 (World.laidAll_os _ _ _)
      (World.shaped_of_ZipB (by kernel_rfl) (by kernel_rfl)) (by kernel_rfl) (by kernel_rfl) (by kernel_rfl)
      (by rw [MakeChecks.laidMetH_plain _ _ _ (by kernel_rfl)]; exact laidMet_laidAll _ (by kernel_rfl) (by kernel_rfl))) ?_
  intro W base args ds gs before hval0 hW hc _ hL _
  exact contract H enc W base args ds gs before hval0 hW hL

theorem holds : Rows.ConfNoneSaid :=
  OpenClaim.holds_of_wide 4 Tryz.f4 rfl rfl rfl rfl rfl rfl rfl ⟨rfl, rfl, rfl, rfl, rfl⟩ rfl rfl rfl rfl rfl (by kernel_rfl) Tryz.func4 (by kernel_rfl)
    (of_decide_eq_true (by kernel_rfl)) (by unfold Func.isWrapper; first | (rw [if_pos (by decide +kernel)]; kernel_rfl) | (rw [if_neg (by decide +kernel)]; exact ⟨rfl, rfl⟩))
    (fun os started H enc _ => lifted os started H enc)
theorem proved : Rows.ConfNoneCardSaid :=
  Claim7.holds_tied_plain_at .later [] [.data, .data, .data, .data, .sentinel, .sentinel, .pinned] true (true, "a57379dec3d3a62d11dbcd017b5418871e40e316fcea6e8a2a0bd465c335553e") true holds (fun _ h => by cases h) (by kernel_rfl) (fun _ h => by cases h) confNone_row_tie rfl ⟨rfl, rfl⟩ (by kernel_rfl) rfl
    (fun f fn hf hfn => by
      obtain rfl : f = 4 := Option.some.inj ((show Tryz.prog.funcNamed "weighbridge/weighbridgelaw45.ConfNone" = some 4 by kernel_rfl).symm.trans hf) |>.symm
      obtain rfl : fn = Tryz.f4 := (Option.some.inj (Tryz.func4.symm.trans hfn)).symm
      exact ⟨by kernel_rfl, fun j t ht => by
        have hm : t ∈ [3] := by
          have := Array.mem_of_getElem? ht
          rw [← par]
          simpa using this
        have hall : ([3].all fun u => !Tryz.prog.wantsStandIn u) = true := by kernel_rfl
        exact (show Tryz.prog.wantsStandIn t = false by simpa using List.all_eq_true.1 hall t hm)⟩)
    (by kernel_rfl)
end Go.Proofs.YtminohpmjajfgaaGreatDoor.ConfNone
