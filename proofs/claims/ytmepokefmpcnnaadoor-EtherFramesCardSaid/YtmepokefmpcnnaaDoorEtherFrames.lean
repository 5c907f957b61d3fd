/- That layer 2's law 'EtherFrames' is true for every input, its one listed table that is read holding what the program's text lays; it has no other conditions. -/
import Derived.Test.YtmepokefmpcnnaaDoorEtLaw
import Derived.Test.YtmepokefmpcnnaaDoorCards
import Derived.Test.YtmepokefmpcnnaaDoorTie
import Derived.ProofKit
import Derived.OpenShut
import Derived.LaidMore
import Derived.Lay
import Derived.SevenTiedAt
import Derived.Stop.Joined
set_option maxRecDepth 100000
set_option linter.unusedVariables false
set_option linter.unusedSimpArgs false
namespace Go.Proofs.YtmepokefmpcnnaaDoor.EtherFrames
open Go.ChangeShapes Go.WideShapes Go.ChangeAt Go.RowKit Go.Wb
open Go.Proofs.YtmepokefmpcnnaaDoor
open Et
theorem hu32 : Tryd.prog.underlying 32 = some (.slice 5) := by kernel_rfl
theorem hu5 : Tryd.prog.underlying 5 = some (.int .u8) := by kernel_rfl
theorem z5 : Tryd.prog.cellsOf 5 = 1 := by kernel_rfl
theorem ints_all (k : IntKind) : ∀ (xs : List Value), (∀ x ∈ xs, ∃ n, x = .int k n ∧ k.has n) → ∃ ns : List Int, xs = ns.map (.int k) ∧ ∀ n ∈ ns, k.has n
  | [], h => ⟨[], rfl, by simp⟩
  | x :: xs, h => by
    obtain ⟨n, rfl, hn⟩ := h x (List.mem_cons_self ..)
    obtain ⟨ns, rfl, hs⟩ := ints_all k xs fun x hx => h x (List.mem_cons_of_mem _ hx)
    exact ⟨n :: ns, rfl, by simpa using ⟨hn, hs⟩⟩
theorem wf_ro (bs : List (List Value)) : WF (roHp bs) := by
  intro b o h
  rw [roHp_get, Option.map_eq_some_iff] at h
  obtain ⟨c, h, _⟩ := h
  exact (List.getElem?_eq_some_iff.1 h).1
theorem arg32 {bs : List (List Value)} {v : Value} (h : ShpV Tryd.prog bs 5 32 v) : ∃ (ns : List Int) (W : List Nat), BS (roHp bs) v (ns.map u8) W ∧ ∀ m ∈ ns, 0 ≤ m ∧ m < 256 := by
  obtain ⟨xs, h1, h2⟩ := slV_of hu32 z5 h
  obtain ⟨ns, rfl, hn⟩ := ints_all .u8 xs fun x hx => shp_int hu5 (h1 x hx)
  have hr : ∀ m ∈ ns, 0 ≤ m ∧ m < 256 := fun m hm => u8_rng (hn m hm)
  rcases h2 with ⟨h1, h2⟩ | ⟨h1, h2⟩ | ⟨id, c, zs, h1, k2, k3, k4, k5, k6⟩
  · exact ⟨ns, [], .inl ⟨h2, rfl, .inl h1⟩, hr⟩
  · exact ⟨ns, [], .inl ⟨h2, rfl, .inr h1⟩, hr⟩
  · refine ⟨ns, [id], .inr ⟨id, 0, c, _, rfl, h1, k2, (List.getElem?_eq_some_iff.1 k5).1, .inl (by rw [roHp_get, k5]; rfl), ?_, ?_⟩, hr⟩
    · rw [List.drop_zero, List.take_left]
    · show 0 + (ns.map u8).length ≤ ((ns.map u8) ++ zs).length
      rw [Nat.zero_add, List.length_append]; exact Nat.le_add_right _ _
theorem law (bs : List (List Value)) (y : Nat → Int) (t : Int) (ht : 0 ≤ t ∧ t < 65536) (v : Value) (h : ShpV Tryd.prog bs 5 32 v) : wp (callN T 9001 (.fn 4) [.agg ⟨hd12 y ++ [.int .u16 t]⟩, v]) (fun v _ => v = .bool true) (roHp bs) := by
  obtain ⟨ns, W, hv, hr⟩ := arg32 h
  have hb : Byt (ns.map u8) := fun v hv => by obtain ⟨m, _, rfl⟩ := List.mem_map.1 hv; exact ⟨m, rfl⟩
  refine c4 g4 ?_
  rw [h4]
  refine l40 (n := 8999) (wf_ro bs) hv hb rfl hr (by omega) (fun _ => rfl) fun S1 P6 P9 A y' t' c pv qv lp Wp Wq hl hF1 hW1 hp hq hpb hA hWp hlp hAn hE h6 h9 => ?_
  have hv1 := hv.fra hF1 (by simp)
  refine l41 (n := 8999) hW1 hp.bs hq hpb hA hv1 hb hl ht hE h6 h9 (by omega) fun S2 uv u' lu Wu Wu' d hF2 hW2 hu hu' hub hWu hlu => ?_
  have hE2 := hF2.at_ (hW1 _ _ hE) (by simp) hE
  refine l42 (n := 8999) hW2 hu.bs hu' hub hE2 (by omega) ?_
  have hp2 := hp.fra hF2 (by simp)
  have hA2 := hA.lt A (by simp)
  refine l43 (n := 8999) hW2 (hv1.fra hF2 (by simp)) (hA.fra hF2 (by simp)) hb hp2 hpb hu hub (fun b hb => ⟨fun hc => ?_, fun hc => ?_, fun hc => ?_⟩) (fun b hb => ⟨fun hc => ?_, fun hc => ?_⟩) (by omega) (by omega) (by omega) fun _ => rfl
  · have := hp.bs.lt b hb
    have := hWu b hc
    omega
  · exact (hWp b hb).2 (by simpa using hc)
  · have := hv.lt b hc
    have := (hWp b hb).1
    omega
  · have : b = A := by simpa using hc
    have := hWu b hb
    omega
  · have := hv1.lt b hc
    have := hWu b hb
    omega
theorem cell_intR {P : Program} {W : World} {base : Nat} {t : TypeId} {k : IntKind} {v : Value} (ht : P.underlying t = some (.int k)) (h : Cell.okWide P W .any base t v) : ∃ n, v = .int k n ∧ k.has n := by
  cases v <;> simp [Cell.okWide, Cell.ok, ht] at h
  obtain ⟨rfl, h⟩ := h
  exact ⟨_, rfl, by first | exact h | simpa [IntKind.has] using h⟩
theorem hu29 : Tryd.prog.underlying 29 = some (.int .u16) := by kernel_rfl
theorem opened0 {W : World} {base : Nat} {v0 : Value} (h0 : Value.okWide Tryd.prog W .any base 31 v0) : ∃ (y : Nat → Int) (t : Int), v0 = .agg ⟨hd12 y ++ [.int .u16 t]⟩ ∧ 0 ≤ t ∧ t < 65536 := by
  have hct : Tryd.prog.cellTypes Tryd.prog.depth 31 = some [5, 5, 5, 5, 5, 5, 5, 5, 5, 5, 5, 5, 29] := by kernel_rfl
  have hcs : Tryd.prog.cellsOf 31 = 13 := by kernel_rfl
  simp only [Value.okWide, Tryd.underlying31] at h0
  obtain ⟨cs, rfl, hsz, ts, hts, _, hcell⟩ := h0
  rw [hct] at hts
  obtain rfl : [5, 5, 5, 5, 5, 5, 5, 5, 5, 5, 5, 5, 29] = ts := by simpa using hts
  rw [hcs] at hsz
  obtain ⟨l0, hl0, rfl⟩ := cells_list hsz
  obtain ⟨y0, l1, rfl⟩ := list_cons (n := 12) hl0
  have hl1 : l1.length = 12 := Nat.succ.inj hl0
  obtain ⟨y1, l2, rfl⟩ := list_cons (n := 11) hl1
  have hl2 : l2.length = 11 := Nat.succ.inj hl1
  obtain ⟨y2, l3, rfl⟩ := list_cons (n := 10) hl2
  have hl3 : l3.length = 10 := Nat.succ.inj hl2
  obtain ⟨y3, l4, rfl⟩ := list_cons (n := 9) hl3
  have hl4 : l4.length = 9 := Nat.succ.inj hl3
  obtain ⟨y4, l5, rfl⟩ := list_cons (n := 8) hl4
  have hl5 : l5.length = 8 := Nat.succ.inj hl4
  obtain ⟨y5, l6, rfl⟩ := list_cons (n := 7) hl5
  have hl6 : l6.length = 7 := Nat.succ.inj hl5
  obtain ⟨y6, l7, rfl⟩ := list_cons (n := 6) hl6
  have hl7 : l7.length = 6 := Nat.succ.inj hl6
  obtain ⟨y7, l8, rfl⟩ := list_cons (n := 5) hl7
  have hl8 : l8.length = 5 := Nat.succ.inj hl7
  obtain ⟨y8, l9, rfl⟩ := list_cons (n := 4) hl8
  have hl9 : l9.length = 4 := Nat.succ.inj hl8
  obtain ⟨y9, l10, rfl⟩ := list_cons (n := 3) hl9
  have hl10 : l10.length = 3 := Nat.succ.inj hl9
  obtain ⟨y10, l11, rfl⟩ := list_cons (n := 2) hl10
  have hl11 : l11.length = 2 := Nat.succ.inj hl10
  obtain ⟨y11, l12, rfl⟩ := list_cons (n := 1) hl11
  have hl12 : l12.length = 1 := Nat.succ.inj hl11
  obtain ⟨y12, l13, rfl⟩ := list_cons (n := 0) hl12
  have hl13 : l13.length = 0 := Nat.succ.inj hl12
  obtain rfl := List.length_eq_zero_iff.1 hl13
  obtain ⟨u0, hu0, hy0⟩ := hcell 0 y0 rfl
  obtain rfl : 5 = u0 := Option.some.inj hu0
  obtain ⟨x0, rfl, hx0⟩ := cell_intR EtherFrames.hu5 hy0
  obtain ⟨u1, hu1, hy1⟩ := hcell 1 y1 rfl
  obtain rfl : 5 = u1 := Option.some.inj hu1
  obtain ⟨x1, rfl, hx1⟩ := cell_intR EtherFrames.hu5 hy1
  obtain ⟨u2, hu2, hy2⟩ := hcell 2 y2 rfl
  obtain rfl : 5 = u2 := Option.some.inj hu2
  obtain ⟨x2, rfl, hx2⟩ := cell_intR EtherFrames.hu5 hy2
  obtain ⟨u3, hu3, hy3⟩ := hcell 3 y3 rfl
  obtain rfl : 5 = u3 := Option.some.inj hu3
  obtain ⟨x3, rfl, hx3⟩ := cell_intR EtherFrames.hu5 hy3
  obtain ⟨u4, hu4, hy4⟩ := hcell 4 y4 rfl
  obtain rfl : 5 = u4 := Option.some.inj hu4
  obtain ⟨x4, rfl, hx4⟩ := cell_intR EtherFrames.hu5 hy4
  obtain ⟨u5, hu5, hy5⟩ := hcell 5 y5 rfl
  obtain rfl : 5 = u5 := Option.some.inj hu5
  obtain ⟨x5, rfl, hx5⟩ := cell_intR EtherFrames.hu5 hy5
  obtain ⟨u6, hu6, hy6⟩ := hcell 6 y6 rfl
  obtain rfl : 5 = u6 := Option.some.inj hu6
  obtain ⟨x6, rfl, hx6⟩ := cell_intR EtherFrames.hu5 hy6
  obtain ⟨u7, hu7, hy7⟩ := hcell 7 y7 rfl
  obtain rfl : 5 = u7 := Option.some.inj hu7
  obtain ⟨x7, rfl, hx7⟩ := cell_intR EtherFrames.hu5 hy7
  obtain ⟨u8, hu8, hy8⟩ := hcell 8 y8 rfl
  obtain rfl : 5 = u8 := Option.some.inj hu8
  obtain ⟨x8, rfl, hx8⟩ := cell_intR EtherFrames.hu5 hy8
  obtain ⟨u9, hu9, hy9⟩ := hcell 9 y9 rfl
  obtain rfl : 5 = u9 := Option.some.inj hu9
  obtain ⟨x9, rfl, hx9⟩ := cell_intR EtherFrames.hu5 hy9
  obtain ⟨u10, hu10, hy10⟩ := hcell 10 y10 rfl
  obtain rfl : 5 = u10 := Option.some.inj hu10
  obtain ⟨x10, rfl, hx10⟩ := cell_intR EtherFrames.hu5 hy10
  obtain ⟨u11, hu11, hy11⟩ := hcell 11 y11 rfl
  obtain rfl : 5 = u11 := Option.some.inj hu11
  obtain ⟨x11, rfl, hx11⟩ := cell_intR EtherFrames.hu5 hy11
  obtain ⟨u12, hu12, hy12⟩ := hcell 12 y12 rfl
  obtain rfl : 29 = u12 := Option.some.inj hu12
  obtain ⟨x12, rfl, hx12⟩ := cell_intR hu29 hy12
  refine ⟨fun j => [x0, x1, x2, x3, x4, x5, x6, x7, x8, x9, x10, x11].getD j 0, x12, rfl, ?_⟩
  simp [IntKind.has, IntKind.min, IntKind.max, IntKind.bits, IntKind.signed] at hx12
  omega
def z64 : List Int := [0, 1, 56, 2, 57, 49, 28, 3, 61, 58, 42, 50, 38, 29, 17, 4, 62, 47, 59, 36, 45, 43, 51, 22, 53, 39, 33, 30, 24, 18, 12, 5, 63, 55, 48, 27, 60, 41, 37, 16, 46, 35, 44, 21, 52, 32, 23, 11, 54, 26, 40, 15, 34, 20, 31, 10, 25, 14, 19, 9, 13, 8, 7, 6]
theorem tab_cells {W : World} (h : laidMetH Tryd.prog Rows.etherFramesRow.laid W) : GloAt W := by
  rw [MakeChecks.laidMetH_plain _ _ _ (by kernel_rfl)] at h
  obtain ⟨ps, ⟨g0, t0, cs0, f0, p0, q0, hg0, ht0, hv0, hd0, ⟨g, t, cs, fuel, p, q, hg, ht, hv, hd, _, _⟩, _⟩, _, _⟩ := h
  obtain rfl := Option.some.inj ((show Tryd.prog.globalNamed "math/bits.deBruijn64tab" = some 7 by kernel_rfl).symm.trans hg)
  obtain rfl := Option.some.inj ((show (Tryd.prog.globals[7]?).map (·.type) = some 96 by kernel_rfl).symm.trans ht)
  have hcell : ∀ r, r < 64 → W.cell? ⟨7, r, none⟩ = some (.int .u8 (z64.getD r 0)) := by
    intro r hr
    obtain ⟨xs, m, _, ex, _, hl, hel⟩ := DataW.trod_array Tryd.underlying96 hd
    have c5 : Tryd.prog.cellsOf 5 = 1 := by kernel_rfl
    have hE := hel r hr
    rw [c5, Nat.mul_one, List.getElem?_eq_getElem (by omega)] at hE
    obtain ⟨z, e1, e2, _⟩ := DataW.trod_int Tryd.underlying5 hE
    have e3 : (xs.map (·.1)) = z64.map fun n => .lit (.int .u8 n) := (DataW.agg.inj (Prod.mk.inj ex).1).symm
    have hlen : z64.length = 64 := rfl
    have e4 : (xs.map (·.1))[r]? = (z64.map fun n => (DataW.lit (.int .u8 n) : DataW Unit))[r]? := by rw [e3]
    rw [List.getElem?_map, List.getElem?_map, List.getElem?_eq_getElem (by omega : r < xs.length), List.getElem?_eq_getElem (by omega : r < z64.length), e2] at e4
    have hz : z = z64.getD r 0 := by
      simp only [Option.map_some, Option.some.injEq, DataW.lit.injEq, Lit.int.injEq, true_and] at e4
      rw [e4, List.getD, List.getElem?_eq_getElem (by omega : r < z64.length)]; rfl
    rw [World.var?_cell hg hv r, ← hz]
    have : cs.toList[r]? = some (.int .u8 z) := by
      have h0 : ((cs.toList.drop r).take 1)[0]? = some (.int .u8 z) := by rw [e1]; rfl
      simpa using h0
    simpa using this
  intro i c hc
  have hcc : GloK.cells[i]? = ([tab64] : List (List Value))[i]? := rfl
  rw [hcc] at hc
  cases i with
  | succ i => simp at hc
  | zero =>
    obtain rfl : tab64 = c := by simpa using hc
    have h0 := hcell 0 (by omega)
    have hinv : GloK.inv 0 = 7 := rfl
    rw [hinv]
    unfold World.cell? at h0
    dsimp only at h0
    cases hh : W.heap[7]? with
    | none => rw [hh] at h0; cases h0
    | some o =>
      rw [hh] at h0
      cases o <;> try (cases h0; done)
      rename_i rc el fz
      refine ⟨rc, el, fz, rfl, fun j v hv => ?_⟩
      have hj : j < 64 := (List.getElem?_eq_some_iff.1 hv).1
      have := hcell j hj
      unfold World.cell? at this
      dsimp only at this
      rw [hh] at this
      simp only [Option.isSome_none, Bool.false_eq_true, if_false] at this
      rw [this, ← hv]
      have e5 : tab64 = z64.map (.int .u8) := rfl
      rw [e5, List.getElem?_map, List.getD_eq_getElem?_getD]
      rw [List.getElem?_eq_getElem (show j < z64.length from hj)]
      rfl
theorem own : ownKnob Tryd.prog.godebug = none := by kernel_rfl
theorem laid : laidOutB Tryd.prog = true := by kernel_rfl
theorem par : Tryd.f4.params.toList = [31, 32] := by kernel_rfl
theorem contract (H : Type) (enc : TypeId × Value → H) (W : World) (base : Nat) (args : Array Value) (ds gs : List (DataW H)) (before : List MemPlace)
    (hval : ∀ (j : Nat) t v, Tryd.f4.params[j]? = some t → args[j]? = some v → Value.okWide Tryd.prog W .any base t v)
    (hW : DataW.Whole enc Tryd.prog Tryd.f4.params.toList Rows.etherFramesSpec.vars false W args.toList ds gs before) (hL : laidMetH Tryd.prog Rows.etherFramesRow.laid W) :
    Calls Tryd.prog 4 args W fun e W' => ∃ v, e = .returned v ∧ Rows.etherFramesSpec.post enc Tryd.prog Tryd.f4 false true false false W args v W' := by
  obtain ⟨p, q, hA, hV, _⟩ := id hW
  obtain ⟨rfl, _⟩ := trodVars_none hV
  have hA' := hA
  rw [par] at hA'
  obtain ⟨v0, vs, d0, ds', p0, q0, ea, rfl, rfl, k0, k1⟩ := trodAll_cons hA'
  obtain ⟨v1, vs', d1, ds'', p1, q1, rfl, rfl, rfl, k2, k3⟩ := trodAll_cons k1
  obtain ⟨rfl, rfl, rfl⟩ := trodAll_nil k3
  have hargs : args = #[v0, v1] := by
    cases args with
    | mk l => simpa using ea
  subst hargs
  obtain ⟨y, t, rfl, ht⟩ := opened0 (hval 0 31 v0 rfl rfl)
  have hw := tab_cells hL
  let L0 : Locs := (List.range GloK.cells.length).map fun i => (GloK.inv i, 0)
  have hl0 : L0.length = GloK.cells.length := by simp [L0]
  have hL0 : ∀ i c, GloK.cells[i]? = some c → L0[i]? = some (GloK.inv i, 0) := by
    intro i c hc
    have := (List.getElem?_eq_some_iff.1 hc).1
    simp [L0, this]
  have hgood : GoodAt W L0 GloK.cells := by
    intro i c hc
    obtain ⟨rc, el, fz, h1, h2⟩ := hw i c hc
    refine ⟨_, hL0 i c hc, rc, el, fz, h1, fun r _ => ⟨c, ?_, fun j v hv => by
      show rc[0 + j]? = some v
      rw [Nat.zero_add]; exact h2 j v hv⟩⟩
    have hp := GloK.pl c (List.mem_of_getElem? hc)
    clear h2 hc h1
    induction c with
    | nil => exact .nil
    | cons a l ih => exact .cons (plain_rel (hp a (List.mem_cons_self ..))) (ih fun v hv => hp v (List.mem_cons_of_mem _ hv))
  obtain ⟨L, bs, vs2, h1, h2, h3, h4⟩ := open_args (base := base) (g := 5) [32] [v1] [d1] _ (fun t ht => by
    obtain rfl : t = 32 := by simpa using ht
    kernel_rfl) (fun j t v ht hv => by
    cases j with
    | succ j => simp at ht
    | zero =>
      obtain rfl : 32 = t := by simpa using ht
      obtain rfl : v1 = v := by simpa using hv
      exact hval 1 32 v1 rfl rfl) k1 L0 GloK.cells hl0 hgood
  obtain ⟨v', r, rfl, h5, h6⟩ := h4
  obtain rfl : r = [] := h6
  refine (run_ro Tryd.checked.mixed (T_ok Tryd.checked.mixed) (law (GloK.cells ++ bs) y t ht v' h5) (by rw [g4]; rfl) h1 h2 (fun i c hc => ⟨by
    have := (List.getElem?_eq_some_iff.1 hc).1
    rw [List.getElem?_append_left (by omega)]; exact hL0 i c hc, by
    have := (List.getElem?_eq_some_iff.1 hc).1
    rw [List.getElem?_append_left this]; exact hc⟩) (fun r hr => .cons (plain_rel rfl) (h3 r hr))).mono fun e W' ⟨he, hb⟩ => ?_
  subst he
  exact ⟨_, rfl, law_post laid rfl rfl (t := 4) (by rfl) Tryd.underlying4 (by kernel_rfl) hW hb⟩
theorem lifted (os : Os) (started : os.Started) (H : Type) (enc : TypeId × Value → H) :
    ReturnsInHanded {} Tryd.checked os 4 .any (fun w args => (Rows.etherFramesSpec.pre enc Tryd.prog Tryd.f4 Rows.etherFramesRow.domain false w args ∧ laidMetH Tryd.prog Rows.etherFramesRow.laid w) ∧ sizedMet enc Tryd.prog Tryd.f4 (OpenSpec.ofChange Rows.etherFramesSpec) false w args)
      (Rows.etherFramesSpec.post enc Tryd.prog Tryd.f4 false true false false) := by
  refine returnsInHanded_of_change_and (C := Tryd.checked) (X := fun w _ => laidMetH Tryd.prog Rows.etherFramesRow.laid w) (fun _ _ _ hh h => h.of_heap hh) own started (by kernel_rfl) Tryd.func4
    (ChangeSpec.witness_shaped (enc := enc) (C := Tryd.checked) (os := os) (X := fun w _ => laidMetH Tryd.prog Rows.etherFramesRow.laid w) false (World.laidAll Tryd.prog os Rows.etherFramesRow.laid) #[.agg ⟨zero13⟩, .slice none 0 0] 8 (World.laidAll_os _ _ _)
      (World.shaped_of_ZipB (by kernel_rfl) (by kernel_rfl)) (by kernel_rfl) (by kernel_rfl) (by kernel_rfl)
      (by rw [MakeChecks.laidMetH_plain _ _ _ (by kernel_rfl)]; exact laidMet_laidAll _ (by kernel_rfl) (by kernel_rfl))) ?_
  intro W base args ds gs before hval0 hW hc _ hL _
  exact contract H enc W base args ds gs before hval0 hW hL
theorem holds : Rows.EtherFramesSaid :=
  OpenClaim.holds_of_wide 4 Tryd.f4 rfl rfl rfl rfl rfl rfl rfl ⟨rfl, rfl, rfl, rfl, rfl⟩ rfl rfl rfl rfl rfl (by kernel_rfl) Tryd.func4 (by kernel_rfl)
    (of_decide_eq_true (by kernel_rfl)) (by unfold Func.isWrapper; first | (rw [if_pos (by decide +kernel)]; kernel_rfl) | (rw [if_neg (by decide +kernel)]; exact ⟨rfl, rfl⟩))
    (fun os started H enc _ => lifted os started H enc)
theorem proved : Rows.EtherFramesCardSaid :=
  Claim7.holds_tied_plain_at .later [] [.data, .data, .data, .data, .sentinel, .sentinel, .pinned] true (true, "65c4d15e254e1bca4f70e706a97e9ea92529609e8790a904c037de15510e5750") true holds (fun _ h => by cases h) (by kernel_rfl) (fun _ h => by cases h) etherFrames_row_tie rfl ⟨rfl, rfl⟩ (by kernel_rfl) rfl
    (fun f fn hf hfn => by
      obtain rfl : f = 4 := Option.some.inj ((show Tryd.prog.funcNamed "weighbridge/weighbridgelaw02.EtherFrames" = some 4 by kernel_rfl).symm.trans hf) |>.symm
      obtain rfl : fn = Tryd.f4 := (Option.some.inj (Tryd.func4.symm.trans hfn)).symm
      exact ⟨by kernel_rfl, fun j t ht => by
        have hm : t ∈ [31, 32] := by
          have := Array.mem_of_getElem? ht
          rw [← par]
          simpa using this
        have hall : ([31, 32].all fun u => !Tryd.prog.wantsStandIn u) = true := by kernel_rfl
        exact (show Tryd.prog.wantsStandIn t = false by simpa using List.all_eq_true.1 hall t hm)⟩)
    (by kernel_rfl)
#print axioms proved
end Go.Proofs.YtmepokefmpcnnaaDoor.EtherFrames
