/- The engine: that function, whole. -/
import Derived.Test.YtminohpmjajfgaaGreatDoorEngMd2
set_option linter.unusedSimpArgs false
set_option linter.unusedVariables false
namespace Go.Wb
set_option linter.unusedSectionVars false
variable [GloK]
variable {P : Program}
theorem swNo_fr : ∀ t a, Framed (swNo t a) := fun _ _ => Framed.fail
def swL2 (off : Nat) : List AInstr :=
  [⟨some 14, none, .mov (.tmp 0)⟩, ⟨some 15, none, .nilchk (.tmp 14)⟩, ⟨some 16, none, .fldA 0 (.tmp 15)⟩, ⟨some 17, none, .fldA off (.tmp 16)⟩, ⟨some 18, none, .ixAA 4 1 (.tmp 17) (.const (.int .i64 0))⟩,
    ⟨some 19, none, .load .one (.tmp 18)⟩, ⟨some 20, none, .bin .gtr (.tmp 19) (.const (.int .u32 0))⟩, ⟨some 4, none, .mov (.tmp 20)⟩]
theorem nil_of_log {D : List (Nat × Bool)} {l : List (Nat × Bool)} (h : l = D ++ l) : D = [] := List.append_cancel_right (h.symm.trans (List.nil_append l).symm : D ++ l = [] ++ l)
section
variable {f : FuncId} {fn : Func} {i0 i1 i2 : Nat} {ops0 ops1 ops2 : Array Oper} {tm kt el : TypeId} {k1 k2 : ByteArray} {v1 v2 : Int} {off : Nat}
theorem sw_ok (hmix : P.follows .mixedOrders = true) (hf : P.funcs[f]? = some fn) (hname : fn.name ≠ "runtime.NumGoroutine") (hbody : fn.body = some (.seq (.region i0 ops0 false) (.seq (.region i1 ops1 true) (.seq (.region i2 ops2 false) .ret))))
    (hnt : fn.ntmps = 21) (hres : compRes P fn.results.toList = some [.tmp 4])
    (hm : P.underlying tm = some (.map kt el)) (hk : keyKind P kt = some (.one 2)) (hz : zeroV P el = some (.int .u32 0)) (hne : (k1.data.toList == k2.data.toList) = false)
    (hc0 : compInstrs P 21 ops0 ops0.toList = some [⟨some 4, none, .mov (.const (.bool false))⟩]) (hc1 : compInstrs P 21 ops1 ops1.toList = some (swL1 k1 k2 v1 v2 off)) (hc2 : compInstrs P 21 ops2 ops2.toList = some (swL2 off))
    (hord : orderOk ops1 = true) (hmask : (Region.before ops1).toList = [0, 0, 2, 2, 14, 0, 62, 1, 129, 385, 1023, 2047])
    (f1 : (ops1[1]?).map (·.op) = some (.makeMap tm none)) (f2 : (ops1[2]?).map (·.op) = some (.insert tm (.tmp 6) (.const (.string k1)) (.const (.int .u32 v1))))
    (f3 : (ops1[3]?).map (·.op) = some (.insert tm (.tmp 6) (.const (.string k2)) (.const (.int .u32 v2)))) (f4 : (ops1[4]?).map (·.op) = some (.move (.tmp 6))) (f6 : (ops1[6]?).map (·.op) = some (.lookup tm (.tmp 7) (.tmp 8) false)) :
    ExtOk P f (.sw off k1 k2 v1 v2) := by
  intro args v S S' h r w hr hfr args' ha fc cs
  have hform : ∃ p s, args = [.pointer (some p), .string s] := by
    generalize hk : XK.sw off k1 k2 v1 v2 = k at h
    unfold extA at h
    split at h
    all_goals first | exact ⟨_, _, rfl⟩ | exact (M.fail_some.1 h).elim | cases hk
  obtain ⟨p, s, rfl⟩ := hform
  have hpsp : p.spot = none := by
    have h2 := ha
    generalize args'.toList = L at h2
    cases h2 with
    | cons hx _ => cases hx; rfl
  obtain ⟨b, o, sp⟩ := p
  obtain rfl : sp = none := hpsp
  simp only [extA, M.bind_some, rd_some, M.pure_some] at h
  obtain ⟨_, S1, hst, ob, _, ⟨hob, rfl⟩, rfl, rfl⟩ := h
  have hS1 : ∃ x t c, S1 = { heap := S.heap.set b (some (.cells x t (splice c (o + off) [.int .u32 (swV k1 k2 v1 v2 s)]))), next := S.next, log := (b, true) :: (b, false) :: S.log } ∧ o + off + 1 ≤ c.length := by
    have hst := hst
    simp only [stCells, M.bind_some, rd_some] at hst
    obtain ⟨ob, S2, ⟨h4, rfl⟩, h5⟩ := hst
    split at h5
    · rename_i x t c
      split at h5
      · rename_i hl
        simp only [wr_some] at h5
        exact ⟨x, t, c, h5.symm ▸ rfl, by simpa using hl.1⟩
      · exact (M.fail_some.1 h5).elim
    · exact (M.fail_some.1 h5).elim
  obtain ⟨x, t, c, hS1, hlen⟩ := hS1
  have hcell : S1.heap.get b = some (.cells x t (splice c (o + off) [.int .u32 (swV k1 k2 v1 v2 s)])) := by rw [hS1]; exact Tr.get_set_same _ _ _
  have hread : (splice c (o + off) [.int .u32 (swV k1 k2 v1 v2 s)])[o + off]? = some (.int .u32 (swV k1 k2 v1 v2 s)) := by
    rw [splice_eq _ _ _ (by simpa using hlen)]
    simp only [setAll]
    rw [List.getElem?_set_self (by omega)]
  have hnx : S1.next = S.next := by rw [hS1]
  -- it is entered
  have hent : Frame.enter P f args' .normal = Fr f none (args' ++ Array.replicate (fn.ntmps - args'.size) undef) [] [.code (.seq (.region i0 ops0 false) (.seq (.region i1 ops1 true) (.seq (.region i2 ops2 false) .ret)))] := by
    simp [Frame.enter, hf, hbody, Fr]
  have has : args'.size = 2 := by
    have := ha.length
    rw [← Array.length_toList, ← this]; rfl
  have hE : EnvRel r (argsEnv [.pointer (some ⟨b, o, none⟩), .string s] 0 .leaf) (args' ++ Array.replicate (fn.ntmps - args'.size) undef) := by
    refine argsEnv_ok ha 0 .leaf _ ⟨fun t v hv => by rw [Tr.get_leaf] at hv; simp at hv, hr.glo.glo⟩ fun j v hv => ?_
    have hj : j < args'.size := by simpa using (List.getElem?_eq_some_iff.1 hv).1
    rw [Nat.zero_add, Array.getElem?_append_left hj, ← Array.getElem?_toList]
    exact hv
  generalize htm : args' ++ Array.replicate (fn.ntmps - args'.size) undef = tmps at hent hE
  have hts : tmps.size = 21 := by rw [← htm, hnt, has]; simp [has]
  generalize he0 : argsEnv [.pointer (some ⟨b, o, none⟩), .string s] 0 .leaf = e0 at hE
  have g0 : e0.get 0 = some (.pointer (some ⟨b, o, none⟩)) := by
    rw [← he0]; simp only [argsEnv]; rw [Tr.get_set_ne _ _ (by omega)]; exact Tr.get_set_same _ _ _
  have g1 : e0.get 1 = some (.string s) := by rw [← he0]; simp only [argsEnv]; exact Tr.get_set_same _ _ _
  -- the first region
  have hrun0 : instrs swNo [⟨some 4, none, .mov (.const (.bool false))⟩] e0 S = some (e0.set 4 (some (.bool false)), S) := by
    simp only [instrs, instr, exec, Atom.ev, M.bind, M.lift, M.pure, putD]
  have noFr : ∀ {r : Ren} {S : St}, Fresh r S S := fun id a b => by omega
  obtain ⟨D0, ra, wa, tmpsa, a1, a2, a3, a4⟩ := instrs_ok swNo_ok swNo_fr ops0.toList 0 _ e0 S r w tmps hc0 (fun j q hj => by simpa using hj) hrun0 (by omega) hr hE noFr f none [] (.code (.seq (.region i1 ops1 true) (.seq (.region i2 ops2 false) .ret)) :: []) (fc :: cs)
  obtain rfl := nil_of_log a1.log
  have ha0 : Has ra tmpsa 0 (.pointer (some ⟨b, o, none⟩)) := a2.at_ 0 _ (by rw [Tr.get_set_ne _ _ (by omega)]; exact g0)
  have ha1 : Has ra tmpsa 1 (.string s) := a2.at_ 1 _ (by rw [Tr.get_set_ne _ _ (by omega)]; exact g1)
  -- the region that draws
  have hdr : Drew wa { wa with drawn := wa.drawn + 1 } := ⟨rfl, rfl, rfl, rfl⟩
  have a5 := a1.trans (S2 := S) noFr hr (sim_drew a1.rel hdr)
  have hra : Rel P ra S { wa with drawn := wa.drawn + 1 } := a5.rel
  have hfr1 : ∀ id, S.next ≤ id → id < S1.next → ¬ ra.dom id := fun id a c => by omega
  have hsz12 : ops1.size = 12 := by
    have := (compInstrs_at hc1).1
    simpa [swL1] using this.symm
  have hnone : ∀ i : Nat, ¬ ((Array.replicate ops1.size false)[i]? = some true) := by
    intro i c
    rw [Array.getElem?_replicate] at c
    split at c <;> simp at c
  obtain ⟨tmpsb, wb, b1, b2⟩ := lin_go (P := P) (orderOk_ok hord) (fn := f) (ro := none) (ds := []) (k0 := .code (.seq (.region i2 ops2 false) .ret) :: []) (cs := fc :: cs)
    (fun X tmps w i q rest hin hI hni hq hpre => sw_step hm hk hz hne hc1 hord hmask f1 f2 f3 f4 f6 hra hst hfr1 f none [] _ _ X tmps w i q rest hin hI hni hq hpre)
    ops1.size (wa.tape wa.drawn (.order f i1)) (Array.replicate ops1.size false) tmpsa { wa with drawn := wa.drawn + 1 } (by simp) (by
      have := List.length_filter_le (fun i => decide ((Array.replicate ops1.size false)[i]? ≠ some true)) (List.range ops1.size)
      simpa using this)
    ⟨fun i q hi => absurd hi (hnone i), by rw [a3]; exact hts, .inl ⟨hnone 11, ra, Sim.refl hra, ha0, ha1, fun x hx hX => absurd hX (hnone x.1), fun hX => absurd hX (hnone 1)⟩⟩
  have hb11 : (11 : Nat) < ops1.size := by omega
  obtain ⟨rb, b3, b4⟩ : ∃ r', Sim P [(b, true), (b, false)] ra S { wa with drawn := wa.drawn + 1 } r' S1 wb ∧ Has r' tmpsb 0 (.pointer (some ⟨b, o, none⟩)) := by
    rcases b1.state with ⟨h1, _⟩ | ⟨_, h2⟩
    · exact absurd hb11 h1
    · exact h2
  -- the last one
  have hEb := env1_rel b4 b3.rel.glo.glo
  let e2 : Env := (((((((env1 0 (.pointer (some ⟨b, o, none⟩))).set 14 (some (.pointer (some ⟨b, o, none⟩)))).set 15 (some (.pointer (some ⟨b, o, none⟩)))).set 16 (some (.pointer (some ⟨b, o + 0, none⟩)))).set 17 (some (.pointer (some ⟨b, o + 0 + off, none⟩)))).set 18 (some (.pointer (some ⟨b, o + 0 + off + 0, none⟩)))).set 19 (some (.int .u32 (swV k1 k2 v1 v2 s)))).set 20 (some (.bool (decide (swV k1 k2 v1 v2 s > 0))))
  have hrun2 : instrs swNo (swL2 off) (env1 0 (.pointer (some ⟨b, o, none⟩))) S1 = some (e2.set 4 (some (.bool (decide (swV k1 k2 v1 v2 s > 0)))), { heap := S1.heap, next := S1.next, log := (b, false) :: S1.log }) := by
    have hrd : (splice c (o + off) [.int .u32 (swV k1 k2 v1 v2 s)])[o + 0 + off + 0]? = some (.int .u32 (swV k1 k2 v1 v2 s)) := hread
    have i1 : ∀ (e : Env) (u : Value), e.get 0 = some u → instr swNo ⟨some 14, none, .mov (.tmp 0)⟩ e S1 = some (e.set 14 (some u), S1) := by
      intro e u h; simp only [instr, exec, Atom.ev, h, M.bind, M.lift, M.pure, putD]
    simp only [swL2, instrs, M.bind, i1 _ _ (env1_get _ _)]
    simp only [instr, exec, Atom.ev, M.bind, M.lift, M.pure, putD, Tr.get_set_same]
    simp only [Int.toNat_zero, Nat.zero_mul, Int.le_refl, true_and, Option.bind_some, asInt]
    have h4 : (0 : Int) < ((4 : Nat) : Int) := by decide
    have hbv : binV .gtr (.int .u32 (swV k1 k2 v1 v2 s)) (.int .u32 0) = some (.bool (decide (swV k1 k2 v1 v2 s > 0))) := by simp [binV]
    simp only [if_pos h4, M.pure, Tr.get_set_same, ld1, M.bind, rd, hcell, M.lift, hrd, hbv]
    rfl
  have noFr2 : ∀ {r : Ren} {T : St}, T.next = S1.next → Fresh r S1 T := fun h id a b => by omega
  obtain ⟨D2, rc, wc, tmpsc, c1, c2, c3, c4⟩ := instrs_ok swNo_ok swNo_fr ops2.toList 0 _ (env1 0 (.pointer (some ⟨b, o, none⟩))) S1 rb wb tmpsb hc2 (fun j q hj => by simpa using hj) hrun2 (by rw [b1.size]; exact Nat.le_refl _) b3.rel hEb (noFr2 rfl) f none [] (.code .ret :: []) (fc :: cs)
  have hD2 : D2 = [(b, false)] := List.append_cancel_right (c1.log.symm.trans (rfl : _ = [(b, false)] ++ S1.log))
  subst hD2
  have hres2 : resAll (e2.set 4 (some (.bool (decide (swV k1 k2 v1 v2 s > 0))))) [.tmp 4] { heap := S1.heap, next := S1.next, log := (b, false) :: S1.log } = some ([.bool (decide (swV k1 k2 v1 v2 s > 0))], { heap := S1.heap, next := S1.next, log := (b, false) :: S1.log }) := by
    simp only [resAll, resV, M.bind, M.lift, Tr.get_set_same, M.pure]
  obtain ⟨D3, v', m1, m2, m3, m4⟩ := results_ok hres hres2 c1.rel c2
  have d1 := a5.trans (S2 := S1) (fun id a c => by omega) hr b3
  have d2 := d1.trans (S2 := { heap := S1.heap, next := S1.next, log := (b, false) :: S1.log }) (fun id a c => by have : S1.next = S.next := hnx; simp only at c; omega) hr c1
  have d3 := d2.trans (S2 := { heap := S1.heap, next := S1.next, log := (b, false) :: S1.log }) (fun id a c => by have : S1.next = S.next := hnx; simp only at c; omega) hr m2
  refine ⟨_, rc, wc, v', d3, m1, .inr (.inr (.inl ⟨f, args', by simp [callFunc, hf, hname, hbody], ?_⟩))⟩
  rw [hent]
  have s0 := a4
  rw [← List.range_eq_range', Array.length_toList] at s0
  have s2 := c4
  rw [← List.range_eq_range', Array.length_toList] at s2
  have b2' : Steps P (lone (Fr f none tmpsa [] (.inRegion ops1 (Region.linearise .any ops1 (wa.tape wa.drawn (.order f i1))) :: .code (.seq (.region i2 ops2 false) .ret) :: [])) (fc :: cs) { wa with drawn := wa.drawn + 1 }) (lone (Fr f none tmpsb [] (.code (.seq (.region i2 ops2 false) .ret) :: [])) (fc :: cs) wb) := b2
  have fin : Steps P (lone (Fr f none tmps [] [.code (.seq (.region i0 ops0 false) (.seq (.region i1 ops1 true) (.seq (.region i2 ops2 false) .ret)))]) (fc :: cs) w) (lone { Fr f none tmpsc [] (.code .ret :: []) with mode := .returning } (fc :: cs) wc) :=
    .head st_seq (.head st_region (s0.trans (.head st_seq (.head (st_draw hmix) (b2'.trans (.head st_seq (.head st_region (s2.trans (.one st_end_ret)))))))))
  exact fin.trans (.one (step_leave_returned ⟨rfl, rfl, rfl, fn, hf, m4⟩))
end
end Go.Wb
