/- The engine: that function's region, in any order. -/
import Derived.Test.YtminohpmjajfgaaGreatDoorEngMd
set_option linter.unusedSimpArgs false
set_option linter.unusedVariables false
namespace Go.Wb
set_option linter.unusedSectionVars false
variable [GloK]
variable {P : Program}
section
variable {ops1 : Array Oper} {tm kt el : TypeId} {k1 k2 : ByteArray} {v1 v2 : Int} {off b o : Nat} {s : ByteArray} {r0 : Ren} {S S1 : St} {w0 : World}
/-- one operation more -/
theorem sw_step (hm : P.underlying tm = some (.map kt el)) (hk : keyKind P kt = some (.one 2)) (hz : zeroV P el = some (.int .u32 0)) (hne : (k1.data.toList == k2.data.toList) = false)
    (hc1 : compInstrs P 21 ops1 ops1.toList = some (swL1 k1 k2 v1 v2 off)) (hord : orderOk ops1 = true) (hmask : (Region.before ops1).toList = [0, 0, 2, 2, 14, 0, 62, 1, 129, 385, 1023, 2047])
    (f1 : (ops1[1]?).map (·.op) = some (.makeMap tm none)) (f2 : (ops1[2]?).map (·.op) = some (.insert tm (.tmp 6) (.const (.string k1)) (.const (.int .u32 v1))))
    (f3 : (ops1[3]?).map (·.op) = some (.insert tm (.tmp 6) (.const (.string k2)) (.const (.int .u32 v2)))) (f4 : (ops1[4]?).map (·.op) = some (.move (.tmp 6))) (f6 : (ops1[6]?).map (·.op) = some (.lookup tm (.tmp 7) (.tmp 8) false))
    (hr : Rel P r0 S w0) (hst : stCells b (o + off) [.int .u32 (swV k1 k2 v1 v2 s)] S = some ((), S1)) (hfr : ∀ id, S.next ≤ id → id < S1.next → ¬ r0.dom id)
    (fn : FuncId) (ro : Option Nat) (ds : List Deferred) (k0 : List Item) (cs : List Frame)
    (X : Nat → Prop) (tmps : Array Value) (w : World) (i : Nat) (q : Oper) (rest : List Nat) (hin : ∀ j, X j → j < ops1.size)
    (MI : SwInv P ops1 r0 S S1 w0 b o off s (swV k1 k2 v1 v2 s) (.string k1, .int .u32 v1) (.string k2, .int .u32 v2) X tmps w) (hni : ¬ X i) (ho : ops1[i]? = some q) (hpre : ∀ e ∈ q.after.toList, Region.binds .any e = true → X e.on) :
    ∃ tmps' w', SwInv P ops1 r0 S S1 w0 b o off s (swV k1 k2 v1 v2 s) (.string k1, .int .u32 v1) (.string k2, .int .u32 v2) (fun k => X k ∨ k = i) tmps' w' ∧
      Steps P (lone (Fr fn ro tmps ds (.inRegion ops1 (i :: rest) :: k0)) cs w) (lone (Fr fn ro tmps' ds (.inRegion ops1 rest :: k0)) cs w') := by
  have Ho := orderOk_ok hord
  have hsz : ops1.size = 12 := by
    have := (compInstrs_at hc1).1
    simpa [swL1] using this.symm
  have hi : i < 12 := by rw [← hsz]; exact (Array.getElem?_eq_some_iff.1 ho).1
  have hbit : ∀ j, (Region.before ops1).getD j 0 = ([0, 0, 2, 2, 14, 0, 62, 1, 129, 385, 1023, 2047] : List Nat).getD j 0 := by
    intro j; rw [← hmask]; simp [Array.getD_eq_getD_getElem?, List.getD]
  have hpr : ∀ j, (([0, 0, 2, 2, 14, 0, 62, 1, 129, 385, 1023, 2047] : List Nat).getD i 0).testBit j = true → X j := by
    intro j hj; rw [← hbit] at hj; exact preds_of Ho hin MI.closed i q ho hpre j hj
  have hprX : ∀ n, X n → ∀ j, (([0, 0, 2, 2, 14, 0, 62, 1, 129, 385, 1023, 2047] : List Nat).getD n 0).testBit j = true → X j := by
    intro n hn j hj
    obtain ⟨qn, hop⟩ : ∃ qn, ops1[n]? = some qn := ⟨ops1[n]'(hin n hn), by simp [hin n hn]⟩
    rw [← hbit] at hj
    exact preds_of Ho hin MI.closed n _ hop (fun e he hb => MI.closed n _ hn hop e he hb) j hj
  obtain ⟨ai, hai, hcomp⟩ := (compInstrs_at hc1).2 i q (by simpa using ho)
  have closed' : ∀ i' q', (X i' ∨ i' = i) → ops1[i']? = some q' → ∀ e ∈ q'.after.toList, Region.binds .any e = true → (X e.on ∨ e.on = i) := by
    rintro i' q' (hx | rfl) hq' e he hb
    · exact .inl (MI.closed i' q' hx hq' e he hb)
    · rw [ho] at hq'; cases hq'; exact .inl (hpre e he hb)
  rcases MI.state with ⟨h11, r, hs, hp0, hp1, hdf, hbag⟩ | ⟨h11, _⟩
  rotate_left
  · exfalso
    have : ∀ j, j < 11 → X j := fun j hj => hprX 11 h11 j (by match j, hj with | 0, _ => rfl | 1, _ => rfl | 2, _ => rfl | 3, _ => rfl | 4, _ => rfl | 5, _ => rfl | 6, _ => rfl | 7, _ => rfl | 8, _ => rfl | 9, _ => rfl | 10, _ => rfl)
    by_cases h : i = 11
    · subst h; exact hni h11
    · exact hni (this i (by omega))
  have hsz21 := MI.size
  -- what is pure, of one name
  have normal : ∀ (d t : Nat) (u v : Value) (aop : AOp), compInstr P 21 ops1 q = some ⟨some d, none, aop⟩ → Has r tmps t u → exec swNo (env1 t u) aop S = some (v, S) → i ≠ 11 → i ≠ 1 → i ≠ 2 → i ≠ 3 → i ≠ 4 → d < 21 → d ≠ 0 → d ≠ 1 → d ≠ 6 → d ≠ 7 →
      (∀ x ∈ swDefs b o off s (swV k1 k2 v1 v2 s), x.1 = i ∨ x.2.1 = d → x = (i, d, v)) →
      ∃ tmps' w', SwInv P ops1 r0 S S1 w0 b o off s (swV k1 k2 v1 v2 s) (.string k1, .int .u32 v1) (.string k2, .int .u32 v2) (fun k => X k ∨ k = i) tmps' w' ∧
        Steps P (lone (Fr fn ro tmps ds (.inRegion ops1 (i :: rest) :: k0)) cs w) (lone (Fr fn ro tmps' ds (.inRegion ops1 rest :: k0)) cs w') := by
    intro d t u v aop hc hu he n11 n1 n2 n3 n4 hd d0 d1 d6 d7 huniq
    obtain ⟨r', w', v', g1, g2, g3, g4, g5, g6⟩ := nstep hr hs ho hc hu he fn ro ds rest k0 cs
    refine ⟨_, w', ⟨closed', by simp [hsz21], .inl ⟨fun c => c.elim h11 (fun e => n11 e.symm), r', g1, (hp0.mono g3).other d0, (hp1.mono g3).other d1, fun x hx hX => ?_, fun hX1 => ?_⟩⟩, g6⟩
    · by_cases hxi : x.1 = i
      · have := huniq x hx (.inl hxi)
        subst this
        exact has_put (by rw [hsz21]; exact hd) g2
      · have hxX : X x.1 := hX.resolve_right hxi
        exact ((hdf x hx hxX).mono g3).other fun e => hxi (by rw [huniq x hx (.inr e.symm)])
    · obtain ⟨B, es, cl, q1, q2, q3, q4, q5, q6⟩ := hbag (hX1.resolve_right fun e => n1 e.symm)
      have hB := (Array.getElem?_eq_some_iff.1 q4).1
      obtain ⟨q7, q8⟩ := g5 B hB q5
      refine ⟨B, es, cl, by rw [Array.getElem?_setIfInBounds, if_neg d6]; exact q1, fun h4 => by rw [Array.getElem?_setIfInBounds, if_neg d7]; exact q2 (h4.resolve_right fun e => n4 e.symm), q3, by rw [q7]; exact q4, q8, ?_⟩
      rw [or_eq (fun e => n2 e.symm), or_eq (fun e => n3 e.symm)]
      exact q6
  have hgd : q.guard = none ∧ ∀ c, q.op ≠ .defer c := by
    have hnd := comp_noDefer (compInstr_some hcomp).2.1
    refine ⟨?_, hnd⟩
    rcases (compInstr_some hcomp).2.2.2 with ⟨h, _⟩ | ⟨_, _, _, _, _, _, _, h⟩
    · exact h
    · exfalso
      have : ∀ a ∈ swL1 k1 k2 v1 v2 off, a.guard = none := by
        intro a ha
        simp only [swL1, List.mem_cons, List.not_mem_nil, or_false] at ha
        rcases ha with rfl | rfl | rfl | rfl | rfl | rfl | rfl | rfl | rfl | rfl | rfl | rfl <;> rfl
      rw [this ai (List.mem_of_getElem? hai)] at h
      cases h
  have hwant : Region.wanted q (yielded ops1 tmps) = true := by simp [Region.wanted, hgd.1]
  have hdst := (compInstr_some hcomp).1
  have step : ∀ {v' : Value} {w' : World}, ((execOp (evT tmps) q).run P w = .ok (.value v') w' ∨ ((execOp (evT tmps) q).run P w = .ok .skip w' ∧ v' = undef)) →
      Steps P (lone (Fr fn ro tmps ds (.inRegion ops1 (i :: rest) :: k0)) cs w) (lone (Fr fn ro (putT tmps q.dst v') ds (.inRegion ops1 rest :: k0)) cs w') := by
    intro v' w' h
    exact steps_oper ho hwant hgd.2 (h.elim .inl fun h => .inr (.inl h))
  have mem2 : ∀ {t : Nat} {u : Value}, Has r tmps t u → ∃ v', tmps[t]? = some v' ∧ VRel r u v' := fun h => h
  -- an entry put in
  have put : ∀ (kk : ByteArray) (vv : Int) (g : (q.op = .insert tm (.tmp 6) (.const (.string kk)) (.const (.int .u32 vv)))) (hdn : q.dst = none) (hX1 : X 1)
      (hfk : ∀ {es : Array MapEntry}, Bag (.string k1, .int .u32 v1) (.string k2, .int .u32 v2) (X 2) (X 3) (kv es) → ∃ ms, MRel r ms es.toList ∧ findK (.one 2) (.string kk) ms 0 = some none)
      (hbg : ∀ {es : Array MapEntry} (n : Nat), Bag (.string k1, .int .u32 v1) (.string k2, .int .u32 v2) (X 2) (X 3) (kv es) → Bag (.string k1, .int .u32 v1) (.string k2, .int .u32 v2) (X 2 ∨ 2 = i) (X 3 ∨ 3 = i) (kv (es.push ⟨.string kk, .int .u32 vv, n⟩)))
      (n11 : i ≠ 11) (n1 : i ≠ 1) (n4 : i ≠ 4) (hnd : ∀ x ∈ swDefs b o off s (swV k1 k2 v1 v2 s), x.1 ≠ i),
      ∃ tmps' w', SwInv P ops1 r0 S S1 w0 b o off s (swV k1 k2 v1 v2 s) (.string k1, .int .u32 v1) (.string k2, .int .u32 v2) (fun k => X k ∨ k = i) tmps' w' ∧
        Steps P (lone (Fr fn ro tmps ds (.inRegion ops1 (i :: rest) :: k0)) cs w) (lone (Fr fn ro tmps' ds (.inRegion ops1 rest :: k0)) cs w') := by
    intro kk vv g hdn hX1 hfk hbg n11 n1 n4 hnd
    obtain ⟨B, es, cl, q1, q2, q3, q4, q5, q6⟩ := hbag hX1
    obtain ⟨ms, hms, hf⟩ := hfk q6
    have hrun := run_put (r := r) hm hk g (tmp_at q1) q4 hms hf
    have hup := map_upd q4 (.map (es.push { key := .string kk, val := .int .u32 vv, born := cl }) (cl + 1))
    have hs2 := sim_beside hr hs hup.beside q5 (.inl q3)
    have hst2 := step (.inr ⟨hrun, rfl⟩)
    rw [hdn] at hst2
    refine ⟨tmps, _, ⟨closed', hsz21, .inl ⟨fun c => c.elim h11 (fun e => n11 e.symm), r, hs2, hp0, hp1, fun x hx hX => hdf x hx (hX.resolve_right (hnd x hx)), fun _ => ?_⟩⟩, hst2⟩
    exact ⟨B, _, _, q1, fun h4 => q2 (h4.resolve_right fun e => n4 e.symm), q3, hup.here, q5, hbg cl q6⟩
  have defs_ne : ∀ (j : Nat), j = 1 ∨ j = 2 ∨ j = 3 ∨ j = 4 → ∀ x ∈ swDefs b o off s (swV k1 k2 v1 v2 s), x.1 ≠ j := by
    intro j hj x hx
    simp only [swDefs, List.mem_cons, List.not_mem_nil, or_false] at hx
    rcases hx with rfl | rfl | rfl | rfl | rfl | rfl | rfl <;> simp only <;> omega
  have defs_6 : ∀ x ∈ swDefs b o off s (swV k1 k2 v1 v2 s), ¬ (x.2.1 = 6 ∨ x.2.1 = 7) := by
    intro x hx
    simp only [swDefs, List.mem_cons, List.not_mem_nil, or_false] at hx
    rcases hx with rfl | rfl | rfl | rfl | rfl | rfl | rfl <;> simp
  have kvp : ∀ (es : Array MapEntry) (a c : Value) (n : Nat), kv (es.push ⟨a, c, n⟩) = kv es ++ [(a, c)] := by intro es a c n; simp [kv]
  have hne2 : (k2.data.toList == k1.data.toList) = false := by
    cases h : k2.data.toList == k1.data.toList with
    | false => rfl
    | true => rw [beq_iff_eq] at h; rw [h] at hne; simp at hne
  match i, hi with
  | 0, _ =>
    obtain rfl : ai = ⟨some 5, none, .mov (.tmp 0)⟩ := by simpa [swL1] using hai.symm
    refine normal 5 0 _ (.pointer (some ⟨b, o, none⟩)) _ hcomp hp0 (by simp only [exec, Atom.ev, env1_get]; rfl) (by omega) (by omega) (by omega) (by omega) (by omega) (by omega) (by omega) (by omega) (by omega) (by omega) ?_
    intro x hx
    simp only [swDefs, List.mem_cons, List.not_mem_nil, or_false] at hx
    rcases hx with rfl | rfl | rfl | rfl | rfl | rfl | rfl <;> simp
  | 5, _ =>
    obtain rfl : ai = ⟨some 8, none, .mov (.tmp 1)⟩ := by simpa [swL1] using hai.symm
    refine normal 8 1 _ (.string s) _ hcomp hp1 (by simp only [exec, Atom.ev, env1_get]; rfl) (by omega) (by omega) (by omega) (by omega) (by omega) (by omega) (by omega) (by omega) (by omega) (by omega) ?_
    intro x hx
    simp only [swDefs, List.mem_cons, List.not_mem_nil, or_false] at hx
    rcases hx with rfl | rfl | rfl | rfl | rfl | rfl | rfl <;> simp
  | 7, _ =>
    obtain rfl : ai = ⟨some 10, none, .nilchk (.tmp 5)⟩ := by simpa [swL1] using hai.symm
    have hx0 := hdf (0, 5, _) (by simp [swDefs]; rfl) (hpr 0 rfl)
    refine normal 10 5 _ (.pointer (some ⟨b, o, none⟩)) _ hcomp hx0 (by simp only [exec, Atom.ev, env1_get]; rfl) (by omega) (by omega) (by omega) (by omega) (by omega) (by omega) (by omega) (by omega) (by omega) (by omega) ?_
    intro x hx
    simp only [swDefs, List.mem_cons, List.not_mem_nil, or_false] at hx
    rcases hx with rfl | rfl | rfl | rfl | rfl | rfl | rfl <;> simp
  | 8, _ =>
    obtain rfl : ai = ⟨some 11, none, .fldA 0 (.tmp 10)⟩ := by simpa [swL1] using hai.symm
    have hx0 := hdf (7, 10, _) (by simp [swDefs]; rfl) (hpr 7 rfl)
    refine normal 11 10 _ (.pointer (some ⟨b, o + 0, none⟩)) _ hcomp hx0 (by simp only [exec, Atom.ev, env1_get]; rfl) (by omega) (by omega) (by omega) (by omega) (by omega) (by omega) (by omega) (by omega) (by omega) (by omega) ?_
    intro x hx
    simp only [swDefs, List.mem_cons, List.not_mem_nil, or_false] at hx
    rcases hx with rfl | rfl | rfl | rfl | rfl | rfl | rfl <;> simp
  | 9, _ =>
    obtain rfl : ai = ⟨some 12, none, .fldA off (.tmp 11)⟩ := by simpa [swL1] using hai.symm
    have hx0 := hdf (8, 11, _) (by simp [swDefs]; rfl) (hpr 8 rfl)
    refine normal 12 11 _ (.pointer (some ⟨b, o + 0 + off, none⟩)) _ hcomp hx0 (by simp only [exec, Atom.ev, env1_get]; rfl) (by omega) (by omega) (by omega) (by omega) (by omega) (by omega) (by omega) (by omega) (by omega) (by omega) ?_
    intro x hx
    simp only [swDefs, List.mem_cons, List.not_mem_nil, or_false] at hx
    rcases hx with rfl | rfl | rfl | rfl | rfl | rfl | rfl <;> simp
  | 10, _ =>
    obtain rfl : ai = ⟨some 13, none, .ixAA 4 1 (.tmp 12) (.const (.int .i64 0))⟩ := by simpa [swL1] using hai.symm
    have hx0 := hdf (9, 12, _) (by simp [swDefs]; rfl) (hpr 9 rfl)
    refine normal 13 12 _ (.pointer (some ⟨b, o + 0 + off + 0, none⟩)) _ hcomp hx0 (by simp only [exec, Atom.ev, env1_get]; rfl) (by omega) (by omega) (by omega) (by omega) (by omega) (by omega) (by omega) (by omega) (by omega) (by omega) ?_
    intro x hx
    simp only [swDefs, List.mem_cons, List.not_mem_nil, or_false] at hx
    rcases hx with rfl | rfl | rfl | rfl | rfl | rfl | rfl <;> simp
  | 2, _ =>
    obtain rfl : ai = ⟨none, none, .mset (.one 2) (.tmp 6) (.const (.string k1)) (.const (.int .u32 v1))⟩ := by simpa [swL1] using hai.symm
    rw [ho] at f2
    refine put k1 v1 (by simpa using f2) hdst.symm (hpr 1 rfl) (fun {es} hb => ?_) (fun {es} n hb => ?_) (by omega) (by omega) (by omega) (defs_ne 2 (by omega))
    · by_cases h3 : X 3
      · obtain ⟨n, rfl⟩ := kv_one (hb.two hni h3)
        exact ⟨[⟨.string k2, .int .u32 v2, n⟩], .cons (.string _) (.int _ _) rfl .nil, by simp [findK, eqKey, eqCell, hne]⟩
      · obtain rfl := kv_nil (hb.none hni h3)
        exact ⟨[], .nil, rfl⟩
    · rw [or_self_eq, or_eq (by omega : (3 : Nat) ≠ 2), kvp]
      refine ⟨fun h => absurd trivial h, fun _ h3 => by rw [hb.none hni h3]; rfl, fun h => absurd trivial h, fun _ h3 => .inr (by rw [hb.two hni h3]; rfl)⟩
  | 3, _ =>
    obtain rfl : ai = ⟨none, none, .mset (.one 2) (.tmp 6) (.const (.string k2)) (.const (.int .u32 v2))⟩ := by simpa [swL1] using hai.symm
    rw [ho] at f3
    refine put k2 v2 (by simpa using f3) hdst.symm (hpr 1 rfl) (fun {es} hb => ?_) (fun {es} n hb => ?_) (by omega) (by omega) (by omega) (defs_ne 3 (by omega))
    · by_cases h2 : X 2
      · obtain ⟨n, rfl⟩ := kv_one (hb.one h2 hni)
        exact ⟨[⟨.string k1, .int .u32 v1, n⟩], .cons (.string _) (.int _ _) rfl .nil, by simp [findK, eqKey, eqCell, hne2]⟩
      · obtain rfl := kv_nil (hb.none h2 hni)
        exact ⟨[], .nil, rfl⟩
    · rw [or_self_eq, or_eq (by omega : (2 : Nat) ≠ 3), kvp]
      refine ⟨fun _ h => absurd trivial h, fun _ h => absurd trivial h, fun h2 _ => by rw [hb.none h2 hni]; rfl, fun h2 _ => .inl (by rw [hb.one h2 hni]; rfl)⟩
  | 1, _ =>
    obtain rfl : ai = ⟨some 6, none, .mkmap none⟩ := by simpa [swL1] using hai.symm
    rw [ho] at f1
    have g : q.op = .makeMap tm none := by simpa using f1
    have hn := alloc_new w (.map #[] 0)
    have hrun : (execOp (evT tmps) q).run P w = .ok (.value (.map (some w.heap.size))) { w with heap := w.heap.push (.map #[] 0) } := by simp [execOp, g, Instr.makeMap]
    have hs2 := hs.trans (S2 := S) (fun id a b => by omega) hr (sim_ghost_new hs.rel hn)
    have hst2 := step (.inl hrun)
    rw [← hdst] at hst2
    refine ⟨tmps.setIfInBounds 6 (.map (some w.heap.size)), _, ⟨closed', by simp [hsz21], .inl ⟨fun c => c.elim h11 (fun e => by omega), r, hs2, hp0.other (by omega), hp1.other (by omega), fun x hx hX => ?_, fun _ => ?_⟩⟩, hst2⟩
    · exact (hdf x hx (hX.resolve_right (defs_ne 1 (.inl rfl) x hx))).other (fun e => defs_6 x hx (.inl e.symm))
    · refine ⟨w.heap.size, #[], 0, by simp [hsz21], fun h4 => ?_, hs.size, hn.here, ?_, ?_⟩
      · exact absurd (hprX 4 (h4.resolve_right (by omega)) 1 rfl) hni
      · rintro ⟨id, bk, hb, e⟩
        obtain ⟨_, o1, h2, _⟩ := hs.rel.at_ id bk hb
        have h3 := (Array.getElem?_eq_some_iff.1 h2).1
        omega
      · have n2 : ¬ (X 2 ∨ 2 = 1) := fun h => hni (hprX 2 (h.resolve_right (by omega)) 1 rfl)
        have n3 : ¬ (X 3 ∨ 3 = 1) := fun h => hni (hprX 3 (h.resolve_right (by omega)) 1 rfl)
        exact ⟨fun _ _ => rfl, fun h => absurd h n2, fun _ h => absurd h n3, fun h => absurd h n2⟩
  | 4, _ =>
    obtain rfl : ai = ⟨some 7, none, .mov (.tmp 6)⟩ := by simpa [swL1] using hai.symm
    rw [ho] at f4
    have g : q.op = .move (.tmp 6) := by simpa using f4
    obtain ⟨B, es, cl, q1, q2, q3, q4, q5, q6⟩ := hbag (hpr 1 rfl)
    have hrun : (execOp (evT tmps) q).run P w = .ok (.value (evT tmps (.tmp 6))) w := by simp [execOp, g]
    rw [tmp_at q1] at hrun
    have hst2 := step (.inl hrun)
    rw [← hdst] at hst2
    refine ⟨tmps.setIfInBounds 7 (.map (some B)), w, ⟨closed', by simp [hsz21], .inl ⟨fun c => c.elim h11 (fun e => by omega), r, hs, hp0.other (by omega), hp1.other (by omega), fun x hx hX => ?_, fun _ => ?_⟩⟩, hst2⟩
    · exact (hdf x hx (hX.resolve_right (defs_ne 4 (by omega) x hx))).other (fun e => defs_6 x hx (.inr e.symm))
    · refine ⟨B, es, cl, by rw [Array.getElem?_setIfInBounds, if_neg (by omega)]; exact q1, fun _ => by simp [hsz21], q3, q4, q5, ?_⟩
      rw [or_eq (by omega), or_eq (by omega)]
      exact q6
  | 6, _ =>
    obtain rfl : ai = ⟨some 9, none, .mget (.one 2) false (.int .u32 0) (.tmp 7) (.tmp 8)⟩ := by simpa [swL1] using hai.symm
    rw [ho] at f6
    have g : q.op = .lookup tm (.tmp 7) (.tmp 8) false := by simpa using f6
    obtain ⟨B, es, cl, q1, q2, q3, q4, q5, q6⟩ := hbag (hpr 1 rfl)
    have q2 := q2 (hpr 4 rfl)
    obtain ⟨v8, e8, r8⟩ := hdf (5, 8, _) (by simp [swDefs]; rfl) (hpr 5 rfl)
    obtain rfl : v8 = .string s := by cases r8; rfl
    have look : ∃ ms res, MRel r ms es.toList ∧ findK (.one 2) (.string s) ms 0 = some res ∧ mres false (.int .u32 0) res = .int .u32 (swV k1 k2 v1 v2 s) := by
      rcases q6.both (hpr 2 rfl) (hpr 3 rfl) with h | h
      · obtain ⟨n, m, rfl⟩ := kv_two h
        refine ⟨[⟨.string k1, .int .u32 v1, n⟩, ⟨.string k2, .int .u32 v2, m⟩], (if s.data.toList == k1.data.toList then some (0, ⟨.string k1, .int .u32 v1, n⟩) else if s.data.toList == k2.data.toList then some (1, ⟨.string k2, .int .u32 v2, m⟩) else none), .cons (.string _) (.int _ _) rfl (.cons (.string _) (.int _ _) rfl .nil), ?_, ?_⟩ <;>
        cases h1 : s.data.toList == k1.data.toList <;> cases h2 : s.data.toList == k2.data.toList <;> simp [findK, eqKey, eqCell, h1, h2, mres, swV]
      · obtain ⟨n, m, rfl⟩ := kv_two h
        refine ⟨[⟨.string k2, .int .u32 v2, n⟩, ⟨.string k1, .int .u32 v1, m⟩], (if s.data.toList == k2.data.toList then some (0, ⟨.string k2, .int .u32 v2, n⟩) else if s.data.toList == k1.data.toList then some (1, ⟨.string k1, .int .u32 v1, m⟩) else none), .cons (.string _) (.int _ _) rfl (.cons (.string _) (.int _ _) rfl .nil), ?_, ?_⟩ <;>
        cases h1 : s.data.toList == k1.data.toList <;> cases h2 : s.data.toList == k2.data.toList <;> first | (simp [findK, eqKey, eqCell, h1, h2, mres, swV]; done) | skip
        exfalso
        rw [beq_iff_eq] at h1 h2
        rw [← h1, ← h2] at hne
        simp at hne
    obtain ⟨ms, res, hms, hf, hres⟩ := look
    obtain ⟨v', hv', hrun⟩ := run_look hm hk hz g (tmp_at q2) (tmp_at e8) q4 hms hf
    rw [hres] at hv'
    have hst2 := step (.inl hrun)
    rw [← hdst] at hst2
    refine ⟨tmps.setIfInBounds 9 v', w, ⟨closed', by simp [hsz21], .inl ⟨fun c => c.elim h11 (fun e => by omega), r, hs, hp0.other (by omega), hp1.other (by omega), fun x hx hX => ?_, fun _ => ?_⟩⟩, hst2⟩
    · by_cases hx6 : x.1 = 6
      · obtain rfl : x = (6, 9, .int .u32 (swV k1 k2 v1 v2 s)) := by
          simp only [swDefs, List.mem_cons, List.not_mem_nil, or_false] at hx
          rcases hx with rfl | rfl | rfl | rfl | rfl | rfl | rfl <;> first | rfl | (exact absurd hx6 (by simp))
        exact has_put (by rw [hsz21]; omega) hv'
      · refine (hdf x hx (hX.resolve_right hx6)).other fun e => hx6 ?_
        simp only [swDefs, List.mem_cons, List.not_mem_nil, or_false] at hx
        rcases hx with rfl | rfl | rfl | rfl | rfl | rfl | rfl <;> first | rfl | (exact absurd e (by simp))
    · refine ⟨B, es, cl, by rw [Array.getElem?_setIfInBounds, if_neg (by omega)]; exact q1, fun _ => by rw [Array.getElem?_setIfInBounds, if_neg (by omega)]; exact q2, q3, q4, q5, ?_⟩
      rw [or_eq (by omega), or_eq (by omega)]
      exact q6
  | 11, _ =>
    obtain rfl : ai = ⟨none, none, .store 1 (.tmp 13) (.tmp 9)⟩ := by simpa [swL1] using hai.symm
    have h13 := hdf (10, 13, _) (by simp [swDefs]; rfl) (hpr 10 rfl)
    have h9 := hdf (6, 9, _) (by simp [swDefs]; rfl) (hpr 6 rfl)
    have hE : EnvRel r ((env1 13 (.pointer (some ⟨b, o + 0 + off + 0, none⟩))).set 9 (some (.int .u32 (swV k1 k2 v1 v2 s)))) tmps := by
      refine ⟨fun t v hv => ?_, hs.rel.glo.glo⟩
      rw [Tr.get_set] at hv
      split at hv
      · rename_i e; cases hv; subst e; exact h9
      · exact (env1_rel h13 hs.rel.glo.glo).at_ t v hv
    have hrun : instr swNo ⟨none, none, .store 1 (.tmp 13) (.tmp 9)⟩ ((env1 13 (.pointer (some ⟨b, o + 0 + off + 0, none⟩))).set 9 (some (.int .u32 (swV k1 k2 v1 v2 s)))) S = some ((env1 13 (.pointer (some ⟨b, o + 0 + off + 0, none⟩))).set 9 (some (.int .u32 (swV k1 k2 v1 v2 s))), S1) := by
      have e1 : ((env1 13 (.pointer (some ⟨b, o + 0 + off + 0, none⟩))).set 9 (some (.int .u32 (swV k1 k2 v1 v2 s)))).get 13 = some (.pointer (some ⟨b, o + 0 + off + 0, none⟩)) := by rw [Tr.get_set_ne _ _ (by omega), env1_get]
      have e2 : ((env1 13 (.pointer (some ⟨b, o + 0 + off + 0, none⟩))).set 9 (some (.int .u32 (swV k1 k2 v1 v2 s)))).get 9 = some (.int .u32 (swV k1 k2 v1 v2 s)) := Tr.get_set_same _ _ _
      simp only [instr, exec, Atom.ev, e1, e2]
      show ((stCells b (o + off) [.int .u32 (swV k1 k2 v1 v2 s)]).bind fun _ => M.pure undef).bind (fun v => M.pure (putD _ none v)) S = _
      simp only [M.bind, hst, M.pure, putD]
    have hfr1 : Fresh r S S1 := fun id a c hd => by
      rcases (hs.dom id).1 hd with h | h
      · exact hfr id a c h
      · omega
    obtain ⟨v0, D, r', w', v', g1, g2, g3, g4⟩ := instr_ok swNo_ok ho hcomp hrun hs.rel hE hfr1 fn ro ds rest k0 cs
    have hlog : S1.log = [(b, true), (b, false)] ++ S.log := by
      simp only [stCells, M.bind_some, rd_some] at hst
      obtain ⟨ob, S2, ⟨h4, rfl⟩, h5⟩ := hst
      split at h5
      · split at h5
        · simp only [wr_some] at h5
          subst h5
          rfl
        · exact (M.fail_some.1 h5).elim
      · exact (M.fail_some.1 h5).elim
    have hD : D = [(b, true), (b, false)] := List.append_cancel_right (g2.log.symm.trans hlog)
    subst hD
    have hs2 := hs.trans hfr hr g2
    refine ⟨putT tmps q.dst v', w', ⟨closed', by rw [putT_size]; exact hsz21, .inr ⟨.inr rfl, r', hs2, ?_⟩⟩, g4⟩
    rw [← hdst]
    exact hp0.mono g2.le
end
end Go.Wb
