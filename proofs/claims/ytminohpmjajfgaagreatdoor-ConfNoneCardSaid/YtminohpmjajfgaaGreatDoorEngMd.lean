/- The engine: a function that sets one cell by a map that it makes itself of two keys, whatever order the map is filled in. -/
import Derived.Test.YtminohpmjajfgaaGreatDoorEngLO
import Derived.Test.YtminohpmjajfgaaGreatDoorEngQ
set_option linter.unusedSimpArgs false
set_option linter.unusedVariables false
namespace Go.Wb
set_option linter.unusedSectionVars false
variable [GloK]
variable {P : Program}

/-! ## Any order of a region that draws, by what holds of the operations that have been carried out -/
theorem lin_go {ops : Array Oper} (Ho : OrderOk ops) {Inv : (Nat → Prop) → Array Value → World → Prop} {fn : FuncId} {ro : Option Nat} {ds : List Deferred} {k0 : List Item} {cs : List Frame}
    (STEP : ∀ (X : Nat → Prop) tmps w i o rest, (∀ j, X j → j < ops.size) → Inv X tmps w → ¬ X i → ops[i]? = some o → (∀ e ∈ o.after.toList, Region.binds .any e = true → X e.on) →
      ∃ tmps' w', Inv (fun k => X k ∨ k = i) tmps' w' ∧ Steps P (lone (Fr fn ro tmps ds (.inRegion ops (i :: rest) :: k0)) cs w) (lone (Fr fn ro tmps' ds (.inRegion ops rest :: k0)) cs w')) :
    ∀ (fuel t : Nat) (listed : Array Bool) (tmps : Array Value) (w : World), listed.size = ops.size →
      ((List.range ops.size).filter fun i => listed[i]? ≠ some true).length ≤ fuel → Inv (fun i => listed[i]? = some true) tmps w →
      ∃ tmps' w', Inv (fun i => i < ops.size) tmps' w' ∧ Steps P (lone (Fr fn ro tmps ds (.inRegion ops (Region.linearise.go .any ops fuel t listed []) :: k0)) cs w) (lone (Fr fn ro tmps' ds k0) cs w') := by
  intro fuel
  have hlt : ∀ (listed : Array Bool), listed.size = ops.size → ∀ j, listed[j]? = some true → j < ops.size := fun listed hs j hj => by rw [← hs]; exact (Array.getElem?_eq_some_iff.1 hj).1
  have done : ∀ (listed : Array Bool) (tmps : Array Value) (w : World), listed.size = ops.size → (∀ i, i < ops.size → listed[i]? = some true) → Inv (fun i => listed[i]? = some true) tmps w → Inv (fun i => i < ops.size) tmps w := by
    intro listed tmps w hs hall M
    have : (fun i => listed[i]? = some true) = (fun i => i < ops.size) := by
      funext i; exact propext ⟨fun h => hlt listed hs i h, fun h => hall i h⟩
    rw [← this]; exact M
  induction fuel with
  | zero =>
    intro t listed tmps w hs hle M
    have hall : ∀ i, i < ops.size → listed[i]? = some true := by
      intro i hi
      refine Classical.byContradiction fun c => ?_
      have : i ∈ (List.range ops.size).filter fun i => listed[i]? ≠ some true := by simp [hi]; exact fun h => c h
      have := List.length_pos_of_mem this
      omega
    exact ⟨tmps, w, done listed tmps w hs hall M, by simp only [Region.linearise.go, List.reverse_nil]; exact .one st_regionEnd⟩
  | succ fuel ih =>
    intro t listed tmps w hs hle M
    simp only [Region.linearise.go]
    generalize hrs : (List.range ops.size).filter (fun i => !listed.getD i true && ((ops[i]?).map (·.after.all fun e => !Region.binds .any e || listed.getD e.on false)).getD false) = rs
    have hmem : ∀ i, i ∈ rs → i < ops.size ∧ listed[i]? = some false ∧ ∃ o, ops[i]? = some o ∧ ∀ e ∈ o.after.toList, Region.binds .any e = true → listed[e.on]? = some true := by
      intro i hi
      rw [← hrs, List.mem_filter] at hi
      obtain ⟨h1, h2⟩ := hi
      have h1 : i < ops.size := List.mem_range.1 h1
      simp only [Bool.and_eq_true, Bool.not_eq_true'] at h2
      obtain ⟨h2, h3⟩ := h2
      have hop : ops[i]? = some ops[i] := by simp
      refine ⟨h1, ?_, ops[i], hop, ?_⟩
      · have hls : listed[i]? = some listed[i] := by simp [hs, h1]
        rw [Array.getD_eq_getD_getElem?, hls] at h2
        rw [hls]; simpa using h2
      · intro e he hb
        rw [hop] at h3
        simp only [Option.map_some, Option.getD_some, Array.all_eq_true_iff_forall_mem] at h3
        have := h3 e (Array.mem_toList_iff.1 he)
        simp only [hb, Bool.not_true, Bool.false_or] at this
        rw [Array.getD_eq_getD_getElem?] at this
        cases hl : listed[e.on]? with
        | none => simp [hl] at this
        | some b => simp [hl] at this; rw [this]
    by_cases hempty : rs = []
    · have hall : ∀ i, i < ops.size → listed[i]? = some true := by
        intro i
        induction i using Nat.strongRecOn with
        | _ i ih2 =>
          intro hi
          have hop : ops[i]? = some ops[i] := by simp
          have hls : listed[i]? = some listed[i] := by simp [hs, hi]
          cases hb : listed[i] with
          | true => rw [hls, hb]
          | false =>
            exfalso
            have : i ∈ rs := by
              rw [← hrs, List.mem_filter]
              refine ⟨List.mem_range.2 hi, ?_⟩
              rw [Array.getD_eq_getD_getElem?, hls, hb, hop]
              simp only [Option.getD_some, Bool.not_false, Bool.true_and, Option.map_some, Array.all_eq_true_iff_forall_mem]
              intro e he
              by_cases hbd : Region.binds .any e = true
              · have hlt := Ho.back i _ hop e (Array.mem_toList_iff.2 he) hbd
                have := ih2 e.on hlt (by omega)
                rw [Array.getD_eq_getD_getElem?, this]; simp
              · simp [hbd]
            rw [hempty] at this; simp at this
      rw [hempty]
      simp only [List.length_nil, List.getElem?_nil, List.reverse_nil]
      exact ⟨tmps, w, done listed tmps w hs hall M, .one st_regionEnd⟩
    · have hpos : 0 < rs.length := List.length_pos_iff.2 hempty
      have hlt2 : t % rs.length < rs.length := Nat.mod_lt _ hpos
      obtain ⟨i, hi⟩ : ∃ i, rs[t % rs.length]? = some i := ⟨rs[t % rs.length], by simp [hlt2]⟩
      rw [hi]
      simp only
      obtain ⟨hin, hli, o, ho, hpre⟩ := hmem i (List.mem_of_getElem? hi)
      obtain ⟨tmps1, w1, M1, st1⟩ := STEP _ tmps w i o (Region.linearise.go .any ops fuel (t / rs.length) (listed.setIfInBounds i true) []) (hlt listed hs) M (by rw [hli]; simp) ho hpre
      have hX : (fun k => listed[k]? = some true ∨ k = i) = (fun k => (listed.setIfInBounds i true)[k]? = some true) := by
        funext k
        apply propext
        rw [Array.getElem?_setIfInBounds]
        by_cases e : i = k
        · subst e; simp [hs, hin]
        · rw [if_neg e]; exact ⟨fun h => h.resolve_right (fun c => e c.symm), .inl⟩
      rw [hX] at M1
      have hcount : ((List.range ops.size).filter fun k => (listed.setIfInBounds i true)[k]? ≠ some true).length ≤ fuel := by
        have hsub : ((List.range ops.size).filter fun k => (listed.setIfInBounds i true)[k]? ≠ some true).length < ((List.range ops.size).filter fun k => listed[k]? ≠ some true).length := by
          refine filter_lt (a := i) (List.mem_range.2 hin) ?_ ?_ ?_
          · intro k hk
            simp only [ne_eq, decide_not, Bool.not_eq_true', decide_eq_false_iff_not] at hk ⊢
            intro c
            rw [Array.getElem?_setIfInBounds] at hk
            split at hk
            · rename_i e; subst e; rw [if_pos (by omega)] at hk; exact hk rfl
            · exact hk c
          · simp [hli]
          · simp [hs, hin]
        omega
      obtain ⟨tmps2, w2, M2, st2⟩ := ih (t / rs.length) (listed.setIfInBounds i true) tmps1 w1 (by simp [hs]) hcount M1
      refine ⟨tmps2, w2, M2, ?_⟩
      rw [linearise_go_acc, List.reverse_singleton, List.singleton_append]
      exact st1.trans st2

/-- all that is ahead of an operation by the edges has been carried out -/
theorem preds_of {ops : Array Oper} (Ho : OrderOk ops) {X : Nat → Prop} (hin : ∀ j, X j → j < ops.size) (hcl : ∀ i o, X i → ops[i]? = some o → ∀ e ∈ o.after.toList, Region.binds .any e = true → X e.on) :
    ∀ (j : Nat) (o : Oper), ops[j]? = some o → (∀ e ∈ o.after.toList, Region.binds .any e = true → X e.on) → ∀ i, ((Region.before ops).getD j 0).testBit i = true → X i := by
  intro j
  induction j using Nat.strongRecOn with
  | _ j ih =>
    intro o ho hX i hi
    obtain ⟨e, he, hb, h⟩ := Ho.bits j o ho i hi
    have hon := hX e he hb
    rcases h with rfl | h
    · exact hon
    · have hlt := Ho.back j o ho e he hb
      have hj : j < ops.size := (Array.getElem?_eq_some_iff.1 ho).1
      have hop : ops[e.on]? = some ops[e.on] := by simp
      exact ih e.on hlt ops[e.on] hop (fun e' he' hb' => hcl e.on _ hon hop e' he' hb') i h

def swNo : Tgt → List Value → M Value := fun _ _ => M.fail
theorem swNo_ok : CallOk P swNo := by intro t args v S S' h; exact (M.fail_some.1 h).elim
def Has (r : Ren) (tmps : Array Value) (t : Nat) (v : Value) : Prop := ∃ v', tmps[t]? = some v' ∧ VRel r v v'
theorem Has.mono {r r' : Ren} {tmps : Array Value} {t : Nat} {v : Value} (h : Has r tmps t v) (k : r.le r') : Has r' tmps t v := by
  obtain ⟨v', h1, h2⟩ := h
  exact ⟨v', h1, h2.mono k⟩
theorem Has.other {r : Ren} {tmps : Array Value} {t d : Nat} {v x : Value} (h : Has r tmps t v) (hd : d ≠ t) : Has r (tmps.setIfInBounds d x) t v := by
  obtain ⟨v', h1, h2⟩ := h
  exact ⟨v', by rw [Array.getElem?_setIfInBounds, if_neg hd]; exact h1, h2⟩
theorem has_put {r : Ren} {tmps : Array Value} {d : Nat} {v v' : Value} (hd : d < tmps.size) (h : VRel r v v') : Has r (tmps.setIfInBounds d v') d v := ⟨v', by rw [Array.getElem?_setIfInBounds, if_pos rfl, if_pos hd], h⟩
/-- an environment of one name -/
def env1 (t : Nat) (v : Value) : Env := Tr.leaf.set t (some v)
theorem env1_rel {r : Ren} {tmps : Array Value} {t : Nat} {v : Value} (h : Has r tmps t v) (hg : Glo r) : EnvRel r (env1 t v) tmps := by
  refine ⟨fun t' v' k => ?_, hg⟩
  unfold env1 at k
  rw [Tr.get_set] at k
  split at k
  · rename_i e; cases k; subst e; exact h
  · rw [Tr.get_leaf] at k; cases k
theorem env1_get (t : Nat) (v : Value) : (env1 t v).get t = some v := by unfold env1; rw [Tr.get_set, if_pos rfl]

/-- an operation of one name that turns nothing in memory, in a world that has more than what is abstracted -/
theorem nstep {r0 r : Ren} {S : St} {w0 w : World} {ops : Array Oper} {o : Oper} {i d n : Nat} {aop : AOp} {tmps : Array Value} {t : Nat} {u v : Value} (h0 : Rel P r0 S w0) (hs : Sim P [] r0 S w0 r S w) (ho : ops[i]? = some o)
    (hc : compInstr P n ops o = some ⟨some d, none, aop⟩) (hu : Has r tmps t u) (he : exec swNo (env1 t u) aop S = some (v, S)) (fn : FuncId) (ro : Option Nat) (ds : List Deferred) (rest : List Nat) (k : List Item) (cs : List Frame) :
    ∃ r' w' v', Sim P [] r0 S w0 r' S w' ∧ VRel r' v v' ∧ r.le r' ∧ w.heap.size ≤ w'.heap.size ∧ (∀ b, b < w.heap.size → ¬ Live r S b → w'.heap[b]? = w.heap[b]? ∧ ¬ Live r' S b) ∧
      Steps P (lone (Fr fn ro tmps ds (.inRegion ops (i :: rest) :: k)) cs w) (lone (Fr fn ro (tmps.setIfInBounds d v') ds (.inRegion ops rest :: k)) cs w') := by
  have hd : o.dst = some d := (compInstr_some hc).1.symm
  have hi : instr swNo ⟨some d, none, aop⟩ (env1 t u) S = some (putD (env1 t u) (some d) v, S) := by
    simp only [instr, M.bind, he, M.pure]
  have hfr : Fresh r S S := fun id a b => by omega
  obtain ⟨v2, D, r', w', v', k1, k2, k3, k4⟩ := instr_ok swNo_ok ho hc hi hs.rel (env1_rel hu hs.rel.glo.glo) hfr fn ro ds rest k cs
  have hD : D = [] := by
    have := k2.log
    exact (List.append_cancel_right (this.symm.trans (List.nil_append _).symm : D ++ S.log = [] ++ S.log))
  subst hD
  have hv : v = v2 := by
    have h1 : putD (env1 t u) (some d) v = putD (env1 t u) o.dst v2 := k1
    rw [hd] at h1
    have := congrArg (fun e => Tr.get e d) h1
    simpa [putD, Tr.get_set] using this
  subst hv
  rw [hd] at k4
  exact ⟨r', w', v', hs.trans (fun id a b => by omega) h0 k2, k3, k2.le, k2.size, fun b hb hn => ⟨k2.frame b hb hn, fun c => hn (k2.live b hb c)⟩, k4⟩

/-! ## The map -/
def kv (es : Array MapEntry) : List (Value × Value) := es.toList.map fun e => (e.key, e.val)
theorem kv_one {es : Array MapEntry} {a b : Value} (h : kv es = [(a, b)]) : ∃ n, es = #[⟨a, b, n⟩] := by
  obtain ⟨l⟩ := es
  match l, h with
  | [e], h =>
    obtain ⟨k, x, n⟩ := e
    simp only [kv, List.map_cons, List.map_nil, List.cons.injEq, Prod.mk.injEq, and_true] at h
    obtain ⟨rfl, rfl⟩ := h
    exact ⟨n, rfl⟩
theorem kv_two {es : Array MapEntry} {a b c d : Value} (h : kv es = [(a, b), (c, d)]) : ∃ n m, es = #[⟨a, b, n⟩, ⟨c, d, m⟩] := by
  obtain ⟨l⟩ := es
  match l, h with
  | [e, f], h =>
    obtain ⟨k, x, n⟩ := e
    obtain ⟨k', x', n'⟩ := f
    simp only [kv, List.map_cons, List.map_nil, List.cons.injEq, Prod.mk.injEq, and_true] at h
    obtain ⟨⟨rfl, rfl⟩, rfl, rfl⟩ := h
    exact ⟨n, n', rfl⟩
theorem kv_nil {es : Array MapEntry} (h : kv es = []) : es = #[] := by
  obtain ⟨l⟩ := es
  match l, h with
  | [], _ => rfl
/-- what it holds of two entries -/
structure Bag (e1 e2 : Value × Value) (x2 x3 : Prop) (l : List (Value × Value)) : Prop where
  none : ¬ x2 → ¬ x3 → l = []
  one : x2 → ¬ x3 → l = [e1]
  two : ¬ x2 → x3 → l = [e2]
  both : x2 → x3 → l = [e1, e2] ∨ l = [e2, e1]
section
variable {r : Ren} {w : World} {tm kt el : TypeId} {tmps : Array Value} {o : Oper} {B cl : Nat} {es : Array MapEntry}
/-- a key that is not there is put in -/
theorem run_put {m : Operand} {kk : ByteArray} {vv : Int} (hd : P.underlying tm = some (.map kt el)) (hk : keyKind P kt = some (.one 2)) (ho : o.op = .insert tm m (.const (.string kk)) (.const (.int .u32 vv))) (hm : evT tmps m = .map (some B))
    (hw : w.heap[B]? = some (.map es cl)) {ms : List MEnt} (hms : MRel r ms es.toList) (hf : findK (.one 2) (.string kk) ms 0 = some none) :
    (execOp (evT tmps) o).run P w = .ok .skip { w with heap := w.heap.setIfInBounds B (.map (es.push { key := .string kk, val := .int .u32 vv, born := cl }) (cl + 1)) } := by
  obtain ⟨res', gf, g2, _⟩ := run_findKey (w := w) hk (VRel.string (r := r) kk) hms hf
  rcases res' with _ | p
  · have hru : execOp (evT tmps) o = (do Instr.mapUpdate tm (evT tmps m) (.string kk) (.int .u32 vv); pure .skip) := by
      simp only [execOp, ho]; rfl
    rw [hru, hm]
    simp only [Instr.mapUpdate, Sem.run_bind, run_underlying hd, Result.andThen_ok, run_getMap hw, run_checkKey hk (y := .string kk) rfl (VRel.string (r := r) kk), gf, run_setMap _ hw, Sem.run_pure]
  · exact g2.elim
/-- a key is looked up -/
theorem run_look {m x : Operand} {s : ByteArray} {z : Value} (hd : P.underlying tm = some (.map kt el)) (hk : keyKind P kt = some (.one 2)) (hz : zeroV P el = some z) (ho : o.op = .lookup tm m x false) (hm : evT tmps m = .map (some B)) (hx : evT tmps x = .string s)
    (hw : w.heap[B]? = some (.map es cl)) {ms : List MEnt} (hms : MRel r ms es.toList) {res : Option (Nat × MEnt)} (hf : findK (.one 2) (.string s) ms 0 = some res) :
    ∃ v', VRel r (mres false z res) v' ∧ (execOp (evT tmps) o).run P w = .ok (.value v') w := by
  obtain ⟨hz1, hz2⟩ := zeroV_run (w := w) hz
  obtain ⟨res', gf, g2, _⟩ := run_findKey (w := w) hk (VRel.string (r := r) s) hms hf
  refine ⟨match res' with | some (_, v') => v' | none => z, ?_, ?_⟩
  · rcases res with _ | ⟨j, v1⟩ <;> rcases res' with _ | ⟨j', v1'⟩ <;> first | exact g2.elim | skip
    · exact plain_rel hz2
    · exact g2.2
  · simp only [execOp, ho, hm, hx, Instr.lookup, Sem.run_bind, run_underlying hd, Result.andThen_ok, run_getMap hw, Sem.run_pure, run_checkKey hk (y := .string s) rfl (VRel.string (r := r) s), gf]
    cases res' with
    | none => simp [hz1]
    | some p => obtain ⟨j, v'⟩ := p; simp
end

/-! ## The function -/
/-- what the operations bring: by which one, under which name -/
def swDefs (b o off : Nat) (s : ByteArray) (y : Int) : List (Nat × Nat × Value) :=
  [(0, 5, .pointer (some ⟨b, o, none⟩)), (5, 8, .string s), (6, 9, .int .u32 y), (7, 10, .pointer (some ⟨b, o, none⟩)), (8, 11, .pointer (some ⟨b, o + 0, none⟩)),
    (9, 12, .pointer (some ⟨b, o + 0 + off, none⟩)), (10, 13, .pointer (some ⟨b, o + 0 + off + 0, none⟩))]
structure SwInv (P : Program) (ops1 : Array Oper) (r0 : Ren) (S S1 : St) (w0 : World) (b o off : Nat) (s : ByteArray) (y : Int) (e1 e2 : Value × Value) (X : Nat → Prop) (tmps : Array Value) (w : World) : Prop where
  closed : ∀ i q, X i → ops1[i]? = some q → ∀ e ∈ q.after.toList, Region.binds .any e = true → X e.on
  size : tmps.size = 21
  state : (¬ X 11 ∧ ∃ r, Sim P [] r0 S w0 r S w ∧ Has r tmps 0 (.pointer (some ⟨b, o, none⟩)) ∧ Has r tmps 1 (.string s) ∧ (∀ x ∈ swDefs b o off s y, X x.1 → Has r tmps x.2.1 x.2.2) ∧
      (X 1 → ∃ B es cl, tmps[6]? = some (.map (some B)) ∧ (X 4 → tmps[7]? = some (.map (some B))) ∧ w0.heap.size ≤ B ∧ w.heap[B]? = some (.map es cl) ∧ ¬ Live r S B ∧ Bag e1 e2 (X 2) (X 3) (kv es))) ∨
    (X 11 ∧ ∃ r, Sim P [(b, true), (b, false)] r0 S w0 r S1 w ∧ Has r tmps 0 (.pointer (some ⟨b, o, none⟩)))
def swL1 (k1 k2 : ByteArray) (v1 v2 : Int) (off : Nat) : List AInstr :=
  [⟨some 5, none, .mov (.tmp 0)⟩, ⟨some 6, none, .mkmap none⟩, ⟨none, none, .mset (.one 2) (.tmp 6) (.const (.string k1)) (.const (.int .u32 v1))⟩, ⟨none, none, .mset (.one 2) (.tmp 6) (.const (.string k2)) (.const (.int .u32 v2))⟩,
    ⟨some 7, none, .mov (.tmp 6)⟩, ⟨some 8, none, .mov (.tmp 1)⟩, ⟨some 9, none, .mget (.one 2) false (.int .u32 0) (.tmp 7) (.tmp 8)⟩, ⟨some 10, none, .nilchk (.tmp 5)⟩, ⟨some 11, none, .fldA 0 (.tmp 10)⟩,
    ⟨some 12, none, .fldA off (.tmp 11)⟩, ⟨some 13, none, .ixAA 4 1 (.tmp 12) (.const (.int .i64 0))⟩, ⟨none, none, .store 1 (.tmp 13) (.tmp 9)⟩]
theorem tmp_at {tmps : Array Value} {t : Nat} {v : Value} (h : tmps[t]? = some v) : evT tmps (.tmp t) = v := by
  simp only [evT, Array.getD_eq_getD_getElem?, h, Option.getD_some]
theorem or_eq {p : Prop} {a b : Nat} (h : a ≠ b) : (p ∨ a = b) = p := propext ⟨fun k => k.resolve_right h, .inl⟩
theorem or_self_eq {p : Prop} {a : Nat} : (p ∨ a = a) = True := propext ⟨fun _ => trivial, fun _ => .inr rfl⟩
end Go.Wb
