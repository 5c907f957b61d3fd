/- The engine, part C9m: maps. -/
import Derived.Test.YtmepokefmpcnnaaEngC9
import Derived.Test.YtmepokefmpcnnaaEngF
set_option linter.unusedSimpArgs false
set_option linter.unusedVariables false
namespace Go.Wb
variable {P : Program} {r : Ren} {S S' : St} {w : World}

theorem run_getMap {b : Nat} {es : Array MapEntry} {cl : Nat} (h : w.heap[b]? = some (.map es cl)) : (getObj b).run P w = .ok (.map es cl) w := by simp [getObj, Sem.run, h]
theorem run_setMap {b : Nat} {es : Array MapEntry} {cl : Nat} (o : Obj) (h : w.heap[b]? = some (.map es cl)) : (setObj b o).run P w = .ok () { w with heap := w.heap.setIfInBounds b o } := by
  simp [setObj, Sem.run, h]
theorem VRel.map_inv {p : Nat} {v' : Value} (h : VRel r (.map (some p)) v') : r.dom p ∧ v' = .map (some (r.to p)) := by cases h; exact ⟨by assumption, rfl⟩
theorem VRel.mapNil_inv {v' : Value} (h : VRel r (.map none) v') : v' = .map none := by cases h; rfl
theorem eqCell_same {k : Nat} {kd : TypeDesc} {kt : TypeId} (hu : P.underlying kt = some kd) (hk : keyKind P kt = some k) {x y x' y' : Value} {b : Bool} (h : eqCell k x y = some b) (hx : VRel r x x') (hy : VRel r y y') : Instr.sameNow kd x' y' = some b := by
  have h2 := eqCell_rel h hx hy
  clear h hx hy
  unfold keyKind at hk
  rw [hu] at hk
  unfold eqCell at h2
  split at hk
  · rename_i hh
    obtain rfl : kd = .bool := by simpa using hh
    obtain rfl : 0 = k := by simpa using hk
    split at h2 <;> simp at h2 <;> rename_i he <;> first | (simp at he; done) | skip
    subst h2; rfl
  · rename_i q hh
    obtain rfl : kd = .int q := by simpa using hh
    obtain rfl : 1 = k := by simpa using hk
    split at h2 <;> first | (simp at h2; done) | skip
    · rename_i he; simp at he
    · rename_i he
      simp only [Instr.sameNow]
      exact h2
    · rename_i he; simp at he
  · rename_i hh
    obtain rfl : kd = .string := by simpa using hh
    obtain rfl : 2 = k := by simpa using hk
    split at h2 <;> first | (simp at h2; done) | skip
    · rename_i he; simp at he
    · rename_i he; simp at he
    · rename_i a b' he
      simp only [Option.some.injEq] at h2
      subst h2
      simp only [Instr.sameNow, beq_toListBytes, ByteArray.toList_eq]
  · simp at hk
def FRel (r : Ren) : Option (Nat × MEnt) → Option (Nat × Value) → Prop
  | none, none => True
  | some (j, e), some (j', v') => j = j' ∧ VRel r e.val v'
  | _, _ => False
theorem findK_ok {k : Nat} {kd : TypeDesc} {kt : TypeId} (hu : P.underlying kt = some kd) (hk : keyKind P kt = some k) {y y' : Value} (hy : VRel r y y') : ∀ {es : List MEnt} {es' : List MapEntry} {i : Nat} {res : Option (Nat × MEnt)}, MRel r es es' → findK k y es i = some res →
    ∃ res', Instr.findNow kd y' es' i = some res' ∧ FRel r res res'
  | [], _, i, res, .nil, h => by
    simp only [findK, Option.some.injEq] at h
    subst h
    exact ⟨none, rfl, trivial⟩
  | m :: es, e :: es', i, res, .cons h1 h2 hb h3, h => by
    simp only [findK] at h
    split at h
    · rename_i hb
      simp only [Option.some.injEq] at h
      subst h
      exact ⟨some (i, e.val), by simp only [Instr.findNow, eqCell_same hu hk hb hy h1], rfl, h2⟩
    · rename_i hb
      obtain ⟨res', g1, g2⟩ := findK_ok hu hk hy h3 h
      exact ⟨res', by simp only [Instr.findNow, eqCell_same hu hk hb hy h1]; exact g1, g2⟩
    · simp at h
theorem findK_at {k : Nat} {y : Value} : ∀ {es : List MEnt} {i j : Nat} {m : MEnt}, findK k y es i = some (some (j, m)) → i ≤ j ∧ es[j - i]? = some m
  | [], i, j, m, h => by simp [findK] at h
  | e :: es, i, j, m, h => by
    simp only [findK] at h
    split at h
    · simp only [Option.some.injEq, Prod.mk.injEq] at h
      obtain ⟨rfl, rfl⟩ := h
      simp
    · obtain ⟨h1, h2⟩ := findK_at h
      refine ⟨by omega, ?_⟩
      obtain ⟨q, hq⟩ : ∃ q, j - i = q + 1 := ⟨j - i - 1, by omega⟩
      rw [hq, List.getElem?_cons_succ, ← h2]
      congr 1; omega
    · simp at h
theorem MRel.at {es : List MEnt} {es' : List MapEntry} (h : MRel r es es') : ∀ {i : Nat} {m : MEnt}, es[i]? = some m → ∃ e, es'[i]? = some e ∧ VRel r m.key e.key ∧ VRel r m.val e.val ∧ m.born = e.born := by
  induction h with
  | nil => intro i m h; simp at h
  | cons h1 h2 h3 _ ih =>
    intro i m h
    cases i with
    | zero => simp at h; subst h; exact ⟨_, rfl, h1, h2, h3⟩
    | succ i => obtain ⟨e, k1, k2⟩ := ih (by simpa using h); exact ⟨e, by simpa using k1, k2⟩
theorem run_findKey {k : Nat} {kt : TypeId} (hk : keyKind P kt = some k) {y y' : Value} (hy : VRel r y y') {es : List MEnt} {es' : List MapEntry} {res : Option (Nat × MEnt)} (hm : MRel r es es') (h : findK k y es 0 = some res) :
    ∃ res', (Instr.findKey kt y' es').run P w = .ok res' w ∧ FRel r res res' := by
  have hu : ∃ kd, P.underlying kt = some kd := by
    unfold keyKind at hk
    cases hh : P.underlying kt with
    | none => rw [hh] at hk; simp at hk
    | some d => exact ⟨d, rfl⟩
  obtain ⟨kd, hu⟩ := hu
  obtain ⟨res', g1, g2⟩ := findK_ok hu hk hy hm h
  exact ⟨res', by simp only [Instr.findKey, Sem.run_bind, run_underlying hu, Result.andThen_ok, g1, Sem.run_pure], g2⟩
theorem run_checkKey {k : Nat} {kt : TypeId} (hk : keyKind P kt = some k) (b : Bool) (y : Value) : (Instr.checkKey b 10000 kt y).run P w = .ok () w := by
  unfold keyKind at hk
  unfold Instr.checkKey
  split at hk
  · rename_i hu; simp only [Sem.run_bind, run_underlying hu, Result.andThen_ok]; rfl
  · rename_i q hu; simp only [Sem.run_bind, run_underlying hu, Result.andThen_ok]; rfl
  · rename_i hu; simp only [Sem.run_bind, run_underlying hu, Result.andThen_ok]; rfl
  · simp at hk
theorem map_at (hr : Rel P r S w) {b : Nat} {es : List MEnt} {cl : Nat} (h : S.heap.get b = some (.map es cl)) : ∃ es', w.heap[r.to b]? = some (.map es' cl) ∧ MRel r es es'.toList := by
  obtain ⟨_, o, h1, h2⟩ := hr.at_ b _ h
  cases o <;> try exact h2.elim
  rename_i es' cl'
  obtain ⟨rfl, h3⟩ := h2
  exact ⟨es', h1, h3⟩
theorem MRel.length {l : List MEnt} {l' : List MapEntry} (h : MRel r l l') : l.length = l'.length := by
  induction h with
  | nil => rfl
  | cons _ _ _ _ ih => simp [ih]
theorem MRel.append {l m : List MEnt} {l' m' : List MapEntry} (h : MRel r l l') (k : MRel r m m') : MRel r (l ++ m) (l' ++ m') := by
  induction h with
  | nil => exact k
  | cons h1 h2 h3 _ ih => exact .cons h1 h2 h3 ih
theorem MRel.erase {l : List MEnt} {l' : List MapEntry} (h : MRel r l l') (i : Nat) : MRel r (l.eraseIdx i) (l'.eraseIdx i) := by
  induction h generalizing i with
  | nil => simp; exact .nil
  | cons h1 h2 h3 h4 ih => cases i with
    | zero => simpa using h4
    | succ i => simpa using MRel.cons h1 h2 h3 (ih i)
theorem MRel.set {l : List MEnt} {l' : List MapEntry} (h : MRel r l l') (i : Nat) {m : MEnt} {f : MapEntry → MapEntry} (hf : ∀ e, l'[i]? = some e → VRel r m.key (f e).key ∧ VRel r m.val (f e).val ∧ m.born = (f e).born) : MRel r (l.set i m) (l'.modify i f) := by
  induction h generalizing i with
  | nil => cases i <;> exact .nil
  | cons h1 h2 h3 h4 ih => cases i with
    | zero =>
      obtain ⟨k1, k2, k3⟩ := hf _ rfl
      simpa using MRel.cons k1 k2 k3 h4
    | succ i => simpa using MRel.cons h1 h2 h3 (ih i (fun e he => hf e (by simpa using he)))
/-- the key that was found is the same one -/
theorem findNow_same {kd : TypeDesc} {y : Value} : ∀ {es : List MapEntry} {i j : Nat} {v : Value}, Instr.findNow kd y es i = some (some (j, v)) → ∃ e, i ≤ j ∧ es[j - i]? = some e ∧ Instr.sameNow kd y e.key = some true
  | [], i, j, v, h => by simp [Instr.findNow] at h
  | e :: es, i, j, v, h => by
    simp only [Instr.findNow] at h
    split at h
    · rename_i hs
      simp only [Option.some.injEq, Prod.mk.injEq] at h
      obtain ⟨rfl, _⟩ := h
      exact ⟨e, Nat.le_refl _, by simp, hs⟩
    · obtain ⟨e', h1, h2, h3⟩ := findNow_same h
      refine ⟨e', by omega, ?_, h3⟩
      obtain ⟨m, hm⟩ : ∃ m, j - i = m + 1 := ⟨j - i - 1, by omega⟩
      rw [hm, List.getElem?_cons_succ, ← h2]
      congr 1; omega
    · simp at h
theorem sameBits_of {kd : TypeDesc} {x y : Value} (h : Instr.sameNow kd x y = some true) : Instr.sameBits 10000 y x = true := by
  unfold Instr.sameNow at h
  split at h
  · split at h
    · rename_i hk
      subst hk
      simp only [Option.some.injEq, beq_iff_eq] at h
      subst h
      simp [Instr.sameBits]
    · simp at h
  · rename_i a b
    simp only [Option.some.injEq] at h
    rw [beq_toListBytes, beq_iff_eq] at h
    simp only [Instr.sameBits]
    rw [beq_toListBytes, h, beq_self_eq_true]
  · simp only [Option.some.injEq, beq_iff_eq] at h
    subst h
    simp [Instr.sameBits]
  · simp at h
theorem map_upd {b : Nat} {es : Array MapEntry} {cl : Nat} (h : w.heap[b]? = some (.map es cl)) (o : Obj) : Upd w { w with heap := w.heap.setIfInBounds b o } b o where
  here := by
    have hlt := (Array.getElem?_eq_some_iff.1 h).1
    simp [hlt]
  there := fun k hk => by simp only; rw [Array.getElem?_setIfInBounds, if_neg (Ne.symm hk)]
  size := by simp
  os := rfl
  tape := rfl
  output := rfl

section
variable {call : Tgt → List Value → M Value} {e : Env} {tmps : Array Value} {v : Value} {o : Oper} {aop : AOp}

theorem did_mkmap {t : TypeId} {h : Option Operand} (ho : o.op = .makeMap t h) (hc : compOp0 P o.op = some aop) (he : exec call e aop S = some (v, S')) (hr : Rel P r S w) (hE : EnvRel r e tmps) (hf : Fresh r S S') : Did P r S w S' v tmps o := by
  rw [ho] at hc
  simp only [compOp0, Option.bind_eq_bind, Option.bind_eq_some_iff] at hc
  obtain ⟨d, hd, hc⟩ := hc
  split at hc
  · rename_i kt el
    simp only [Option.bind_eq_some_iff, Option.some.injEq] at hc
    obtain ⟨a, ha, rfl⟩ := hc
    simp only [exec, M.bind_some, M.lift_some, M.pure_some] at he
    obtain ⟨_, S0, ⟨h1, hS⟩, b, S1, h2, rfl, rfl⟩ := he
    subst hS
    obtain ⟨rfl, rfl⟩ := nw_some.1 h2
    have hdm : ¬ r.dom S0.next := hf _ (Nat.le_refl _) (by simp)
    have := sim_new (P := P) (D := []) (base := 0) (size := 0) (ext := none) (b := .map [] 0) (S' := { heap := S0.heap.set S0.next (some (.map [] 0)), next := S0.next + 1, log := S0.log }) hr hdm rfl rfl rfl (alloc_new w (.map #[] 0)) ⟨rfl, MRel.nil⟩
    refine ⟨[], _, _, .map (some w.heap.size), this, ?_, .inl ?_⟩
    · have := VRel.map (r := r.add S0.next w.heap.size 0 0 none) (b := S0.next) (Ren.add_dom ..)
      rw [Ren.add_to] at this; exact this
    · cases h with
      | none => simp [execOp, ho, Instr.makeMap]
      | some x =>
        simp only [atomO, Option.map_eq_some_iff] at ha
        obtain ⟨a', ha', rfl⟩ := ha
        simp only [hintOk, Option.map_eq_some_iff, Option.bind_eq_some_iff] at h1
        obtain ⟨n, ⟨xv, hx, hn⟩, _⟩ := h1
        obtain ⟨kn, rfl⟩ := asInt_inv hn
        have := (atom_ok ha' hx hE).int_inv
        simp [execOp, ho, Instr.makeMap, run_underlying hd, this, Go.asInt, asIntOf]
  · simp at hc
theorem zeroV_run {t : TypeId} {z : Value} (h : zeroV P t = some z) : (zeroValue t).run P w = .ok z w ∧ plain z = true := by
  unfold zeroV at h
  split at h
  · rename_i i hi
    split at h
    · rename_i v hv
      split at h
      · rename_i hp
        simp only [Option.some.injEq] at h
        subst h
        exact ⟨run_zeroValue hi hv, hp⟩
      · simp at h
    · simp at h
  · simp at h
theorem did_mget {t : TypeId} {x i : Operand} {ok : Bool} (ho : o.op = .lookup t x i ok) (hc : compOp0 P o.op = some aop) (he : exec call e aop S = some (v, S')) (hr : Rel P r S w) (hE : EnvRel r e tmps) : Did P r S w S' v tmps o := by
  rw [ho] at hc
  simp only [compOp0, Option.bind_eq_bind, Option.bind_eq_some_iff] at hc
  obtain ⟨d, hd, hc⟩ := hc
  split at hc
  · rename_i kt el
    simp only [Option.bind_eq_some_iff, Option.some.injEq] at hc
    obtain ⟨kk, hkk, z, hz, a, ha, b, hb, rfl⟩ := hc
    obtain ⟨hz1, hz2⟩ := zeroV_run (w := w) hz
    simp only [exec, M.bind_some, M.lift_some] at he
    obtain ⟨xv, _, ⟨h1, rfl⟩, yv, _, ⟨h2, rfl⟩, he⟩ := he
    have hx := atom_ok ha h1 hE
    have hy := atom_ok hb h2 hE
    have none_rel : VRel r (mres ok z none) (if ok then .tuple #[z, .bool false] else z) := by
      cases ok with
      | true => exact LRel.tuple (l := [z, .bool false]) (l' := [z, .bool false]) (.cons (plain_rel hz2) (.cons (.bool _) .nil))
      | false => exact plain_rel hz2
    split at he
    · obtain ⟨rfl, rfl⟩ := M.pure_some.1 he
      have hxe := hx.mapNil_inv
      refine did_pure hr none_rel ?_
      have hu : ∃ kd, P.underlying kt = some kd := by
        unfold keyKind at hkk
        cases hh : P.underlying kt with
        | none => rw [hh] at hkk; simp at hkk
        | some d => exact ⟨d, rfl⟩
      obtain ⟨kd, hu⟩ := hu
      simp only [execOp, ho, hxe, Instr.lookup, Sem.run_bind, run_underlying hd, Result.andThen_ok, Sem.run_pure, run_checkKey hkk, Instr.findKey, run_underlying hu, Instr.findNow, hz1]
    · rename_i mb
      simp only [M.bind_some, rd_some] at he
      obtain ⟨o1, _, ⟨hg, rfl⟩, he⟩ := he
      split at he
      · rename_i es cl
        simp only [M.bind_some, M.lift_some, M.pure_some] at he
        obtain ⟨res, _, ⟨hfk, rfl⟩, rfl, rfl⟩ := he
        obtain ⟨_, hxe⟩ := hx.map_inv
        obtain ⟨es', hw, hm⟩ := map_at hr hg
        obtain ⟨res', g1, g2⟩ := run_findKey (w := w) hkk hy hm hfk
        refine ⟨_, _, _, (match res' with | some (_, v') => if ok then .tuple #[v', .bool true] else v' | none => if ok then .tuple #[z, .bool false] else z), sim_log hr (D := [(mb, false)]) rfl rfl rfl, ?_, .inl ?_⟩
        · rcases res with _ | ⟨j, v1⟩ <;> rcases res' with _ | ⟨j', v1'⟩ <;> first | exact g2.elim | skip
          · exact none_rel
          · obtain ⟨rfl, g3⟩ := g2
            cases ok with
            | true => exact LRel.tuple (l := [v1.val, .bool true]) (l' := [v1', .bool true]) (.cons g3 (.cons (.bool _) .nil))
            | false => exact g3
        · simp only [execOp, ho, hxe, Instr.lookup, Sem.run_bind, run_underlying hd, Result.andThen_ok, run_getMap hw, Sem.run_pure, run_checkKey hkk, g1]
          cases res' with
          | none => simp [hz1]
          | some p => obtain ⟨j, v'⟩ := p; simp
      · exact (M.fail_some.1 he).elim
    · exact (M.fail_some.1 he).elim
  · simp at hc
theorem did_mset {t : TypeId} {m k x : Operand} (ho : o.op = .mapUpdate t m k x) (hc : compOp0 P o.op = some aop) (he : exec call e aop S = some (v, S')) (hr : Rel P r S w) (hE : EnvRel r e tmps) : Did P r S w S' v tmps o := by
  rw [ho] at hc
  simp only [compOp0, Option.bind_eq_bind, Option.bind_eq_some_iff] at hc
  obtain ⟨d, hd, hc⟩ := hc
  split at hc
  · rename_i kt el
    simp only [Option.bind_eq_some_iff, Option.some.injEq] at hc
    obtain ⟨kk, hkk, a, ha, b, hb, c, hcc, rfl⟩ := hc
    simp only [exec, M.bind_some, M.lift_some] at he
    obtain ⟨xv, _, ⟨h1, rfl⟩, yv, _, ⟨h2, rfl⟩, zv, _, ⟨h3, rfl⟩, he⟩ := he
    have hx := atom_ok ha h1 hE
    have hy := atom_ok hb h2 hE
    have hzr := atom_ok hcc h3 hE
    split at he
    · rename_i mb
      simp only [M.bind_some, rd_some] at he
      obtain ⟨o1, _, ⟨hg, rfl⟩, he⟩ := he
      split at he
      · rename_i es cl
        split at he
        · rename_i hkey
          simp only [M.bind_some, M.lift_some, M.pure_some] at he
          obtain ⟨res, _, ⟨hfk, rfl⟩, _, S1, hwr, rfl, rfl⟩ := he
          simp only [wr_some] at hwr
          subst hwr
          obtain ⟨_, hxe⟩ := hx.map_inv
          obtain ⟨es', hw, hm⟩ := map_at hr hg
          have hu : ∃ kd, P.underlying kt = some kd := by
            unfold keyKind at hkk
            cases hh : P.underlying kt with
            | none => rw [hh] at hkk; simp at hkk
            | some d => exact ⟨d, rfl⟩
          obtain ⟨kd, hu⟩ := hu
          obtain ⟨res', g1, g2⟩ := findK_ok hu hkk hy hm hfk
          have gf : (Instr.findKey kt (evT tmps k) es'.toList).run P w = .ok res' w := by
            simp only [Instr.findKey, Sem.run_bind, run_underlying hu, Result.andThen_ok, g1, Sem.run_pure]
          rcases res with _ | ⟨j, v1⟩ <;> rcases res' with _ | ⟨j', v1'⟩ <;> first | exact g2.elim | skip
          · have hnew : BRel P r mb (mput yv zv es cl none) (.map (es'.push { key := evT tmps k, val := evT tmps x, born := cl }) (cl + 1)) := by
              refine ⟨rfl, ?_⟩
              simp only [Array.toList_push]
              exact hm.append (.cons hy hzr rfl .nil)
            refine ⟨_, _, _, undef, sim_upd hr (D := [(mb, true), (mb, false)]) hg rfl rfl rfl (by simp) (map_upd hw (.map (es'.push { key := evT tmps k, val := evT tmps x, born := cl }) (cl + 1))) hnew, undef_rel, .inr ⟨?_, rfl⟩⟩
            simp only [execOp, ho, hxe, Instr.mapUpdate, Sem.run_bind, run_underlying hd, Result.andThen_ok, run_getMap hw, run_checkKey hkk, gf, run_setMap _ hw, Sem.run_pure]
          · obtain ⟨rfl, g3⟩ := g2
            have hj : es[j]? = some v1 := by simpa using (findK_at hfk).2
            have hnew : BRel P r mb (mput yv zv es cl (some (j, v1))) (.map (es'.modify j fun e => { e with key := evT tmps k, val := evT tmps x }) cl) := by
              refine ⟨rfl, ?_⟩
              simp only [Array.toList_modify]
              obtain ⟨e0, q1, _, _, q4⟩ := hm.at hj
              exact hm.set j (fun e he => ⟨hy, hzr, by rw [q1] at he; cases he; exact q4⟩)
            refine ⟨_, _, _, undef, sim_upd hr (D := [(mb, true), (mb, false)]) hg rfl rfl rfl (by simp) (map_upd hw (.map (es'.modify j fun e => { e with key := evT tmps k, val := evT tmps x }) cl)) hnew, undef_rel, .inr ⟨?_, rfl⟩⟩
            obtain ⟨e1, _, g4, g5⟩ := findNow_same g1
            have g4' : es'[j]? = some e1 := by simpa using g4
            have hst : (Instr.keyThatStays e1.key (evT tmps k)).run P w = .ok (evT tmps k) w := by
              simp only [Instr.keyThatStays, sameBits_of g5, if_true, Sem.run_pure]
            simp only [execOp, ho, hxe, Instr.mapUpdate, Sem.run_bind, run_underlying hd, Result.andThen_ok, run_getMap hw, run_checkKey hkk, gf, g4', Option.map_some, Option.getD_some, hst, run_setMap _ hw, Sem.run_pure]
        · exact (M.fail_some.1 he).elim
      · exact (M.fail_some.1 he).elim
    · exact (M.fail_some.1 he).elim
  · simp at hc
theorem did_ment {t : TypeId} {m k : Operand} (ho : o.op = .mapEntry t m k) (hc : compOp0 P o.op = some aop) (he : exec call e aop S = some (v, S')) (hr : Rel P r S w) (hE : EnvRel r e tmps) : Did P r S w S' v tmps o := by
  rw [ho] at hc
  simp only [compOp0, Option.bind_eq_bind, Option.bind_eq_some_iff] at hc
  obtain ⟨d, hd, hc⟩ := hc
  split at hc
  · rename_i kt el
    simp only [Option.bind_eq_some_iff, Option.some.injEq] at hc
    obtain ⟨kk, hkk, z, hz, a, ha, b, hb, rfl⟩ := hc
    obtain ⟨hz1, hz2⟩ := zeroV_run (w := w) hz
    simp only [exec, M.bind_some, M.lift_some] at he
    obtain ⟨xv, _, ⟨h1, rfl⟩, yv, _, ⟨h2, rfl⟩, he⟩ := he
    have hx := atom_ok ha h1 hE
    have hy := atom_ok hb h2 hE
    split at he
    · rename_i mb
      simp only [M.bind_some, rd_some] at he
      obtain ⟨o1, _, ⟨hg, rfl⟩, he⟩ := he
      split at he
      · rename_i es cl
        split at he
        · rename_i hkey
          simp only [M.bind_some, M.lift_some, M.pure_some] at he
          obtain ⟨res, _, ⟨hfk, rfl⟩, _, S1, hwr, rfl, rfl⟩ := he
          simp only [wr_some] at hwr
          subst hwr
          obtain ⟨_, hxe⟩ := hx.map_inv
          obtain ⟨es', hw, hm⟩ := map_at hr hg
          have hu : ∃ kd, P.underlying kt = some kd := by
            unfold keyKind at hkk
            cases hh : P.underlying kt with
            | none => rw [hh] at hkk; simp at hkk
            | some d => exact ⟨d, rfl⟩
          obtain ⟨kd, hu⟩ := hu
          obtain ⟨res', g1, g2⟩ := findK_ok hu hkk hy hm hfk
          have gf : (Instr.findKey kt (evT tmps k) es'.toList).run P w = .ok res' w := by
            simp only [Instr.findKey, Sem.run_bind, run_underlying hu, Result.andThen_ok, g1, Sem.run_pure]
          rcases res with _ | ⟨j, v1⟩ <;> rcases res' with _ | ⟨j', v1'⟩ <;> first | exact g2.elim | skip
          · have hnew : BRel P r mb (mkeep yv z es cl none) (.map (es'.push { key := evT tmps k, val := z, born := cl }) (cl + 1)) := by
              refine ⟨rfl, ?_⟩
              simp only [Array.toList_push]
              exact hm.append (.cons hy (plain_rel hz2) rfl .nil)
            refine ⟨_, _, _, .tuple #[z, goInt cl], sim_upd hr (D := [(mb, true), (mb, false)]) hg rfl rfl rfl (by simp) (map_upd hw (.map (es'.push { key := evT tmps k, val := z, born := cl }) (cl + 1))) hnew,
              LRel.tuple (l := [z, .int .i64 cl]) (l' := [z, .int .i64 cl]) (.cons (plain_rel hz2) (.cons (.int _ _) .nil)), .inl ?_⟩
            simp only [execOp, ho, hxe, Instr.mapEntry, Sem.run_bind, run_underlying hd, Result.andThen_ok, run_getMap hw, run_checkKey hkk, gf, hz1, run_setMap _ hw, Sem.run_pure]
          · obtain ⟨rfl, g3⟩ := g2
            have hj : es[j]? = some v1 := by simpa using (findK_at hfk).2
            obtain ⟨e0, q1, _, q3, q4⟩ := hm.at hj
            have q1' : es'[j]? = some e0 := by simpa using q1
            have hnew : BRel P r mb (mkeep yv z es cl (some (j, v1))) (.map (es'.modify j fun e => { e with key := evT tmps k }) cl) := by
              refine ⟨rfl, ?_⟩
              simp only [Array.toList_modify]
              exact hm.set j (fun e he => by rw [q1] at he; cases he; exact ⟨hy, q3, q4⟩)
            refine ⟨_, _, _, .tuple #[v1', goInt v1.born], sim_upd hr (D := [(mb, true), (mb, false)]) hg rfl rfl rfl (by simp) (map_upd hw (.map (es'.modify j fun e => { e with key := evT tmps k }) cl)) hnew,
              LRel.tuple (l := [v1.val, .int .i64 v1.born]) (l' := [v1', .int .i64 v1.born]) (.cons g3 (.cons (.int _ _) .nil)), .inl ?_⟩
            obtain ⟨e1, _, g4, g5⟩ := findNow_same g1
            have g4' : es'[j]? = some e1 := by simpa using g4
            obtain rfl : e1 = e0 := by rw [g4'] at q1'; simpa using q1'
            have hst : (Instr.keyThatStays e1.key (evT tmps k)).run P w = .ok (evT tmps k) w := by
              simp only [Instr.keyThatStays, sameBits_of g5, if_true, Sem.run_pure]
            simp only [execOp, ho, hxe, Instr.mapEntry, Sem.run_bind, run_underlying hd, Result.andThen_ok, run_getMap hw, run_checkKey hkk, gf, g4', Option.map_some, Option.getD_some, hst, run_setMap _ hw, Sem.run_pure, q4]
        · exact (M.fail_some.1 he).elim
      · exact (M.fail_some.1 he).elim
    · exact (M.fail_some.1 he).elim
  · simp at hc
theorem findBorn_ok {t : Int} : ∀ {es : List MEnt} {es' : List MapEntry} {i j : Nat} {m : MEnt}, MRel r es es' → findBorn t es i = some (j, m) → i ≤ j ∧ es'.findIdx? (fun e => (e.born : Int) == t) = some (j - i) ∧ es[j - i]? = some m
  | [], _, i, j, m, .nil, h => by simp [findBorn] at h
  | m0 :: es, e :: es', i, j, m, .cons h1 h2 h3 h4, h => by
    simp only [findBorn] at h
    rw [h3] at h
    split at h
    · rename_i hb
      simp only [Option.some.injEq, Prod.mk.injEq] at h
      obtain ⟨rfl, rfl⟩ := h
      exact ⟨Nat.le_refl _, by rw [List.findIdx?_cons, if_pos hb]; simp, by simp⟩
    · rename_i hb
      obtain ⟨k1, k2, k3⟩ := findBorn_ok h4 h
      obtain ⟨q, hq⟩ : ∃ q, j - i = q + 1 := ⟨j - i - 1, by omega⟩
      have hq2 : j - (i + 1) = q := by omega
      rw [hq2] at k2 k3
      exact ⟨by omega, by rw [List.findIdx?_cons, if_neg hb, k2, hq]; rfl, by rw [hq, List.getElem?_cons_succ]; exact k3⟩
theorem did_mfill {t : TypeId} {m s x : Operand} (ho : o.op = .entryStore t m s x) (hc : compOp0 P o.op = some aop) (he : exec call e aop S = some (v, S')) (hr : Rel P r S w) (hE : EnvRel r e tmps) : Did P r S w S' v tmps o := by
  rw [ho] at hc
  simp only [compOp0, Option.bind_eq_bind, Option.bind_eq_some_iff, Option.some.injEq] at hc
  obtain ⟨a, ha, b, hb, c, hcc, rfl⟩ := hc
  simp only [exec, M.bind_some, M.lift_some, Option.bind_eq_some_iff] at he
  obtain ⟨xv, _, ⟨h1, rfl⟩, tv, _, ⟨⟨sv, h2, h2'⟩, rfl⟩, zv, _, ⟨h3, rfl⟩, he⟩ := he
  obtain ⟨kn, rfl⟩ := asInt_inv h2'
  have hx := atom_ok ha h1 hE
  have hs := (atom_ok hb h2 hE).int_inv
  have hzr := atom_ok hcc h3 hE
  split at he
  · rename_i mb
    simp only [M.bind_some, rd_some] at he
    obtain ⟨o1, _, ⟨hg, rfl⟩, he⟩ := he
    split at he
    · rename_i es cl
      simp only [M.bind_some, M.lift_some, M.pure_some] at he
      obtain ⟨⟨j, m0⟩, _, ⟨hfk, rfl⟩, _, S1, hwr, rfl, rfl⟩ := he
      simp only [wr_some] at hwr
      subst hwr
      obtain ⟨_, hxe⟩ := hx.map_inv
      obtain ⟨es', hw, hm⟩ := map_at hr hg
      obtain ⟨_, g1, g2⟩ := findBorn_ok hm hfk
      simp only [Nat.sub_zero] at g1 g2
      have g1' : es'.findIdx? (fun e => (e.born : Int) == tv) = some j := by rw [show es' = es'.toList.toArray by simp, List.findIdx?_toArray]; exact g1
      obtain ⟨e0, q1, q2, _, q4⟩ := hm.at g2
      have hnew : BRel P r mb (.map (es.set j ⟨m0.key, zv, m0.born⟩) cl) (.map (es'.modify j fun e => { e with val := evT tmps x }) cl) := by
        refine ⟨rfl, ?_⟩
        simp only [Array.toList_modify]
        exact hm.set j (fun e he => by rw [q1] at he; cases he; exact ⟨q2, hzr, q4⟩)
      refine ⟨_, _, _, undef, sim_upd hr (D := [(mb, true), (mb, false)]) hg rfl rfl rfl (by simp) (map_upd hw (.map (es'.modify j fun e => { e with val := evT tmps x }) cl)) hnew, undef_rel, .inr ⟨?_, rfl⟩⟩
      simp only [execOp, ho, hxe, hs, Instr.entryStore, Sem.run_bind, Result.andThen_ok, run_getMap hw, Go.asInt, asIntOf, Sem.run_pure, g1', run_setMap _ hw]
    · exact (M.fail_some.1 he).elim
  · exact (M.fail_some.1 he).elim
theorem did_mdel {c : Call} (hcal : c.callee = .builtin .delete) (ho : o.op = .call c) (hc : compBuiltin P .delete c.argTypes c.args = some aop) (he : exec call e aop S = some (v, S')) (hr : Rel P r S w) (hE : EnvRel r e tmps) (hargs : ∀ {i : Nat} {x : Operand}, c.args[i]? = some x → (c.args.map (evT tmps))[i]? = some (evT tmps x)) :
    Did P r S w S' v tmps o := by
  have hrun : (execOp (evT tmps) o) = (do pure (.value (← Builtin.delete_ c.argTypes o.type (c.args.map (evT tmps))))) := by simp [execOp, ho, resolve, hcal, invoke, builtin]
  simp only [compBuiltin, Option.bind_eq_bind, Option.bind_eq_some_iff] at hc
  obtain ⟨m, hm, a, ha, k, hk, b, hb, mt, hmt, md, hmd, hc⟩ := hc
  have hm' := hargs hm
  have hk' := hargs hk
  split at hc
  · rename_i kt el
    simp only [Option.bind_eq_some_iff, Option.some.injEq] at hc
    obtain ⟨kk, hkk, rfl⟩ := hc
    simp only [exec, M.bind_some, M.lift_some] at he
    obtain ⟨xv, _, ⟨h1, rfl⟩, yv, _, ⟨h2, rfl⟩, he⟩ := he
    have hx := atom_ok ha h1 hE
    have hy := atom_ok hb h2 hE
    split at he
    · obtain ⟨rfl, rfl⟩ := M.pure_some.1 he
      have hxe := hx.mapNil_inv
      refine did_pure hr undef_rel ?_
      rw [hrun]
      simp only [Builtin.delete_, hmt, hm', hk', hxe, Sem.run_bind, run_underlying hmd, Result.andThen_ok, run_checkKey hkk, Sem.run_pure, undef]
    · rename_i mb
      simp only [M.bind_some, rd_some] at he
      obtain ⟨o1, _, ⟨hg, rfl⟩, he⟩ := he
      split at he
      · rename_i es cl
        simp only [M.bind_some, M.lift_some, M.pure_some] at he
        obtain ⟨res, _, ⟨hfk, rfl⟩, _, S1, hwr, rfl, rfl⟩ := he
        simp only [wr_some] at hwr
        subst hwr
        obtain ⟨_, hxe⟩ := hx.map_inv
        obtain ⟨es', hw, hmr⟩ := map_at hr hg
        obtain ⟨res', g1, g2⟩ := run_findKey (w := w) hkk hy hmr hfk
        rcases res with _ | ⟨j, v1⟩ <;> rcases res' with _ | ⟨j', v1'⟩ <;> first | exact g2.elim | skip
        · refine ⟨_, _, _, undef, sim_upd hr (D := [(mb, true), (mb, false)]) hg rfl rfl rfl (by simp) (map_upd hw (.map es' cl)) (show BRel P r mb (.map (mcut es none) cl) (.map es' cl) from ⟨rfl, hmr⟩), undef_rel, .inl ?_⟩
          rw [hrun]
          simp only [Builtin.delete_, hmt, hm', hk', hxe, Sem.run_bind, run_underlying hmd, Result.andThen_ok, run_getMap hw, run_checkKey hkk, g1, run_setMap _ hw, Sem.run_pure, undef]
        · obtain ⟨rfl, g3⟩ := g2
          have hnew : BRel P r mb (.map (mcut es (some (j, v1))) cl) (.map (es'.eraseIdxIfInBounds j) cl) := by
            refine ⟨rfl, ?_⟩
            simp only [mcut, Array.toList_eraseIdxIfInBounds]
            exact hmr.erase j
          refine ⟨_, _, _, undef, sim_upd hr (D := [(mb, true), (mb, false)]) hg rfl rfl rfl (by simp) (map_upd hw (.map (es'.eraseIdxIfInBounds j) cl)) hnew, undef_rel, .inl ?_⟩
          rw [hrun]
          simp only [Builtin.delete_, hmt, hm', hk', hxe, Sem.run_bind, run_underlying hmd, Result.andThen_ok, run_getMap hw, run_checkKey hkk, g1, run_setMap _ hw, Sem.run_pure, undef]
      · exact (M.fail_some.1 he).elim
    · exact (M.fail_some.1 he).elim
  · simp at hc
end
end Go.Wb
