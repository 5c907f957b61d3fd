/- The engine, part C3: operations that compute. -/
import Derived.Test.YtkjeebmdipmofaaEngC2
import Derived.Laws.Tables
namespace Go.Wb
variable {P : Program} {r : Ren} {S S' : St} {w : World}

theorem M.bind_some {α β : Type} {m : M α} {f : α → M β} {S : St} {x : β × St} : M.bind m f S = some x ↔ ∃ a S1, m S = some (a, S1) ∧ f a S1 = some x := by
  unfold M.bind
  cases h : m S with
  | none => simp
  | some p =>
    obtain ⟨a, S1⟩ := p
    simp only [Option.some.injEq, Prod.mk.injEq]
    exact ⟨fun h => ⟨a, S1, ⟨rfl, rfl⟩, h⟩, fun ⟨_, _, ⟨rfl, rfl⟩, h⟩ => h⟩
theorem M.lift_some {α : Type} {o : Option α} {S S1 : St} {a : α} : M.lift o S = some (a, S1) ↔ o = some a ∧ S1 = S := by
  unfold M.lift
  cases o with
  | none => simp
  | some b => simp [eq_comm]
theorem M.pure_some {α : Type} {S S1 : St} {a b : α} : M.pure a S = some (b, S1) ↔ b = a ∧ S1 = S := by
  unfold M.pure; simp [eq_comm]
theorem M.fail_some {α : Type} {S : St} {x : α × St} : (M.fail : M α) S = some x ↔ False := by simp [M.fail]
theorem rd_some {b : Nat} {S S1 : St} {o : Blk} : rd b S = some (o, S1) ↔ S.heap.get b = some o ∧ S1 = { heap := S.heap, next := S.next, log := (b, false) :: S.log } := by
  unfold rd
  cases S.heap.get b with
  | none => simp
  | some p => simp [eq_comm]
theorem wr_some {b : Nat} {S S1 : St} {o : Option Blk} {u : Unit} : wr b o S = some (u, S1) ↔ S1 = { heap := S.heap.set b o, next := S.next, log := (b, true) :: S.log } := by
  unfold wr; simp [eq_comm]
theorem nw_some {S S1 : St} {o : Blk} {b : Nat} : nw o S = some (b, S1) ↔ b = S.next ∧ S1 = { heap := S.heap.set S.next (some o), next := S.next + 1, log := S.log } := by
  unfold nw; simp [eq_comm]

/-- the value of an operand over temporaries -/
def evT (tmps : Array Value) : Operand → Value
  | .tmp t => tmps.getD t undef
  | .const v => v
  | .global g => .pointer (some ⟨g, 0, none⟩)
  | .func f => .func (.func f) #[] #[]
theorem eval_evT (fr : Frame) : fr.eval = evT fr.tmps := by funext x; cases x <;> rfl

theorem atom_ok {x : Operand} {a : Atom} {e : Env} {tmps : Array Value} {v : Value} (ha : atom x = some a) (hv : a.ev e = some v) (hE : EnvRel r e tmps) : VRel r v (evT tmps x) := by
  cases x with
  | tmp t =>
    simp only [atom, Option.some.injEq] at ha
    subst ha
    obtain ⟨v', h1, h2⟩ := hE t v hv
    simp only [evT, Array.getD_eq_getD_getElem?, h1]
    exact h2
  | const c =>
    simp only [atom] at ha
    split at ha
    · rename_i hp
      obtain rfl : Atom.const c = a := by simpa using ha
      obtain rfl : c = v := by simpa [Atom.ev] using hv
      exact plain_rel hp
    · simp at ha
  | func f =>
    simp only [atom, Option.some.injEq] at ha
    subst ha
    obtain rfl : Value.func (.func f) #[] #[] = v := by simpa [Atom.ev] using hv
    exact .func rfl (by simp) rfl (by simp)
  | global g => simp [atom] at ha

theorem atoms_ok {e : Env} {tmps : Array Value} (hE : EnvRel r e tmps) : ∀ {xs : List Operand} {as : List Atom} {vs : List Value}, atoms xs = some as → evs e as = some vs → LRel r vs (xs.map (evT tmps))
  | [], as, vs, h, k => by
    simp only [atoms, Option.some.injEq] at h; subst h
    simp only [evs, Option.some.injEq] at k; subst k
    exact .nil
  | x :: xs, as, vs, h, k => by
    simp only [atoms] at h
    split at h
    · rename_i a l ha hl
      simp only [Option.some.injEq] at h; subst h
      simp only [evs] at k
      split at k
      · rename_i v m hv hm
        simp only [Option.some.injEq] at k; subst k
        exact .cons (atom_ok ha hv hE) (atoms_ok hE hl hm)
      · simp at k
    · simp at h

/-! ### what a type's row gives -/
theorem run_underlying {t : TypeId} {d : TypeDesc} (h : P.underlying t = some d) : (underlying t).run P w = .ok d w := by
  simp [underlying, h]
theorem run_sizeOf {t : TypeId} {s : Nat} (h : sizeT P t = some s) : (sizeOf t).run P w = .ok s w := by
  unfold sizeT at h
  cases hi : P.info? t with
  | none => simp [hi] at h
  | some i => simp [hi] at h; simp [sizeOf, typeInfo, hi, h]
theorem run_typeInfo {t : TypeId} {i : TypeInfo} (h : P.info? t = some i) : (typeInfo t).run P w = .ok i w := by
  simp [typeInfo, h]
theorem run_zero {t : TypeId} {z : List Value} (h : zeroT P t = some z) : ∃ v, (zeroValue t).run P w = .ok v w ∧ v.cells.toList = z ∧ plain v = true := by
  unfold zeroT at h
  cases hi : P.info? t with
  | none => simp [hi] at h
  | some i =>
    simp only [hi] at h
    cases hz : i.zero with
    | none => simp [hz] at h
    | some v =>
      simp only [hz] at h
      split at h
      · rename_i hp
        exact ⟨v, by simp [zeroValue, typeInfo, hi, hz], by simpa using h, hp⟩
      · simp at h
theorem run_isAgg {t : TypeId} {sh : Sh} (h : shOf P t = some sh) : (isAgg t).run P w = .ok (match sh with | .one => false | .agg _ => true) w ∧ (∀ n, sh = .agg n → sizeT P t = some n) := by
  unfold shOf at h
  split at h
  · rename_i hu
    cases hs : sizeT P t with
    | none => simp [hs] at h
    | some s => simp [hs] at h; subst h; exact ⟨by simp [isAgg, run_underlying hu], fun n e => by injection e with e; rw [e]⟩
  · rename_i hu
    cases hs : sizeT P t with
    | none => simp [hs] at h
    | some s => simp [hs] at h; subst h; exact ⟨by simp [isAgg, run_underlying hu], fun n e => by injection e with e; rw [e]⟩
  · rename_i d h1 h2 hu
    simp at h; subst h
    refine ⟨?_, fun n e => by cases e⟩
    simp only [isAgg, Sem.run_bind, run_underlying hu, Result.andThen_ok]
    cases d <;> first | rfl | exact absurd hu (h1 _) | exact absurd hu (h2 _ _)
  · simp at h

/-! ### arithmetic -/
theorem binV_ok {op : BinOp} {t : TypeId} {x y v : Value} (h : binV op x y = some v) : (binOp op t x y).run P w = .ok v w ∧ (∀ r : Ren, VRel r v v) ∧
    (∀ a b : Operand, (eqGuard op t a b x y).run P w = .ok () w) := by
  unfold binV at h
  split at h
  · split at h
    · simp at h
    · rename_i hb
      simp at h; subst h
      refine ⟨?_, fun _ => .int _ _, fun _ _ => by simp [eqGuard]⟩
      unfold binOp Op.shift
      simp [hb]
  · split at h
    · simp at h
    · rename_i hb
      simp at h; subst h
      refine ⟨?_, fun _ => .int _ _, fun _ _ => by simp [eqGuard]⟩
      unfold binOp Op.shift
      simp [hb]
  · rename_i op' k a k' b h1 h2
    split at h
    · simp at h
    · rename_i hk
      have hk : k = k' := by simpa using hk
      subst hk
      cases op <;> simp at h <;> first
        | (exact absurd rfl (h1 _ _ _ _ rfl rfl))
        | (exact absurd rfl (h2 _ _ _ _ rfl rfl))
        | (subst h; refine ⟨by simp [binOp, Op.intArith, Op.intBits, Op.intCmp], fun _ => by constructor, fun _ _ => by simp [eqGuard]⟩)
        | (obtain ⟨hb, rfl⟩ := h; refine ⟨by simp [binOp, Op.intDiv, hb], fun _ => by constructor, fun _ _ => by simp [eqGuard]⟩)
  · rename_i op' a b
    cases op <;> simp at h <;> first
      | (subst h; refine ⟨by simp [binOp, Op.stringOp], fun _ => by constructor, fun _ _ => by simp [eqGuard]⟩)
      | (obtain ⟨hb, rfl⟩ := h; refine ⟨by simp [binOp, Op.stringOp]; omega, fun _ => by constructor, fun _ _ => by simp [eqGuard]⟩)
  · simp at h

theorem unV_ok {op : UnOp} {x v : Value} (h : unV op x = some v) : (Op.unary op x).run P w = .ok v w ∧ (∀ r : Ren, VRel r v v) := by
  unfold unV at h
  split at h <;> simp at h <;> subst h
  · exact ⟨by simp [Op.unary, Op.intArith], fun _ => .int _ _⟩
  · exact ⟨by simp [Op.unary, Op.intBits], fun _ => .int _ _⟩
  · exact ⟨by simp [Op.unary], fun _ => .bool _⟩

/-- scalars stand for themselves -/
theorem VRel.int_inv {k : IntKind} {n : Int} {v' : Value} (h : VRel r (.int k n) v') : v' = .int k n := by cases h; rfl
theorem VRel.bool_inv {b : Bool} {v' : Value} (h : VRel r (.bool b) v') : v' = .bool b := by cases h; rfl
theorem VRel.string_inv {s : ByteArray} {v' : Value} (h : VRel r (.string s) v') : v' = .string s := by cases h; rfl
theorem asBool_inv {v : Value} {b : Bool} (h : asBool v = some b) : v = .bool b := by cases v <;> simp [asBool] at h; rw [h]
theorem asInt_inv {v : Value} {n : Int} (h : asInt v = some n) : ∃ k, v = .int k n := by cases v <;> simp [asInt] at h; rename_i k m; exact ⟨k, by rw [h]⟩

theorem binV_inv {op : BinOp} {x y v : Value} (h : binV op x y = some v) {x' y' : Value} (hx : VRel r x x') (hy : VRel r y y') : x' = x ∧ y' = y := by
  unfold binV at h
  split at h <;> first
    | (exact ⟨hx.int_inv, hy.int_inv⟩)
    | (exact ⟨hx.string_inv, hy.string_inv⟩)
    | simp at h
theorem unV_inv {op : UnOp} {x v : Value} (h : unV op x = some v) {x' : Value} (hx : VRel r x x') : x' = x := by
  unfold unV at h
  split at h <;> first
    | exact hx.int_inv
    | exact hx.bool_inv
    | simp at h

theorem isNil_rel {k : NilK} {x x' : Value} {b : Bool} (h : isNil k x = some b) (hx : VRel r x x') : isNil k x' = some b := by
  cases k <;> cases hx <;> simp [isNil] at h ⊢ <;> exact h

theorem eqNil_ok {d : Nat} {k : NilK} {t : TypeId} {x y : Value} {b : Bool} (hk : eqKind P t = some (.nil k)) (h : eqV (.nil k) x y = some b) :
    (Op.equalIn (d + 1) t x y).run P w = .ok b w := by
  unfold eqKind at hk
  have hu : (∃ e, k = .ptr ∧ P.underlying t = some (.pointer e)) ∨ (∃ e, k = .slice ∧ P.underlying t = some (.slice e)) ∨
      (∃ a e, k = .map ∧ P.underlying t = some (.map a e)) ∨ (∃ a e c, k = .func ∧ P.underlying t = some (.func a e c)) := by
    split at hk <;> simp at hk
    · rename_i e hu; exact .inl ⟨e, hk.symm, hu⟩
    · rename_i e hu; exact .inr (.inl ⟨e, hk.symm, hu⟩)
    · rename_i a e hu; exact .inr (.inr (.inl ⟨a, e, hk.symm, hu⟩))
    · rename_i a e c hu; exact .inr (.inr (.inr ⟨a, e, c, hk.symm, hu⟩))
  clear hk
  simp only [eqV] at h
  unfold Op.equalIn
  rcases hu with ⟨e, rfl, hu⟩ | ⟨e, rfl, hu⟩ | ⟨a, e, rfl, hu⟩ | ⟨a, e, c, rfl, hu⟩ <;> simp only [Sem.run_bind, run_underlying hu, Result.andThen_ok]
  · cases x <;> (try (simp [isNil] at h; done))
    rename_i p
    cases y <;> (try (cases p <;> simp [isNil] at h; done))
    rename_i q
    cases p <;> cases q <;> simp [isNil] at h <;> subst h <;> simp
  · cases x <;> (try (simp [isNil] at h; done))
    rename_i p n c
    cases y <;> (try (cases p <;> simp [isNil] at h; done))
    rename_i q m c'
    cases p <;> cases q <;> simp [isNil] at h <;> subst h <;> simp
  · cases x <;> (try (simp [isNil] at h; done))
    rename_i p
    cases y <;> (try (cases p <;> simp [isNil] at h; done))
    rename_i q
    cases p <;> cases q <;> simp [isNil] at h <;> subst h <;> simp
  · cases x <;> (try (simp [isNil] at h; done)) <;> cases y <;> simp [isNil] at h <;> subst h <;> simp

theorem eqBool_ok {d : Nat} {t : TypeId} {x y : Value} {b : Bool} (hk : eqKind P t = some .bool) (h : eqV .bool x y = some b) :
    (Op.equalIn (d + 1) t x y).run P w = .ok b w := by
  have hu : P.underlying t = some .bool := by
    unfold eqKind at hk
    split at hk <;> simp at hk
    assumption
  unfold Op.equalIn
  simp only [Sem.run_bind, run_underlying hu, Result.andThen_ok]
  simp only [eqV] at h
  split at h
  · simp at h; subst h; simp
  · simp at h

theorem eqV_ok {k : EqK} {t : TypeId} {x y x' y' : Value} {b : Bool} (hk : eqKind P t = some k) (h : eqV k x y = some b) (hx : VRel r x x') (hy : VRel r y y') :
    (∀ op o1 o2, (eqGuard op t o1 o2 x' y').run P w = .ok () w) ∧ (binOp .eql t x' y').run P w = .ok (.bool b) w ∧ (binOp .neq t x' y').run P w = .ok (.bool !b) w := by
  cases k with
  | bool =>
    simp only [eqV] at h
    split at h
    · rename_i a c
      obtain rfl := hx.bool_inv
      obtain rfl := hy.bool_inv
      have he : (Op.equal t (.bool a) (.bool c)).run P w = .ok b w := eqBool_ok (d := 9999) hk (by simpa [eqV] using h)
      exact ⟨fun op o1 o2 => by simp [eqGuard], by simp [binOp, he], by simp [binOp, he]⟩
    · simp at h
  | nil k =>
    have h' : eqV (.nil k) x' y' = some b := by
      simp only [eqV] at h ⊢
      split at h
      · rename_i c h1 h2; rw [isNil_rel h1 hx, isNil_rel h2 hy]; exact h
      · rename_i h1 h2; rw [isNil_rel h1 hx, isNil_rel h2 hy]; exact h
      · simp at h
    have he : (Op.equal t x' y').run P w = .ok b w := eqNil_ok (d := 9999) hk h'
    refine ⟨?_, ?_⟩
    · intro op o1 o2
      simp only [eqV] at h'
      cases k <;> cases x' <;> simp [isNil] at h' <;> simp [eqGuard]
    · simp only [eqV] at h'
      cases k <;> cases x' <;> (try (simp [isNil] at h'; done)) <;> cases y' <;> (try (simp [isNil] at h'; done)) <;> simp [binOp, he]
  | cells offs =>
    unfold eqKind at hk
    split at hk <;> simp at hk
end Go.Wb
