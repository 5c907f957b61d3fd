/- The engine, part C3: operations that compute. -/
import Derived.Test.YtmepokefmpcnnaaEngC2
import Derived.Laws.Tables
import Derived.ChangeKeysEq
namespace Go.Wb
variable {P : Program} {r : Ren} {S S' : St} {w : World}

theorem M.bind_some {α β : Type} {m : M α} {f : α → M β} {S : St} {x : β × St} : M.bind m f S = some x ↔ ∃ a S1, m S = some (a, S1) ∧ f a S1 = some x := by
  unfold M.bind
  cases h : m S with
  | none => simp
  | some p =>
    obtain ⟨a, S1⟩ := p
    simp only [Option.some.injEq, Prod.mk.injEq]
    exact ⟨fun h => ⟨a, S1, ⟨rfl, rfl⟩, h⟩, fun ⟨_, _, ⟨rfl, rfl⟩, h⟩ => h⟩
theorem M.lift_some {α : Type} {o : Option α} {S S1 : St} {a : α} : M.lift o S = some (a, S1) ↔ o = some a ∧ S1 = S := by
  unfold M.lift
  cases o with
  | none => simp
  | some b => simp [eq_comm]
theorem M.pure_some {α : Type} {S S1 : St} {a b : α} : M.pure a S = some (b, S1) ↔ b = a ∧ S1 = S := by
  unfold M.pure; simp [eq_comm]
theorem M.fail_some {α : Type} {S : St} {x : α × St} : (M.fail : M α) S = some x ↔ False := by simp [M.fail]
theorem rd_some {b : Nat} {S S1 : St} {o : Blk} : rd b S = some (o, S1) ↔ S.heap.get b = some o ∧ S1 = { heap := S.heap, next := S.next, log := (b, false) :: S.log } := by
  unfold rd
  cases S.heap.get b with
  | none => simp
  | some p => simp [eq_comm]
theorem wr_some {b : Nat} {S S1 : St} {o : Option Blk} {u : Unit} : wr b o S = some (u, S1) ↔ S1 = { heap := S.heap.set b o, next := S.next, log := (b, true) :: S.log } := by
  unfold wr; simp [eq_comm]
theorem nw_some {S S1 : St} {o : Blk} {b : Nat} : nw o S = some (b, S1) ↔ b = S.next ∧ S1 = { heap := S.heap.set S.next (some o), next := S.next + 1, log := S.log } := by
  unfold nw; simp [eq_comm]

/-- the value of an operand over temporaries -/
def evT (tmps : Array Value) : Operand → Value
  | .tmp t => tmps.getD t undef
  | .const v => v
  | .global g => .pointer (some ⟨g, 0, none⟩)
  | .func f => .func (.func f) #[] #[]
theorem eval_evT (fr : Frame) : fr.eval = evT fr.tmps := by funext x; cases x <;> rfl

theorem atom_ok {x : Operand} {a : Atom} {e : Env} {tmps : Array Value} {v : Value} (ha : atom x = some a) (hv : a.ev e = some v) (hE : EnvRel r e tmps) : VRel r v (evT tmps x) := by
  cases x with
  | tmp t =>
    simp only [atom, Option.some.injEq] at ha
    subst ha
    obtain ⟨v', h1, h2⟩ := hE t v hv
    simp only [evT, Array.getD_eq_getD_getElem?, h1]
    exact h2
  | const c =>
    simp only [atom] at ha
    split at ha
    · rename_i hp
      obtain rfl : Atom.const c = a := by simpa using ha
      obtain rfl : c = v := by simpa [Atom.ev] using hv
      exact plain_rel hp
    · simp at ha
  | func f =>
    simp only [atom, Option.some.injEq] at ha
    subst ha
    obtain rfl : Value.func (.func f) #[] #[] = v := by simpa [Atom.ev] using hv
    exact .func rfl (by simp) rfl (by simp)
  | global g => simp [atom] at ha

theorem atoms_ok {e : Env} {tmps : Array Value} (hE : EnvRel r e tmps) : ∀ {xs : List Operand} {as : List Atom} {vs : List Value}, atoms xs = some as → evs e as = some vs → LRel r vs (xs.map (evT tmps))
  | [], as, vs, h, k => by
    simp only [atoms, Option.some.injEq] at h; subst h
    simp only [evs, Option.some.injEq] at k; subst k
    exact .nil
  | x :: xs, as, vs, h, k => by
    simp only [atoms] at h
    split at h
    · rename_i a l ha hl
      simp only [Option.some.injEq] at h; subst h
      simp only [evs] at k
      split at k
      · rename_i v m hv hm
        simp only [Option.some.injEq] at k; subst k
        exact .cons (atom_ok ha hv hE) (atoms_ok hE hl hm)
      · simp at k
    · simp at h

/-! ### what a type's row gives -/
theorem run_underlying {t : TypeId} {d : TypeDesc} (h : P.underlying t = some d) : (underlying t).run P w = .ok d w := by
  simp [underlying, h]
theorem run_sizeOf {t : TypeId} {s : Nat} (h : sizeT P t = some s) : (sizeOf t).run P w = .ok s w := by
  unfold sizeT at h
  cases hi : P.info? t with
  | none => simp [hi] at h
  | some i => simp [hi] at h; simp [sizeOf, typeInfo, hi, h]
theorem run_typeInfo {t : TypeId} {i : TypeInfo} (h : P.info? t = some i) : (typeInfo t).run P w = .ok i w := by
  simp [typeInfo, h]
theorem run_zero {t : TypeId} {z : List Value} (h : zeroT P t = some z) : ∃ v, (zeroValue t).run P w = .ok v w ∧ v.cells.toList = z ∧ plain v = true := by
  unfold zeroT at h
  cases hi : P.info? t with
  | none => simp [hi] at h
  | some i =>
    simp only [hi] at h
    cases hz : i.zero with
    | none => simp [hz] at h
    | some v =>
      simp only [hz] at h
      split at h
      · rename_i hp
        exact ⟨v, by simp [zeroValue, typeInfo, hi, hz], by simpa using h, hp⟩
      · simp at h
theorem run_isAgg {t : TypeId} {sh : Sh} (h : shOf P t = some sh) : (isAgg t).run P w = .ok (match sh with | .one => false | .agg _ => true) w ∧ (∀ n, sh = .agg n → sizeT P t = some n) := by
  unfold shOf at h
  split at h
  · rename_i hu
    cases hs : sizeT P t with
    | none => simp [hs] at h
    | some s => simp [hs] at h; subst h; exact ⟨by simp [isAgg, run_underlying hu], fun n e => by injection e with e; rw [e]⟩
  · rename_i hu
    cases hs : sizeT P t with
    | none => simp [hs] at h
    | some s => simp [hs] at h; subst h; exact ⟨by simp [isAgg, run_underlying hu], fun n e => by injection e with e; rw [e]⟩
  · rename_i d h1 h2 hu
    simp at h; subst h
    refine ⟨?_, fun n e => by cases e⟩
    simp only [isAgg, Sem.run_bind, run_underlying hu, Result.andThen_ok]
    cases d <;> first | rfl | exact absurd hu (h1 _) | exact absurd hu (h2 _ _)
  · simp at h

/-! ### arithmetic -/
theorem binV_ok {op : BinOp} {t : TypeId} {x y v : Value} (h : binV op x y = some v) : (binOp op t x y).run P w = .ok v w ∧ (∀ r : Ren, VRel r v v) ∧
    (∀ a b : Operand, (eqGuard op t a b x y).run P w = .ok () w) := by
  unfold binV at h
  split at h
  · split at h
    · simp at h
    · rename_i hb
      simp at h; subst h
      refine ⟨?_, fun _ => .int _ _, fun _ _ => by simp [eqGuard]⟩
      unfold binOp Op.shift
      simp [hb]
  · split at h
    · simp at h
    · rename_i hb
      simp at h; subst h
      refine ⟨?_, fun _ => .int _ _, fun _ _ => by simp [eqGuard]⟩
      unfold binOp Op.shift
      simp [hb]
  · rename_i op' k a k' b h1 h2
    split at h
    · simp at h
    · rename_i hk
      have hk : k = k' := by simpa using hk
      subst hk
      cases op <;> simp at h <;> first
        | (exact absurd rfl (h1 _ _ _ _ rfl rfl))
        | (exact absurd rfl (h2 _ _ _ _ rfl rfl))
        | (subst h; refine ⟨by simp [binOp, Op.intArith, Op.intBits, Op.intCmp], fun _ => by constructor, fun _ _ => by simp [eqGuard]⟩)
        | (obtain ⟨hb, rfl⟩ := h; refine ⟨by simp [binOp, Op.intDiv, hb], fun _ => by constructor, fun _ _ => by simp [eqGuard]⟩)
  · rename_i op' a b
    cases op <;> simp at h <;> first
      | (subst h; refine ⟨by simp [binOp, Op.stringOp], fun _ => by constructor, fun _ _ => by simp [eqGuard]⟩)
      | (obtain ⟨hb, rfl⟩ := h; refine ⟨by simp [binOp, Op.stringOp]; omega, fun _ => by constructor, fun _ _ => by simp [eqGuard]⟩)
  · simp at h

theorem unV_ok {op : UnOp} {x v : Value} (h : unV op x = some v) : (Op.unary op x).run P w = .ok v w ∧ (∀ r : Ren, VRel r v v) := by
  unfold unV at h
  split at h <;> simp at h <;> subst h
  · exact ⟨by simp [Op.unary, Op.intArith], fun _ => .int _ _⟩
  · exact ⟨by simp [Op.unary, Op.intBits], fun _ => .int _ _⟩
  · exact ⟨by simp [Op.unary], fun _ => .bool _⟩

/-- scalars stand for themselves -/
theorem VRel.int_inv {k : IntKind} {n : Int} {v' : Value} (h : VRel r (.int k n) v') : v' = .int k n := by cases h; rfl
theorem VRel.bool_inv {b : Bool} {v' : Value} (h : VRel r (.bool b) v') : v' = .bool b := by cases h; rfl
theorem VRel.string_inv {s : ByteArray} {v' : Value} (h : VRel r (.string s) v') : v' = .string s := by cases h; rfl
theorem asBool_inv {v : Value} {b : Bool} (h : asBool v = some b) : v = .bool b := by cases v <;> simp [asBool] at h; rw [h]
theorem asInt_inv {v : Value} {n : Int} (h : asInt v = some n) : ∃ k, v = .int k n := by cases v <;> simp [asInt] at h; rename_i k m; exact ⟨k, by rw [h]⟩

theorem binV_inv {op : BinOp} {x y v : Value} (h : binV op x y = some v) {x' y' : Value} (hx : VRel r x x') (hy : VRel r y y') : x' = x ∧ y' = y := by
  unfold binV at h
  split at h <;> first
    | (exact ⟨hx.int_inv, hy.int_inv⟩)
    | (exact ⟨hx.string_inv, hy.string_inv⟩)
    | simp at h
theorem unV_inv {op : UnOp} {x v : Value} (h : unV op x = some v) {x' : Value} (hx : VRel r x x') : x' = x := by
  unfold unV at h
  split at h <;> first
    | exact hx.int_inv
    | exact hx.bool_inv
    | simp at h

theorem eqAgg_inv {k : EqK} {t : TypeId} (h : eqAgg P t = some k) : ∃ n offs, k = .cells n offs ∧ P.eqGuardType P.depth t = false ∧ sizeT P t = some n ∧ eqOffs P 8 t 0 = some offs := by
  unfold eqAgg at h
  split at h
  · simp at h
  · rename_i hg
    split at h
    · rename_i n offs h1 h2
      simp only [Option.some.injEq] at h
      exact ⟨n, offs, h.symm, by simpa using hg, h1, h2⟩
    · simp at h
theorem isNil_rel {k : NilK} {x x' : Value} {b : Bool} (h : isNil k x = some b) (hx : VRel r x x') : isNil k x' = some b := by
  cases k <;> cases hx <;> simp [isNil] at h ⊢ <;> exact h

theorem eqNil_ok {d : Nat} {k : NilK} {t : TypeId} {x y : Value} {b : Bool} (hk : eqKind P t = some (.nil k)) (h : eqV (.nil k) x y = some b) :
    (Op.equalIn (d + 1) t x y).run P w = .ok b w := by
  unfold eqKind at hk
  have hu : (∃ e, k = .ptr ∧ P.underlying t = some (.pointer e)) ∨ (∃ e, k = .slice ∧ P.underlying t = some (.slice e)) ∨
      (∃ a e, k = .map ∧ P.underlying t = some (.map a e)) ∨ (∃ a e c, k = .func ∧ P.underlying t = some (.func a e c)) := by
    split at hk <;> first | (obtain ⟨_, _, e, _⟩ := eqAgg_inv hk; cases e; done) | simp at hk
    · rename_i e hu; exact .inl ⟨e, hk.symm, hu⟩
    · rename_i e hu; exact .inr (.inl ⟨e, hk.symm, hu⟩)
    · rename_i a e hu; exact .inr (.inr (.inl ⟨a, e, hk.symm, hu⟩))
    · rename_i a e c hu; exact .inr (.inr (.inr ⟨a, e, c, hk.symm, hu⟩))
  clear hk
  simp only [eqV] at h
  unfold Op.equalIn
  rcases hu with ⟨e, rfl, hu⟩ | ⟨e, rfl, hu⟩ | ⟨a, e, rfl, hu⟩ | ⟨a, e, c, rfl, hu⟩ <;> simp only [Sem.run_bind, run_underlying hu, Result.andThen_ok]
  · cases x <;> (try (simp [isNil] at h; done))
    rename_i p
    cases y <;> (try (cases p <;> simp [isNil] at h; done))
    rename_i q
    cases p <;> cases q <;> simp [isNil] at h <;> subst h <;> simp
  · cases x <;> (try (simp [isNil] at h; done))
    rename_i p n c
    cases y <;> (try (cases p <;> simp [isNil] at h; done))
    rename_i q m c'
    cases p <;> cases q <;> simp [isNil] at h <;> subst h <;> simp
  · cases x <;> (try (simp [isNil] at h; done))
    rename_i p
    cases y <;> (try (cases p <;> simp [isNil] at h; done))
    rename_i q
    cases p <;> cases q <;> simp [isNil] at h <;> subst h <;> simp
  · cases x <;> (try (simp [isNil] at h; done)) <;> cases y <;> simp [isNil] at h <;> subst h <;> simp

theorem eqBool_ok {d : Nat} {t : TypeId} {x y : Value} {b : Bool} (hk : eqKind P t = some .bool) (h : eqV .bool x y = some b) :
    (Op.equalIn (d + 1) t x y).run P w = .ok b w := by
  have hu : P.underlying t = some .bool := by
    unfold eqKind at hk
    split at hk <;> first | (obtain ⟨_, _, e, _⟩ := eqAgg_inv hk; cases e; done) | simp at hk
    assumption
  unfold Op.equalIn
  simp only [Sem.run_bind, run_underlying hu, Result.andThen_ok]
  simp only [eqV] at h
  split at h
  · simp at h; subst h; simp
  · simp at h

/-! ## Structs and arrays, compared -/
def cellsAt (sh : Sh) (xs : List Value) (off : Nat) : Option Value := partOf sh xs off
theorem part_run {t : TypeId} {sh : Sh} {cs : List Value} {off : Nat} {v : Value} (hs : shOf P t = some sh) (h : partOf sh cs off = some v) : (part t cs.toArray off).run P w = .ok v w := by
  have hi := run_isAgg (w := w) hs
  cases sh with
  | one =>
    simp only [partOf] at h
    have h1 : cs.toArray[off]? = some v := by simpa using h
    simp [part, hi.1, h1]
  | agg n =>
    simp only [partOf] at h
    split at h
    · rename_i hl
      simp only [Option.some.injEq] at h
      subst h
      have : cs.toArray.extract off (off + n) = ((cs.drop off).take n).toArray := by
        apply Array.ext'
        rw [Array.toList_extract, List.extract_eq_take_drop]
        simp
      simp [part, hi.1, run_sizeOf (hi.2 n rfl)]
    · simp at h
theorem eqOffs_sh {d : Nat} {t : TypeId} {off : Nat} {offs : List (Nat × Nat)} (h : eqOffs P d t off = some offs) : ∃ sh, shOf P t = some sh ∧ (∀ n, sh = .agg n → sizeT P t = some n) := by
  cases d with
  | zero => simp [eqOffs] at h
  | succ d =>
    simp only [eqOffs] at h
    unfold shOf
    split at h
    · rename_i hu; rw [hu]; exact ⟨_, rfl, by simp⟩
    · rename_i hu; rw [hu]; exact ⟨_, rfl, by simp⟩
    · rename_i hu; rw [hu]; exact ⟨_, rfl, by simp⟩
    · rename_i fs hu
      rw [hu]
      split at h
      · simp at h
      · split at h
        · rename_i sz hs; rw [hs]; exact ⟨_, rfl, fun n e => by cases e; rfl⟩
        · simp at h
    · rename_i n e hu
      rw [hu]
      split at h
      · rename_i s sz h1 hs; rw [hs]; exact ⟨_, rfl, fun n e => by cases e; rfl⟩
      · simp at h
    · simp at h
theorem eqCells_append : ∀ {a l : List (Nat × Nat)} {xs ys : List Value} {b : Bool}, eqCells (a ++ l) xs ys = some b → ∃ b1 b2, eqCells a xs ys = some b1 ∧ eqCells l xs ys = some b2 ∧ b = (b1 && b2)
  | [], l, xs, ys, b, h => ⟨true, b, rfl, h, by simp⟩
  | (o, k) :: a, l, xs, ys, b, h => by
    simp only [List.cons_append, eqCells] at h ⊢
    split at h
    · rename_i x y hx hy
      split at h
      · rename_i c1 c2 h1 h2
        obtain ⟨b1, b2, k1, k2, rfl⟩ := eqCells_append h2
        simp only [Option.some.injEq] at h
        subst h
        exact ⟨c1 && b1, b2, by simp [h1, k1], k2, by rw [Bool.and_assoc]⟩
      · simp at h
    · simp at h
/-- a part of a part -/
theorem part_part {sh : Sh} {n off fo s : Nat} {xs : List Value} {c : List Value} (hx : partOf (.agg n) xs off = some (.agg c.toArray)) (hn : fo + max s 1 ≤ n) (hs : ∀ m, sh = .agg m → m = s) : ∃ v, partOf sh xs (off + fo) = some v ∧ partOf sh c fo = some v := by
  simp only [partOf] at hx
  split at hx
  · rename_i hl
    simp only [Option.some.injEq, Value.agg.injEq] at hx
    obtain rfl : (xs.drop off).take n = c := by simpa using hx
    cases sh with
    | one =>
      have h1 : off + fo < xs.length := by omega
      refine ⟨xs[off + fo], by simp [partOf, h1], ?_⟩
      simp only [partOf]
      rw [List.getElem?_take_of_lt (by omega), List.getElem?_drop]
      simp [h1]
    | agg m =>
      obtain rfl := hs m rfl
      refine ⟨.agg ((xs.drop (off + fo)).take m).toArray, ?_, ?_⟩
      · simp only [partOf]; rw [if_pos (by omega)]
      · simp only [partOf]
        rw [if_pos (by simp; omega), List.drop_take, List.drop_drop, List.take_take, Nat.min_eq_left (by omega)]
  · simp at hx
/-- what '==' answers of a part -/
def EqFine (P : Program) (w : World) (d : Nat) (t : TypeId) : Prop := ∀ (off : Nat) (offs : List (Nat × Nat)), eqOffs P d t off = some offs → ∀ (D : Nat), d ≤ D → ∀ (xs ys : List Value) (b : Bool), eqCells offs xs ys = some b → ∀ (sh : Sh), shOf P t = some sh → ∀ (x y : Value), partOf sh xs off = some x → partOf sh ys off = some y → (Op.equalIn D t x y).run P w = .ok b w
theorem eqFields_fine {d D off sz : Nat} (hD : d ≤ D) (ih : ∀ t, EqFine P w d t) {xs ys cx cy : List Value} (hx : partOf (.agg sz) xs off = some (.agg cx.toArray)) (hy : partOf (.agg sz) ys off = some (.agg cy.toArray)) :
    ∀ (fs : List Field) (offs : List (Nat × Nat)) (b : Bool), eqFieldsO P (eqOffs P d) sz off fs = some offs → eqCells offs xs ys = some b → (Op.eqFields D cx.toArray cy.toArray fs).run P w = .ok b w
  | [], offs, b, h, k => by
    simp only [eqFieldsO, Option.some.injEq] at h
    subst h
    simp only [eqCells, Option.some.injEq] at k
    subst k
    simp [Op.eqFields]
  | f :: fs, offs, b, h, k => by
    simp only [eqFieldsO] at h
    split at h
    · simp at h
    · rename_i hn
      split at h
      · rename_i s a l h1 h2 h3
        split at h
        · rename_i hsz
          simp only [Option.some.injEq] at h
          subst h
          obtain ⟨b1, b2, k1, k2, rfl⟩ := eqCells_append k
          obtain ⟨sh, e1, e2⟩ := eqOffs_sh h2
          have e3 : ∀ m, sh = .agg m → m = s := fun m e => by have := e2 m e; rw [h1] at this; simpa using this.symm
          obtain ⟨x, p1, p2⟩ := part_part hx hsz e3
          obtain ⟨y, q1, q2⟩ := part_part hy hsz e3
          have r1 := ih f.type _ _ h2 D hD xs ys b1 k1 sh e1 x y p1 q1
          simp only [Op.eqFields, hn, ne_eq, not_false_eq_true, if_true, Sem.run_bind, part_run e1 p2, part_run e1 q2, r1, Result.andThen_ok]
          cases b1 with
          | false => simp
          | true => simp only [Bool.not_true, Bool.false_eq_true, if_false, Bool.true_and]; exact eqFields_fine hD ih hx hy fs l b2 h3 k2
        · simp at h
      · simp at h
theorem eqItems_fine {d D off sz s : Nat} {e : TypeId} (hs : sizeT P e = some s) (hD : d ≤ D) (ih : EqFine P w d e) {xs ys cx cy : List Value} (hx : partOf (.agg sz) xs off = some (.agg cx.toArray)) (hy : partOf (.agg sz) ys off = some (.agg cy.toArray)) :
    ∀ (is : List Nat) (offs : List (Nat × Nat)) (b : Bool), eqItemsO (eqOffs P d e) s sz off is = some offs → eqCells offs xs ys = some b → (Op.eqItems D e s cx.toArray cy.toArray is).run P w = .ok b w
  | [], offs, b, h, k => by
    simp only [eqItemsO, Option.some.injEq] at h
    subst h
    simp only [eqCells, Option.some.injEq] at k
    subst k
    simp [Op.eqItems]
  | i :: is, offs, b, h, k => by
    simp only [eqItemsO] at h
    split at h
    · rename_i a l h2 h3
      split at h
      · rename_i hsz
        simp only [Option.some.injEq] at h
        subst h
        obtain ⟨b1, b2, k1, k2, rfl⟩ := eqCells_append k
        obtain ⟨sh, e1, e2⟩ := eqOffs_sh h2
        have e3 : ∀ m, sh = .agg m → m = s := fun m e => by have := e2 m e; rw [hs] at this; simpa using this.symm
        obtain ⟨x, p1, p2⟩ := part_part hx hsz e3
        obtain ⟨y, q1, q2⟩ := part_part hy hsz e3
        have r1 := ih _ _ h2 D hD xs ys b1 k1 sh e1 x y p1 q1
        simp only [Op.eqItems, Sem.run_bind, part_run e1 p2, part_run e1 q2, r1, Result.andThen_ok]
        cases b1 with
        | false => simp
        | true => simp only [Bool.not_true, Bool.false_eq_true, if_false, Bool.true_and]; exact eqItems_fine hs hD ih hx hy is l b2 h3 k2
      · simp at h
    · simp at h
theorem eqOne {k off : Nat} {xs ys : List Value} {b : Bool} (h : eqCells [(off, k)] xs ys = some b) : ∃ x y, xs[off]? = some x ∧ ys[off]? = some y ∧ eqCell k x y = some b := by
  simp only [eqCells] at h
  split at h
  · rename_i x y hx hy
    split at h
    · rename_i a c h1 h2
      simp only [Option.some.injEq] at h h2
      subst h2
      simp only [Bool.and_true] at h
      subst h
      exact ⟨x, y, hx, hy, h1⟩
    · simp at h
  · simp at h
theorem sh_one {t : TypeId} {u : TypeDesc} {sh : Sh} (hu : P.underlying t = some u) (hn : ∀ fs, u ≠ .struct fs) (hm : ∀ n e, u ≠ .array n e) (h : shOf P t = some sh) : sh = .one := by
  unfold shOf at h
  rw [hu] at h
  split at h
  · rename_i fs hh; exact absurd (by simpa using hh) (hn fs)
  · rename_i n e hh; exact absurd (by simpa using hh) (hm n e)
  · simpa using h.symm
  · simp at h
theorem eq_fine : ∀ (d : Nat) (t : TypeId), EqFine P w d t
  | 0, t => fun off offs h => by simp [eqOffs] at h
  | d + 1, t => fun off offs h D hD xs ys b hb sh hsh x y hx hy => by
    obtain ⟨D, rfl⟩ : ∃ D', D = D' + 1 := ⟨D - 1, by omega⟩
    simp only [eqOffs] at h
    split at h
    · rename_i hu
      simp only [Option.some.injEq] at h; subst h
      obtain rfl := sh_one hu (by simp) (by simp) hsh
      obtain ⟨x', y', h1, h2, h3⟩ := eqOne hb
      simp only [partOf] at hx hy
      obtain rfl : x' = x := by rw [h1] at hx; simpa using hx
      obtain rfl : y' = y := by rw [h2] at hy; simpa using hy
      cases x' <;> cases y' <;> simp [eqCell] at h3
      subst h3
      exact run_equalIn_bool w D t _ _ hu
    · rename_i q hu
      simp only [Option.some.injEq] at h; subst h
      obtain rfl := sh_one hu (by simp) (by simp) hsh
      obtain ⟨x', y', h1, h2, h3⟩ := eqOne hb
      simp only [partOf] at hx hy
      obtain rfl : x' = x := by rw [h1] at hx; simpa using hx
      obtain rfl : y' = y := by rw [h2] at hy; simpa using hy
      cases x' <;> cases y' <;> simp [eqCell] at h3
      obtain ⟨rfl, rfl⟩ := h3
      exact run_equalIn_int w D t _ _ _ _ hu
    · rename_i hu
      simp only [Option.some.injEq] at h; subst h
      obtain rfl := sh_one hu (by simp) (by simp) hsh
      obtain ⟨x', y', h1, h2, h3⟩ := eqOne hb
      simp only [partOf] at hx hy
      obtain rfl : x' = x := by rw [h1] at hx; simpa using hx
      obtain rfl : y' = y := by rw [h2] at hy; simpa using hy
      cases x' <;> cases y' <;> simp only [eqCell, Option.some.injEq, reduceCtorEq] at h3
      subst h3
      rw [run_equalIn_string w D t _ _ hu, ByteArray.toList_eq, ByteArray.toList_eq]
    · rename_i fs hu
      split at h
      · simp at h
      · rename_i hst
        split at h
        · rename_i sz hsz
          obtain rfl : sh = .agg sz := by
            unfold shOf at hsh
            rw [hu, hsz] at hsh
            simpa using hsh.symm
          obtain ⟨cx, rfl⟩ : ∃ c, x = .agg c := by
            simp only [partOf] at hx; split at hx <;> simp at hx; exact ⟨_, hx.symm⟩
          obtain ⟨cy, rfl⟩ : ∃ c, y = .agg c := by
            simp only [partOf] at hy; split at hy <;> simp at hy; exact ⟨_, hy.symm⟩
          have hf : P.fieldsOf t = fs := by simp [Program.fieldsOf, hu]
          rw [run_equalIn_struct w D t cx cy (by rw [hf]; exact hu) (by simpa using hst), hf]
          have := eqFields_fine (w := w) (D := D) (by omega) (eq_fine d) (cx := cx.toList) (cy := cy.toList) (by simpa using hx) (by simpa using hy) fs.toList offs b h hb
          simpa using this
        · simp at h
    · rename_i n e hu
      split at h
      · rename_i s sz hs hsz
        obtain rfl : sh = .agg sz := by
          unfold shOf at hsh
          rw [hu, hsz] at hsh
          simpa using hsh.symm
        obtain ⟨cx, rfl⟩ : ∃ c, x = .agg c := by
          simp only [partOf] at hx; split at hx <;> simp at hx; exact ⟨_, hx.symm⟩
        obtain ⟨cy, rfl⟩ : ∃ c, y = .agg c := by
          simp only [partOf] at hy; split at hy <;> simp at hy; exact ⟨_, hy.symm⟩
        have hi : ∃ i, P.info? e = some i ∧ i.size = s := by
          unfold sizeT at hs
          cases hh : P.info? e with
          | none => simp [hh] at hs
          | some i => simp [hh] at hs; exact ⟨i, rfl, hs⟩
        obtain ⟨i, hi, his⟩ := hi
        have hc : P.cellsOf e = s := by simp [Program.cellsOf, hi, his]
        rw [run_equalIn_array w D cx cy hu hi, hc]
        have := eqItems_fine (w := w) (D := D) hs (by omega) (eq_fine d e) (cx := cx.toList) (cy := cy.toList) (by simpa using hx) (by simpa using hy) (List.range n) offs b h hb
        simpa using this
      · simp at h
    · simp at h
theorem eqCell_rel {k : Nat} {x y x' y' : Value} {b : Bool} (h : eqCell k x y = some b) (hx : VRel r x x') (hy : VRel r y y') : eqCell k x' y' = some b := by
  unfold eqCell at h
  split at h
  · obtain rfl := hx.bool_inv; obtain rfl := hy.bool_inv; exact h
  · obtain rfl := hx.int_inv; obtain rfl := hy.int_inv; exact h
  · obtain rfl := hx.string_inv; obtain rfl := hy.string_inv; exact h
  · simp at h
theorem eqCells_rel : ∀ {offs : List (Nat × Nat)} {xs ys xs' ys' : List Value} {b : Bool}, eqCells offs xs ys = some b → LRel r xs xs' → LRel r ys ys' → eqCells offs xs' ys' = some b
  | [], xs, ys, xs', ys', b, h, _, _ => h
  | (o, k) :: os, xs, ys, xs', ys', b, h, hx, hy => by
    simp only [eqCells] at h ⊢
    split at h
    · rename_i x y h1 h2
      obtain ⟨x', e1, e2⟩ := hx.get h1
      obtain ⟨y', e3, e4⟩ := hy.get h2
      rw [e1, e3]
      simp only
      split at h
      · rename_i a c h3 h4
        rw [eqCell_rel h3 e2 e4, eqCells_rel h4 hx hy]
        exact h
      · simp at h
    · simp at h
theorem eqKind_cells {n : Nat} {offs : List (Nat × Nat)} {t : TypeId} (h : eqKind P t = some (.cells n offs)) : P.eqGuardType P.depth t = false ∧ sizeT P t = some n ∧ eqOffs P 8 t 0 = some offs ∧ shOf P t = some (.agg n) := by
  unfold eqKind at h
  split at h <;> first | (simp at h; done) | skip
  · rename_i fs hu
    obtain ⟨n', offs', e, h1, h2, h3⟩ := eqAgg_inv h
    cases e
    exact ⟨h1, h2, h3, by unfold shOf; rw [hu, h2]; rfl⟩
  · rename_i m e hu
    obtain ⟨n', offs', e, h1, h2, h3⟩ := eqAgg_inv h
    cases e
    exact ⟨h1, h2, h3, by unfold shOf; rw [hu, h2]; rfl⟩

theorem eqV_ok {k : EqK} {t : TypeId} {x y x' y' : Value} {b : Bool} (hk : eqKind P t = some k) (h : eqV k x y = some b) (hx : VRel r x x') (hy : VRel r y y') :
    (∀ op o1 o2, (eqGuard op t o1 o2 x' y').run P w = .ok () w) ∧ (binOp .eql t x' y').run P w = .ok (.bool b) w ∧ (binOp .neq t x' y').run P w = .ok (.bool !b) w := by
  cases k with
  | bool =>
    simp only [eqV] at h
    split at h
    · rename_i a c
      obtain rfl := hx.bool_inv
      obtain rfl := hy.bool_inv
      have he : (Op.equal t (.bool a) (.bool c)).run P w = .ok b w := eqBool_ok (d := 9999) hk (by simpa [eqV] using h)
      exact ⟨fun op o1 o2 => by simp [eqGuard], by simp [binOp, he], by simp [binOp, he]⟩
    · simp at h
  | nil k =>
    have h' : eqV (.nil k) x' y' = some b := by
      simp only [eqV] at h ⊢
      split at h
      · rename_i c h1 h2; rw [isNil_rel h1 hx, isNil_rel h2 hy]; exact h
      · rename_i h1 h2; rw [isNil_rel h1 hx, isNil_rel h2 hy]; exact h
      · simp at h
    have he : (Op.equal t x' y').run P w = .ok b w := eqNil_ok (d := 9999) hk h'
    refine ⟨?_, ?_⟩
    · intro op o1 o2
      simp only [eqV] at h'
      cases k <;> cases x' <;> simp [isNil] at h' <;> simp [eqGuard]
    · simp only [eqV] at h'
      cases k <;> cases x' <;> (try (simp [isNil] at h'; done)) <;> cases y' <;> (try (simp [isNil] at h'; done)) <;> simp [binOp, he]
  | cells n offs =>
    obtain ⟨h1, h2, h3, h4⟩ := eqKind_cells hk
    simp only [eqV] at h
    split at h
    · rename_i xs ys
      split at h
      · rename_i hl
        obtain ⟨xs', rfl, hxs⟩ : ∃ a, x' = .agg a ∧ LRel r xs.toList a.toList := by
          cases hx with
          | agg h1 h2 => exact ⟨_, rfl, LRel.of h1 h2⟩
        obtain ⟨ys', rfl, hys⟩ : ∃ a, y' = .agg a ∧ LRel r ys.toList a.toList := by
          cases hy with
          | agg h1 h2 => exact ⟨_, rfl, LRel.of h1 h2⟩
        have hb := eqCells_rel h hxs hys
        have px : partOf (.agg n) xs'.toList 0 = some (.agg xs') := by
          simp only [partOf]
          rw [if_pos (by have := hxs.length; omega), List.drop_zero, List.take_of_length_le (by have := hxs.length; omega)]
        have py : partOf (.agg n) ys'.toList 0 = some (.agg ys') := by
          simp only [partOf]
          rw [if_pos (by have := hys.length; omega), List.drop_zero, List.take_of_length_le (by have := hys.length; omega)]
        have he : (Op.equal t (.agg xs') (.agg ys')).run P w = .ok b w := eq_fine 8 t 0 offs h3 Op.maxDepth (by decide) _ _ b hb _ h4 _ _ px py
        refine ⟨fun op o1 o2 => ?_, by simp [binOp, he], by simp [binOp, he]⟩
        unfold eqGuard
        cases op <;> simp [h1]
      · simp at h
    · simp at h
end Go.Wb
