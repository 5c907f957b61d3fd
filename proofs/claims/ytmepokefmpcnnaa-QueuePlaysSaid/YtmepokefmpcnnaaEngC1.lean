/- The engine, part C1: how the abstract heap stands to the model's world. -/
import Derived.Test.YtmepokefmpcnnaaEngB
namespace Go.Wb

/-- where an abstract block lies: in which block, from which cell on; how many cells that block has; may it be grown in place (elements of so many cells) -/
structure Ren where
  dom : Nat → Prop
  to : Nat → Nat
  base : Nat → Nat
  size : Nat → Nat
  ext : Nat → Option Nat

inductive VRel (r : Ren) : Value → Value → Prop
  | bool (b : Bool) : VRel r (.bool b) (.bool b)
  | int (k : IntKind) (n : Int) : VRel r (.int k n) (.int k n)
  | string (s : ByteArray) : VRel r (.string s) (.string s)
  | ptrNil : VRel r (.pointer none) (.pointer none)
  | slcNil : VRel r (.slice none 0 0) (.slice none 0 0)
  | slcE (a : Addr) : VRel r (.chan none) (.slice (some a) 0 0)
  | mapNil : VRel r (.map none) (.map none)
  | map {b : Nat} : r.dom b → VRel r (.map (some b)) (.map (some (r.to b)))
  | nilFunc : VRel r .nilFunc .nilFunc
  | nilIface : VRel r .nilIface .nilIface
  | ptr {b o : Nat} : r.dom b → VRel r (.pointer (some ⟨b, o, none⟩)) (.pointer (some ⟨r.to b, r.base b + o, none⟩))
  | slc {b o n c c' : Nat} : r.dom b → (r.ext b = none → c' = c) → c ≤ c' → (∀ z, r.ext b = some z → r.base b + o + c' * z ≤ r.size b) →
      VRel r (.slice (some ⟨b, o, none⟩) n c) (.slice (some ⟨r.to b, r.base b + o, none⟩) n c')
  | slc0 {b o o' c' z : Nat} : r.dom b → r.ext b = some z → r.base b ≤ o' → o' + c' * z ≤ r.size b →
      VRel r (.slice (some ⟨b, o, none⟩) 0 0) (.slice (some ⟨r.to b, o', none⟩) 0 c')
  | func {f : FuncId} {a a' c c' : Array Value} : a.toList.length = a'.toList.length → (∀ (i : Nat) (v v' : Value), a.toList[i]? = some v → a'.toList[i]? = some v' → VRel r v v') →
      c.toList.length = c'.toList.length → (∀ (i : Nat) (v v' : Value), c.toList[i]? = some v → c'.toList[i]? = some v' → VRel r v v') → VRel r (.func (.func f) a c) (.func (.func f) a' c')
  | yield {l : Nat} : r.dom l → VRel r (.func (.yield l) #[] #[]) (.func (.yield (r.to l)) #[] #[])
  | agg {a a' : Array Value} : a.toList.length = a'.toList.length → (∀ (i : Nat) (v v' : Value), a.toList[i]? = some v → a'.toList[i]? = some v' → VRel r v v') → VRel r (.agg a) (.agg a')
  | tuple {a a' : Array Value} : a.toList.length = a'.toList.length → (∀ (i : Nat) (v v' : Value), a.toList[i]? = some v → a'.toList[i]? = some v' → VRel r v v') → VRel r (.tuple a) (.tuple a')
  | iface {t : TypeId} {v v' : Value} : VRel r v v' → VRel r (.iface t v) (.iface t v')

/-- lists, cell by cell -/
inductive LRel (r : Ren) : List Value → List Value → Prop
  | nil : LRel r [] []
  | cons {v v' : Value} {l l' : List Value} : VRel r v v' → LRel r l l' → LRel r (v :: l) (v' :: l')

theorem LRel.of {r : Ren} : ∀ {l l' : List Value}, l.length = l'.length → (∀ (i : Nat) (v v' : Value), l[i]? = some v → l'[i]? = some v' → VRel r v v') → LRel r l l'
  | [], [], _, _ => .nil
  | [], _ :: _, h, _ => by simp at h
  | _ :: _, [], h, _ => by simp at h
  | v :: l, v' :: l', h, k => .cons (k 0 v v' rfl rfl) (LRel.of (by simpa using h) fun i a b ha hb => k (i + 1) a b (by simpa using ha) (by simpa using hb))
theorem LRel.length {r : Ren} {l l' : List Value} (h : LRel r l l') : l.length = l'.length := by
  induction h with
  | nil => rfl
  | cons _ _ ih => simp [ih]
theorem LRel.at {r : Ren} {l l' : List Value} (h : LRel r l l') : ∀ (i : Nat) (v v' : Value), l[i]? = some v → l'[i]? = some v' → VRel r v v' := by
  induction h with
  | nil => intro i v v' h; simp at h
  | cons hv _ ih =>
    intro i v v' h1 h2
    cases i with
    | zero => simp at h1 h2; subst h1 h2; exact hv
    | succ i => exact ih i v v' (by simpa using h1) (by simpa using h2)
theorem LRel.get {r : Ren} {l l' : List Value} (h : LRel r l l') {i : Nat} {v : Value} (hv : l[i]? = some v) : ∃ v', l'[i]? = some v' ∧ VRel r v v' := by
  have hi : i < l'.length := by rw [← h.length]; exact (List.getElem?_eq_some_iff.1 hv).1
  exact ⟨l'[i], by simp [hi], h.at i _ _ hv (by simp [hi])⟩
theorem LRel.agg {r : Ren} {l l' : List Value} (h : LRel r l l') : VRel r (.agg l.toArray) (.agg l'.toArray) := .agg (by simpa using h.length) (by simpa using h.at)
theorem LRel.tuple {r : Ren} {l l' : List Value} (h : LRel r l l') : VRel r (.tuple l.toArray) (.tuple l'.toArray) := .tuple (by simpa using h.length) (by simpa using h.at)
theorem LRel.func {r : Ren} {f : FuncId} {l l' k k' : List Value} (h : LRel r l l') (g : LRel r k k') : VRel r (.func (.func f) l.toArray k.toArray) (.func (.func f) l'.toArray k'.toArray) :=
  .func (by simpa using h.length) (by simpa using h.at) (by simpa using g.length) (by simpa using g.at)
theorem LRel.append {r : Ren} {a a' b b' : List Value} (h : LRel r a a') (k : LRel r b b') : LRel r (a ++ b) (a' ++ b') := by
  induction h with
  | nil => exact k
  | cons hv _ ih => exact .cons hv ih
theorem LRel.take {r : Ren} {a a' : List Value} (h : LRel r a a') (n : Nat) : LRel r (a.take n) (a'.take n) := by
  induction h generalizing n with
  | nil => simp; exact .nil
  | cons hv _ ih => cases n with
    | zero => simp; exact .nil
    | succ n => simp; exact .cons hv (ih n)
theorem LRel.drop {r : Ren} {a a' : List Value} (h : LRel r a a') (n : Nat) : LRel r (a.drop n) (a'.drop n) := by
  induction h generalizing n with
  | nil => simp; exact .nil
  | cons hv ht ih => cases n with
    | zero => simp; exact .cons hv ht
    | succ n => simp; exact ih n
theorem LRel.set {r : Ren} {a a' : List Value} (h : LRel r a a') (i : Nat) {v v' : Value} (hv : VRel r v v') : LRel r (a.set i v) (a'.set i v') := by
  induction h generalizing i with
  | nil => simp; exact .nil
  | cons hw ht ih => cases i with
    | zero => simp; exact .cons hv ht
    | succ i => simp; exact .cons hw (ih i)

theorem plainF_rel {r : Ren} : ∀ (n : Nat) (v : Value), plainF n v = true → VRel r v v
  | 0, _, h => by simp [plainF] at h
  | n + 1, v, h => by
    have L : ∀ l : List Value, l.all (plainF n) = true → LRel r l l := by
      intro l hl
      induction l with
      | nil => exact .nil
      | cons a l ih => simp at hl; exact .cons (plainF_rel n a hl.1) (ih (by simpa using hl.2))
    unfold plainF at h
    split at h <;> first
      | exact .bool _
      | exact .int _ _
      | exact .string _
      | exact .nilFunc
      | exact .nilIface
      | exact .ptrNil
      | exact .mapNil
      | exact .slcNil
      | (simp only [Bool.and_eq_true] at h; exact .func rfl (L _ h.1).at rfl (L _ h.2).at)
      | exact .agg rfl (L _ h).at
      | exact .tuple rfl (L _ h).at
      | exact .iface (plainF_rel n _ h)
      | simp at h
theorem plain_rel {r : Ren} {v : Value} (h : plain v = true) : VRel r v v := plainF_rel 6 v h
theorem undef_rel {r : Ren} : VRel r undef undef := .tuple rfl (by simp)

/-- what a value's cells are -/
theorem VRel.cells {r : Ren} {v v' : Value} (h : VRel r v v') : LRel r v.cells.toList v'.cells.toList := by
  cases h <;> first
    | (rename_i h1 h2; exact LRel.of h1 h2)
    | exact .cons (by constructor <;> assumption) .nil
theorem VRel.cells_size {r : Ren} {v v' : Value} (h : VRel r v v') : v.cells.size = v'.cells.size := by simpa using h.cells.length

structure Ren.le (r r' : Ren) : Prop where
  dom : ∀ b, r.dom b → r'.dom b
  to : ∀ b, r.dom b → r'.to b = r.to b
  base : ∀ b, r.dom b → r'.base b = r.base b
  size : ∀ b, r.dom b → r'.size b = r.size b
  ext : ∀ b, r.dom b → r'.ext b = r.ext b
theorem Ren.le.refl (r : Ren) : r.le r := ⟨fun _ h => h, fun _ _ => rfl, fun _ _ => rfl, fun _ _ => rfl, fun _ _ => rfl⟩
theorem Ren.le.trans {a b c : Ren} (h : a.le b) (k : b.le c) : a.le c :=
  ⟨fun x hx => k.dom x (h.dom x hx), fun x hx => (k.to x (h.dom x hx)).trans (h.to x hx), fun x hx => (k.base x (h.dom x hx)).trans (h.base x hx),
    fun x hx => (k.size x (h.dom x hx)).trans (h.size x hx), fun x hx => (k.ext x (h.dom x hx)).trans (h.ext x hx)⟩

theorem VRel.mono {r r' : Ren} (h : r.le r') {v v' : Value} (k : VRel r v v') : VRel r' v v' := by
  induction k with
  | bool b => exact .bool b
  | int k n => exact .int k n
  | string s => exact .string s
  | ptrNil => exact .ptrNil
  | slcNil => exact .slcNil
  | slcE a => exact .slcE a
  | mapNil => exact .mapNil
  | map hd => rw [← h.to _ hd]; exact .map (h.dom _ hd)
  | nilFunc => exact .nilFunc
  | nilIface => exact .nilIface
  | ptr hd => rw [← h.to _ hd, ← h.base _ hd]; exact .ptr (h.dom _ hd)
  | slc hd h1 h2 h3 =>
    rw [← h.to _ hd, ← h.base _ hd]
    exact .slc (h.dom _ hd) (by rw [h.ext _ hd]; exact h1) h2 (by rw [h.ext _ hd, h.base _ hd, h.size _ hd]; exact h3)
  | slc0 hd h1 h2 h3 =>
    rw [← h.to _ hd]
    exact .slc0 (h.dom _ hd) (by rw [h.ext _ hd]; exact h1) (by rw [h.base _ hd]; exact h2) (by rw [h.size _ hd]; exact h3)
  | func h1 _ h3 _ ih1 ih2 => exact .func h1 ih1 h3 ih2
  | yield hd => rw [← h.to _ hd]; exact .yield (h.dom _ hd)
  | agg h1 _ ih => exact .agg h1 ih
  | tuple h1 _ ih => exact .tuple h1 ih
  | iface _ ih => exact .iface ih
theorem LRel.mono {r r' : Ren} (h : r.le r') {l l' : List Value} (k : LRel r l l') : LRel r' l l' := by
  induction k with
  | nil => exact .nil
  | cons hv _ ih => exact .cons (hv.mono h) ih

def EnvRel (r : Ren) (e : Env) (tmps : Array Value) : Prop := ∀ t v, e.get t = some v → ∃ v', tmps[t]? = some v' ∧ VRel r v v'
theorem EnvRel.mono {r r' : Ren} (h : r.le r') {e : Env} {tmps : Array Value} (k : EnvRel r e tmps) : EnvRel r' e tmps :=
  fun t v hv => let ⟨v', h1, h2⟩ := k t v hv; ⟨v', h1, h2.mono h⟩
theorem EnvRel.put {r : Ren} {e : Env} {tmps : Array Value} (k : EnvRel r e tmps) {d : Nat} (hd : d < tmps.size) {v v' : Value} (hv : VRel r v v') :
    EnvRel r (e.set d (some v)) (tmps.setIfInBounds d v') := by
  intro t x hx
  rw [Tr.get_set] at hx
  by_cases e : t = d
  · subst e
    rw [if_pos rfl] at hx
    obtain rfl : v = x := by simpa using hx
    exact ⟨v', by simp [hd], hv⟩
  · rw [if_neg e] at hx
    obtain ⟨y, h1, h2⟩ := k t x hx
    exact ⟨y, by rw [Array.getElem?_setIfInBounds]; rw [if_neg (by omega)]; exact h1, h2⟩

def codeOf : Ext → Option Code
  | .normal => none
  | .exit id => some (.exit id)
  | .ret => some .ret

def PendOk (L : Loop) : Option Ext → Prop
  | none => L.state = .ready ∧ L.pending = none
  | some x => L.state = .done ∧ x ≠ .normal ∧ L.pending = codeOf x

/-- a map's entries, one by one -/
inductive MRel (r : Ren) : List MEnt → List MapEntry → Prop
  | nil : MRel r [] []
  | cons {k : MEnt} {e : MapEntry} {l : List MEnt} {l' : List MapEntry} : VRel r k.key e.key → VRel r k.val e.val → k.born = e.born → MRel r l l' → MRel r (k :: l) (e :: l')
theorem MRel.mono {r r' : Ren} (h : r.le r') {l : List MEnt} {l' : List MapEntry} (k : MRel r l l') : MRel r' l l' := by
  induction k with
  | nil => exact .nil
  | cons h1 h2 h3 _ ih => exact .cons (h1.mono h) (h2.mono h) h3 ih
/-- an abstract block and the object where it lies -/
def BRel (P : Program) (r : Ren) (id : Nat) : Blk → Obj → Prop
  | .cells ext str c, .cells rc _ (lo, hi) => r.ext id = ext ∧ (ext ≠ none → rc.size = r.size id) ∧
      (∃ l', LRel r c l' ∧ ∀ i v, l'[i]? = some v → rc[r.base id + i]? = some v) ∧ (lo = hi ∨ rc.size ≤ lo) ∧ (str = false → lo = hi)
  | .loop params assign body env pending, .loop L => L.params.toList = params ∧
      (∃ n, n ≤ L.tmps.size ∧ compCode P n L.assign = some assign ∧ compCode P n L.body = some body ∧ (∀ p ∈ params, p < n)) ∧ EnvRel r env L.tmps ∧
      PendOk L pending
  | .map es cl, .map es' cl' => cl = cl' ∧ MRel r es es'.toList
  | .ro c, .cells rc _ _ => r.ext id = none ∧ ∃ l', LRel r c l' ∧ ∀ i v, l'[i]? = some v → rc[r.base id + i]? = some v
  | _, _ => False

theorem BRel.mono {P : Program} {r r' : Ren} (h : r.le r') {id : Nat} (hd : r.dom id) {b : Blk} {o : Obj} (k : BRel P r id b o) : BRel P r' id b o := by
  cases b with
  | cells ext str c =>
    cases o <;> try exact k.elim
    rename_i rc el fz
    obtain ⟨lo, hi⟩ := fz
    obtain ⟨h1, h2, ⟨l', h3, h4⟩, h5, h6⟩ := k
    exact ⟨by rw [h.ext _ hd]; exact h1, by rw [h.size _ hd]; exact h2, ⟨l', h3.mono h, by rw [h.base _ hd]; exact h4⟩, h5, h6⟩
  | loop ps as bd env pd =>
    cases o <;> try exact k.elim
    obtain ⟨h1, h2, h3, h4⟩ := k
    exact ⟨h1, h2, h3.mono h, h4⟩
  | map es cl =>
    cases o <;> try exact k.elim
    exact ⟨k.1, MRel.mono h k.2⟩
  | ro c =>
    cases o <;> try exact k.elim
    obtain ⟨h1, l', h3, h4⟩ := k
    exact ⟨by rw [h.ext _ hd]; exact h1, l', h3.mono h, by rw [h.base _ hd]; exact h4⟩

structure Rel (P : Program) (r : Ren) (S : St) (w : World) : Prop where
  at_ : ∀ id b, S.heap.get id = some b → r.dom id ∧ ∃ o, w.heap[r.to id]? = some o ∧ BRel P r id b o
  inj' : ∀ i j bi bj, S.heap.get i = some bi → S.heap.get j = some bj → (bi.isRo = false ∨ bj.isRo = false) → r.to i = r.to j → i = j

theorem Rel.inj {P : Program} {r : Ren} {S : St} {w : World} (h : Rel P r S w) (i j : Nat) (bi bj : Blk) (hi : S.heap.get i = some bi) (hj : S.heap.get j = some bj) (e : r.to i = r.to j) (hro : bi.isRo = false ∨ bj.isRo = false) : i = j := h.inj' i j bi bj hi hj hro e
def Live (r : Ren) (S : St) (k : Nat) : Prop := ∃ id b, S.heap.get id = some b ∧ r.to id = k

/-- from r, S, w one comes to r', S', w'; D is what has been touched -/
structure Sim (P : Program) (D : List (Nat × Bool)) (r : Ren) (S : St) (w : World) (r' : Ren) (S' : St) (w' : World) : Prop where
  le : r.le r'
  rel : Rel P r' S' w'
  log : S'.log = D ++ S.log
  next : S.next ≤ S'.next
  dom : ∀ id, r'.dom id ↔ r.dom id ∨ (S.next ≤ id ∧ id < S'.next)
  size : w.heap.size ≤ w'.heap.size
  os : w'.os = w.os
  tape : w'.tape = w.tape
  output : w'.output = w.output
  frame : ∀ k, k < w.heap.size → ¬ Live r S k → w'.heap[k]? = w.heap[k]?
  kept : ∀ id b, S.heap.get id = some b → (id, true) ∉ D → w'.heap[r.to id]? = w.heap[r.to id]?
  same : ∀ id, (id, true) ∉ D → ¬ (S.next ≤ id ∧ id < S'.next) → S'.heap.get id = S.heap.get id
  live : ∀ k, k < w.heap.size → Live r' S' k → Live r S k

def Fresh (r : Ren) (S S' : St) : Prop := ∀ id, S.next ≤ id → id < S'.next → ¬ r.dom id

theorem Sim.refl {P : Program} {r : Ren} {S : St} {w : World} (h : Rel P r S w) : Sim P [] r S w r S w where
  le := .refl r
  rel := h
  log := rfl
  next := Nat.le_refl _
  dom := fun id => ⟨fun h => .inl h, fun h => h.elim (fun h => h) fun ⟨a, b⟩ => by omega⟩
  size := Nat.le_refl _
  os := rfl
  tape := rfl
  output := rfl
  frame := fun _ _ _ => rfl
  kept := fun _ _ _ _ => rfl
  same := fun _ _ _ => rfl
  live := fun _ _ h => h

theorem Sim.trans {P : Program} {D D' : List (Nat × Bool)} {r r1 r2 : Ren} {S S1 S2 : St} {w w1 w2 : World} (hf : Fresh r S S2) (hr : Rel P r S w)
    (h : Sim P D r S w r1 S1 w1) (k : Sim P D' r1 S1 w1 r2 S2 w2) : Sim P (D' ++ D) r S w r2 S2 w2 where
  le := h.le.trans k.le
  rel := k.rel
  log := by rw [k.log, h.log, List.append_assoc]
  next := Nat.le_trans h.next k.next
  dom := fun id => by rw [k.dom, h.dom]; have := h.next; have := k.next; constructor <;> (rintro (h | h) <;> first | (rcases h with h | h <;> first | exact .inl h | exact .inr (by omega)) | skip) <;> by_cases e : id < S1.next <;> first | exact .inl (.inl h) | exact .inl (.inr (by omega)) | exact .inr (by omega) | skip
  size := Nat.le_trans h.size k.size
  os := k.os.trans h.os
  tape := k.tape.trans h.tape
  output := k.output.trans h.output
  frame := fun x hx hl => by
    rw [k.frame x (Nat.lt_of_lt_of_le hx h.size) (fun c => hl (h.live x hx c)), h.frame x hx hl]
  kept := fun id b hb hn => by
    have h1 : (id, true) ∉ D := fun c => hn (by simp [c])
    have h2 : (id, true) ∉ D' := fun c => hn (by simp [c])
    have hd := (hr.at_ id b hb).1
    have hnx : ¬ (S.next ≤ id ∧ id < S1.next) := fun c => hf id c.1 (Nat.lt_of_lt_of_le c.2 k.next) hd
    have e := h.same id h1 hnx
    have := k.kept id b (by rw [e]; exact hb) h2
    rw [h.le.to _ hd] at this
    rw [this, h.kept id b hb h1]
  same := fun id hn hx => by
    have := h.next; have := k.next
    rw [k.same id (fun c => hn (by simp [c])) (by omega), h.same id (fun c => hn (by simp [c])) (by omega)]
  live := fun x hx c => h.live x hx (k.live x (Nat.lt_of_lt_of_le hx h.size) c)

theorem Fresh.left {r : Ren} {S S1 S2 : St} (h : Fresh r S S2) (k : S1.next ≤ S2.next) : Fresh r S S1 := fun id a b => h id a (by omega)
theorem Fresh.right {P : Program} {D : List (Nat × Bool)} {r r1 : Ren} {S S1 S2 : St} {w w1 : World} (h : Fresh r S S2) (k : Sim P D r S w r1 S1 w1) : Fresh r1 S1 S2 := by
  intro id a b c
  have := k.next
  rcases (k.dom id).1 c with c | c
  · exact h id (by omega) b c
  · omega
end Go.Wb
