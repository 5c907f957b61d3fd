/- The engine: EngC1 EngC2 EngC3 EngC4 EngC5 EngC6 EngC7 EngC8 EngC9 EngC9m EngC10 EngC11. It proves nothing of the program by itself; it has no conditions. -/
import Derived.Test.YtminohpmjajfgaaGreatDoorEngBA
import Derived.Laws.Tables
import Derived.ChangeKeysEq
/- The engine, part C1: how the abstract heap stands to the model's world. -/
section
namespace Go.Wb

/-- where an abstract block lies: in which block, from which cell on; how many cells that block has; may it be grown in place (elements of so many cells) -/
structure Ren where
  dom : Nat → Prop
  to : Nat → Nat
  base : Nat → Nat
  size : Nat → Nat
  ext : Nat → Option Nat
  fin : ∃ m, ∀ b, dom b → b < m

inductive VRel (r : Ren) : Value → Value → Prop
  | bool (b : Bool) : VRel r (.bool b) (.bool b)
  | int (k : IntKind) (n : Int) : VRel r (.int k n) (.int k n)
  | string (s : ByteArray) : VRel r (.string s) (.string s)
  | ptrNil : VRel r (.pointer none) (.pointer none)
  | slcNil : VRel r (.slice none 0 0) (.slice none 0 0)
  | slcE (a : Addr) : VRel r (.chan none) (.slice (some a) 0 0)
  | mapNil : VRel r (.map none) (.map none)
  | map {b : Nat} : r.dom b → VRel r (.map (some b)) (.map (some (r.to b)))
  | nilFunc : VRel r .nilFunc .nilFunc
  | nilIface : VRel r .nilIface .nilIface
  | ptr {b o : Nat} : r.dom b → VRel r (.pointer (some ⟨b, o, none⟩)) (.pointer (some ⟨r.to b, r.base b + o, none⟩))
  | slc {b o n c c' : Nat} : r.dom b → (r.ext b = none → c' = c) → c ≤ c' → (∀ z, r.ext b = some z → r.base b + o + c' * z ≤ r.size b) →
      VRel r (.slice (some ⟨b, o, none⟩) n c) (.slice (some ⟨r.to b, r.base b + o, none⟩) n c')
  | slc0 {b o o' c' z : Nat} : r.dom b → r.ext b = some z → r.base b + o ≤ o' → o' + c' * z ≤ r.size b →
      VRel r (.slice (some ⟨b, o, none⟩) 0 0) (.slice (some ⟨r.to b, o', none⟩) 0 c')
  | func {f : FuncId} {a a' c c' : Array Value} : a.toList.length = a'.toList.length → (∀ (i : Nat) (v v' : Value), a.toList[i]? = some v → a'.toList[i]? = some v' → VRel r v v') →
      c.toList.length = c'.toList.length → (∀ (i : Nat) (v v' : Value), c.toList[i]? = some v → c'.toList[i]? = some v' → VRel r v v') → VRel r (.func (.func f) a c) (.func (.func f) a' c')
  | yield {l : Nat} : r.dom l → VRel r (.func (.yield l) #[] #[]) (.func (.yield (r.to l)) #[] #[])
  | agg {a a' : Array Value} : a.toList.length = a'.toList.length → (∀ (i : Nat) (v v' : Value), a.toList[i]? = some v → a'.toList[i]? = some v' → VRel r v v') → VRel r (.agg a) (.agg a')
  | tuple {a a' : Array Value} : a.toList.length = a'.toList.length → (∀ (i : Nat) (v v' : Value), a.toList[i]? = some v → a'.toList[i]? = some v' → VRel r v v') → VRel r (.tuple a) (.tuple a')
  | iface {t : TypeId} {v v' : Value} : VRel r v v' → VRel r (.iface t v) (.iface t v')

/-- lists, cell by cell -/
inductive LRel (r : Ren) : List Value → List Value → Prop
  | nil : LRel r [] []
  | cons {v v' : Value} {l l' : List Value} : VRel r v v' → LRel r l l' → LRel r (v :: l) (v' :: l')

theorem LRel.of {r : Ren} : ∀ {l l' : List Value}, l.length = l'.length → (∀ (i : Nat) (v v' : Value), l[i]? = some v → l'[i]? = some v' → VRel r v v') → LRel r l l'
  | [], [], _, _ => .nil
  | [], _ :: _, h, _ => by simp at h
  | _ :: _, [], h, _ => by simp at h
  | v :: l, v' :: l', h, k => .cons (k 0 v v' rfl rfl) (LRel.of (by simpa using h) fun i a b ha hb => k (i + 1) a b (by simpa using ha) (by simpa using hb))
theorem LRel.length {r : Ren} {l l' : List Value} (h : LRel r l l') : l.length = l'.length := by
  induction h with
  | nil => rfl
  | cons _ _ ih => simp [ih]
theorem LRel.at {r : Ren} {l l' : List Value} (h : LRel r l l') : ∀ (i : Nat) (v v' : Value), l[i]? = some v → l'[i]? = some v' → VRel r v v' := by
  induction h with
  | nil => intro i v v' h; simp at h
  | cons hv _ ih =>
    intro i v v' h1 h2
    cases i with
    | zero => simp at h1 h2; subst h1 h2; exact hv
    | succ i => exact ih i v v' (by simpa using h1) (by simpa using h2)
theorem LRel.get {r : Ren} {l l' : List Value} (h : LRel r l l') {i : Nat} {v : Value} (hv : l[i]? = some v) : ∃ v', l'[i]? = some v' ∧ VRel r v v' := by
  have hi : i < l'.length := by rw [← h.length]; exact (List.getElem?_eq_some_iff.1 hv).1
  exact ⟨l'[i], by simp [hi], h.at i _ _ hv (by simp [hi])⟩
theorem LRel.agg {r : Ren} {l l' : List Value} (h : LRel r l l') : VRel r (.agg l.toArray) (.agg l'.toArray) := .agg (by simpa using h.length) (by simpa using h.at)
theorem LRel.tuple {r : Ren} {l l' : List Value} (h : LRel r l l') : VRel r (.tuple l.toArray) (.tuple l'.toArray) := .tuple (by simpa using h.length) (by simpa using h.at)
theorem LRel.func {r : Ren} {f : FuncId} {l l' k k' : List Value} (h : LRel r l l') (g : LRel r k k') : VRel r (.func (.func f) l.toArray k.toArray) (.func (.func f) l'.toArray k'.toArray) :=
  .func (by simpa using h.length) (by simpa using h.at) (by simpa using g.length) (by simpa using g.at)
theorem LRel.append {r : Ren} {a a' b b' : List Value} (h : LRel r a a') (k : LRel r b b') : LRel r (a ++ b) (a' ++ b') := by
  induction h with
  | nil => exact k
  | cons hv _ ih => exact .cons hv ih
theorem LRel.take {r : Ren} {a a' : List Value} (h : LRel r a a') (n : Nat) : LRel r (a.take n) (a'.take n) := by
  induction h generalizing n with
  | nil => simp; exact .nil
  | cons hv _ ih => cases n with
    | zero => simp; exact .nil
    | succ n => simp; exact .cons hv (ih n)
theorem LRel.drop {r : Ren} {a a' : List Value} (h : LRel r a a') (n : Nat) : LRel r (a.drop n) (a'.drop n) := by
  induction h generalizing n with
  | nil => simp; exact .nil
  | cons hv ht ih => cases n with
    | zero => simp; exact .cons hv ht
    | succ n => simp; exact ih n
theorem LRel.set {r : Ren} {a a' : List Value} (h : LRel r a a') (i : Nat) {v v' : Value} (hv : VRel r v v') : LRel r (a.set i v) (a'.set i v') := by
  induction h generalizing i with
  | nil => simp; exact .nil
  | cons hw ht ih => cases i with
    | zero => simp; exact .cons hv ht
    | succ i => simp; exact .cons hw (ih i)

theorem plainF_rel {r : Ren} : ∀ (n : Nat) (v : Value), plainF n v = true → VRel r v v
  | 0, _, h => by simp [plainF] at h
  | n + 1, v, h => by
    have L : ∀ l : List Value, l.all (plainF n) = true → LRel r l l := by
      intro l hl
      induction l with
      | nil => exact .nil
      | cons a l ih => simp at hl; exact .cons (plainF_rel n a hl.1) (ih (by simpa using hl.2))
    unfold plainF at h
    split at h <;> first
      | exact .bool _
      | exact .int _ _
      | exact .string _
      | exact .nilFunc
      | exact .nilIface
      | exact .ptrNil
      | exact .mapNil
      | exact .slcNil
      | (simp only [Bool.and_eq_true] at h; exact .func rfl (L _ h.1).at rfl (L _ h.2).at)
      | exact .agg rfl (L _ h).at
      | exact .tuple rfl (L _ h).at
      | exact .iface (plainF_rel n _ h)
      | simp at h
theorem plain_rel {r : Ren} {v : Value} (h : plain v = true) : VRel r v v := plainF_rel 6 v h
theorem undef_rel {r : Ren} : VRel r undef undef := .tuple rfl (by simp)

/-- what a value's cells are -/
theorem VRel.cells {r : Ren} {v v' : Value} (h : VRel r v v') : LRel r v.cells.toList v'.cells.toList := by
  cases h <;> first
    | (rename_i h1 h2; exact LRel.of h1 h2)
    | exact .cons (by constructor <;> assumption) .nil
theorem VRel.cells_size {r : Ren} {v v' : Value} (h : VRel r v v') : v.cells.size = v'.cells.size := by simpa using h.cells.length

structure Ren.le (r r' : Ren) : Prop where
  dom : ∀ b, r.dom b → r'.dom b
  to : ∀ b, r.dom b → r'.to b = r.to b
  base : ∀ b, r.dom b → r'.base b = r.base b
  size : ∀ b, r.dom b → r'.size b = r.size b
  ext : ∀ b, r.dom b → r'.ext b = r.ext b
theorem Ren.le.refl (r : Ren) : r.le r := ⟨fun _ h => h, fun _ _ => rfl, fun _ _ => rfl, fun _ _ => rfl, fun _ _ => rfl⟩
theorem Ren.le.trans {a b c : Ren} (h : a.le b) (k : b.le c) : a.le c :=
  ⟨fun x hx => k.dom x (h.dom x hx), fun x hx => (k.to x (h.dom x hx)).trans (h.to x hx), fun x hx => (k.base x (h.dom x hx)).trans (h.base x hx),
    fun x hx => (k.size x (h.dom x hx)).trans (h.size x hx), fun x hx => (k.ext x (h.dom x hx)).trans (h.ext x hx)⟩

theorem VRel.mono {r r' : Ren} (h : r.le r') {v v' : Value} (k : VRel r v v') : VRel r' v v' := by
  induction k with
  | bool b => exact .bool b
  | int k n => exact .int k n
  | string s => exact .string s
  | ptrNil => exact .ptrNil
  | slcNil => exact .slcNil
  | slcE a => exact .slcE a
  | mapNil => exact .mapNil
  | map hd => rw [← h.to _ hd]; exact .map (h.dom _ hd)
  | nilFunc => exact .nilFunc
  | nilIface => exact .nilIface
  | ptr hd => rw [← h.to _ hd, ← h.base _ hd]; exact .ptr (h.dom _ hd)
  | slc hd h1 h2 h3 =>
    rw [← h.to _ hd, ← h.base _ hd]
    exact .slc (h.dom _ hd) (by rw [h.ext _ hd]; exact h1) h2 (by rw [h.ext _ hd, h.base _ hd, h.size _ hd]; exact h3)
  | slc0 hd h1 h2 h3 =>
    rw [← h.to _ hd]
    exact .slc0 (h.dom _ hd) (by rw [h.ext _ hd]; exact h1) (by rw [h.base _ hd]; exact h2) (by rw [h.size _ hd]; exact h3)
  | func h1 _ h3 _ ih1 ih2 => exact .func h1 ih1 h3 ih2
  | yield hd => rw [← h.to _ hd]; exact .yield (h.dom _ hd)
  | agg h1 _ ih => exact .agg h1 ih
  | tuple h1 _ ih => exact .tuple h1 ih
  | iface _ ih => exact .iface ih
theorem LRel.mono {r r' : Ren} (h : r.le r') {l l' : List Value} (k : LRel r l l') : LRel r' l l' := by
  induction k with
  | nil => exact .nil
  | cons hv _ ih => exact .cons (hv.mono h) ih

set_option linter.unusedSectionVars false
variable [GloK]
/-- the package-level variables lie where they lie -/
def Glo (r : Ren) : Prop := ∀ g i, GloK.ix g = some i → r.dom i ∧ r.to i = g ∧ r.base i = 0
theorem list_plain_eq {r : Ren} {p : Value → Bool} : ∀ {l l' : List Value}, l.length = l'.length → (∀ (i : Nat) (v v' : Value), l[i]? = some v → l'[i]? = some v' → VRel r v v') → (∀ v v', p v = true → VRel r v v' → v' = v) → l.all p = true → l' = l
  | [], [], _, _, _, _ => rfl
  | [], _ :: _, h, _, _, _ => by simp at h
  | _ :: _, [], h, _, _, _ => by simp at h
  | v :: l, v' :: l', h, k, q, ha => by
    simp only [List.all_cons, Bool.and_eq_true] at ha
    rw [q v v' ha.1 (k 0 v v' rfl rfl), list_plain_eq (l := l) (l' := l') (by simpa using h) (fun i a b h1 h2 => k (i + 1) a b (by simpa using h1) (by simpa using h2)) q ha.2]
theorem plainF_eq {r : Ren} : ∀ (n : Nat) (v v' : Value), plainF n v = true → VRel r v v' → v' = v
  | 0, v, v', h, k => by simp [plainF] at h
  | n + 1, v, v', h, k => by
    cases k with
    | bool b => rfl
    | int k n => rfl
    | string s => rfl
    | ptrNil => rfl
    | slcNil => rfl
    | mapNil => rfl
    | nilFunc => rfl
    | nilIface => rfl
    | ptr hd => simp [plainF] at h
    | map hd => simp [plainF] at h
    | slc hd h1 h2 h3 => simp [plainF] at h
    | slc0 hd h1 h2 h3 => simp [plainF] at h
    | slcE a => simp [plainF] at h
    | yield hd => simp [plainF] at h
    | func h1 h2 h3 h4 =>
      simp only [plainF, Bool.and_eq_true] at h
      have e1 := list_plain_eq h1 h2 (fun v v' => plainF_eq n v v') h.1
      have e2 := list_plain_eq h3 h4 (fun v v' => plainF_eq n v v') h.2
      rw [Array.toList_inj.1 e1, Array.toList_inj.1 e2]
    | agg h1 h2 =>
      simp only [plainF] at h
      rw [Array.toList_inj.1 (list_plain_eq h1 h2 (fun v v' => plainF_eq n v v') h)]
    | tuple h1 h2 =>
      simp only [plainF] at h
      rw [Array.toList_inj.1 (list_plain_eq h1 h2 (fun v v' => plainF_eq n v v') h)]
    | iface h1 =>
      simp only [plainF] at h
      rw [plainF_eq n _ _ h h1]
theorem plain_eq {r : Ren} {v v' : Value} (h : plain v = true) (k : VRel r v v') : v' = v := plainF_eq 6 v v' h k

/-- and hold what they hold -/
def GloS (r : Ren) (h : Tr Blk) : Prop := ∀ (i : Nat) (c : List Value), GloK.cells[i]? = some c → r.dom i ∧ r.to i = GloK.inv i ∧ r.base i = 0 ∧ h.get i = some (.ro c)
theorem GloS.glo {r : Ren} {h : Tr Blk} (k : GloS r h) : Glo r := fun g i hg =>
  let ⟨h1, h2⟩ := GloK.ok g i hg
  let ⟨h3, h4, h5, _⟩ := k i _ (List.getElem?_eq_getElem h2)
  ⟨h3, h4.trans h1, h5⟩
theorem GloS.keep {r r' : Ren} {h h' : Tr Blk} (k : GloS r h) (hle : r.le r') (hk : ∀ i c, h.get i = some (.ro c) → h'.get i = some (.ro c)) : GloS r' h' := fun i c hc =>
  let ⟨h1, h2, h3, h4⟩ := k i c hc
  ⟨hle.dom _ h1, (hle.to _ h1).trans h2, (hle.base _ h1).trans h3, hk i c h4⟩
/-- the world holds it -/
def GloAt (w : World) : Prop := ∀ (i : Nat) (c : List Value), GloK.cells[i]? = some c → ∃ (rc : Array Value) (el : TypeId) (fz : Nat × Nat), w.heap[GloK.inv i]? = some (.cells rc el fz) ∧ ∀ (j : Nat) (v : Value), c[j]? = some v → rc[j]? = some v
/-- a block is set that is none of them -/
theorem GloS.set {r r' : Ren} {h : Tr Blk} (k : GloS r h) (hle : r.le r') {id : Nat} (hn : ∀ c, h.get id ≠ some (.ro c)) (o : Option Blk) : GloS r' (h.set id o) :=
  k.keep hle fun i c hi => by
    rw [Tr.get_set, if_neg (by rintro rfl; exact hn c hi)]
    exact hi
theorem GloS.set2 {r r' : Ren} {h : Tr Blk} (k : GloS r h) (hle : r.le r') {id n : Nat} (hn : ∀ c, h.get id ≠ some (.ro c)) (hd : ¬ r.dom n) (o o' : Option Blk) : GloS r' ((h.set id o).set n o') := fun i c hi => by
  obtain ⟨h1, h2, h3, h4⟩ := k i c hi
  refine ⟨hle.dom _ h1, (hle.to _ h1).trans h2, (hle.base _ h1).trans h3, ?_⟩
  rw [Tr.get_set, Tr.get_set, if_neg (by rintro rfl; exact hd h1), if_neg (by rintro rfl; exact hn c h4)]
  exact h4
theorem ro_ne {h : Tr Blk} {id : Nat} {b : Blk} (hb : h.get id = some b) (hro : b.isRo = false) : ∀ c, h.get id ≠ some (.ro c) := by
  intro c hc
  rw [hb] at hc
  cases hc
  cases hro
theorem Glo.mono {r r' : Ren} (h : r.le r') (k : Glo r) : Glo r' := fun g i hg =>
  let ⟨h1, h2, h3⟩ := k g i hg
  ⟨h.dom _ h1, (h.to _ h1).trans h2, (h.base _ h1).trans h3⟩
structure EnvRel (r : Ren) (e : Env) (tmps : Array Value) : Prop where
  at_ : ∀ t v, e.get t = some v → ∃ v', tmps[t]? = some v' ∧ VRel r v v'
  glo : Glo r
theorem EnvRel.mono {r r' : Ren} (h : r.le r') {e : Env} {tmps : Array Value} (k : EnvRel r e tmps) : EnvRel r' e tmps :=
  ⟨fun t v hv => let ⟨v', h1, h2⟩ := k.at_ t v hv; ⟨v', h1, h2.mono h⟩, k.glo.mono h⟩
theorem EnvRel.put {r : Ren} {e : Env} {tmps : Array Value} (k : EnvRel r e tmps) {d : Nat} (hd : d < tmps.size) {v v' : Value} (hv : VRel r v v') :
    EnvRel r (e.set d (some v)) (tmps.setIfInBounds d v') := by
  refine ⟨?_, k.glo⟩
  intro t x hx
  rw [Tr.get_set] at hx
  by_cases e : t = d
  · subst e
    rw [if_pos rfl] at hx
    obtain rfl : v = x := by simpa using hx
    exact ⟨v', by simp [hd], hv⟩
  · rw [if_neg e] at hx
    obtain ⟨y, h1, h2⟩ := k.at_ t x hx
    exact ⟨y, by rw [Array.getElem?_setIfInBounds]; rw [if_neg (by omega)]; exact h1, h2⟩

def codeOf : Ext → Option Code
  | .normal => none
  | .exit id => some (.exit id)
  | .ret => some .ret

def PendOk (L : Loop) : Option Ext → Prop
  | none => L.state = .ready ∧ L.pending = none
  | some x => L.state = .done ∧ x ≠ .normal ∧ L.pending = codeOf x

/-- a map's entries, one by one -/
inductive MRel (r : Ren) : List MEnt → List MapEntry → Prop
  | nil : MRel r [] []
  | cons {k : MEnt} {e : MapEntry} {l : List MEnt} {l' : List MapEntry} : VRel r k.key e.key → VRel r k.val e.val → k.born = e.born → MRel r l l' → MRel r (k :: l) (e :: l')
theorem MRel.mono {r r' : Ren} (h : r.le r') {l : List MEnt} {l' : List MapEntry} (k : MRel r l l') : MRel r' l l' := by
  induction k with
  | nil => exact .nil
  | cons h1 h2 h3 _ ih => exact .cons (h1.mono h) (h2.mono h) h3 ih
/-- an abstract block and the object where it lies -/
def BRel (P : Program) (r : Ren) (id : Nat) : Blk → Obj → Prop
  | .cells ext str c, .cells rc _ (lo, hi) => r.ext id = ext ∧ (rc.size = r.size id ∧ (ext ≠ none → ∀ i v, r.base id + c.length ≤ i → rc[i]? = some v → plain v = true)) ∧
      (∃ l', LRel r c l' ∧ ∀ i v, l'[i]? = some v → rc[r.base id + i]? = some v) ∧ (lo = hi ∨ rc.size ≤ lo) ∧ (str = false → lo = hi)
  | .loop params assign body env pending, .loop L => L.params.toList = params ∧
      (∃ n, n ≤ L.tmps.size ∧ compCode P n L.assign = some assign ∧ compCode P n L.body = some body ∧ (∀ p ∈ params, p < n)) ∧ EnvRel r env L.tmps ∧
      PendOk L pending
  | .map es cl, .map es' cl' => cl = cl' ∧ MRel r es es'.toList
  | .iter s pos, .stringIter s' pos' => r.base id = 0 ∧ s = s' ∧ pos = pos'
  | .ro c, .cells rc _ _ => r.ext id = none ∧ ∃ l', LRel r c l' ∧ ∀ i v, l'[i]? = some v → rc[r.base id + i]? = some v
  | _, _ => False

theorem BRel.mono {P : Program} {r r' : Ren} (h : r.le r') {id : Nat} (hd : r.dom id) {b : Blk} {o : Obj} (k : BRel P r id b o) : BRel P r' id b o := by
  cases b with
  | cells ext str c =>
    cases o <;> try exact k.elim
    rename_i rc el fz
    obtain ⟨lo, hi⟩ := fz
    obtain ⟨h1, h2, ⟨l', h3, h4⟩, h5, h6⟩ := k
    exact ⟨by rw [h.ext _ hd]; exact h1, by rw [h.size _ hd, h.base _ hd]; exact h2, ⟨l', h3.mono h, by rw [h.base _ hd]; exact h4⟩, h5, h6⟩
  | loop ps as bd env pd =>
    cases o <;> try exact k.elim
    obtain ⟨h1, h2, h3, h4⟩ := k
    exact ⟨h1, h2, h3.mono h, h4⟩
  | map es cl =>
    cases o <;> try exact k.elim
    exact ⟨k.1, MRel.mono h k.2⟩
  | iter s pos =>
    cases o <;> try exact k.elim
    exact ⟨by rw [h.base _ hd]; exact k.1, k.2⟩
  | ro c =>
    cases o <;> try exact k.elim
    obtain ⟨h1, l', h3, h4⟩ := k
    exact ⟨by rw [h.ext _ hd]; exact h1, l', h3.mono h, by rw [h.base _ hd]; exact h4⟩

structure Rel (P : Program) (r : Ren) (S : St) (w : World) : Prop where
  at_ : ∀ id b, S.heap.get id = some b → r.dom id ∧ ∃ o, w.heap[r.to id]? = some o ∧ BRel P r id b o
  inj' : ∀ i j bi bj, S.heap.get i = some bi → S.heap.get j = some bj → (bi.isRo = false ∨ bj.isRo = false) → r.to i = r.to j → i = j
  glo : GloS r S.heap

theorem Rel.gat {P : Program} {r : Ren} {S : St} {w : World} (h : Rel P r S w) : GloAt w := by
  intro i c hc
  obtain ⟨h1, h2, h3, h4⟩ := h.glo i c hc
  obtain ⟨_, o, h5, h6⟩ := h.at_ i _ h4
  cases o <;> try exact h6.elim
  rename_i rc el fz
  obtain ⟨_, l', h7, h8⟩ := h6
  rw [h2] at h5
  refine ⟨rc, el, fz, h5, fun j v hv => ?_⟩
  have hp := GloK.pl c (List.mem_of_getElem? hc) v (List.mem_of_getElem? hv)
  have hj := (List.getElem?_eq_some_iff.1 hv).1
  have hj' : j < l'.length := by rw [← h7.length]; exact hj
  have hx := h7.at j v _ hv (List.getElem?_eq_getElem hj')
  have := h8 j _ (List.getElem?_eq_getElem hj')
  rw [h3, Nat.zero_add, plain_eq hp hx] at this
  exact this
theorem Rel.inj {P : Program} {r : Ren} {S : St} {w : World} (h : Rel P r S w) (i j : Nat) (bi bj : Blk) (hi : S.heap.get i = some bi) (hj : S.heap.get j = some bj) (e : r.to i = r.to j) (hro : bi.isRo = false ∨ bj.isRo = false) : i = j := h.inj' i j bi bj hi hj hro e
def Live (r : Ren) (S : St) (k : Nat) : Prop := ∃ id b, S.heap.get id = some b ∧ r.to id = k

/-- from r, S, w one comes to r', S', w'; D is what has been touched -/
structure Sim (P : Program) (D : List (Nat × Bool)) (r : Ren) (S : St) (w : World) (r' : Ren) (S' : St) (w' : World) : Prop where
  le : r.le r'
  rel : Rel P r' S' w'
  log : S'.log = D ++ S.log
  next : S.next ≤ S'.next
  dom : ∀ id, r'.dom id ↔ r.dom id ∨ (S.next ≤ id ∧ id < S'.next)
  size : w.heap.size ≤ w'.heap.size
  os : w'.os = w.os
  tape : w'.tape = w.tape
  output : w'.output = w.output
  frame : ∀ k, k < w.heap.size → ¬ Live r S k → w'.heap[k]? = w.heap[k]?
  kept : ∀ id b, S.heap.get id = some b → (id, true) ∉ D → w'.heap[r.to id]? = w.heap[r.to id]?
  same : ∀ id, (id, true) ∉ D → ¬ (S.next ≤ id ∧ id < S'.next) → S'.heap.get id = S.heap.get id
  live : ∀ k, k < w.heap.size → Live r' S' k → Live r S k

def Fresh (r : Ren) (S S' : St) : Prop := ∀ id, S.next ≤ id → id < S'.next → ¬ r.dom id

theorem Sim.refl {P : Program} {r : Ren} {S : St} {w : World} (h : Rel P r S w) : Sim P [] r S w r S w where
  le := .refl r
  rel := h
  log := rfl
  next := Nat.le_refl _
  dom := fun id => ⟨fun h => .inl h, fun h => h.elim (fun h => h) fun ⟨a, b⟩ => by omega⟩
  size := Nat.le_refl _
  os := rfl
  tape := rfl
  output := rfl
  frame := fun _ _ _ => rfl
  kept := fun _ _ _ _ => rfl
  same := fun _ _ _ => rfl
  live := fun _ _ h => h

theorem Sim.trans {P : Program} {D D' : List (Nat × Bool)} {r r1 r2 : Ren} {S S1 S2 : St} {w w1 w2 : World} (hf : Fresh r S S2) (hr : Rel P r S w)
    (h : Sim P D r S w r1 S1 w1) (k : Sim P D' r1 S1 w1 r2 S2 w2) : Sim P (D' ++ D) r S w r2 S2 w2 where
  le := h.le.trans k.le
  rel := k.rel
  log := by rw [k.log, h.log, List.append_assoc]
  next := Nat.le_trans h.next k.next
  dom := fun id => by rw [k.dom, h.dom]; have := h.next; have := k.next; constructor <;> (rintro (h | h) <;> first | (rcases h with h | h <;> first | exact .inl h | exact .inr (by omega)) | skip) <;> by_cases e : id < S1.next <;> first | exact .inl (.inl h) | exact .inl (.inr (by omega)) | exact .inr (by omega) | skip
  size := Nat.le_trans h.size k.size
  os := k.os.trans h.os
  tape := k.tape.trans h.tape
  output := k.output.trans h.output
  frame := fun x hx hl => by
    rw [k.frame x (Nat.lt_of_lt_of_le hx h.size) (fun c => hl (h.live x hx c)), h.frame x hx hl]
  kept := fun id b hb hn => by
    have h1 : (id, true) ∉ D := fun c => hn (by simp [c])
    have h2 : (id, true) ∉ D' := fun c => hn (by simp [c])
    have hd := (hr.at_ id b hb).1
    have hnx : ¬ (S.next ≤ id ∧ id < S1.next) := fun c => hf id c.1 (Nat.lt_of_lt_of_le c.2 k.next) hd
    have e := h.same id h1 hnx
    have := k.kept id b (by rw [e]; exact hb) h2
    rw [h.le.to _ hd] at this
    rw [this, h.kept id b hb h1]
  same := fun id hn hx => by
    have := h.next; have := k.next
    rw [k.same id (fun c => hn (by simp [c])) (by omega), h.same id (fun c => hn (by simp [c])) (by omega)]
  live := fun x hx c => h.live x hx (k.live x (Nat.lt_of_lt_of_le hx h.size) c)

theorem Fresh.left {r : Ren} {S S1 S2 : St} (h : Fresh r S S2) (k : S1.next ≤ S2.next) : Fresh r S S1 := fun id a b => h id a (by omega)
theorem Fresh.right {P : Program} {D : List (Nat × Bool)} {r r1 : Ren} {S S1 S2 : St} {w w1 : World} (h : Fresh r S S2) (k : Sim P D r S w r1 S1 w1) : Fresh r1 S1 S2 := by
  intro id a b c
  have := k.next
  rcases (k.dom id).1 c with c | c
  · exact h id (by omega) b c
  · omega
end Go.Wb
end
/- The engine, part C2: memory. -/
section
namespace Go.Wb
set_option linter.unusedSectionVars false
variable [GloK]
variable {P : Program} {r : Ren} {S : St} {w : World}

theorem add_none (b o i : Nat) : (⟨b, o, none⟩ : Addr).add i = ⟨b, o + i, none⟩ := by
  unfold Addr.add
  split
  · rename_i h; subst h; rfl
  · rfl

theorem cell_of {b o : Nat} {rc : Array Value} {el : TypeId} {fz : Nat × Nat} (h : w.heap[b]? = some (.cells rc el fz)) : w.cell? ⟨b, o, none⟩ = rc[o]? := by
  unfold World.cell?
  simp [h]

theorem run_ld {b off : Nat} {rc : Array Value} {el : TypeId} {fz : Nat × Nat} (h : w.heap[b]? = some (.cells rc el fz)) (l : List Value)
    (hl : ∀ i v, l[i]? = some v → rc[off + i]? = some v) : (loadCells ⟨b, off, none⟩ l.length).run P w = .ok l.toArray w :=
  run_loadCells_list w _ l fun j v hv => by rw [add_none, cell_of h]; exact hl j v hv

/-- w' is w but for one block -/
structure Upd (w w' : World) (b : Nat) (o : Obj) : Prop where
  size : w'.heap.size = w.heap.size
  here : w'.heap[b]? = some o
  there : ∀ k, k ≠ b → w'.heap[k]? = w.heap[k]?
  os : w'.os = w.os
  tape : w'.tape = w.tape
  output : w'.output = w.output

/-- w' is w with one block more -/
structure New (w w' : World) (o : Obj) : Prop where
  heap : w'.heap = w.heap.push o
  os : w'.os = w.os
  tape : w'.tape = w.tape
  output : w'.output = w.output
theorem New.here {w w' : World} {o : Obj} (h : New w w' o) : w'.heap[w.heap.size]? = some o := by rw [h.heap]; simp
theorem New.there {w w' : World} {o : Obj} (h : New w w' o) {k : Nat} (hk : k < w.heap.size) : w'.heap[k]? = w.heap[k]? := by rw [h.heap, Array.getElem?_push, if_neg (by omega)]
theorem New.size {w w' : World} {o : Obj} (h : New w w' o) : w'.heap.size = w.heap.size + 1 := by rw [h.heap]; simp

theorem setCell_upd {b o : Nat} {rc : Array Value} {el : TypeId} {fz : Nat × Nat} (h : w.heap[b]? = some (.cells rc el fz)) (v : Value) :
    Upd w (w.setCell ⟨b, o, none⟩ v) b (.cells (rc.setIfInBounds o v) el fz) where
  size := by simp
  here := by
    have hb : b < w.heap.size := (Array.getElem?_eq_some_iff.1 h).1
    simp only [World.setCell, Array.getElem?_modify, if_true, h]
    simp
  there := fun k hk => by
    simp only [World.setCell, Array.getElem?_modify]
    rw [if_neg (fun c => hk c.symm)]
  os := rfl
  tape := rfl
  output := rfl

theorem Upd.trans {w w1 w2 : World} {b : Nat} {o1 o2 : Obj} (h : Upd w w1 b o1) (k : Upd w1 w2 b o2) : Upd w w2 b o2 where
  size := k.size.trans h.size
  here := k.here
  there := fun x hx => (k.there x hx).trans (h.there x hx)
  os := k.os.trans h.os
  tape := k.tape.trans h.tape
  output := k.output.trans h.output

def setArr (rc : Array Value) (i : Nat) : List Value → Array Value
  | [] => rc
  | v :: vs => setArr (rc.setIfInBounds i v) (i + 1) vs
theorem setArr_size (vs : List Value) : ∀ (rc : Array Value) (i : Nat), (setArr rc i vs).size = rc.size := by
  induction vs with
  | nil => intro rc i; rfl
  | cons v vs ih => intro rc i; simp [setArr, ih]

theorem run_st {b : Nat} {el : TypeId} {lo hi : Nat} (vs : List Value) : ∀ (i : Nat) (off : Nat) (rc : Array Value) (w : World),
    w.heap[b]? = some (.cells rc el (lo, hi)) → (∀ j, j < vs.length → off + i + j < rc.size) → (lo = hi ∨ rc.size ≤ lo) → vs.all (·.oneCell') = true →
    ∃ w', (storeCells ⟨b, off, none⟩ vs i).run P w = .ok () w' ∧ Upd w w' b (.cells (setArr rc (off + i) vs) el (lo, hi)) := by
  induction vs with
  | nil => intro i off rc w h _ _ _; exact ⟨w, rfl, rfl, h, fun _ _ => rfl, rfl, rfl, rfl⟩
  | cons v vs ih =>
    intro i off rc w h hs hf ho
    simp only [List.all_cons, Bool.and_eq_true] at ho
    have hs0 : off + i < rc.size := by have := hs 0 (by simp); omega
    have hc : w.cell? ⟨b, off + i, none⟩ = rc[off + i]? := cell_of h
    have hc' : rc[off + i]? = some rc[off + i] := by simp
    have hfz : w.frozen? ⟨b, off + i, none⟩ = false := by
      unfold World.frozen?
      simp only [h]
      rcases hf with hf | hf
      · subst hf; simp
      · simp; omega
    have hst := run_store P w ⟨b, off + i, none⟩ v .plain ho.1
    rw [hc, hc'] at hst
    simp only [hfz] at hst
    have hu := setCell_upd (o := off + i) h v
    obtain ⟨w2, h2, u2⟩ := ih (i + 1) off (rc.setIfInBounds (off + i) v) (w.setCell ⟨b, off + i, none⟩ v) hu.here (fun j hj => by have := hs (j + 1) (by simp; omega); simp; omega) (by simpa using hf) ho.2
    refine ⟨w2, ?_, ?_⟩
    · simp only [storeCells, Sem.run_bind, add_none, hst]
      simpa using h2
    · exact hu.trans u2

/-- the cells behind a store, both sides -/
theorem setAll_rel {base : Nat} : ∀ (vs vs' : List Value) (c : List Value) (off : Nat) (rc : Array Value), LRel r vs vs' → off + vs.length ≤ c.length →
    (∃ l, LRel r c l ∧ ∀ i v, l[i]? = some v → rc[base + i]? = some v) → (∃ l, LRel r (setAll c off vs) l ∧ ∀ i v, l[i]? = some v → (setArr rc (base + off) vs')[base + i]? = some v)
  | [], [], c, off, rc, _, _, h => h
  | v :: vs, v' :: vs', c, off, rc, hv, hl, ⟨l, h1, h2⟩ => by
    cases hv with
    | cons ha hb =>
      simp only [List.length_cons] at hl
      refine setAll_rel vs vs' (c.set off v) (off + 1) (rc.setIfInBounds (base + off) v') hb (by simp; omega) ⟨l.set off v', h1.set off ha, ?_⟩
      intro i x hx
      rw [List.getElem?_set] at hx
      have hlen := h1.length
      split at hx
      · rename_i e
        subst e
        split at hx
        · rename_i hlt
          have hb2 : rc[base + off]? = some l[off] := h2 off _ (by simp [hlt])
          have : base + off < rc.size := (Array.getElem?_eq_some_iff.1 hb2).1
          simp [this]
          simpa using hx
        · simp at hx
      · rw [Array.getElem?_setIfInBounds, if_neg (by omega)]
        exact h2 i x hx
  | [], _ :: _, _, _, _, h, _, _ => by cases h
  | _ :: _, [], _, _, _, h, _, _ => by cases h

theorem setAll_length : ∀ (vs c : List Value) (off : Nat), (setAll c off vs).length = c.length
  | [], _, _ => rfl
  | _ :: vs, c, off => by simp [setAll, setAll_length vs]

/-! ### Sim for one block that is written, one that is made -/
theorem Live.intro {id : Nat} {b : Blk} (h : S.heap.get id = some b) : Live r S (r.to id) := ⟨id, b, h, rfl⟩

theorem sim_log (h : Rel P r S w) {S' : St} {D : List (Nat × Bool)} (hh : S'.heap = S.heap) (hn : S'.next = S.next) (hl : S'.log = D ++ S.log) : Sim P D r S w r S' w where
  le := .refl r
  rel := ⟨fun id b hb => h.at_ id b (by rw [← hh]; exact hb), fun i j bi bj hi hj => h.inj' i j bi bj (by rw [← hh]; exact hi) (by rw [← hh]; exact hj), by rw [hh]; exact h.glo⟩
  log := hl
  next := by omega
  dom := fun id => ⟨fun h => .inl h, fun h => h.elim (fun h => h) fun ⟨a, b⟩ => by omega⟩
  size := Nat.le_refl _
  os := rfl
  tape := rfl
  output := rfl
  frame := fun _ _ _ => rfl
  kept := fun _ _ _ _ => rfl
  same := fun _ _ _ => by rw [hh]
  live := fun k _ ⟨id, b, hb, e⟩ => ⟨id, b, by rw [← hh]; exact hb, e⟩

/-- as sim_log, where the world has but drawn -/
structure Drew (w w' : World) : Prop where
  heap : w'.heap = w.heap
  os : w'.os = w.os
  tape : w'.tape = w.tape
  output : w'.output = w.output
theorem Drew.refl (w : World) : Drew w w := ⟨rfl, rfl, rfl, rfl⟩

theorem sim_drew (h : Rel P r S w) {w' : World} (k : Drew w w') : Sim P [] r S w r S w' where
  le := .refl r
  rel := ⟨fun id b hb => by rw [k.heap]; exact h.at_ id b hb, h.inj', h.glo⟩
  log := rfl
  next := Nat.le_refl _
  dom := fun id => ⟨fun h => .inl h, fun h => h.elim (fun h => h) fun ⟨a, b⟩ => by omega⟩
  size := by rw [k.heap]; exact Nat.le_refl _
  os := k.os
  tape := k.tape
  output := k.output
  frame := fun _ _ _ => by rw [k.heap]
  kept := fun _ _ _ _ => by rw [k.heap]
  same := fun _ _ _ => rfl
  live := fun _ _ h => h

theorem sim_upd (h : Rel P r S w) {S' : St} {D : List (Nat × Bool)} {id : Nat} {b b' : Blk} {w' : World} {o : Obj} (hb : S.heap.get id = some b)
    (hh : S'.heap = S.heap.set id (some b')) (hn : S'.next = S.next) (hl : S'.log = D ++ S.log) (hD : (id, true) ∈ D) (hu : Upd w w' (r.to id) o) (ho : BRel P r id b' o) (hro : b.isRo = false := by first | rfl | assumption) :
    Sim P D r S w r S' w' where
  le := .refl r
  rel := by
    refine ⟨?_, ?_, by rw [hh]; exact h.glo.set (.refl r) (ro_ne hb hro) _⟩
    · intro i x hx
      rw [hh, Tr.get_set] at hx
      by_cases e : i = id
      · subst e
        rw [if_pos rfl] at hx
        obtain rfl : b' = x := by simpa using hx
        exact ⟨(h.at_ i b hb).1, o, hu.here, ho⟩
      · rw [if_neg e] at hx
        obtain ⟨h1, o1, h2, h3⟩ := h.at_ i x hx
        exact ⟨h1, o1, by rw [hu.there _ (fun c => e (h.inj _ _ _ _ hx hb c (.inr hro)))]; exact h2, h3⟩
    · intro i j bi bj hi hj hx
      rw [hh, Tr.get_set] at hi hj
      have A : ∀ k bk, (if k = id then some b' else S.heap.get k) = some bk → ∃ y, S.heap.get k = some y ∧ (bk.isRo = false → y.isRo = false) := by
        intro k bk hk
        by_cases e : k = id
        · subst e; exact ⟨b, hb, fun _ => hro⟩
        · rw [if_neg e] at hk; exact ⟨bk, hk, fun h => h⟩
      obtain ⟨y, hy, hy'⟩ := A i bi hi
      obtain ⟨z, hz, hz'⟩ := A j bj hj
      exact h.inj' i j y z hy hz (hx.imp hy' hz')
  log := hl
  next := by omega
  dom := fun i => ⟨fun h => .inl h, fun h => h.elim (fun h => h) fun ⟨a, b⟩ => by omega⟩
  size := by rw [hu.size]; exact Nat.le_refl _
  os := hu.os
  tape := hu.tape
  output := hu.output
  frame := fun k _ hk => hu.there k fun c => hk (c ▸ Live.intro hb)
  kept := fun i x hx hi => hu.there _ fun c => hi (by rw [h.inj _ _ _ _ hx hb c (.inr hro)]; exact hD)
  same := fun i hi _ => by rw [hh, Tr.get_set, if_neg (fun c : i = id => hi (c ▸ hD))]
  live := fun k _ ⟨i, x, hx, e⟩ => by
    rw [hh, Tr.get_set] at hx
    by_cases c : i = id
    · subst c; exact ⟨i, b, hb, e⟩
    · rw [if_neg c] at hx; exact ⟨i, x, hx, e⟩

/-- one abstract block more: from where it lies -/
def Ren.add (r : Ren) (id to base size : Nat) (ext : Option Nat) : Ren where
  dom := fun b => r.dom b ∨ b = id
  to := fun b => if b = id then to else r.to b
  base := fun b => if b = id then base else r.base b
  size := fun b => if b = id then size else r.size b
  ext := fun b => if b = id then ext else r.ext b
  fin := by
    obtain ⟨m, hm⟩ := r.fin
    refine ⟨m + id + 1, fun b hb => ?_⟩
    rcases hb with hb | rfl
    · have := hm b hb; omega
    · omega
theorem Ren.le_add {r : Ren} {id to base size : Nat} {ext : Option Nat} (h : ¬ r.dom id) : r.le (r.add id to base size ext) where
  dom := fun _ h => .inl h
  to := fun b hb => if_neg fun e : b = id => h (e ▸ hb)
  base := fun b hb => if_neg fun e : b = id => h (e ▸ hb)
  size := fun b hb => if_neg fun e : b = id => h (e ▸ hb)
  ext := fun b hb => if_neg fun e : b = id => h (e ▸ hb)
theorem Ren.add_dom (r : Ren) (id to base size : Nat) (ext : Option Nat) : (r.add id to base size ext).dom id := .inr rfl
theorem Ren.add_to (r : Ren) (id to base size : Nat) (ext : Option Nat) : (r.add id to base size ext).to id = to := if_pos rfl
theorem Ren.add_base (r : Ren) (id to base size : Nat) (ext : Option Nat) : (r.add id to base size ext).base id = base := if_pos rfl
theorem Ren.add_size (r : Ren) (id to base size : Nat) (ext : Option Nat) : (r.add id to base size ext).size id = size := if_pos rfl
theorem Ren.add_ext (r : Ren) (id to base size : Nat) (ext : Option Nat) : (r.add id to base size ext).ext id = ext := if_pos rfl

theorem sim_new (h : Rel P r S w) {S' : St} {D : List (Nat × Bool)} {b : Blk} {w' : World} {o : Obj} {base size : Nat} {ext : Option Nat} (hd : ¬ r.dom S.next)
    (hh : S'.heap = S.heap.set S.next (some b)) (hn : S'.next = S.next + 1) (hl : S'.log = D ++ S.log) (hu : New w w' o)
    (ho : BRel P (r.add S.next w.heap.size base size ext) S.next b o) : Sim P D r S w (r.add S.next w.heap.size base size ext) S' w' where
  le := Ren.le_add hd
  rel := by
    have hle : r.le (r.add S.next w.heap.size base size ext) := Ren.le_add hd
    have A : ∀ i x, S'.heap.get i = some x → (i = S.next ∧ x = b) ∨ (i ≠ S.next ∧ S.heap.get i = some x) := by
      intro i x hx
      rw [hh, Tr.get_set] at hx
      by_cases e : i = S.next
      · rw [if_pos e] at hx; exact .inl ⟨e, by simpa using hx.symm⟩
      · rw [if_neg e] at hx; exact .inr ⟨e, hx⟩
    have B : ∀ i x, S.heap.get i = some x → (r.add S.next w.heap.size base size ext).to i = r.to i ∧ r.to i < w.heap.size := by
      intro i x hx
      obtain ⟨h1, o1, h2, _⟩ := h.at_ i x hx
      exact ⟨hle.to _ h1, (Array.getElem?_eq_some_iff.1 h2).1⟩
    refine ⟨?_, ?_, by rw [hh]; exact h.glo.set hle (fun c hc => hd (h.at_ _ _ hc).1) _⟩
    · intro i x hx
      rcases A i x hx with ⟨rfl, rfl⟩ | ⟨e, hx⟩
      · exact ⟨Ren.add_dom .., o, by rw [Ren.add_to]; exact hu.here, ho⟩
      · obtain ⟨h1, o1, h2, h3⟩ := h.at_ i x hx
        exact ⟨hle.dom _ h1, o1, by rw [(B i x hx).1, hu.there (B i x hx).2]; exact h2, h3.mono hle h1⟩
    · intro i j bi bj hi hj hx e
      rcases A i bi hi with ⟨rfl, rfl⟩ | ⟨ei, hi⟩ <;> rcases A j bj hj with ⟨rfl, rfl⟩ | ⟨ej, hj⟩
      · rfl
      · have := B j bj hj
        rw [Ren.add_to, this.1] at e; omega
      · have := B i bi hi
        rw [Ren.add_to, this.1] at e; omega
      · rw [(B i bi hi).1, (B j bj hj).1] at e
        exact h.inj i j bi bj hi hj e hx
  log := hl
  next := by omega
  dom := fun i => ⟨fun c => c.elim .inl fun e => .inr (by omega), fun c => c.elim .inl fun ⟨a, b⟩ => .inr (by omega)⟩
  size := by rw [hu.size]; omega
  os := hu.os
  tape := hu.tape
  output := hu.output
  frame := fun k hk _ => hu.there hk
  kept := fun i x hx _ => by
    obtain ⟨_, o1, h2, _⟩ := h.at_ i x hx
    exact hu.there (Array.getElem?_eq_some_iff.1 h2).1
  same := fun i _ hi => by rw [hh, Tr.get_set, if_neg (by omega)]
  live := fun k hk ⟨i, x, hx, e⟩ => by
    rw [hh, Tr.get_set] at hx
    by_cases c : i = S.next
    · subst c; rw [Ren.add_to] at e; omega
    · rw [if_neg c] at hx
      have hd1 := (h.at_ i x hx).1
      exact ⟨i, x, hx, by rw [← (Ren.le_add (to := w.heap.size) (base := base) (size := size) (ext := ext) hd).to _ hd1]; exact e⟩

/-- one block is killed, another one lies where it lay -/
theorem sim_move (h : Rel P r S w) {S' : St} {D : List (Nat × Bool)} {id : Nat} {b0 b : Blk} {w' : World} {o : Obj} {base size : Nat} {ext : Option Nat} (hd : ¬ r.dom S.next)
    (hb : S.heap.get id = some b0) (hh : S'.heap = (S.heap.set id none).set S.next (some b)) (hn : S'.next = S.next + 1) (hl : S'.log = D ++ S.log) (hD : (id, true) ∈ D)
    (hu : Upd w w' (r.to id) o) (ho : BRel P (r.add S.next (r.to id) base size ext) S.next b o) (hro : b0.isRo = false := by first | rfl | assumption) : Sim P D r S w (r.add S.next (r.to id) base size ext) S' w' where
  le := Ren.le_add hd
  rel := by
    have hle : r.le (r.add S.next (r.to id) base size ext) := Ren.le_add hd
    have A : ∀ i x, S'.heap.get i = some x → (i = S.next ∧ x = b) ∨ (i ≠ S.next ∧ i ≠ id ∧ S.heap.get i = some x) := by
      intro i x hx
      rw [hh, Tr.get_set, Tr.get_set] at hx
      by_cases e : i = S.next
      · rw [if_pos e] at hx; exact .inl ⟨e, by simpa using hx.symm⟩
      · rw [if_neg e] at hx
        by_cases e2 : i = id
        · rw [if_pos e2] at hx; simp at hx
        · rw [if_neg e2] at hx; exact .inr ⟨e, e2, hx⟩
    have B : ∀ i x, S.heap.get i = some x → (r.add S.next (r.to id) base size ext).to i = r.to i := by
      intro i x hx
      obtain ⟨h1, o1, h2, _⟩ := h.at_ i x hx
      exact hle.to _ h1
    refine ⟨?_, ?_, by rw [hh]; exact (h.glo.set (.refl r) (ro_ne hb hro) _).set hle (fun c hc => by
      rw [Tr.get_set] at hc
      split at hc
      · cases hc
      · exact hd (h.at_ _ _ hc).1) _⟩
    · intro i x hx
      rcases A i x hx with ⟨rfl, rfl⟩ | ⟨e, e2, hx⟩
      · exact ⟨Ren.add_dom .., o, by rw [Ren.add_to]; exact hu.here, ho⟩
      · obtain ⟨h1, o1, h2, h3⟩ := h.at_ i x hx
        exact ⟨hle.dom _ h1, o1, by rw [B i x hx, hu.there _ (fun c => e2 (h.inj _ _ _ _ hx hb c (.inr hro)))]; exact h2, h3.mono hle h1⟩
    · intro i j bi bj hi hj hx e
      rcases A i bi hi with ⟨rfl, rfl⟩ | ⟨ei, ei2, hi⟩ <;> rcases A j bj hj with ⟨rfl, rfl⟩ | ⟨ej, ej2, hj⟩
      · rfl
      · rw [Ren.add_to, B j bj hj] at e
        exact absurd (h.inj _ _ _ _ hb hj e (.inl hro)).symm ej2
      · rw [Ren.add_to, B i bi hi] at e
        exact absurd (h.inj _ _ _ _ hi hb e (.inr hro)) ei2
      · rw [B i bi hi, B j bj hj] at e
        exact h.inj i j bi bj hi hj e hx
  log := hl
  next := by omega
  dom := fun i => ⟨fun c => c.elim .inl fun e => .inr (by omega), fun c => c.elim .inl fun ⟨a, b⟩ => .inr (by omega)⟩
  size := by rw [hu.size]; exact Nat.le_refl _
  os := hu.os
  tape := hu.tape
  output := hu.output
  frame := fun k _ hk => hu.there k fun c => hk (c ▸ Live.intro hb)
  kept := fun i x hx hi => hu.there _ fun c => hi (by rw [h.inj _ _ _ _ hx hb c (.inr hro)]; exact hD)
  same := fun i hi hx => by
    rw [hh, Tr.get_set, Tr.get_set, if_neg (by omega), if_neg (fun c : i = id => hi (c ▸ hD))]
  live := fun k hk ⟨i, x, hx, e⟩ => by
    rw [hh, Tr.get_set, Tr.get_set] at hx
    by_cases c : i = S.next
    · subst c; rw [Ren.add_to] at e; exact ⟨id, b0, hb, e⟩
    · rw [if_neg c] at hx
      by_cases c2 : i = id
      · rw [if_pos c2] at hx; simp at hx
      · rw [if_neg c2] at hx
        have hd1 := (h.at_ i x hx).1
        exact ⟨i, x, hx, by rw [← (Ren.le_add (to := r.to id) (base := base) (size := size) (ext := ext) hd).to _ hd1]; exact e⟩
end Go.Wb
end
/- The engine, part C3: operations that compute. -/
section
namespace Go.Wb
set_option linter.unusedSectionVars false
variable {P : Program} {r : Ren} {S S' : St} {w : World}

theorem M.bind_some {α β : Type} {m : M α} {f : α → M β} {S : St} {x : β × St} : M.bind m f S = some x ↔ ∃ a S1, m S = some (a, S1) ∧ f a S1 = some x := by
  unfold M.bind
  cases h : m S with
  | none => simp
  | some p =>
    obtain ⟨a, S1⟩ := p
    simp only [Option.some.injEq, Prod.mk.injEq]
    exact ⟨fun h => ⟨a, S1, ⟨rfl, rfl⟩, h⟩, fun ⟨_, _, ⟨rfl, rfl⟩, h⟩ => h⟩
theorem M.lift_some {α : Type} {o : Option α} {S S1 : St} {a : α} : M.lift o S = some (a, S1) ↔ o = some a ∧ S1 = S := by
  unfold M.lift
  cases o with
  | none => simp
  | some b => simp [eq_comm]
theorem M.pure_some {α : Type} {S S1 : St} {a b : α} : M.pure a S = some (b, S1) ↔ b = a ∧ S1 = S := by
  unfold M.pure; simp [eq_comm]
theorem M.fail_some {α : Type} {S : St} {x : α × St} : (M.fail : M α) S = some x ↔ False := by simp [M.fail]
theorem rd_some {b : Nat} {S S1 : St} {o : Blk} : rd b S = some (o, S1) ↔ S.heap.get b = some o ∧ S1 = { heap := S.heap, next := S.next, log := (b, false) :: S.log } := by
  unfold rd
  cases S.heap.get b with
  | none => simp
  | some p => simp [eq_comm]
theorem wr_some {b : Nat} {S S1 : St} {o : Option Blk} {u : Unit} : wr b o S = some (u, S1) ↔ S1 = { heap := S.heap.set b o, next := S.next, log := (b, true) :: S.log } := by
  unfold wr; simp [eq_comm]
theorem nw_some {S S1 : St} {o : Blk} {b : Nat} : nw o S = some (b, S1) ↔ b = S.next ∧ S1 = { heap := S.heap.set S.next (some o), next := S.next + 1, log := S.log } := by
  unfold nw; simp [eq_comm]

variable [GloK]
/-- the value of an operand over temporaries -/
def evT (tmps : Array Value) : Operand → Value
  | .tmp t => tmps.getD t undef
  | .const v => v
  | .global g => .pointer (some ⟨g, 0, none⟩)
  | .func f => .func (.func f) #[] #[]
theorem eval_evT (fr : Frame) : fr.eval = evT fr.tmps := by funext x; cases x <;> rfl

theorem atom_ok {x : Operand} {a : Atom} {e : Env} {tmps : Array Value} {v : Value} (ha : atom x = some a) (hv : a.ev e = some v) (hE : EnvRel r e tmps) : VRel r v (evT tmps x) := by
  cases x with
  | tmp t =>
    simp only [atom, Option.some.injEq] at ha
    subst ha
    obtain ⟨v', h1, h2⟩ := hE.at_ t v hv
    simp only [evT, Array.getD_eq_getD_getElem?, h1]
    exact h2
  | const c =>
    simp only [atom] at ha
    split at ha
    · rename_i hp
      obtain rfl : Atom.const c = a := by simpa using ha
      obtain rfl : c = v := by simpa [Atom.ev] using hv
      exact plain_rel hp
    · simp at ha
  | func f =>
    simp only [atom, Option.some.injEq] at ha
    subst ha
    obtain rfl : Value.func (.func f) #[] #[] = v := by simpa [Atom.ev] using hv
    exact .func rfl (by simp) rfl (by simp)
  | global g =>
    simp only [atom] at ha
    split at ha
    · rename_i i hi
      obtain rfl : Atom.const (.pointer (some ⟨i, 0, none⟩)) = a := by simpa using ha
      obtain rfl : Value.pointer (some ⟨i, 0, none⟩) = v := by simpa [Atom.ev] using hv
      obtain ⟨h1, h2, h3⟩ := hE.glo g i hi
      have := VRel.ptr (o := 0) h1
      rw [h2, h3] at this
      exact this
    · simp at ha

theorem atoms_ok {e : Env} {tmps : Array Value} (hE : EnvRel r e tmps) : ∀ {xs : List Operand} {as : List Atom} {vs : List Value}, atoms xs = some as → evs e as = some vs → LRel r vs (xs.map (evT tmps))
  | [], as, vs, h, k => by
    simp only [atoms, Option.some.injEq] at h; subst h
    simp only [evs, Option.some.injEq] at k; subst k
    exact .nil
  | x :: xs, as, vs, h, k => by
    simp only [atoms] at h
    split at h
    · rename_i a l ha hl
      simp only [Option.some.injEq] at h; subst h
      simp only [evs] at k
      split at k
      · rename_i v m hv hm
        simp only [Option.some.injEq] at k; subst k
        exact .cons (atom_ok ha hv hE) (atoms_ok hE hl hm)
      · simp at k
    · simp at h

/-! ### what a type's row gives -/
theorem run_underlying {t : TypeId} {d : TypeDesc} (h : P.underlying t = some d) : (underlying t).run P w = .ok d w := by
  simp [underlying, h]
theorem run_sizeOf {t : TypeId} {s : Nat} (h : sizeT P t = some s) : (sizeOf t).run P w = .ok s w := by
  unfold sizeT at h
  cases hi : P.info? t with
  | none => simp [hi] at h
  | some i => simp [hi] at h; simp [sizeOf, typeInfo, hi, h]
theorem run_typeInfo {t : TypeId} {i : TypeInfo} (h : P.info? t = some i) : (typeInfo t).run P w = .ok i w := by
  simp [typeInfo, h]
theorem run_zero {t : TypeId} {z : List Value} (h : zeroT P t = some z) : ∃ v, (zeroValue t).run P w = .ok v w ∧ v.cells.toList = z ∧ plain v = true := by
  unfold zeroT at h
  cases hi : P.info? t with
  | none => simp [hi] at h
  | some i =>
    simp only [hi] at h
    cases hz : i.zero with
    | none => simp [hz] at h
    | some v =>
      simp only [hz] at h
      split at h
      · rename_i hp
        exact ⟨v, by simp [zeroValue, typeInfo, hi, hz], by simpa using h, hp⟩
      · simp at h
theorem run_isAgg {t : TypeId} {sh : Sh} (h : shOf P t = some sh) : (isAgg t).run P w = .ok (match sh with | .one => false | .agg _ => true) w ∧ (∀ n, sh = .agg n → sizeT P t = some n) := by
  unfold shOf at h
  split at h
  · rename_i hu
    cases hs : sizeT P t with
    | none => simp [hs] at h
    | some s => simp [hs] at h; subst h; exact ⟨by simp [isAgg, run_underlying hu], fun n e => by injection e with e; rw [e]⟩
  · rename_i hu
    cases hs : sizeT P t with
    | none => simp [hs] at h
    | some s => simp [hs] at h; subst h; exact ⟨by simp [isAgg, run_underlying hu], fun n e => by injection e with e; rw [e]⟩
  · rename_i d h1 h2 hu
    simp at h; subst h
    refine ⟨?_, fun n e => by cases e⟩
    simp only [isAgg, Sem.run_bind, run_underlying hu, Result.andThen_ok]
    cases d <;> first | rfl | exact absurd hu (h1 _) | exact absurd hu (h2 _ _)
  · simp at h

/-! ### arithmetic -/
theorem binV_ok {op : BinOp} {t : TypeId} {x y v : Value} (h : binV op x y = some v) : (binOp op t x y).run P w = .ok v w ∧ (∀ r : Ren, VRel r v v) ∧
    (∀ a b : Operand, (eqGuard op t a b x y).run P w = .ok () w) := by
  unfold binV at h
  split at h
  · split at h
    · simp at h
    · rename_i hb
      simp at h; subst h
      refine ⟨?_, fun _ => .int _ _, fun _ _ => by simp [eqGuard]⟩
      unfold binOp Op.shift
      simp [hb]
  · split at h
    · simp at h
    · rename_i hb
      simp at h; subst h
      refine ⟨?_, fun _ => .int _ _, fun _ _ => by simp [eqGuard]⟩
      unfold binOp Op.shift
      simp [hb]
  · rename_i op' k a k' b h1 h2
    split at h
    · simp at h
    · rename_i hk
      have hk : k = k' := by simpa using hk
      subst hk
      cases op <;> simp at h <;> first
        | (exact absurd rfl (h1 _ _ _ _ rfl rfl))
        | (exact absurd rfl (h2 _ _ _ _ rfl rfl))
        | (subst h; refine ⟨by simp [binOp, Op.intArith, Op.intBits, Op.intCmp], fun _ => by constructor, fun _ _ => by simp [eqGuard]⟩)
        | (obtain ⟨hb, rfl⟩ := h; refine ⟨by simp [binOp, Op.intDiv, hb], fun _ => by constructor, fun _ _ => by simp [eqGuard]⟩)
  · rename_i op' a b
    cases op <;> simp at h <;> first
      | (subst h; refine ⟨by simp [binOp, Op.stringOp], fun _ => by constructor, fun _ _ => by simp [eqGuard]⟩)
      | (obtain ⟨hb, rfl⟩ := h; refine ⟨by simp [binOp, Op.stringOp]; omega, fun _ => by constructor, fun _ _ => by simp [eqGuard]⟩)
  · simp at h

theorem unV_ok {op : UnOp} {x v : Value} (h : unV op x = some v) : (Op.unary op x).run P w = .ok v w ∧ (∀ r : Ren, VRel r v v) := by
  unfold unV at h
  split at h <;> simp at h <;> subst h
  · exact ⟨by simp [Op.unary, Op.intArith], fun _ => .int _ _⟩
  · exact ⟨by simp [Op.unary, Op.intBits], fun _ => .int _ _⟩
  · exact ⟨by simp [Op.unary], fun _ => .bool _⟩

/-- scalars stand for themselves -/
theorem VRel.int_inv {k : IntKind} {n : Int} {v' : Value} (h : VRel r (.int k n) v') : v' = .int k n := by cases h; rfl
theorem VRel.bool_inv {b : Bool} {v' : Value} (h : VRel r (.bool b) v') : v' = .bool b := by cases h; rfl
theorem VRel.string_inv {s : ByteArray} {v' : Value} (h : VRel r (.string s) v') : v' = .string s := by cases h; rfl
theorem asBool_inv {v : Value} {b : Bool} (h : asBool v = some b) : v = .bool b := by cases v <;> simp [asBool] at h; rw [h]
theorem asInt_inv {v : Value} {n : Int} (h : asInt v = some n) : ∃ k, v = .int k n := by cases v <;> simp [asInt] at h; rename_i k m; exact ⟨k, by rw [h]⟩

theorem binV_inv {op : BinOp} {x y v : Value} (h : binV op x y = some v) {x' y' : Value} (hx : VRel r x x') (hy : VRel r y y') : x' = x ∧ y' = y := by
  unfold binV at h
  split at h <;> first
    | (exact ⟨hx.int_inv, hy.int_inv⟩)
    | (exact ⟨hx.string_inv, hy.string_inv⟩)
    | simp at h
theorem unV_inv {op : UnOp} {x v : Value} (h : unV op x = some v) {x' : Value} (hx : VRel r x x') : x' = x := by
  unfold unV at h
  split at h <;> first
    | exact hx.int_inv
    | exact hx.bool_inv
    | simp at h

theorem eqAgg_inv {k : EqK} {t : TypeId} (h : eqAgg P t = some k) : ∃ n offs, k = .cells n offs ∧ P.eqGuardType P.depth t = false ∧ sizeT P t = some n ∧ eqOffs P 8 t 0 = some offs := by
  unfold eqAgg at h
  split at h
  · simp at h
  · rename_i hg
    split at h
    · rename_i n offs h1 h2
      simp only [Option.some.injEq] at h
      exact ⟨n, offs, h.symm, by simpa using hg, h1, h2⟩
    · simp at h
theorem isNil_rel {k : NilK} {x x' : Value} {b : Bool} (h : isNil k x = some b) (hx : VRel r x x') : isNil k x' = some b := by
  cases k <;> cases hx <;> simp [isNil] at h ⊢ <;> exact h

theorem eqNil_ok {d : Nat} {k : NilK} {t : TypeId} {x y : Value} {b : Bool} (hk : eqKind P t = some (.nil k)) (h : eqV (.nil k) x y = some b) :
    (Op.equalIn (d + 1) t x y).run P w = .ok b w := by
  unfold eqKind at hk
  have hu : (∃ e, k = .ptr ∧ P.underlying t = some (.pointer e)) ∨ (∃ e, k = .slice ∧ P.underlying t = some (.slice e)) ∨
      (∃ a e, k = .map ∧ P.underlying t = some (.map a e)) ∨ (∃ a e c, k = .func ∧ P.underlying t = some (.func a e c)) ∨ (∃ a, k = .iface ∧ P.underlying t = some (.interface a)) := by
    split at hk <;> first | (obtain ⟨_, _, e, _⟩ := eqAgg_inv hk; cases e; done) | simp at hk
    · rename_i e hu; exact .inl ⟨e, hk.symm, hu⟩
    · rename_i e hu; exact .inr (.inl ⟨e, hk.symm, hu⟩)
    · rename_i a e hu; exact .inr (.inr (.inl ⟨a, e, hk.symm, hu⟩))
    · rename_i a e c hu; exact .inr (.inr (.inr (.inl ⟨a, e, c, hk.symm, hu⟩)))
    · rename_i a hu; exact .inr (.inr (.inr (.inr ⟨a, hk.symm, hu⟩)))
  clear hk
  simp only [eqV] at h
  unfold Op.equalIn
  rcases hu with ⟨e, rfl, hu⟩ | ⟨e, rfl, hu⟩ | ⟨a, e, rfl, hu⟩ | ⟨a, e, c, rfl, hu⟩ | ⟨a, rfl, hu⟩ <;> simp only [Sem.run_bind, run_underlying hu, Result.andThen_ok]
  · cases x <;> (try (simp [isNil] at h; done))
    rename_i p
    cases y <;> (try (cases p <;> simp [isNil] at h; done))
    rename_i q
    cases p <;> cases q <;> simp [isNil] at h <;> subst h <;> simp
  · cases x <;> (try (simp [isNil] at h; done))
    rename_i p n c
    cases y <;> (try (cases p <;> simp [isNil] at h; done))
    rename_i q m c'
    cases p <;> cases q <;> simp [isNil] at h <;> subst h <;> simp
  · cases x <;> (try (simp [isNil] at h; done))
    rename_i p
    cases y <;> (try (cases p <;> simp [isNil] at h; done))
    rename_i q
    cases p <;> cases q <;> simp [isNil] at h <;> subst h <;> simp
  · cases x <;> (try (simp [isNil] at h; done)) <;> cases y <;> simp [isNil] at h <;> subst h <;> simp
  · cases x <;> (try (simp [isNil] at h; done)) <;> cases y <;> simp [isNil] at h <;> subst h <;> simp

theorem eqBool_ok {d : Nat} {t : TypeId} {x y : Value} {b : Bool} (hk : eqKind P t = some .bool) (h : eqV .bool x y = some b) :
    (Op.equalIn (d + 1) t x y).run P w = .ok b w := by
  have hu : P.underlying t = some .bool := by
    unfold eqKind at hk
    split at hk <;> first | (obtain ⟨_, _, e, _⟩ := eqAgg_inv hk; cases e; done) | simp at hk
    assumption
  unfold Op.equalIn
  simp only [Sem.run_bind, run_underlying hu, Result.andThen_ok]
  simp only [eqV] at h
  split at h
  · simp at h; subst h; simp
  · simp at h

/-! ## Structs and arrays, compared -/
def cellsAt (sh : Sh) (xs : List Value) (off : Nat) : Option Value := partOf sh xs off
theorem part_run {t : TypeId} {sh : Sh} {cs : List Value} {off : Nat} {v : Value} (hs : shOf P t = some sh) (h : partOf sh cs off = some v) : (part t cs.toArray off).run P w = .ok v w := by
  have hi := run_isAgg (w := w) hs
  cases sh with
  | one =>
    simp only [partOf] at h
    have h1 : cs.toArray[off]? = some v := by simpa using h
    simp [part, hi.1, h1]
  | agg n =>
    simp only [partOf] at h
    split at h
    · rename_i hl
      simp only [Option.some.injEq] at h
      subst h
      have : cs.toArray.extract off (off + n) = ((cs.drop off).take n).toArray := by
        apply Array.ext'
        rw [Array.toList_extract, List.extract_eq_take_drop]
        simp
      simp [part, hi.1, run_sizeOf (hi.2 n rfl)]
    · simp at h
theorem eqOffs_sh {d : Nat} {t : TypeId} {off : Nat} {offs : List (Nat × Nat)} (h : eqOffs P d t off = some offs) : ∃ sh, shOf P t = some sh ∧ (∀ n, sh = .agg n → sizeT P t = some n) := by
  cases d with
  | zero => simp [eqOffs] at h
  | succ d =>
    simp only [eqOffs] at h
    unfold shOf
    split at h
    · rename_i hu; rw [hu]; exact ⟨_, rfl, by simp⟩
    · rename_i hu; rw [hu]; exact ⟨_, rfl, by simp⟩
    · rename_i hu; rw [hu]; exact ⟨_, rfl, by simp⟩
    · rename_i fs hu
      rw [hu]
      split at h
      · simp at h
      · split at h
        · rename_i sz hs; rw [hs]; exact ⟨_, rfl, fun n e => by cases e; rfl⟩
        · simp at h
    · rename_i n e hu
      rw [hu]
      split at h
      · rename_i s sz h1 hs; rw [hs]; exact ⟨_, rfl, fun n e => by cases e; rfl⟩
      · simp at h
    · simp at h
theorem eqCells_append : ∀ {a l : List (Nat × Nat)} {xs ys : List Value} {b : Bool}, eqCells (a ++ l) xs ys = some b → ∃ b1 b2, eqCells a xs ys = some b1 ∧ eqCells l xs ys = some b2 ∧ b = (b1 && b2)
  | [], l, xs, ys, b, h => ⟨true, b, rfl, h, by simp⟩
  | (o, k) :: a, l, xs, ys, b, h => by
    simp only [List.cons_append, eqCells] at h ⊢
    split at h
    · rename_i x y hx hy
      split at h
      · rename_i c1 c2 h1 h2
        obtain ⟨b1, b2, k1, k2, rfl⟩ := eqCells_append h2
        simp only [Option.some.injEq] at h
        subst h
        exact ⟨c1 && b1, b2, by simp [h1, k1], k2, by rw [Bool.and_assoc]⟩
      · simp at h
    · simp at h
/-- a part of a part -/
theorem part_part {sh : Sh} {n off fo s : Nat} {xs : List Value} {c : List Value} (hx : partOf (.agg n) xs off = some (.agg c.toArray)) (hn : fo + max s 1 ≤ n) (hs : ∀ m, sh = .agg m → m = s) : ∃ v, partOf sh xs (off + fo) = some v ∧ partOf sh c fo = some v := by
  simp only [partOf] at hx
  split at hx
  · rename_i hl
    simp only [Option.some.injEq, Value.agg.injEq] at hx
    obtain rfl : (xs.drop off).take n = c := by simpa using hx
    cases sh with
    | one =>
      have h1 : off + fo < xs.length := by omega
      refine ⟨xs[off + fo], by simp [partOf, h1], ?_⟩
      simp only [partOf]
      rw [List.getElem?_take_of_lt (by omega), List.getElem?_drop]
      simp [h1]
    | agg m =>
      obtain rfl := hs m rfl
      refine ⟨.agg ((xs.drop (off + fo)).take m).toArray, ?_, ?_⟩
      · simp only [partOf]; rw [if_pos (by omega)]
      · simp only [partOf]
        rw [if_pos (by simp; omega), List.drop_take, List.drop_drop, List.take_take, Nat.min_eq_left (by omega)]
  · simp at hx
/-- what '==' answers of a part -/
def EqFine (P : Program) (w : World) (d : Nat) (t : TypeId) : Prop := ∀ (off : Nat) (offs : List (Nat × Nat)), eqOffs P d t off = some offs → ∀ (D : Nat), d ≤ D → ∀ (xs ys : List Value) (b : Bool), eqCells offs xs ys = some b → ∀ (sh : Sh), shOf P t = some sh → ∀ (x y : Value), partOf sh xs off = some x → partOf sh ys off = some y → (Op.equalIn D t x y).run P w = .ok b w
theorem eqFields_fine {d D off sz : Nat} (hD : d ≤ D) (ih : ∀ t, EqFine P w d t) {xs ys cx cy : List Value} (hx : partOf (.agg sz) xs off = some (.agg cx.toArray)) (hy : partOf (.agg sz) ys off = some (.agg cy.toArray)) :
    ∀ (fs : List Field) (offs : List (Nat × Nat)) (b : Bool), eqFieldsO P (eqOffs P d) sz off fs = some offs → eqCells offs xs ys = some b → (Op.eqFields D cx.toArray cy.toArray fs).run P w = .ok b w
  | [], offs, b, h, k => by
    simp only [eqFieldsO, Option.some.injEq] at h
    subst h
    simp only [eqCells, Option.some.injEq] at k
    subst k
    simp [Op.eqFields]
  | f :: fs, offs, b, h, k => by
    simp only [eqFieldsO] at h
    split at h
    · simp at h
    · rename_i hn
      split at h
      · rename_i s a l h1 h2 h3
        split at h
        · rename_i hsz
          simp only [Option.some.injEq] at h
          subst h
          obtain ⟨b1, b2, k1, k2, rfl⟩ := eqCells_append k
          obtain ⟨sh, e1, e2⟩ := eqOffs_sh h2
          have e3 : ∀ m, sh = .agg m → m = s := fun m e => by have := e2 m e; rw [h1] at this; simpa using this.symm
          obtain ⟨x, p1, p2⟩ := part_part hx hsz e3
          obtain ⟨y, q1, q2⟩ := part_part hy hsz e3
          have r1 := ih f.type _ _ h2 D hD xs ys b1 k1 sh e1 x y p1 q1
          simp only [Op.eqFields, hn, ne_eq, not_false_eq_true, if_true, Sem.run_bind, part_run e1 p2, part_run e1 q2, r1, Result.andThen_ok]
          cases b1 with
          | false => simp
          | true => simp only [Bool.not_true, Bool.false_eq_true, if_false, Bool.true_and]; exact eqFields_fine hD ih hx hy fs l b2 h3 k2
        · simp at h
      · simp at h
theorem eqItems_fine {d D off sz s : Nat} {e : TypeId} (hs : sizeT P e = some s) (hD : d ≤ D) (ih : EqFine P w d e) {xs ys cx cy : List Value} (hx : partOf (.agg sz) xs off = some (.agg cx.toArray)) (hy : partOf (.agg sz) ys off = some (.agg cy.toArray)) :
    ∀ (is : List Nat) (offs : List (Nat × Nat)) (b : Bool), eqItemsO (eqOffs P d e) s sz off is = some offs → eqCells offs xs ys = some b → (Op.eqItems D e s cx.toArray cy.toArray is).run P w = .ok b w
  | [], offs, b, h, k => by
    simp only [eqItemsO, Option.some.injEq] at h
    subst h
    simp only [eqCells, Option.some.injEq] at k
    subst k
    simp [Op.eqItems]
  | i :: is, offs, b, h, k => by
    simp only [eqItemsO] at h
    split at h
    · rename_i a l h2 h3
      split at h
      · rename_i hsz
        simp only [Option.some.injEq] at h
        subst h
        obtain ⟨b1, b2, k1, k2, rfl⟩ := eqCells_append k
        obtain ⟨sh, e1, e2⟩ := eqOffs_sh h2
        have e3 : ∀ m, sh = .agg m → m = s := fun m e => by have := e2 m e; rw [hs] at this; simpa using this.symm
        obtain ⟨x, p1, p2⟩ := part_part hx hsz e3
        obtain ⟨y, q1, q2⟩ := part_part hy hsz e3
        have r1 := ih _ _ h2 D hD xs ys b1 k1 sh e1 x y p1 q1
        simp only [Op.eqItems, Sem.run_bind, part_run e1 p2, part_run e1 q2, r1, Result.andThen_ok]
        cases b1 with
        | false => simp
        | true => simp only [Bool.not_true, Bool.false_eq_true, if_false, Bool.true_and]; exact eqItems_fine hs hD ih hx hy is l b2 h3 k2
      · simp at h
    · simp at h
theorem eqOne {k off : Nat} {xs ys : List Value} {b : Bool} (h : eqCells [(off, k)] xs ys = some b) : ∃ x y, xs[off]? = some x ∧ ys[off]? = some y ∧ eqCell k x y = some b := by
  simp only [eqCells] at h
  split at h
  · rename_i x y hx hy
    split at h
    · rename_i a c h1 h2
      simp only [Option.some.injEq] at h h2
      subst h2
      simp only [Bool.and_true] at h
      subst h
      exact ⟨x, y, hx, hy, h1⟩
    · simp at h
  · simp at h
theorem sh_one {t : TypeId} {u : TypeDesc} {sh : Sh} (hu : P.underlying t = some u) (hn : ∀ fs, u ≠ .struct fs) (hm : ∀ n e, u ≠ .array n e) (h : shOf P t = some sh) : sh = .one := by
  unfold shOf at h
  rw [hu] at h
  split at h
  · rename_i fs hh; exact absurd (by simpa using hh) (hn fs)
  · rename_i n e hh; exact absurd (by simpa using hh) (hm n e)
  · simpa using h.symm
  · simp at h
theorem eq_fine : ∀ (d : Nat) (t : TypeId), EqFine P w d t
  | 0, t => fun off offs h => by simp [eqOffs] at h
  | d + 1, t => fun off offs h D hD xs ys b hb sh hsh x y hx hy => by
    obtain ⟨D, rfl⟩ : ∃ D', D = D' + 1 := ⟨D - 1, by omega⟩
    simp only [eqOffs] at h
    split at h
    · rename_i hu
      simp only [Option.some.injEq] at h; subst h
      obtain rfl := sh_one hu (by simp) (by simp) hsh
      obtain ⟨x', y', h1, h2, h3⟩ := eqOne hb
      simp only [partOf] at hx hy
      obtain rfl : x' = x := by rw [h1] at hx; simpa using hx
      obtain rfl : y' = y := by rw [h2] at hy; simpa using hy
      cases x' <;> cases y' <;> simp [eqCell] at h3
      subst h3
      exact run_equalIn_bool w D t _ _ hu
    · rename_i q hu
      simp only [Option.some.injEq] at h; subst h
      obtain rfl := sh_one hu (by simp) (by simp) hsh
      obtain ⟨x', y', h1, h2, h3⟩ := eqOne hb
      simp only [partOf] at hx hy
      obtain rfl : x' = x := by rw [h1] at hx; simpa using hx
      obtain rfl : y' = y := by rw [h2] at hy; simpa using hy
      cases x' <;> cases y' <;> simp [eqCell] at h3
      obtain ⟨rfl, rfl⟩ := h3
      exact run_equalIn_int w D t _ _ _ _ hu
    · rename_i hu
      simp only [Option.some.injEq] at h; subst h
      obtain rfl := sh_one hu (by simp) (by simp) hsh
      obtain ⟨x', y', h1, h2, h3⟩ := eqOne hb
      simp only [partOf] at hx hy
      obtain rfl : x' = x := by rw [h1] at hx; simpa using hx
      obtain rfl : y' = y := by rw [h2] at hy; simpa using hy
      cases x' <;> cases y' <;> simp only [eqCell, Option.some.injEq, reduceCtorEq] at h3
      subst h3
      rw [run_equalIn_string w D t _ _ hu, ByteArray.toList_eq, ByteArray.toList_eq]
    · rename_i fs hu
      split at h
      · simp at h
      · rename_i hst
        split at h
        · rename_i sz hsz
          obtain rfl : sh = .agg sz := by
            unfold shOf at hsh
            rw [hu, hsz] at hsh
            simpa using hsh.symm
          obtain ⟨cx, rfl⟩ : ∃ c, x = .agg c := by
            simp only [partOf] at hx; split at hx <;> simp at hx; exact ⟨_, hx.symm⟩
          obtain ⟨cy, rfl⟩ : ∃ c, y = .agg c := by
            simp only [partOf] at hy; split at hy <;> simp at hy; exact ⟨_, hy.symm⟩
          have hf : P.fieldsOf t = fs := by simp [Program.fieldsOf, hu]
          rw [run_equalIn_struct w D t cx cy (by rw [hf]; exact hu) (by simpa using hst), hf]
          have := eqFields_fine (w := w) (D := D) (by omega) (eq_fine d) (cx := cx.toList) (cy := cy.toList) (by simpa using hx) (by simpa using hy) fs.toList offs b h hb
          simpa using this
        · simp at h
    · rename_i n e hu
      split at h
      · rename_i s sz hs hsz
        obtain rfl : sh = .agg sz := by
          unfold shOf at hsh
          rw [hu, hsz] at hsh
          simpa using hsh.symm
        obtain ⟨cx, rfl⟩ : ∃ c, x = .agg c := by
          simp only [partOf] at hx; split at hx <;> simp at hx; exact ⟨_, hx.symm⟩
        obtain ⟨cy, rfl⟩ : ∃ c, y = .agg c := by
          simp only [partOf] at hy; split at hy <;> simp at hy; exact ⟨_, hy.symm⟩
        have hi : ∃ i, P.info? e = some i ∧ i.size = s := by
          unfold sizeT at hs
          cases hh : P.info? e with
          | none => simp [hh] at hs
          | some i => simp [hh] at hs; exact ⟨i, rfl, hs⟩
        obtain ⟨i, hi, his⟩ := hi
        have hc : P.cellsOf e = s := by simp [Program.cellsOf, hi, his]
        rw [run_equalIn_array w D cx cy hu hi, hc]
        have := eqItems_fine (w := w) (D := D) hs (by omega) (eq_fine d e) (cx := cx.toList) (cy := cy.toList) (by simpa using hx) (by simpa using hy) (List.range n) offs b h hb
        simpa using this
      · simp at h
    · simp at h
theorem eqCell_rel {k : Nat} {x y x' y' : Value} {b : Bool} (h : eqCell k x y = some b) (hx : VRel r x x') (hy : VRel r y y') : eqCell k x' y' = some b := by
  unfold eqCell at h
  split at h
  · obtain rfl := hx.bool_inv; obtain rfl := hy.bool_inv; exact h
  · obtain rfl := hx.int_inv; obtain rfl := hy.int_inv; exact h
  · obtain rfl := hx.string_inv; obtain rfl := hy.string_inv; exact h
  · simp at h
theorem eqCells_rel : ∀ {offs : List (Nat × Nat)} {xs ys xs' ys' : List Value} {b : Bool}, eqCells offs xs ys = some b → LRel r xs xs' → LRel r ys ys' → eqCells offs xs' ys' = some b
  | [], xs, ys, xs', ys', b, h, _, _ => h
  | (o, k) :: os, xs, ys, xs', ys', b, h, hx, hy => by
    simp only [eqCells] at h ⊢
    split at h
    · rename_i x y h1 h2
      obtain ⟨x', e1, e2⟩ := hx.get h1
      obtain ⟨y', e3, e4⟩ := hy.get h2
      rw [e1, e3]
      simp only
      split at h
      · rename_i a c h3 h4
        rw [eqCell_rel h3 e2 e4, eqCells_rel h4 hx hy]
        exact h
      · simp at h
    · simp at h
theorem eqKind_cells {n : Nat} {offs : List (Nat × Nat)} {t : TypeId} (h : eqKind P t = some (.cells n offs)) : P.eqGuardType P.depth t = false ∧ sizeT P t = some n ∧ eqOffs P 8 t 0 = some offs ∧ shOf P t = some (.agg n) := by
  unfold eqKind at h
  split at h <;> first | (simp at h; done) | skip
  · rename_i fs hu
    obtain ⟨n', offs', e, h1, h2, h3⟩ := eqAgg_inv h
    cases e
    exact ⟨h1, h2, h3, by unfold shOf; rw [hu, h2]; rfl⟩
  · rename_i m e hu
    obtain ⟨n', offs', e, h1, h2, h3⟩ := eqAgg_inv h
    cases e
    exact ⟨h1, h2, h3, by unfold shOf; rw [hu, h2]; rfl⟩

theorem eqKind2_inv {t : TypeId} {x y : Operand} {k : EqK} (h : eqKind2 P t x y = some k) : eqKind P t = some k ∧ (k = .nil .iface → (isC x || isC y) = true) := by
  unfold eqKind2 at h
  split at h
  · rename_i hk
    split at h
    · rename_i hc
      cases h
      exact ⟨hk, fun _ => hc⟩
    · cases h
  · rename_i hn
    exact ⟨h, fun e => absurd (e ▸ h) hn⟩
theorem eqV_ok {k : EqK} {t : TypeId} {x y x' y' : Value} {b : Bool} (hk : eqKind P t = some k) (h : eqV k x y = some b) (hx : VRel r x x') (hy : VRel r y y') :
    (∀ op o1 o2, (k = .nil .iface → (isC o1 || isC o2) = true) → (eqGuard op t o1 o2 x' y').run P w = .ok () w) ∧ (binOp .eql t x' y').run P w = .ok (.bool b) w ∧ (binOp .neq t x' y').run P w = .ok (.bool !b) w := by
  cases k with
  | bool =>
    simp only [eqV] at h
    split at h
    · rename_i a c
      obtain rfl := hx.bool_inv
      obtain rfl := hy.bool_inv
      have he : (Op.equal t (.bool a) (.bool c)).run P w = .ok b w := eqBool_ok (d := 9999) hk (by simpa [eqV] using h)
      exact ⟨fun op o1 o2 _ => by simp [eqGuard], by simp [binOp, he], by simp [binOp, he]⟩
    · simp at h
  | nil k =>
    have h' : eqV (.nil k) x' y' = some b := by
      simp only [eqV] at h ⊢
      split at h
      · rename_i c h1 h2; rw [isNil_rel h1 hx, isNil_rel h2 hy]; exact h
      · rename_i h1 h2; rw [isNil_rel h1 hx, isNil_rel h2 hy]; exact h
      · simp at h
    have he : (Op.equal t x' y').run P w = .ok b w := eqNil_ok (d := 9999) hk h'
    refine ⟨?_, ?_⟩
    · intro op o1 o2 hC
      simp only [eqV] at h'
      cases k <;> cases x' <;> (try (simp [isNil] at h'; done)) <;> (try (simp [eqGuard]; done))
      have hC := hC rfl
      cases y' <;> (try (simp [eqGuard]; done))
      cases o1 <;> cases o2 <;> simp [isC] at hC <;> simp [eqGuard]
    · simp only [eqV] at h'
      cases k <;> cases x' <;> (try (simp [isNil] at h'; done)) <;> cases y' <;> (try (simp [isNil] at h'; done)) <;> simp [binOp, he]
  | cells n offs =>
    obtain ⟨h1, h2, h3, h4⟩ := eqKind_cells hk
    simp only [eqV] at h
    split at h
    · rename_i xs ys
      split at h
      · rename_i hl
        obtain ⟨xs', rfl, hxs⟩ : ∃ a, x' = .agg a ∧ LRel r xs.toList a.toList := by
          cases hx with
          | agg h1 h2 => exact ⟨_, rfl, LRel.of h1 h2⟩
        obtain ⟨ys', rfl, hys⟩ : ∃ a, y' = .agg a ∧ LRel r ys.toList a.toList := by
          cases hy with
          | agg h1 h2 => exact ⟨_, rfl, LRel.of h1 h2⟩
        have hb := eqCells_rel h hxs hys
        have px : partOf (.agg n) xs'.toList 0 = some (.agg xs') := by
          simp only [partOf]
          rw [if_pos (by have := hxs.length; omega), List.drop_zero, List.take_of_length_le (by have := hxs.length; omega)]
        have py : partOf (.agg n) ys'.toList 0 = some (.agg ys') := by
          simp only [partOf]
          rw [if_pos (by have := hys.length; omega), List.drop_zero, List.take_of_length_le (by have := hys.length; omega)]
        have he : (Op.equal t (.agg xs') (.agg ys')).run P w = .ok b w := eq_fine 8 t 0 offs h3 Op.maxDepth (by decide) _ _ b hb _ h4 _ _ px py
        refine ⟨fun op o1 o2 => ?_, by simp [binOp, he], by simp [binOp, he]⟩
        unfold eqGuard
        cases op <;> simp [h1]
      · simp at h
    · simp at h
end Go.Wb
end
/- The engine, part C4: operations on memory. -/
section
namespace Go.Wb
set_option linter.unusedSectionVars false
variable [GloK]
variable {P : Program} {r : Ren} {S S' : St} {w : World}

theorem VRel.agg_inv {a : Array Value} {v' : Value} (h : VRel r (.agg a) v') : ∃ a', v' = .agg a' ∧ LRel r a.toList a'.toList := by
  cases h
  exact ⟨_, rfl, LRel.of ‹_› ‹_›⟩
theorem VRel.tuple_inv {a : Array Value} {v' : Value} (h : VRel r (.tuple a) v') : ∃ a', v' = .tuple a' ∧ LRel r a.toList a'.toList := by
  cases h
  exact ⟨_, rfl, LRel.of ‹_› ‹_›⟩
theorem VRel.ptr_inv {p : Addr} {v' : Value} (h : VRel r (.pointer (some p)) v') : p.spot = none ∧ r.dom p.block ∧ v' = .pointer (some ⟨r.to p.block, r.base p.block + p.off, none⟩) := by
  cases h
  exact ⟨rfl, ‹_›, rfl⟩
theorem VRel.slcNil_inv {n c : Nat} {v' : Value} (h : VRel r (.slice none n c) v') : n = 0 ∧ c = 0 ∧ v' = .slice none 0 0 := by
  cases h
  exact ⟨rfl, rfl, rfl⟩
/-- a slice that is not nil, both sides: its length is the same; where it has a place at all, the first cells are the same -/
theorem VRel.slc_inv {p : Addr} {n c : Nat} {v' : Value} (h : VRel r (.slice (some p) n c) v') : p.spot = none ∧ r.dom p.block ∧ ∃ o' c', v' = .slice (some ⟨r.to p.block, o', none⟩) n c' ∧ c ≤ c' ∧
    (r.ext p.block = none → c' = c ∧ o' = r.base p.block + p.off) ∧ (∀ z, r.ext p.block = some z → o' + c' * z ≤ r.size p.block ∧ r.base p.block + p.off ≤ o') ∧ (o' = r.base p.block + p.off ∨ (n = 0 ∧ c = 0)) := by
  cases h with
  | slc hd h1 h2 h3 => exact ⟨rfl, hd, _, _, rfl, h2, fun e => ⟨h1 e, rfl⟩, fun z hz => ⟨h3 z hz, by simp⟩, .inl rfl⟩
  | slc0 hd h1 h2 h3 => exact ⟨rfl, hd, _, _, rfl, Nat.zero_le _, fun e => (by rw [h1] at e; cases e), fun z hz => (by rw [h1] at hz; cases hz; exact ⟨h3, h2⟩), .inr ⟨rfl, rfl⟩⟩

theorem cells_at (hr : Rel P r S w) {b : Nat} {ext : Option Nat} {str : Bool} {c : List Value} (h : S.heap.get b = some (.cells ext str c)) :
    r.dom b ∧ ∃ rc el lo hi l', w.heap[r.to b]? = some (.cells rc el (lo, hi)) ∧ r.ext b = ext ∧ (rc.size = r.size b ∧ (ext ≠ none → ∀ i v, r.base b + c.length ≤ i → rc[i]? = some v → plain v = true)) ∧ LRel r c l' ∧ (∀ i v, l'[i]? = some v → rc[r.base b + i]? = some v) ∧
      (lo = hi ∨ rc.size ≤ lo) ∧ (str = false → lo = hi) := by
  obtain ⟨h1, o, h2, h3⟩ := hr.at_ b _ h
  cases o <;> try exact h3.elim
  rename_i rc el fz
  obtain ⟨lo, hi⟩ := fz
  obtain ⟨k1, k2, ⟨l', k3, k4⟩, k5, k6⟩ := h3
  exact ⟨h1, rc, el, lo, hi, l', h2, k1, k2, k3, k4, k5, k6⟩

theorem ro_at {b : Nat} {c : List Value} (hr : Rel P r S w) (h : S.heap.get b = some (.ro c)) :
    ∃ (_ : r.dom b) (rc : Array Value) (el : TypeId) (fz : Nat × Nat) (l' : List Value), w.heap[r.to b]? = some (.cells rc el fz) ∧ r.ext b = none ∧ LRel r c l' ∧ ∀ i v, l'[i]? = some v → rc[r.base b + i]? = some v := by
  obtain ⟨hd, o, h1, h2⟩ := hr.at_ b _ h
  cases o <;> try exact h2.elim
  rename_i rc el fz
  obtain ⟨h3, l', h4, h5⟩ := h2
  exact ⟨hd, rc, el, fz, l', h1, h3, h4, h5⟩
theorem ldCells_ok {b off n : Nat} {l : List Value} (h : ldCells b off n S = some (l, S')) (hr : Rel P r S w) :
    ∃ l', LRel r l l' ∧ l'.length = n ∧ (∀ w0 : World, w0.heap = w.heap → (loadCells ⟨r.to b, r.base b + off, none⟩ n).run P w0 = .ok l'.toArray w0) ∧ S'.next = S.next ∧ Sim P [(b, false)] r S w r S' w := by
  simp only [ldCells, M.bind_some, rd_some] at h
  obtain ⟨o, S1, ⟨h1, rfl⟩, h2⟩ := h
  split at h2
  · rename_i ext str c
    split at h2
    · rename_i hl
      obtain ⟨rfl, rfl⟩ := M.pure_some.1 h2
      obtain ⟨hd, rc, el, lo, hi, l', k1, k2, k3, k4, k5, k6, k7⟩ := cells_at hr h1
      have hlen := k4.length
      have hln : ((l'.drop off).take n).length = n := by simp; omega
      refine ⟨(l'.drop off).take n, (k4.drop off).take n, hln, fun w0 hw0 => ?_, rfl, sim_log hr rfl rfl rfl⟩
      have := run_ld (P := P) (w := w0) (off := r.base b + off) (by rw [hw0]; exact k1) ((l'.drop off).take n) fun i v hv => by
        rw [List.getElem?_take] at hv
        split at hv
        · rw [List.getElem?_drop] at hv
          have := k5 _ _ hv
          rw [Nat.add_assoc]; exact this
        · simp at hv
      rw [hln] at this
      exact this
    · exact (M.fail_some.1 h2).elim
  · rename_i c
    split at h2
    · rename_i hl
      obtain ⟨rfl, rfl⟩ := M.pure_some.1 h2
      obtain ⟨hd, rc, el, fz, l', k1, k2, k4, k5⟩ := ro_at hr h1
      have hlen := k4.length
      have hln : ((l'.drop off).take n).length = n := by simp; omega
      refine ⟨(l'.drop off).take n, (k4.drop off).take n, hln, fun w0 hw0 => ?_, rfl, sim_log hr rfl rfl rfl⟩
      have := run_ld (P := P) (w := w0) (off := r.base b + off) (by rw [hw0]; exact k1) ((l'.drop off).take n) fun i v hv => by
        rw [List.getElem?_take] at hv
        split at hv
        · rw [List.getElem?_drop] at hv
          have := k5 _ _ hv
          rw [Nat.add_assoc]; exact this
        · simp at hv
      rw [hln] at this
      exact this
    · exact (M.fail_some.1 h2).elim
  · exact (M.fail_some.1 h2).elim

theorem ld1_ok {b off : Nat} {v : Value} (h : ld1 b off S = some (v, S')) (hr : Rel P r S w) :
    ∃ v', VRel r v v' ∧ (load ⟨r.to b, r.base b + off, none⟩).run P w = .ok v' w ∧ Sim P [(b, false)] r S w r S' w := by
  simp only [ld1, M.bind_some, rd_some] at h
  obtain ⟨o, S1, ⟨h1, rfl⟩, h2⟩ := h
  split at h2
  · rename_i ext str c
    obtain ⟨hv, rfl⟩ := M.lift_some.1 h2
    obtain ⟨hd, rc, el, lo, hi, l', k1, k2, k3, k4, k5, k6, k7⟩ := cells_at hr h1
    obtain ⟨v', hv', hvr⟩ := k4.get hv
    have hc : w.cell? ⟨r.to b, r.base b + off, none⟩ = some v' := by rw [cell_of k1]; exact k5 _ _ hv'
    exact ⟨v', hvr, by simp [hc], sim_log hr rfl rfl rfl⟩
  · rename_i c
    obtain ⟨hv, rfl⟩ := M.lift_some.1 h2
    obtain ⟨hd, rc, el, fz, l', k1, k2, k4, k5⟩ := ro_at hr h1
    obtain ⟨v', hv', hvr⟩ := k4.get hv
    have hc : w.cell? ⟨r.to b, r.base b + off, none⟩ = some v' := by rw [cell_of k1]; exact k5 _ _ hv'
    exact ⟨v', hvr, by simp [hc], sim_log hr rfl rfl rfl⟩
  · exact (M.fail_some.1 h2).elim

theorem oneCell_rel {v v' : Value} (h : VRel r v v') : v.oneCell' = v'.oneCell' := by cases h <;> rfl
theorem all_oneCell {l l' : List Value} (h : LRel r l l') : l.all (·.oneCell') = l'.all (·.oneCell') := by
  induction h with
  | nil => rfl
  | cons hv _ ih => simp only [List.all_cons, ih, oneCell_rel hv]

theorem setArr_off (vs : List Value) : ∀ (rc : Array Value) (i j : Nat), (j < i ∨ i + vs.length ≤ j) → (setArr rc i vs)[j]? = rc[j]? := by
  induction vs with
  | nil => intro rc i j _; rfl
  | cons v vs ih =>
    intro rc i j h
    rw [List.length_cons] at h
    rw [setArr, ih _ _ _ (by omega), Array.getElem?_setIfInBounds, if_neg (by omega)]
theorem stCells_ok {b off : Nat} {vs vs' : List Value} {u : Unit} (h : stCells b off vs S = some (u, S')) (hr : Rel P r S w) (hv : LRel r vs vs') :
    ∃ w', (storeCells ⟨r.to b, r.base b + off, none⟩ vs').run P w = .ok () w' ∧ Sim P [(b, true), (b, false)] r S w r S' w' := by
  simp only [stCells, M.bind_some, rd_some] at h
  obtain ⟨o, S1, ⟨h1, rfl⟩, h2⟩ := h
  split at h2
  · rename_i ext str c
    split at h2
    · rename_i hl
      obtain ⟨hl, ho⟩ := hl
      have h2 := wr_some.1 h2
      rw [splice_eq off c vs hl] at h2
      subst h2
      obtain ⟨hd, rc, el, lo, hi, l', k1, k2, k3, k4, k5, k6, k7⟩ := cells_at hr h1
      have hlen := k4.length
      have hvl := hv.length
      have hb : ∀ j, j < vs'.length → r.base b + off + 0 + j < rc.size := fun j hj => by
        have hx : l'[off + j]? = some l'[off + j] := by simp
        have := (Array.getElem?_eq_some_iff.1 (k5 _ _ hx)).1
        omega
      obtain ⟨w', hw, hu⟩ := run_st (P := P) vs' 0 (r.base b + off) rc w k1 hb k6 (by rw [← all_oneCell hv]; exact ho)
      refine ⟨w', hw, sim_upd hr h1 rfl rfl (D := [(b, true), (b, false)]) rfl (by simp) hu ?_⟩
      refine ⟨k2, ⟨by rw [setArr_size]; exact k3.1, fun e i v hi hiv => ?_⟩, ?_, by rw [setArr_size]; exact k6, k7⟩
      · rw [setAll_length] at hi
        rw [setArr_off _ _ _ _ (.inr (by omega))] at hiv
        exact k3.2 e i v hi hiv
      exact setAll_rel vs vs' c off rc hv hl ⟨l', k4, k5⟩
    · exact (M.fail_some.1 h2).elim
  · exact (M.fail_some.1 h2).elim

/-! ### parts laid over cells -/
theorem foldl_setArr (l : List Value) : ∀ (i k : Nat) (cs : Array Value), (l.zipIdx k).foldl (fun cs (c, j) => cs.setIfInBounds (i + j) c) cs = setArr cs (i + k) l := by
  induction l with
  | nil => intro i k cs; rfl
  | cons a l ih => intro i k cs; simp only [List.zipIdx_cons, List.foldl_cons, setArr]; rw [ih]; rfl
theorem foldl_setArr' (v : Value) (off : Nat) (cs : Array Value) : v.cells.zipIdx.foldl (fun cs (c, j) => cs.setIfInBounds (off + j) c) cs = setArr cs off v.cells.toList := by
  rw [← Array.foldl_toList]
  have : v.cells.zipIdx.toList = v.cells.toList.zipIdx := by simp
  rw [this]
  exact foldl_setArr _ _ 0 _
theorem setArr_rel : ∀ (vs vs' : List Value) (c : List Value) (off : Nat) (c' : Array Value), LRel r vs vs' → LRel r c c'.toList → LRel r (setAll c off vs) (setArr c' off vs').toList
  | [], [], c, off, c', _, h => h
  | v :: vs, v' :: vs', c, off, c', hv, h => by
    cases hv with
    | cons ha hb => exact setArr_rel vs vs' _ _ _ hb (by rw [Array.toList_setIfInBounds]; exact h.set off ha)
  | [], _ :: _, _, _, _, h, _ => by cases h
  | _ :: _, [], _, _, _, h, _ => by cases h

theorem fillA_ok {e : Env} {tmps : Array Value} (hE : EnvRel r e tmps) {place : Nat → Option (Nat × Nat)} : ∀ {parts : List (Nat × Operand)} {l : List (Nat × Nat × Atom)} {c c2 : List Value} {c' : Array Value},
    partsS place parts = some l → fillA e l c = some c2 → LRel r c c'.toList →
    ∃ c2', Instr.fill place c' (parts.map fun (i, x) => (i, evT tmps x)) = some c2' ∧ LRel r c2 c2'.toList
  | [], l, c, c2, c', h, k, hc => by
    simp only [partsS, Option.some.injEq] at h; subst h
    simp only [fillA, Option.some.injEq] at k; subst k
    exact ⟨c', rfl, hc⟩
  | (i, x) :: parts, l, c, c2, c', h, k, hc => by
    simp only [partsS] at h
    split at h
    · rename_i o s a m hp ha hm
      simp only [Option.some.injEq] at h; subst h
      simp only [fillA] at k
      split at k
      · rename_i v hv
        split at k
        · rename_i hs
          have hvr := atom_ok ha hv hE
          have hcl : c.length = c'.size := by simpa using hc.length
          have hsz := hvr.cells_size
          obtain ⟨c2', h1, h2⟩ := fillA_ok hE (c' := setArr c' o (evT tmps x).cells.toList) hm k (setArr_rel _ _ _ _ _ hvr.cells hc)
          refine ⟨c2', ?_, h2⟩
          simp only [List.map_cons, Instr.fill, hp]
          rw [if_neg (by simp; omega), foldl_setArr']
          exact h1
        · simp at k
      · simp at k
    · simp at h

theorem run_mapM {α β : Type} {g : α → Sem β} {h : α → β} : ∀ (l : List α), (∀ a ∈ l, (g a).run P w = .ok (h a) w) → (l.mapM g).run P w = .ok (l.map h) w
  | [], _ => by simp
  | a :: l, hl => by
    simp only [List.mapM_cons, Sem.run_bind, hl a (by simp), Result.andThen_ok, run_mapM l (fun b hb => hl b (by simp [hb])), Sem.run_pure, List.map_cons]

theorem part_ok {t : TypeId} {sh : Sh} {cs : List Value} {off : Nat} {v : Value} {cs' : Array Value} (hs : shOf P t = some sh) (h : partOf sh cs off = some v) (hc : LRel r cs cs'.toList) :
    ∃ v', (part t cs' off).run P w = .ok v' w ∧ VRel r v v' := by
  have hi := run_isAgg (w := w) hs
  cases sh with
  | one =>
    simp only [partOf] at h
    obtain ⟨v', h1, h2⟩ := hc.get h
    refine ⟨v', ?_, h2⟩
    have h1' : cs'[off]? = some v' := by simpa using h1
    simp [part, hi.1, h1']
  | agg n =>
    simp only [partOf] at h
    split at h
    · rename_i hl
      simp at h; subst h
      refine ⟨.agg (cs'.extract off (off + n)), ?_, ?_⟩
      · simp [part, hi.1, run_sizeOf (hi.2 n rfl)]
      · have : cs'.extract off (off + n) = ((cs'.toList.drop off).take n).toArray := by
          apply Array.ext'
          rw [Array.toList_extract, List.extract_eq_take_drop]
          simp
        rw [this]
        exact ((hc.drop off).take n).agg
    · simp at h
end Go.Wb
end
/- The engine, part C5: slices, appends. -/
section
namespace Go.Wb
set_option linter.unusedSectionVars false
variable [GloK]
variable {P : Program} {r : Ren} {S S' : St} {w : World}

theorem bnd_ok {e : Env} {tmps : Array Value} (hE : EnvRel r e tmps) {xo : Option Operand} {a : Option Atom} (ha : atomO xo = some a) {d y k : Nat} (h : bnd e a d y = some k) :
    (xo = none ∧ k = d) ∨ (∃ o, xo = some o ∧ k ≤ y ∧ ∀ y' code, y ≤ y' → (Instr.sliceBound (evT tmps o) y' code).run P w = .ok k w) := by
  cases xo with
  | none =>
    simp only [atomO, Option.some.injEq] at ha; subst ha
    simp only [bnd, Option.some.injEq] at h
    exact .inl ⟨rfl, h.symm⟩
  | some o =>
    simp only [atomO, Option.map_eq_some_iff] at ha
    obtain ⟨b, hb, rfl⟩ := ha
    simp only [bnd] at h
    split at h
    · rename_i i hi
      split at h
      · rename_i hle
        simp at h; subst h
        rw [Option.bind_eq_some_iff] at hi
        obtain ⟨v, hv, hvi⟩ := hi
        obtain ⟨kk, rfl⟩ := asInt_inv hvi
        have hx := (atom_ok hb hv hE).int_inv
        refine .inr ⟨o, rfl, by omega, fun y' code hy => ?_⟩
        simp [Instr.sliceBound, hx, asIntOf]
        omega
      · simp at h
    · simp at h

theorem bnds_ok {e : Env} {tmps : Array Value} (hE : EnvRel r e tmps) {lo hi mx : Option Operand} {la ha ma : Option Atom} (h1 : atomO lo = some la) (h2 : atomO hi = some ha) (h3 : atomO mx = some ma)
    (hm : ¬ (mx.isSome && hi.isNone) = true) {len cap cap' : Nat} (hc : cap ≤ cap') {b : Nat × Nat × Nat} (h : bnds e len cap la ha ma = some b) (isS : Bool) :
    ∃ m', (Instr.sliceBounds isS len cap' (lo.map (evT tmps)) (hi.map (evT tmps)) (mx.map (evT tmps))).run P w = .ok (b.1, b.2.1, m') w ∧ b.1 ≤ b.2.1 ∧ b.2.2 ≤ cap ∧
      ((mx = none ∧ b.2.2 = cap ∧ m' = cap') ∨ (m' = b.2.2)) := by
  unfold bnds at h
  split at h
  · simp at h
  rename_i m hm1
  split at h
  · simp at h
  rename_i hh hh1
  split at h
  · simp at h
  rename_i l hl1
  simp at h; subst h
  simp only
  have A3 := bnd_ok (P := P) (w := w) hE h3 hm1
  have A2 := bnd_ok (P := P) (w := w) hE h2 hh1
  have A1 := bnd_ok (P := P) (w := w) hE h1 hl1
  rcases A3 with ⟨rfl, rfl⟩ | ⟨om, rfl, hmle, hmr⟩
  · refine ⟨cap', ?_, ?_, Nat.le_refl _, .inl ⟨rfl, rfl, rfl⟩⟩
    · rcases A2 with ⟨rfl, rfl⟩ | ⟨oh, rfl, _, hhr⟩ <;> rcases A1 with ⟨rfl, rfl⟩ | ⟨ol, rfl, _, hlr⟩ <;> simp [Instr.sliceBounds]
      · simp [hlr _ _ (Nat.le_refl _)]
      · simp [hhr _ _ hc]
      · simp [hhr _ _ hc, hlr _ _ (Nat.le_refl _)]
    · rcases A1 with ⟨_, rfl⟩ | ⟨_, _, h, _⟩ <;> omega
  · refine ⟨m, ?_, ?_, hmle, .inr rfl⟩
    · rcases A2 with ⟨rfl, rfl⟩ | ⟨oh, rfl, _, hhr⟩
      · simp at hm
      · rcases A1 with ⟨rfl, rfl⟩ | ⟨ol, rfl, _, hlr⟩ <;> simp [Instr.sliceBounds, hmr _ _ hc, hhr _ _ (Nat.le_refl _)]
        simp [hlr _ _ (Nat.le_refl _)]
    · rcases A1 with ⟨_, rfl⟩ | ⟨_, _, h, _⟩ <;> omega

theorem sim_kill (h : Rel P r S w) {S' : St} {D : List (Nat × Bool)} {id : Nat} (hh : S'.heap = S.heap.set id none) (hn : S'.next = S.next) (hl : S'.log = D ++ S.log) (hD : (id, true) ∈ D) (hro : ∀ c, S.heap.get id ≠ some (.ro c)) :
    Sim P D r S w r S' w where
  le := .refl r
  rel := by
    have A : ∀ i x, S'.heap.get i = some x → S.heap.get i = some x := by
      intro i x hx
      rw [hh, Tr.get_set] at hx
      split at hx
      · simp at hx
      · exact hx
    exact ⟨fun i x hx => h.at_ i x (A i x hx), fun i j bi bj hi hj => h.inj' i j bi bj (A _ _ hi) (A _ _ hj), by rw [hh]; exact h.glo.set (.refl r) hro _⟩
  log := hl
  next := by omega
  dom := fun i => ⟨fun h => .inl h, fun h => h.elim (fun h => h) fun ⟨a, b⟩ => by omega⟩
  size := Nat.le_refl _
  os := rfl
  tape := rfl
  output := rfl
  frame := fun _ _ _ => rfl
  kept := fun _ _ _ _ => rfl
  same := fun i hi _ => by rw [hh, Tr.get_set, if_neg (fun c : i = id => hi (c ▸ hD))]
  live := fun k _ ⟨i, x, hx, e⟩ => by
    rw [hh, Tr.get_set] at hx
    split at hx
    · simp at hx
    · exact ⟨i, x, hx, e⟩

/-! ### numbers -/
theorem growBy_le (n : Nat) : ∀ (k c : Nat), c < n → 256 ≤ n → Builtin.growBy n k c ≤ 2 * n
  | 0, c, h, _ => by simp [Builtin.growBy]; omega
  | k + 1, c, h, h2 => by
    unfold Builtin.growBy
    rw [if_neg (by omega)]
    by_cases h3 : c + (c + 768) / 4 < n
    · exact growBy_le n k _ h3 h2
    · cases k with
      | zero => simp [Builtin.growBy]; omega
      | succ k => unfold Builtin.growBy; rw [if_pos (by omega)]; omega
theorem nextcap_le (n c : Nat) (h : c < n) : Builtin.nextslicecap n c ≤ 2 * n := by
  unfold Builtin.nextslicecap
  split
  · omega
  · split
    · omega
    · exact growBy_le n 4 c h (by omega)

theorem rep_length (n : Nat) (z : List Value) : (rep n z).length = n * z.length := by
  induction n with
  | zero => simp [rep]
  | succ n ih => simp [rep, ih, Nat.succ_mul, Nat.add_comm]
theorem range_rep (z : Array Value) : ∀ n, (List.range (n * z.size)).map (fun i => z[i % z.size]!) = rep n z.toList := by
  intro n
  induction n with
  | zero => simp [rep]
  | succ n ih =>
    rw [rep, ← ih, Nat.succ_mul, Nat.add_comm, List.range_add]
    simp only [List.map_append, List.map_map]
    congr 1
    · apply List.ext_getElem?
      intro i
      simp only [List.getElem?_map]
      by_cases hi : i < z.size
      · simp [hi, Nat.mod_eq_of_lt hi]
      · simp [hi]
    · apply List.map_congr_left
      intro i _
      simp
theorem zeroCells_rep (z : Array Value) (n : Nat) : (Builtin.zeroCells z n).toList = rep n z.toList := by
  unfold Builtin.zeroCells
  rw [Array.toList_map, Array.toList_range]
  exact range_rep z n
theorem rep_plain {v : Value} (h : plain v = true) (n : Nat) : LRel r (rep n v.cells.toList) (rep n v.cells.toList) := by
  induction n with
  | zero => exact .nil
  | succ n ih => exact (plain_rel h).cells.append ih
theorem wrap64_id {n : Int} (h0 : 0 ≤ n) (h1 : n < 4611686018427387905) : IntKind.i64.wrap n = n := by
  have e : n % (2 ^ 64 : Int) = n := Int.emod_eq_of_lt h0 (by omega)
  simp only [IntKind.wrap, IntKind.bits, IntKind.signed, e]
  rw [if_neg (by simp; omega)]

/-! ### the first elements of a slice or a string -/
theorem VRel.token_inv {v' : Value} (h : VRel r (.chan none) v') : ∃ a, v' = .slice (some a) 0 0 := by cases h with | slcE a => exact ⟨a, rfl⟩
theorem lenOf_ok {x x' : Value} {n : Nat} (h : lenOf x = some n) (hx : VRel r x x') : (Builtin.lenOf x').run P w = .ok n w := by
  cases hx <;> simp [lenOf] at h <;> subst h <;> simp [Builtin.lenOf]
theorem firstN_ok {size n : Nat} {x x' : Value} {l : List Value} (hn : lenOf x = some n ∨ ∃ m, lenOf x = some m ∧ n ≤ m) (h : firstN size n x S = some (l, S')) (hx : VRel r x x') (hr : Rel P r S w) :
    ∃ D l', LRel r l l' ∧ (∀ w0 : World, w0.heap = w.heap → (Builtin.firstCells size n x').run P w0 = .ok l'.toArray w0) ∧ l.length = n * size ∧ S'.next = S.next ∧ Sim P D r S w r S' w := by
  have hn : ∃ m, lenOf x = some m ∧ n ≤ m := by
    rcases hn with h | h
    · exact ⟨n, h, Nat.le_refl _⟩
    · exact h
  obtain ⟨m, hm, hnm⟩ := hn
  unfold firstN at h
  split at h
  · rename_i a n' c
    obtain ⟨hs, hd, o', c', rfl, hcc, hex, hgr, hor⟩ := hx.slc_inv
    obtain ⟨l', h1, h2, h3, hnx, h4⟩ := ldCells_ok h hr
    refine ⟨_, l', h1, fun w0 hw0 => ?_, by rw [h1.length, h2], hnx, h4⟩
    simp only [Builtin.firstCells]
    rcases hor with rfl | ⟨h0, _⟩
    · exact h3 w0 hw0
    · simp only [lenOf, Option.some.injEq] at hm
      have : n = 0 := by omega
      subst this
      simp only [Nat.zero_mul] at h2 ⊢
      cases l' with
      | nil => simp [loadCells, loadCellsFrom]
      | cons _ _ => simp at h2
  · rename_i n' c
    obtain ⟨_, _, rfl⟩ := hx.slcNil_inv
    obtain ⟨rfl, rfl⟩ := M.pure_some.1 h
    simp only [lenOf, Option.some.injEq] at hm
    exact ⟨[], [], .nil, fun w0 _ => by simp [Builtin.firstCells], by (have : n = 0 := by omega); subst this; simp, rfl, Sim.refl hr⟩
  · obtain ⟨a, rfl⟩ := hx.token_inv
    split at h
    case isFalse => exact (M.fail_some.1 h).elim
    rename_i hn0
    subst hn0
    obtain ⟨rfl, rfl⟩ := M.pure_some.1 h
    exact ⟨[], [], .nil, fun w0 _ => by simp [Builtin.firstCells, loadCells, loadCellsFrom], by simp, rfl, Sim.refl hr⟩
  · rename_i s
    obtain rfl := hx.string_inv
    split at h
    case isFalse => exact (M.fail_some.1 h).elim
    rename_i hs1
    obtain ⟨rfl, rfl⟩ := M.pure_some.1 h
    simp only [lenOf, Option.some.injEq] at hm
    refine ⟨[], (s.data.toList.take n).map fun b => (Value.int .u8 b.toNat), ?_, fun w0 _ => ?_, ?_, rfl, Sim.refl hr⟩
    · generalize s.data.toList.take n = q
      induction q with
      | nil => exact .nil
      | cons a q ih => exact .cons (.int _ _) ih
    · simp only [Builtin.firstCells, Sem.run_pure]
      congr 1
      apply Array.ext'
      simp only [Array.toList_map]
      congr 1
      show (s.extract 0 n).data.toList = _
      rw [ByteArray.data_extract, Array.toList_extract, List.extract_eq_take_drop]
      simp
    · have hs : s.data.toList.length = s.size := by simp
      rw [hs1, List.length_map, List.length_take, hs]
      omega
  · exact (M.fail_some.1 h).elim
/-! ### append -/
theorem st_any {b off : Nat} {a' : Addr} {vs vs' : List Value} {u : Unit} (h : stCells b off vs S = some (u, S')) (hr : Rel P r S w) (hv : LRel r vs vs')
    (ha : a' = ⟨r.to b, r.base b + off, none⟩ ∨ vs = []) : ∃ w', (storeCells a' vs').run P w = .ok () w' ∧ Sim P [(b, true), (b, false)] r S w r S' w' := by
  obtain ⟨w', h1, h2⟩ := stCells_ok h hr hv
  rcases ha with rfl | rfl
  · exact ⟨w', h1, h2⟩
  · cases hv
    simp [storeCells] at h1 ⊢
    subst h1
    exact h2

theorem setArr_get : ∀ (vs : List Value) (rc : Array Value) (i j : Nat), i + vs.length ≤ rc.size → (setArr rc i vs)[j]? = if i ≤ j ∧ j < i + vs.length then vs[j - i]? else rc[j]?
  | [], rc, i, j, _ => by simp [setArr]; intro h1 h2; omega
  | v :: vs, rc, i, j, h => by
    simp only [List.length_cons] at h
    simp only [setArr, List.length_cons]
    rw [setArr_get vs _ _ _ (by simp; omega)]
    by_cases e : j = i
    · subst e
      rw [if_neg (by omega), if_pos (by omega)]
      simp [show j < rc.size by omega]
    · by_cases c : i ≤ j ∧ j < i + (vs.length + 1)
      · rw [if_pos (by omega), if_pos c]
        obtain ⟨k, rfl⟩ : ∃ k, j = i + (k + 1) := ⟨j - i - 1, by omega⟩
        rw [show i + (k + 1) - (i + 1) = k by omega, show i + (k + 1) - i = k + 1 by omega, List.getElem?_cons_succ]
      · rw [if_neg (by omega), if_neg c, Array.getElem?_setIfInBounds, if_neg (by omega)]
theorem setArr_at {rc : Array Value} {o k : Nat} {old l : List Value} (hroom : o + k + l.length ≤ rc.size) (hk : old.length = k) (hold : ∀ i v, old[i]? = some v → rc[o + i]? = some v) :
    ∀ i v, (old ++ l)[i]? = some v → (setArr rc (o + k + 0) l)[o + i]? = some v := by
  intro i v hv
  rw [setArr_get _ _ _ _ (by omega)]
  by_cases h : i < old.length
  · rw [List.getElem?_append_left h] at hv
    rw [if_neg (by omega)]
    exact hold i v hv
  · rw [List.getElem?_append_right (by omega)] at hv
    have := (List.getElem?_eq_some_iff.1 hv).1
    rw [if_pos (by omega), show o + i - (o + k + 0) = i - old.length by omega]
    exact hv

theorem fresh_of_next {S S' : St} (h : S'.next = S.next) : Fresh r S S' := fun id a b => by omega

theorem putA_ok {size sLen sCap n : Nat} {base : Option Addr} {news : M (List Value)} {v s' : Value} {l l' : List Value} {S1 : St} {D : List (Nat × Bool)}
    (h : putA size base sLen sCap n news S = some (v, S')) (hs : VRel r (.slice base sLen sCap) s') (hle : sLen + n ≤ sCap) (hr : Rel P r S w)
    (h1 : news S = some (l, S1)) (hlen : l.length = n * size) (hl : LRel r l l') (hn1 : S1.next = S.next) (hsim : Sim P D r S w r S1 w) :
    ∃ D' w' base' sCap', s' = .slice base' sLen sCap' ∧ sLen + n ≤ sCap' ∧ Sim P D' r S w r S' w' ∧ VRel r v (.slice base' (sLen + n) sCap') ∧
      ((match base' with | some a => storeCells (a.add (sLen * size)) l' | none => pure ()) : Sem Unit).run P w = .ok () w' := by
  simp only [putA, M.bind_some] at h
  obtain ⟨l0, S0, h1', h2⟩ := h
  rw [h1] at h1'
  obtain ⟨rfl, rfl⟩ : l = l0 ∧ S1 = S0 := by simpa using h1'
  cases base with
  | none =>
    obtain ⟨rfl, rfl, rfl⟩ := hs.slcNil_inv
    simp at h2
    obtain ⟨rfl, rfl⟩ := M.pure_some.1 h2
    exact ⟨D, w, none, 0, rfl, hle, hsim, by (have : n = 0 := by omega); subst this; exact .slcNil, by simp⟩
  | some a =>
    simp only [M.bind_some] at h2
    obtain ⟨u, S2, h2, h3⟩ := h2
    obtain ⟨rfl, rfl⟩ := M.pure_some.1 h3
    obtain ⟨hsp, hd, o', c', rfl, hcc, hex, hgr, hor⟩ := hs.slc_inv
    obtain ⟨bk, of, sp⟩ := a
    simp only at hsp
    subst hsp
    simp only at h2 hd hex hgr hor ⊢
    have hz : l = [] ∨ (⟨r.to bk, o', none⟩ : Addr).add (sLen * size) = ⟨r.to bk, r.base bk + (of + sLen * size), none⟩ := by
      rcases hor with rfl | ⟨rfl, rfl⟩
      · right; rw [add_none, Nat.add_assoc]
      · left
        have : n = 0 := by omega
        subst this
        simpa using hlen
    obtain ⟨w', h4, h5⟩ := st_any (a' := (⟨r.to bk, o', none⟩ : Addr).add (sLen * size)) h2 hsim.rel hl (hz.elim .inr .inl)
    have hn2 : S'.next = S1.next := by
      have := h2
      simp only [stCells, M.bind_some, rd_some] at this
      obtain ⟨o, S3, ⟨_, rfl⟩, h6⟩ := this
      split at h6
      · split at h6
        · have := wr_some.1 h6; rw [this]
        · exact (M.fail_some.1 h6).elim
      · exact (M.fail_some.1 h6).elim
    refine ⟨_, w', _, c', rfl, by omega, hsim.trans (fresh_of_next (hn2.trans hn1)) hr h5, ?_, h4⟩
    rcases hor with rfl | ⟨rfl, rfl⟩
    · exact .slc hd (fun e => (hex e).1) hcc (fun z hz => (hgr z hz).1)
    · have : n = 0 := by omega
      subst this
      cases he : r.ext bk with
      | none => obtain ⟨rfl, rfl⟩ := hex he; exact .slc hd (fun _ => rfl) (Nat.le_refl _) (fun z hz => by rw [he] at hz; cases hz)
      | some z => exact .slc0 hd he (hgr z he).2 (hgr z he).1

theorem rest_plain {a rest : List Value} (h : ∀ x ∈ rest, plain x = true) {i : Nat} {v : Value} (hi : a.length ≤ i) (hv : (a ++ rest).toArray[i]? = some v) : plain v = true := by
  rw [List.getElem?_toArray, List.getElem?_append_right hi] at hv
  exact h _ (List.mem_of_getElem? hv)
/-- a growth: in place, or over a new block -/
theorem growA_ok {size bytes sLen sCap n : Nat} {base : Option Addr} {news : M (List Value)} {v s' : Value} {l l' : List Value} {S1 : St} {D : List (Nat × Bool)}
    (h : growA size bytes base sLen sCap n news S = some (v, S')) (hs : VRel r (.slice base sLen sCap) s') (hle : ¬ sLen + n ≤ sCap) (hr : Rel P r S w) (hf : Fresh r S S')
    (h1 : news S = some (l, S1)) (hlen : l.length = n * size) (hl : LRel r l l') (hn1 : S1.next = S.next) (hsim : Sim P D r S w r S1 w) :
    (2 * ((sLen + n) * bytes) ≤ 281474976710656 ∧ bytes ≠ 0) ∧ ∃ base' sCap', s' = .slice base' sLen sCap' ∧
    -- in place
    ((sLen + n ≤ sCap' ∧ ∃ D' r' w', Sim P D' r S w r' S' w' ∧ VRel r' v (.slice base' (sLen + n) sCap') ∧
      ((match base' with | some a => storeCells (a.add (sLen * size)) l' | none => pure ()) : Sem Unit).run P w = .ok () w') ∨
    -- anew
    (¬ sLen + n ≤ sCap' ∧ ∃ old : List Value, (∀ w0 : World, w0.heap = w.heap → (Builtin.firstCells size sLen s').run P w0 = .ok old.toArray w0) ∧ ∀ (newCap : Nat) (rest : List Value) (el : TypeId) (w0 : World), sLen + n ≤ newCap → rest.length = (newCap - (sLen + n)) * size → (∀ x ∈ rest, plain x = true) → Drew w w0 →
      ∃ D' r', Sim P D' r S w r' S' { w0 with heap := w0.heap.push (.cells (old ++ l' ++ rest).toArray el) } ∧ VRel r' v (.slice (some ⟨w0.heap.size, 0, none⟩) (sLen + n) newCap))) := by
  unfold growA at h
  split at h
  case isFalse => exact (M.fail_some.1 h).elim
  rename_i hb
  obtain ⟨hb1, hb2, hsz⟩ := hb
  refine ⟨⟨hb1, hb2⟩, ?_⟩
  simp only [M.bind_some] at h
  obtain ⟨l0, S0, h1', h2⟩ := h
  rw [h1] at h1'
  obtain ⟨rfl, rfl⟩ : l = l0 ∧ S1 = S0 := by simpa using h1'
  have hll := hl.length
  split at h2
  case isFalse => exact (M.fail_some.1 h2).elim
  rename_i hone
  have hone : l'.all (·.oneCell') = true := by rw [← all_oneCell hl]; exact hone
  cases base with
  | none =>
    obtain ⟨rfl, rfl, rfl⟩ := hs.slcNil_inv
    simp only [and_self, if_true, M.bind_some, nw_some] at h2
    obtain ⟨nb, S2, ⟨rfl, rfl⟩, h3⟩ := h2
    obtain ⟨rfl, rfl⟩ := M.pure_some.1 h3
    refine ⟨none, 0, rfl, .inr ⟨hle, [], fun w0 _ => by simp [Builtin.firstCells], ?_⟩⟩
    intro newCap rest el w0 hc hrest hpl hdw
    have hd : ¬ r.dom S1.next := by rw [hn1]; exact hf _ (Nat.le_refl _) (by simp [hn1])
    have hd2 := sim_drew hsim.rel hdw
    have hnew := sim_new (P := P) (w := w0) (S := S1) (D := []) (b := .cells (some size) false l) (w' := { w0 with heap := w0.heap.push (.cells (l' ++ rest).toArray el) })
      (o := .cells (l' ++ rest).toArray el) (base := 0) (size := (l' ++ rest).length) (ext := some size) (S' := { heap := S1.heap.set S1.next (some (.cells (some size) false l)), next := S1.next + 1, log := S1.log })
      hd2.rel hd rfl rfl rfl ⟨rfl, rfl, rfl, rfl⟩
      ⟨Ren.add_ext .., ⟨by rw [Ren.add_size]; simp, fun _ i v hi hv => rest_plain hpl (by rw [Ren.add_base] at hi; omega) hv⟩, ⟨l', hl.mono (Ren.le_add hd), fun i v hv => by
        rw [Ren.add_base]; simp
        have := (List.getElem?_eq_some_iff.1 hv).1
        rw [List.getElem?_append_left this]; exact hv⟩, .inl rfl, fun _ => rfl⟩
    have hsim2 := (hsim.trans (fresh_of_next hn1) hr hd2).trans hf hr hnew
    refine ⟨_, _, by simpa using hsim2, ?_⟩
    have := VRel.slc (r := r.add S1.next w0.heap.size 0 (l' ++ rest).length (some size)) (b := S1.next) (o := 0) (n := n) (c := n) (c' := newCap) (Ren.add_dom ..) (by rw [Ren.add_ext]; intro h; cases h) (by omega)
      (fun z hz => by
        rw [Ren.add_ext] at hz
        obtain rfl : size = z := by simpa using hz
        rw [Ren.add_base, Ren.add_size]
        have : (l' ++ rest).length = newCap * size := by
          rw [List.length_append, ← hll, hlen, hrest, ← Nat.add_mul]; congr 1; omega
        omega)
    rw [Ren.add_to, Ren.add_base] at this
    simpa using this
  | some a =>
    obtain ⟨hsp, hd, o', c', rfl, hcc, hex, hgr, hor⟩ := hs.slc_inv
    obtain ⟨bk, of, sp⟩ := a
    simp only at hsp
    subst hsp
    simp only [M.bind_some, rd_some] at h2 hd hex hgr hor ⊢
    obtain ⟨o, S2, ⟨hbk, rfl⟩, h2⟩ := h2
    split at h2
    case h_2 => exact (M.fail_some.1 h2).elim
    rename_i ext str c
    split at h2
    case isFalse => exact (M.fail_some.1 h2).elim
    rename_i hcl
    obtain ⟨hdb, rc, el0, lo, hi, lc, k1, k2, k3, k4, k5, k6, k7⟩ := cells_at hsim.rel hbk
    have hlc := k4.length
    -- the old elements, both sides
    have hold : LRel r ((c.drop of).take (sLen * size)) ((lc.drop of).take (sLen * size)) := (k4.drop of).take _
    have holdl : ((lc.drop of).take (sLen * size)).length = sLen * size := by simp; omega
    have holdAt : ∀ i v, ((lc.drop of).take (sLen * size))[i]? = some v → rc[o' + i]? = some v := by
      intro i v hv
      rw [List.getElem?_take] at hv
      split at hv
      · rw [List.getElem?_drop] at hv
        rcases hor with rfl | ⟨h0, _⟩
        · rw [Nat.add_assoc]; exact k5 _ _ hv
        · subst h0; omega
      · simp at hv
    have hread : ∀ w0 : World, w0.heap = w.heap → (Builtin.firstCells size sLen (.slice (some ⟨r.to bk, o', none⟩) sLen c')).run P w0 = .ok ((lc.drop of).take (sLen * size)).toArray w0 := by
      intro w0 hw0
      simp only [Builtin.firstCells]
      have := run_ld (P := P) (w := w0) (off := o') (by rw [hw0]; exact k1) _ holdAt
      rw [holdl] at this
      exact this
    refine ⟨some ⟨r.to bk, o', none⟩, c', rfl, ?_⟩
    have hlog1 : Sim P [(bk, false)] r S1 w r { heap := S1.heap, next := S1.next, log := (bk, false) :: S1.log } w := sim_log hsim.rel rfl rfl rfl
    have hA := hsim.trans (fresh_of_next (S' := { heap := S1.heap, next := S1.next, log := (bk, false) :: S1.log }) hn1) hr hlog1
    have hdn : ¬ r.dom S1.next := by
      rw [hn1]
      refine hf _ (Nat.le_refl _) ?_
      cases ext with
      | none =>
        simp only [M.bind_some, nw_some] at h2
        obtain ⟨nb, S3, ⟨rfl, rfl⟩, h4⟩ := h2
        obtain ⟨rfl, rfl⟩ := M.pure_some.1 h4
        simp [hn1]
      | some z =>
        simp only at h2
        split at h2
        case isFalse => exact (M.fail_some.1 h2).elim
        simp only [M.bind_some, nw_some, wr_some] at h2
        obtain ⟨_, S3, rfl, nb, S4, ⟨rfl, rfl⟩, h4⟩ := h2
        obtain ⟨rfl, rfl⟩ := M.pure_some.1 h4
        simp [hn1]
    -- anew: the same in both cases
    have anew : ∀ (S2 : St) (D2 : List (Nat × Bool)) (st : Bool), Sim P D2 r S w r S2 w → S2.next = S1.next →
        S' = { heap := S2.heap.set S2.next (some (.cells (some size) st ((c.drop of).take (sLen * size) ++ l))), next := S2.next + 1, log := S2.log } → v = .slice (some ⟨S2.next, 0, none⟩) (sLen + n) (sLen + n) →
        ∀ (newCap : Nat) (rest : List Value) (el : TypeId) (w0 : World), sLen + n ≤ newCap → rest.length = (newCap - (sLen + n)) * size → (∀ x ∈ rest, plain x = true) → Drew w w0 →
        ∃ D' r', Sim P D' r S w r' S' { w0 with heap := w0.heap.push (.cells ((lc.drop of).take (sLen * size) ++ l' ++ rest).toArray el) } ∧ VRel r' v (.slice (some ⟨w0.heap.size, 0, none⟩) (sLen + n) newCap) := by
      intro S2 D2 st hs2 hn2 hS hv newCap rest el w0 hc hrest hpl hdw
      have hd : ¬ r.dom S2.next := by rw [hn2]; exact hdn
      have hd2 := sim_drew hs2.rel hdw
      have hlen2 : ((lc.drop of).take (sLen * size) ++ l' ++ rest).length = newCap * size := by
        rw [List.length_append, List.length_append, holdl, ← hll, hlen, hrest, ← Nat.add_mul, ← Nat.add_mul]; congr 1; omega
      have hnew := sim_new (P := P) (w := w0) (S := S2) (D := []) (b := .cells (some size) st ((c.drop of).take (sLen * size) ++ l))
        (w' := { w0 with heap := w0.heap.push (.cells ((lc.drop of).take (sLen * size) ++ l' ++ rest).toArray el) })
        (o := .cells ((lc.drop of).take (sLen * size) ++ l' ++ rest).toArray el) (base := 0) (size := ((lc.drop of).take (sLen * size) ++ l' ++ rest).length) (ext := some size) (S' := S')
        hd2.rel hd (by rw [hS]) (by rw [hS]) (by rw [hS]; rfl) ⟨rfl, rfl, rfl, rfl⟩
        ⟨Ren.add_ext .., ⟨by rw [Ren.add_size]; simp, fun _ i v hi hv => rest_plain hpl (by rw [Ren.add_base, List.length_append, hold.length, hl.length] at hi; rw [List.length_append]; omega) hv⟩, ⟨(lc.drop of).take (sLen * size) ++ l', (hold.append hl).mono (Ren.le_add hd), fun i v hv => by
          rw [Ren.add_base]
          have := (List.getElem?_eq_some_iff.1 hv).1
          simp only [Nat.zero_add, List.getElem?_toArray]
          rw [List.getElem?_append_left this]; exact hv⟩, .inl rfl, fun _ => rfl⟩
      have hsim2 := (hs2.trans (fresh_of_next (hn2.trans hn1)) hr hd2).trans hf hr hnew
      refine ⟨_, _, hsim2, ?_⟩
      have := VRel.slc (r := r.add S2.next w0.heap.size 0 ((lc.drop of).take (sLen * size) ++ l' ++ rest).length (some size)) (b := S2.next) (o := 0) (n := sLen + n) (c := sLen + n) (c' := newCap) (Ren.add_dom ..)
        (by rw [Ren.add_ext]; intro h; cases h) (by omega)
        (fun z hz => by
          rw [Ren.add_ext] at hz
          obtain rfl : size = z := by simpa using hz
          rw [Ren.add_base, Ren.add_size]
          omega)
      rw [Ren.add_to, Ren.add_base] at this
      rw [hv]
      simpa using this
    cases ext with
    | none =>
      simp only [M.bind_some, nw_some] at h2
      obtain ⟨nb, S3, ⟨rfl, rfl⟩, h4⟩ := h2
      obtain ⟨rfl, rfl⟩ := M.pure_some.1 h4
      have hc' : c' = sCap := (hex k2).1
      exact .inr ⟨by omega, _, hread, anew _ _ false hA rfl rfl rfl⟩
    | some z =>
      simp only at h2
      split at h2
      case isFalse => exact (M.fail_some.1 h2).elim
      rename_i hz
      obtain ⟨hz, hwi⟩ := hz
      rw [withinL_iff] at hwi
      subst hz
      simp only [M.bind_some, nw_some, wr_some] at h2
      obtain ⟨_, S3, rfl, nb, S4, ⟨rfl, rfl⟩, h4⟩ := h2
      obtain ⟨rfl, rfl⟩ := M.pure_some.1 h4
      by_cases hroom : sLen + n ≤ c'
      · left
        refine ⟨hroom, ?_⟩
        have hg := hgr z k2
        have hsize : rc.size = r.size bk := k3.1
        have hroom2 : o' + (sLen + n) * z ≤ rc.size := by
          have : (sLen + n) * z ≤ c' * z := Nat.mul_le_mul_right _ hroom
          omega
        obtain ⟨w', hw, hu⟩ := run_st (P := P) l' 0 (o' + sLen * z) rc w k1 (fun j hj => by rw [Nat.add_mul] at hroom2; omega) k6 hone
        have hmv := sim_move (P := P) (w := w) (w' := w') (D := [(bk, true)]) (id := bk) (S := { heap := S1.heap, next := S1.next, log := (bk, false) :: S1.log })
          (S' := { heap := (S1.heap.set bk none).set S1.next (some (.cells (some z) str ((c.drop of).take (sLen * z) ++ l))), next := S1.next + 1, log := (bk, true) :: (bk, false) :: S1.log })
          (b := .cells (some z) str ((c.drop of).take (sLen * z) ++ l)) (base := o') (size := r.size bk) (ext := some z)
          hlog1.rel hdn hbk rfl rfl rfl (by simp) hu
          ⟨Ren.add_ext .., ⟨by rw [Ren.add_size, setArr_size]; exact hsize, fun _ i v hi hv => by
            rw [Ren.add_base, List.length_append, hold.length, holdl, hlen] at hi
            have ho2 : r.base bk + of ≤ o' := (hgr z k2).2
            rw [setArr_off _ _ _ _ (.inr (by omega))] at hv
            exact k3.2 (by simp) i v (by rw [Nat.add_mul] at hwi; omega) hv⟩, ⟨(lc.drop of).take (sLen * z) ++ l', (hold.append hl).mono (Ren.le_add hdn), fun i v hv => by
            rw [Ren.add_base]
            have hroom3 : o' + sLen * z + l'.length ≤ rc.size := by rw [Nat.add_mul] at hroom2; omega
            exact setArr_at hroom3 holdl holdAt i v hv⟩, by rw [setArr_size]; exact k6, k7⟩
        refine ⟨_, _, w', hA.trans hf hr hmv, ?_, ?_⟩
        · have := VRel.slc (r := r.add S1.next (r.to bk) o' (r.size bk) (some z)) (b := S1.next) (o := 0) (n := sLen + n) (c := sLen + n) (c' := c') (Ren.add_dom ..) (by rw [Ren.add_ext]; intro h; cases h) hroom
            (fun z' hz => by
              rw [Ren.add_ext] at hz
              obtain rfl : z = z' := by simpa using hz
              rw [Ren.add_base, Ren.add_size]
              omega)
          rw [Ren.add_to, Ren.add_base] at this
          simpa using this
        · simp only [add_none]
          exact hw
      · right
        refine ⟨hroom, _, hread, ?_⟩
        have hk := sim_kill (P := P) (w := w) (D := [(bk, true)]) (id := bk) (S := { heap := S1.heap, next := S1.next, log := (bk, false) :: S1.log })
          (S' := { heap := S1.heap.set bk none, next := S1.next, log := (bk, true) :: (bk, false) :: S1.log }) hlog1.rel rfl rfl rfl (by simp) (ro_ne (b := .cells (some z) str c) (by assumption) rfl)
        exact anew _ _ str (hA.trans (fresh_of_next (S' := { heap := S1.heap.set bk none, next := S1.next, log := (bk, true) :: (bk, false) :: S1.log }) hn1) hr hk) rfl rfl rfl
end Go.Wb
end
/- The engine, part C6: the builtins. -/
section
set_option linter.unusedSimpArgs false
set_option linter.unusedVariables false
namespace Go.Wb
set_option linter.unusedSectionVars false
variable [GloK]
variable {P : Program} {r : Ren} {S S' : St} {w : World}

theorem plainF_mono : ∀ (n : Nat) (v : Value), plainF n v = true → plainF (n + 1) v = true
  | 0, _, h => by simp [plainF] at h
  | n + 1, v, h => by
    have L : ∀ l : List Value, l.all (plainF n) = true → l.all (plainF (n + 1)) = true := by
      intro l hl
      rw [List.all_eq_true] at hl ⊢
      exact fun x hx => plainF_mono n x (hl x hx)
    unfold plainF at h
    split at h <;> first
      | rfl
      | (simp only [Bool.and_eq_true] at h; simp only [plainF, Bool.and_eq_true]; exact ⟨L _ h.1, L _ h.2⟩)
      | exact L _ h
      | exact plainF_mono n _ h
      | simp at h
theorem plain_cells {v : Value} (h : plain v = true) : ∀ x ∈ v.cells.toList, plain x = true := by
  intro x hx
  cases v <;> first
    | (obtain rfl : x = _ := by simpa [Value.cells] using hx
       exact h)
    | skip
  rename_i cs
  have h' : cs.toList.all (plainF 5) = true := h
  rw [List.all_eq_true] at h'
  exact plainF_mono 5 x (h' x hx)
theorem rep_mem {z : List Value} {x : Value} : ∀ {n : Nat}, x ∈ rep n z → x ∈ z
  | 0, h => by simp [rep] at h
  | n + 1, h => by
    rcases List.mem_append.1 h with h | h
    · exact h
    · exact rep_mem h
theorem zeroT_info {t : TypeId} {z : List Value} (h : zeroT P t = some z) : ∃ i v, P.info? t = some i ∧ i.zero = some v ∧ v.cells.toList = z ∧ plain v = true := by
  unfold zeroT at h
  cases hi : P.info? t with
  | none => simp [hi] at h
  | some i =>
    simp only [hi] at h
    cases hz : i.zero with
    | none => simp [hz] at h
    | some v =>
      simp only [hz] at h
      split at h
      · rename_i hp; exact ⟨i, v, rfl, hz, by simpa using h, hp⟩
      · simp at h
theorem sizeT_info {t : TypeId} {s : Nat} {i : TypeInfo} (h : sizeT P t = some s) (hi : P.info? t = some i) : i.size = s := by
  unfold sizeT at h; simp [hi] at h; exact h
theorem bytesT_info {t : TypeId} {s : Nat} {i : TypeInfo} (h : bytesT P t = some s) (hi : P.info? t = some i) : i.bytes = s := by
  unfold bytesT at h; simp [hi] at h; exact h

theorem run_zeroValue {t : TypeId} {i : TypeInfo} {v : Value} (hi : P.info? t = some i) (hz : i.zero = some v) : (zeroValue t).run P w = .ok v w := by
  simp [zeroValue, typeInfo, hi, hz]
theorem run_size {t : TypeId} {i : TypeInfo} (hi : P.info? t = some i) : (sizeOf t).run P w = .ok i.size w := by
  simp [sizeOf, typeInfo, hi]

/-- an append of a slice or a string, in place -/
theorem run_append_put {ats : Array TypeId} {args : Array Value} {st xt : TypeId} {e ty : TypeId} {d : TypeDesc} {i : TypeInfo} {base' : Option Addr} {sLen sCap n : Nat} {x' : Value} {l' : List Value} {w' : World}
    (ha0 : ats[0]? = some st) (ha1 : ats[1]? = some xt) (hg0 : args[0]? = some (.slice base' sLen sCap)) (hg1 : args[1]? = some x') (hu : P.underlying st = some (.slice e)) (hx : P.underlying xt = some d) (hd : ∀ k, d ≠ .int k) (hi : P.info? e = some i)
    (hn : (Builtin.lenOf x').run P w = .ok n w) (hle : sLen + n ≤ sCap) (hr : (Builtin.firstCells i.size n x').run P w = .ok l'.toArray w)
    (hst : ((match base' with | some a => storeCells (a.add (sLen * i.size)) l' | none => pure ()) : Sem Unit).run P w = .ok () w') :
    (Builtin.append_ ats ty args).run P w = .ok (.slice base' (sLen + n) sCap) w' := by
  have hz : (d matches .int _) = false := by cases d <;> first | rfl | exact absurd rfl (hd _)
  simp only [Builtin.append_, ha0, ha1, hg0, hg1, Sem.run_bind, run_underlying hu, Result.andThen_ok, run_size hi, run_underlying hx, Sem.run_pure, hz, Bool.false_eq_true, if_false, hn, Bool.not_false, if_true, if_pos hle, hr]
  cases base' with
  | none => simp at hst ⊢; exact hst
  | some a => simp only at hst ⊢; simp [hst]

theorem choose_cap (need cap : Nat) (e : TypeId) : ∃ newCap, need ≤ newCap ∧ (choose (.appendCap need cap e)).run P w = .ok newCap { w with drawn := w.drawn + 1 } := by
  refine ⟨_, ?_, by simp only [run_choose, Question.forced, Bool.false_eq_true, if_false]; rfl⟩
  simp [Question.cut]

theorem run_append_grow {ats : Array TypeId} {args : Array Value} {st xt : TypeId} {e ty : TypeId} {d : TypeDesc} {i : TypeInfo} {base' : Option Addr} {sLen sCap n : Nat} {x' z : Value} {l' old : List Value}
    (ha0 : ats[0]? = some st) (ha1 : ats[1]? = some xt) (hg0 : args[0]? = some (.slice base' sLen sCap)) (hg1 : args[1]? = some x') (hu : P.underlying st = some (.slice e)) (hx : P.underlying xt = some d) (hd : ∀ k, d ≠ .int k) (hi : P.info? e = some i) (hz : i.zero = some z) (hzs : z.cells.size = i.size)
    (hn : (Builtin.lenOf x').run P w = .ok n w) (hle : ¬ sLen + n ≤ sCap) (hr : ∀ w0 : World, w0.heap = w.heap → (Builtin.firstCells i.size n x').run P w0 = .ok l'.toArray w0)
    (hold : ∀ w0 : World, w0.heap = w.heap → (Builtin.firstCells i.size sLen (.slice base' sLen sCap)).run P w0 = .ok old.toArray w0)
    (hb : 2 * ((sLen + n) * i.bytes) ≤ 281474976710656) (hb0 : i.bytes ≠ 0) :
    ∃ newCap rest, sLen + n ≤ newCap ∧ rest.length = (newCap - (sLen + n)) * i.size ∧ (plain z = true → ∀ x ∈ rest, plain x = true) ∧
    (Builtin.append_ ats ty args).run P w =
      .ok (.slice (some ⟨w.heap.size, 0, none⟩) (sLen + n) newCap) { w with drawn := w.drawn + 1, heap := w.heap.push (.cells (old ++ l' ++ rest).toArray e) } := by
  have hzz : (d matches .int _) = false := by cases d <;> first | rfl | exact absurd rfl (hd _)
  have hmul : sLen + n ≤ (sLen + n) * i.bytes := Nat.le_mul_of_pos_right _ (by omega)
  obtain ⟨newCap, hnc, hch⟩ := choose_cap (P := P) (w := w) (sLen + n) sCap e
  have hcap := nextcap_le (sLen + n) sCap (by omega)
  have hcap2 : Builtin.nextslicecap (sLen + n) sCap * i.bytes ≤ 2 ^ 48 := by
    have := Nat.mul_le_mul_right i.bytes hcap
    rw [Nat.mul_assoc] at this
    have e48 : (2 : Nat) ^ 48 = 281474976710656 := by decide
    omega
  have hmax : ¬ (((sLen + n : Nat) : Int) > IntKind.i64.max) := by
    have : IntKind.i64.max = 9223372036854775807 := by decide
    omega
  refine ⟨newCap, (Builtin.zeroCells z.cells (newCap - (sLen + n))).toList, hnc, ?_, fun hp x hx => plain_cells hp x (rep_mem (by rw [zeroCells_rep] at hx; exact hx)), ?_⟩
  · rw [zeroCells_rep, rep_length]; simp [hzs]
  · simp only [Builtin.append_, ha0, ha1, hg0, hg1, Sem.run_bind, run_underlying hu, Result.andThen_ok, run_size hi, run_underlying hx, Sem.run_pure, hzz, Bool.false_eq_true, if_false, hn, Bool.not_false, if_true, if_neg hle,
      run_typeInfo hi, hb0, or_self, and_false, hcap2, gt_iff_lt, Nat.not_lt.2 hcap2, hch, run_askRoom]
    have h1 := hold { w with drawn := w.drawn + 1 } rfl
    have h2 := hr { w with drawn := w.drawn + 1 } rfl
    simp only [h1, Result.andThen_ok, h2, run_zeroValue hi hz, newRow, Sem.run_bind, run_newObj, Sem.run_pure]
    congr 4
    apply Array.ext'
    simp

/-- append of so many noughts -/
theorem run_append_putZ {ats : Array TypeId} {args : Array Value} {st xt : TypeId} {e ty : TypeId} {k k' : IntKind} {i : TypeInfo} {base' : Option Addr} {sLen sCap : Nat} {n : Int} {z : Value} {w' : World}
    (ha0 : ats[0]? = some st) (ha1 : ats[1]? = some xt) (hg0 : args[0]? = some (.slice base' sLen sCap)) (hg1 : args[1]? = some (.int k' n)) (hu : P.underlying st = some (.slice e)) (hx : P.underlying xt = some (.int k)) (hi : P.info? e = some i) (hz : i.zero = some z)
    (hn0 : 0 ≤ n) (hn1 : n < 281474976710656) (hnb : n * i.bytes ≤ 281474976710656) (hle : sLen + n.toNat ≤ sCap) (hzs : z.cells.size = i.size)
    (hst : ((match base' with | some a => storeCells (a.add (sLen * i.size)) (rep n.toNat z.cells.toList) | none => pure ()) : Sem Unit).run P w = .ok () w') :
    (Builtin.append_ ats ty args).run P w = .ok (.slice base' (sLen + n.toNat) sCap) w' := by
  have hw : IntKind.i64.wrap n = n := wrap64_id hn0 (by omega)
  have e48 : (2 : Int) ^ 48 = 281474976710656 := by decide
  have hnew : ((if n.toNat * i.size = 0 then pure #[] else do pure (Builtin.zeroCells (← zeroValue e).cells n.toNat) : Sem (Array Value))).run P w = .ok (rep n.toNat z.cells.toList).toArray w := by
    split
    · rename_i h0
      have : rep n.toNat z.cells.toList = [] := by
        apply List.eq_nil_of_length_eq_zero
        rw [rep_length]; simp [hzs]; simpa using h0
      rw [this]; rfl
    · simp only [Sem.run_bind, run_zeroValue hi hz, Result.andThen_ok, Sem.run_pure]
      congr 1
      apply Array.ext'
      rw [zeroCells_rep]
  simp only [Builtin.append_, ha0, ha1, hg0, hg1, Sem.run_bind, run_underlying hu, Result.andThen_ok, run_size hi, run_underlying hx, Sem.run_pure, if_true, asInt, asIntOf, Go.asInt, hw, if_neg (Int.not_lt.2 hn0), run_typeInfo hi, e48, gt_iff_lt, if_neg (Int.not_lt.2 hnb), if_pos hle, Bool.not_true, Bool.false_eq_true, if_false]
  rw [hnew]
  simp only [Result.andThen_ok]
  cases base' with
  | none => simp at hst ⊢; exact hst
  | some a => simp only at hst ⊢; simp [hst]
end Go.Wb
end
/- The engine, part C7: each operation but calls. -/
section
set_option linter.unusedSimpArgs false
set_option linter.unusedVariables false
namespace Go.Wb
set_option linter.unusedSectionVars false
variable [GloK]
variable {P : Program} {r : Ren} {S S' : St} {w : World}

theorem run_append_growZ {ats : Array TypeId} {args : Array Value} {st xt : TypeId} {e ty : TypeId} {k k' : IntKind} {i : TypeInfo} {base' : Option Addr} {sLen sCap : Nat} {n : Int} {z : Value} {old : List Value}
    (ha0 : ats[0]? = some st) (ha1 : ats[1]? = some xt) (hg0 : args[0]? = some (.slice base' sLen sCap)) (hg1 : args[1]? = some (.int k' n)) (hu : P.underlying st = some (.slice e)) (hx : P.underlying xt = some (.int k)) (hi : P.info? e = some i) (hz : i.zero = some z) (hzs : z.cells.size = i.size)
    (hn0 : 0 ≤ n) (hn1 : n < 281474976710656) (hnb : n * i.bytes ≤ 281474976710656) (hle : ¬ sLen + n.toNat ≤ sCap)
    (hold : ∀ w0 : World, w0.heap = w.heap → (Builtin.firstCells i.size sLen (.slice base' sLen sCap)).run P w0 = .ok old.toArray w0)
    (hb : 2 * ((sLen + n.toNat) * i.bytes) ≤ 281474976710656) (hb0 : i.bytes ≠ 0) :
    ∃ newCap rest, sLen + n.toNat ≤ newCap ∧ rest.length = (newCap - (sLen + n.toNat)) * i.size ∧ (plain z = true → ∀ x ∈ rest, plain x = true) ∧
    (Builtin.append_ ats ty args).run P w =
      .ok (.slice (some ⟨w.heap.size, 0, none⟩) (sLen + n.toNat) newCap) { w with drawn := w.drawn + 1, heap := w.heap.push (.cells (old ++ rep n.toNat z.cells.toList ++ rest).toArray e) } := by
  have hw : IntKind.i64.wrap n = n := wrap64_id hn0 (by omega)
  have e48 : (2 : Int) ^ 48 = 281474976710656 := by decide
  have hnew : ∀ w : World, ((if n.toNat * i.size = 0 then pure #[] else do pure (Builtin.zeroCells (← zeroValue e).cells n.toNat) : Sem (Array Value))).run P w = .ok (rep n.toNat z.cells.toList).toArray w := by
    intro w
    split
    · rename_i h0
      have : rep n.toNat z.cells.toList = [] := by
        apply List.eq_nil_of_length_eq_zero
        rw [rep_length]; simp [hzs]; simpa using h0
      rw [this]; rfl
    · simp only [Sem.run_bind, run_zeroValue hi hz, Result.andThen_ok, Sem.run_pure]
      congr 1
      apply Array.ext'
      rw [zeroCells_rep]
  have hmul : sLen + n.toNat ≤ (sLen + n.toNat) * i.bytes := Nat.le_mul_of_pos_right _ (by omega)
  obtain ⟨newCap, hnc, hch⟩ := choose_cap (P := P) (w := w) (sLen + n.toNat) sCap e
  have hcap := nextcap_le (sLen + n.toNat) sCap (by omega)
  have hcap2 : Builtin.nextslicecap (sLen + n.toNat) sCap * i.bytes ≤ 2 ^ 48 := by
    have := Nat.mul_le_mul_right i.bytes hcap
    rw [Nat.mul_assoc] at this
    have e48 : (2 : Nat) ^ 48 = 281474976710656 := by decide
    omega
  have hmax : ¬ (((sLen + n.toNat : Nat) : Int) > IntKind.i64.max) := by
    have : IntKind.i64.max = 9223372036854775807 := by decide
    omega
  refine ⟨newCap, (Builtin.zeroCells z.cells (newCap - (sLen + n.toNat))).toList, hnc, ?_, fun hp x hx => plain_cells hp x (rep_mem (by rw [zeroCells_rep] at hx; exact hx)), ?_⟩
  · rw [zeroCells_rep, rep_length]; simp [hzs]
  · simp only [Builtin.append_, ha0, ha1, hg0, hg1, Sem.run_bind, run_underlying hu, Result.andThen_ok, run_size hi, run_underlying hx, Sem.run_pure, if_true, asIntOf, Go.asInt, hw, if_neg (Int.not_lt.2 hn0), run_typeInfo hi, e48, gt_iff_lt, if_neg (Int.not_lt.2 hnb), if_neg hle, Bool.not_true, Bool.false_eq_true, if_false,
      if_neg (Nat.not_lt.2 hcap2), hch, run_askRoom]
    rw [if_neg (by rintro ⟨h, _⟩; exact hmax h)]
    have h1 := hold { w with drawn := w.drawn + 1 } rfl
    have h2 := hnew { w with drawn := w.drawn + 1 }
    simp only [Result.andThen_ok, Sem.run_bind, run_typeInfo hi, if_neg (Nat.not_lt.2 hcap2), hch, run_askRoom, h1]
    rw [h2]
    simp only [Result.andThen_ok, run_zeroValue hi hz, newRow, Sem.run_bind, run_newObj, Sem.run_pure]
    congr 4
    apply Array.ext'
    simp

/-- an operation has been carried out: what the model does -/
def OpDid (P : Program) (s : Sem Next) (w : World) (v' : Value) (w' : World) : Prop := s.run P w = .ok (.value v') w' ∨ (s.run P w = .ok .skip w' ∧ v' = undef)
def Did (P : Program) (r : Ren) (S : St) (w : World) (S' : St) (v : Value) (tmps : Array Value) (o : Oper) : Prop :=
  ∃ D r' w' v', Sim P D r S w r' S' w' ∧ VRel r' v v' ∧ OpDid P (execOp (evT tmps) o) w v' w'

theorem did_pure {v v' : Value} {tmps : Array Value} {o : Oper} (hr : Rel P r S w) (hv : VRel r v v') (h : (execOp (evT tmps) o).run P w = .ok (.value v') w) : Did P r S w S v tmps o :=
  ⟨[], r, w, v', Sim.refl hr, hv, .inl h⟩

section
variable {call : Tgt → List Value → M Value} {e : Env} {tmps : Array Value} {v : Value} {o : Oper} {aop : AOp}

theorem did_mov {x : Operand} (ho : o.op = .move x ∨ o.op = .assign x) (hc : compOp0 P o.op = some aop) (he : exec call e aop S = some (v, S')) (hr : Rel P r S w) (hE : EnvRel r e tmps) : Did P r S w S' v tmps o := by
  have hc' : (atom x).bind (fun a => some (AOp.mov a)) = some aop := by rcases ho with ho | ho <;> rw [ho] at hc <;> exact hc
  obtain ⟨a, ha, h⟩ := Option.bind_eq_some_iff.1 hc'
  obtain rfl : AOp.mov a = aop := by simpa using h
  simp only [exec, M.bind_some, M.lift_some, M.pure_some] at he
  obtain ⟨_, _, ⟨h1, rfl⟩, rfl, rfl⟩ := he
  exact did_pure hr (atom_ok ha h1 hE) (by rcases ho with ho | ho <;> simp [execOp, ho])

theorem did_pick {c a b : Operand} (ho : o.op = .pick c a b) (hc : compOp0 P o.op = some aop) (he : exec call e aop S = some (v, S')) (hr : Rel P r S w) (hE : EnvRel r e tmps) : Did P r S w S' v tmps o := by
  rw [ho] at hc
  simp only [compOp0, Option.bind_eq_bind, Option.bind_eq_some_iff, Option.some.injEq] at hc
  obtain ⟨c', hc1, a', ha, b', hb, rfl⟩ := hc
  simp only [exec, M.bind_some, M.lift_some, M.pure_some, Option.bind_eq_some_iff] at he
  obtain ⟨t, _, ⟨⟨cv, hcv, hcb⟩, rfl⟩, _, _, ⟨h1, rfl⟩, rfl, rfl⟩ := he
  obtain rfl := asBool_inv hcb
  have hcr := (atom_ok hc1 hcv hE).bool_inv
  cases t with
  | true => exact did_pure hr (atom_ok ha (by simpa using h1) hE) (by simp [execOp, ho, hcr, Go.asBool])
  | false => exact did_pure hr (atom_ok hb (by simpa using h1) hE) (by simp [execOp, ho, hcr, Go.asBool])

theorem did_bin {op : BinOp} {xt yt : TypeId} {x y : Operand} (ho : o.op = .binOp op xt x y yt) (hc : compOp0 P o.op = some aop) (he : exec call e aop S = some (v, S')) (hr : Rel P r S w) (hE : EnvRel r e tmps) :
    Did P r S w S' v tmps o := by
  rw [ho] at hc
  have hc' : (∃ a b, atom x = some a ∧ atom y = some b ∧ aop = .bin op a b) ∨ (∃ k a b neg, eqKind2 P xt x y = some k ∧ atom x = some a ∧ atom y = some b ∧ aop = .eq neg k a b ∧ op = (if neg then .neq else .eql)) := by
    simp only [compOp0, Option.bind_eq_bind, Option.bind_eq_some_iff] at hc
    obtain ⟨d, hd, hc⟩ := hc
    split at hc <;> (try simp only [Option.bind_eq_some_iff, Option.some.injEq] at hc)
    · obtain ⟨a, ha, b, hb, rfl⟩ := hc; exact .inl ⟨a, b, ha, hb, rfl⟩
    · obtain ⟨a, ha, b, hb, rfl⟩ := hc; exact .inl ⟨a, b, ha, hb, rfl⟩
    · obtain ⟨k, hk, a, ha, b, hb, rfl⟩ := hc; exact .inr ⟨k, a, b, false, hk, ha, hb, rfl, rfl⟩
    · obtain ⟨k, hk, a, ha, b, hb, rfl⟩ := hc; exact .inr ⟨k, a, b, true, hk, ha, hb, rfl, rfl⟩
    · simp at hc
  rcases hc' with ⟨a, b, ha, hb, rfl⟩ | ⟨k, a, b, neg, hk, ha, hb, rfl, hop⟩
  · simp only [exec, M.bind_some, M.lift_some, M.pure_some] at he
    obtain ⟨xv, _, ⟨h1, rfl⟩, yv, _, ⟨h2, rfl⟩, _, _, ⟨h3, rfl⟩, rfl, rfl⟩ := he
    have hxr := atom_ok ha h1 hE
    have hyr := atom_ok hb h2 hE
    obtain ⟨e1, e2⟩ := binV_inv h3 hxr hyr
    obtain ⟨k1, k2, k3⟩ := binV_ok (P := P) (w := w) (t := xt) h3
    exact did_pure hr (k2 r) (by simp [execOp, ho, e1, e2, k1, k3])
  · simp only [exec, M.bind_some, M.lift_some, M.pure_some] at he
    obtain ⟨xv, _, ⟨h1, rfl⟩, yv, _, ⟨h2, rfl⟩, t, _, ⟨h3, rfl⟩, rfl, rfl⟩ := he
    obtain ⟨hk, hC⟩ := eqKind2_inv hk
    obtain ⟨k1, k2, k3⟩ := eqV_ok (w := w) hk h3 (atom_ok ha h1 hE) (atom_ok hb h2 hE)
    have k1 := fun op => k1 op x y hC
    cases neg with
    | false => simp at hop; exact did_pure hr (.bool _) (by simp [execOp, ho, hop, k1, k2])
    | true => simp at hop; exact did_pure hr (.bool _) (by simp [execOp, ho, hop, k1, k3])

theorem did_un {op : UnOp} {t : TypeId} {x : Operand} (ho : o.op = .unOp op t x) (hc : compOp0 P o.op = some aop) (he : exec call e aop S = some (v, S')) (hr : Rel P r S w) (hE : EnvRel r e tmps) : Did P r S w S' v tmps o := by
  rw [ho] at hc
  simp only [compOp0, Option.bind_eq_bind, Option.bind_eq_some_iff, Option.some.injEq] at hc
  obtain ⟨a, ha, rfl⟩ := hc
  simp only [exec, M.bind_some, M.lift_some, M.pure_some] at he
  obtain ⟨xv, _, ⟨h1, rfl⟩, _, _, ⟨h2, rfl⟩, rfl, rfl⟩ := he
  have e1 := unV_inv h2 (atom_ok ha h1 hE)
  obtain ⟨k1, k2⟩ := unV_ok (P := P) (w := w) h2
  exact did_pure hr (k2 r) (by simp [execOp, ho, e1, k1])

/-- a new block -/
theorem did_new {c : List Value} {b : Nat} {ext : Option Nat} {str : Bool} {rc : Array Value} {el : TypeId} {fz : Nat × Nat} {w' : World} (hr : Rel P r S w) (h : nw (.cells ext str c) S = some (b, S')) (hf : Fresh r S S')
    (hw : New w w' (.cells rc el fz)) {l' : List Value} (hl : LRel r c l') (hat : ∀ (i : Nat) (v : Value), l'[i]? = some v → rc[i]? = some v) (hfz : fz.1 = fz.2 ∨ rc.size ≤ fz.1) (hstr : str = false → fz.1 = fz.2)
    (hpl : ext ≠ none → ∀ (i : Nat) (v : Value), c.length ≤ i → rc[i]? = some v → plain v = true := by exact fun h => absurd rfl h) :
    b = S.next ∧ ∃ D r', Sim P D r S w r' S' w' ∧ r.le r' ∧ r'.dom b ∧ r'.to b = w.heap.size ∧ r'.base b = 0 ∧ r'.size b = rc.size ∧ r'.ext b = ext := by
  obtain ⟨rfl, rfl⟩ := nw_some.1 h
  have hd : ¬ r.dom S.next := hf _ (Nat.le_refl _) (by simp)
  have := sim_new (P := P) (D := []) (base := 0) (size := rc.size) (ext := ext) (b := .cells ext str c) (S' := { heap := S.heap.set S.next (some (.cells ext str c)), next := S.next + 1, log := S.log }) hr hd rfl rfl rfl hw
    ⟨Ren.add_ext .., ⟨by rw [Ren.add_size], fun he i v hi hv => hpl he i v (by rw [Ren.add_base] at hi; omega) hv⟩, ⟨l', hl.mono (Ren.le_add hd), by rw [Ren.add_base]; simpa using hat⟩, hfz, hstr⟩
  exact ⟨rfl, [], _, this, Ren.le_add hd, Ren.add_dom .., Ren.add_to .., Ren.add_base .., Ren.add_size .., Ren.add_ext ..⟩
theorem alloc_new (w : World) (o : Obj) : New w { w with heap := w.heap.push o } o := ⟨rfl, rfl, rfl, rfl⟩
theorem ptr_of {r' : Ren} {b n : Nat} (hd : r'.dom b) (ht : r'.to b = n) (hb : r'.base b = 0) : VRel r' (.pointer (some ⟨b, 0, none⟩)) (.pointer (some ⟨n, 0, none⟩)) := by
  have := VRel.ptr (r := r') (b := b) (o := 0) hd
  rw [ht, hb] at this; exact this
theorem slc_of {r' : Ren} {b n m c : Nat} (hd : r'.dom b) (ht : r'.to b = n) (hb : r'.base b = 0) (he : r'.ext b = none) : VRel r' (.slice (some ⟨b, 0, none⟩) m c) (.slice (some ⟨n, 0, none⟩) m c) := by
  have := VRel.slc (r := r') (b := b) (o := 0) (n := m) (c := c) (c' := c) hd (fun _ => rfl) (Nat.le_refl _) (fun z hz => by rw [he] at hz; cases hz)
  rw [ht, hb] at this; exact this

theorem did_alloc {t : TypeId} (ho : o.op = .alloc t) (hc : compOp0 P o.op = some aop) (he : exec call e aop S = some (v, S')) (hr : Rel P r S w) (hf : Fresh r S S') : Did P r S w S' v tmps o := by
  rw [ho] at hc
  simp only [compOp0, Option.bind_eq_bind, Option.bind_eq_some_iff, Option.some.injEq] at hc
  obtain ⟨z, hz, rfl⟩ := hc
  simp only [exec, M.bind_some, M.pure_some] at he
  obtain ⟨b, S1, h1, rfl, rfl⟩ := he
  obtain ⟨zv, hz1, hz2, hz3⟩ := run_zero (w := w) hz
  obtain ⟨rfl, D, r', hs, hle, k1, k2, k3, k4, k5⟩ := did_new (w' := { w with heap := w.heap.push (.cells zv.cells t (0, 0)) }) hr h1 hf (alloc_new _ _) (l' := z) (by rw [← hz2]; exact (plain_rel hz3).cells) (by rw [← hz2]; simp) (.inl rfl) (fun _ => rfl)
  refine ⟨D, r', _, _, hs, ptr_of k1 k2 k3, .inl ?_⟩
  simp [execOp, ho, Instr.alloc, hz1, newVar, newRow]

theorem did_box {t : TypeId} {x : Operand} (ho : o.op = .box t x) (hc : compOp0 P o.op = some aop) (he : exec call e aop S = some (v, S')) (hr : Rel P r S w) (hE : EnvRel r e tmps) (hf : Fresh r S S') : Did P r S w S' v tmps o := by
  rw [ho] at hc
  simp only [compOp0, Option.bind_eq_bind, Option.bind_eq_some_iff, Option.some.injEq] at hc
  obtain ⟨a, ha, rfl⟩ := hc
  simp only [exec, M.bind_some, M.lift_some, M.pure_some] at he
  obtain ⟨xv, _, ⟨hx, rfl⟩, b, S1, h1, rfl, rfl⟩ := he
  have hxr := atom_ok ha hx hE
  obtain ⟨rfl, D, r', hs, hle, k1, k2, k3, k4, k5⟩ := did_new (w' := { w with heap := w.heap.push (.cells (evT tmps x).cells t (0, 0)) }) hr h1 hf (alloc_new _ _) (l' := (evT tmps x).cells.toList) hxr.cells (by simp) (.inl rfl) (fun _ => rfl)
  refine ⟨D, r', _, _, hs, ptr_of k1 k2 k3, .inl ?_⟩
  simp [execOp, ho, Instr.box, newVar, newRow]

theorem did_load {t : TypeId} {x : Operand} (ho : o.op = .load t x) (hc : compOp0 P o.op = some aop) (he : exec call e aop S = some (v, S')) (hr : Rel P r S w) (hE : EnvRel r e tmps) : Did P r S w S' v tmps o := by
  rw [ho] at hc
  simp only [compOp0, Option.bind_eq_bind, Option.bind_eq_some_iff, Option.some.injEq] at hc
  obtain ⟨sh, hsh, a, ha, rfl⟩ := hc
  simp only [exec, M.bind_some, M.lift_some] at he
  obtain ⟨xv, _, ⟨hx, rfl⟩, he⟩ := he
  split at he
  · rename_i p
    obtain ⟨hsp, hd, hxe⟩ := (atom_ok ha hx hE).ptr_inv
    obtain ⟨hg1, hg2⟩ := run_isAgg (w := w) hsh
    cases sh with
    | one =>
      simp only [M.bind_some, M.pure_some] at he
      obtain ⟨_, _, h1, rfl, rfl⟩ := he
      obtain ⟨v', h2, h3, h4⟩ := ld1_ok h1 hr
      refine ⟨_, _, _, v', h4, h2, .inl ?_⟩
      simp only [execOp, ho, hxe, Instr.loadAt, Instr.sureAddr, loadVar, Sem.run_bind, Sem.run_pure, Result.andThen_ok, hg1, if_false, Bool.false_eq_true, h3]
    | agg n =>
      simp only [M.bind_some, M.pure_some] at he
      obtain ⟨_, _, h1, rfl, rfl⟩ := he
      obtain ⟨l', h2, h5, h3, _, h4⟩ := ldCells_ok h1 hr
      refine ⟨_, _, _, _, h4, h2.agg, .inl ?_⟩
      simp only [execOp, ho, hxe, Instr.loadAt, Instr.sureAddr, loadVar, Sem.run_bind, Sem.run_pure, Result.andThen_ok, hg1, if_true, run_sizeOf (hg2 n rfl), h3 w rfl]
  · exact (M.fail_some.1 he).elim

theorem did_store {t : TypeId} {x y : Operand} (ho : o.op = .store t x y) (hc : compOp0 P o.op = some aop) (he : exec call e aop S = some (v, S')) (hr : Rel P r S w) (hE : EnvRel r e tmps) : Did P r S w S' v tmps o := by
  rw [ho] at hc
  simp only [compOp0, Option.bind_eq_bind, Option.bind_eq_some_iff, Option.some.injEq] at hc
  obtain ⟨n, hn, a, ha, b, hb, rfl⟩ := hc
  simp only [exec, M.bind_some, M.lift_some] at he
  obtain ⟨xv, _, ⟨hx, rfl⟩, yv, _, ⟨hy, rfl⟩, he⟩ := he
  split at he
  · rename_i p
    split at he
    · rename_i hsz
      obtain ⟨hsp, hd, hxe⟩ := (atom_ok ha hx hE).ptr_inv
      have hyr := atom_ok hb hy hE
      simp only [M.bind_some, M.pure_some] at he
      obtain ⟨_, _, h1, rfl, rfl⟩ := he
      obtain ⟨w', h2, h3⟩ := stCells_ok h1 hr hyr.cells
      refine ⟨_, _, w', _, h3, undef_rel, .inr ⟨?_, rfl⟩⟩
      have hsz' : (evT tmps y).cells.size = n := by rw [← hyr.cells_size]; exact hsz
      simp only [execOp, ho, hxe, Instr.storeAt, Instr.sureAddr, storeVar, Sem.run_bind, Sem.run_pure, Result.andThen_ok, run_sizeOf hn, hsz', ne_eq, not_true_eq_false, if_false, h2]
    · exact (M.fail_some.1 he).elim
  · exact (M.fail_some.1 he).elim

theorem did_nilchk {x : Operand} (ho : o.op = .nilCheck x) (hc : compOp0 P o.op = some aop) (he : exec call e aop S = some (v, S')) (hr : Rel P r S w) (hE : EnvRel r e tmps) : Did P r S w S' v tmps o := by
  rw [ho] at hc
  simp only [compOp0, Option.bind_eq_bind, Option.bind_eq_some_iff, Option.some.injEq] at hc
  obtain ⟨a, ha, rfl⟩ := hc
  simp only [exec, M.bind_some, M.lift_some] at he
  obtain ⟨xv, _, ⟨hx, rfl⟩, he⟩ := he
  have hxr := atom_ok ha hx hE
  split at he
  · obtain ⟨rfl, rfl⟩ := M.pure_some.1 he
    obtain ⟨hsp, hd, hxe⟩ := hxr.ptr_inv
    exact did_pure hr hxr (by simp [execOp, ho, hxe])
  · obtain ⟨rfl, rfl⟩ := M.pure_some.1 he
    generalize hq : evT tmps x = q at hxr
    cases hxr
    exact did_pure hr (.func ‹_› ‹_› ‹_› ‹_›) (by simp [execOp, ho, hq])
  · obtain ⟨rfl, rfl⟩ := M.pure_some.1 he
    generalize hq : evT tmps x = q at hxr
    cases hxr
    exact did_pure hr (.yield ‹_›) (by simp [execOp, ho, hq])
  · exact (M.fail_some.1 he).elim
end
end Go.Wb
end
/- The engine, part C8: the other operations but calls. -/
section
set_option linter.unusedSimpArgs false
set_option linter.unusedVariables false
namespace Go.Wb
set_option linter.unusedSectionVars false
variable [GloK]
variable {P : Program} {r : Ren} {S S' : St} {w : World}
section
variable {call : Tgt → List Value → M Value} {e : Env} {tmps : Array Value} {v : Value} {o : Oper} {aop : AOp}

theorem build_struct {t : TypeId} {fs : Array Field} {zv : Value} {z c2 : List Value} {parts : List (Nat × Operand)} {l : List (Nat × Nat × Atom)} (hu : P.underlying t = some (.struct fs))
    (hall : fs.toList.all (fun f => (sizeT P f.type).isSome) = true) (hz : (zeroValue t).run P w = .ok zv w) (hzl : zv.cells.toList = z) (hzp : plain zv = true)
    (hp : partsS (place1 P fs) parts = some l) (hf : fillA e l z = some c2) (hE : EnvRel r e tmps) :
    ∃ c2', (Instr.build t (parts.map fun (i, x) => (i, evT tmps x)).toArray).run P w = .ok (.agg c2') w ∧ LRel r c2 c2'.toList := by
  have hzr : LRel r z zv.cells.toList := by rw [← hzl]; exact (plain_rel hzp).cells
  obtain ⟨c2', h1, h2⟩ := fillA_ok hE hp hf hzr
  refine ⟨c2', ?_, h2⟩
  have hm : (fs.mapM fun f => do pure (f.offset, ← sizeOf f.type) : Sem (Array (Nat × Nat))).run P w = .ok (fs.toList.map fun f => (f.offset, (sizeT P f.type).getD 0)).toArray w := by
    rw [Array.mapM_eq_mapM_toList]
    have := run_mapM (P := P) (w := w) (g := fun f : Field => do pure (f.offset, ← sizeOf f.type)) (h := fun f => (f.offset, (sizeT P f.type).getD 0)) fs.toList (fun f hf => by
      have := List.all_eq_true.1 hall f hf
      obtain ⟨s, hs⟩ := Option.isSome_iff_exists.1 this
      simp [run_sizeOf hs, hs])
    simp only [Sem.run_map, this, Result.andThen_ok]
  have hpl : (fun i => (fs.toList.map fun f => (f.offset, (sizeT P f.type).getD 0)).toArray[i]?) = place1 P fs := by
    funext i
    simp only [place1, List.getElem?_toArray, List.getElem?_map, Array.getElem?_toList]
    cases hfi : fs[i]? with
    | none => rfl
    | some f =>
      have hmem : f ∈ fs.toList := by
        rw [Array.mem_toList_iff]; exact Array.mem_of_getElem? hfi
      obtain ⟨s, hs⟩ := Option.isSome_iff_exists.1 (List.all_eq_true.1 hall f hmem)
      simp [hs]
  simp only [Instr.build, Sem.run_bind, hz, Result.andThen_ok, run_underlying hu, hm]
  rw [hpl, h1]
  rfl

theorem did_build {t : TypeId} {parts : Array (Nat × Operand)} (ho : o.op = .build t parts) (hc : compOp0 P o.op = some aop) (he : exec call e aop S = some (v, S')) (hr : Rel P r S w) (hE : EnvRel r e tmps) : Did P r S w S' v tmps o := by
  rw [ho] at hc
  simp only [compOp0, Option.bind_eq_bind, Option.bind_eq_some_iff] at hc
  obtain ⟨d, hd, hc⟩ := hc
  have hparts : (parts.map fun (i, x) => (i, evT tmps x)) = (parts.toList.map fun (i, x) => (i, evT tmps x)).toArray := by
    apply Array.ext'; simp
  split at hc
  · rename_i fs
    split at hc
    · rename_i hall
      simp only [Option.bind_eq_some_iff, Option.some.injEq] at hc
      obtain ⟨z, hz, l, hl, rfl⟩ := hc
      simp only [exec, M.bind_some, M.lift_some, M.pure_some] at he
      obtain ⟨c2, _, ⟨hf, rfl⟩, rfl, rfl⟩ := he
      obtain ⟨zv, hz1, hz2, hz3⟩ := run_zero (w := w) hz
      obtain ⟨c2', h1, h2⟩ := build_struct hd hall hz1 hz2 hz3 hl hf hE
      refine did_pure hr (v' := .agg c2') (by simpa using h2.agg) ?_
      simp only [execOp, ho, hparts, Sem.run_bind, h1, Result.andThen_ok, Sem.run_pure]
    · simp at hc
  · rename_i n el
    simp only [Option.bind_eq_some_iff, Option.some.injEq] at hc
    obtain ⟨s, hs, z, hz, l, hl, rfl⟩ := hc
    simp only [exec, M.bind_some, M.lift_some, M.pure_some] at he
    obtain ⟨c2, _, ⟨hf, rfl⟩, rfl, rfl⟩ := he
    obtain ⟨zv, hz1, hz2, hz3⟩ := run_zero (w := w) hz
    have hzr : LRel r z zv.cells.toList := by rw [← hz2]; exact (plain_rel hz3).cells
    obtain ⟨c2', h1, h2⟩ := fillA_ok hE hl hf hzr
    refine did_pure hr (v' := .agg c2') (by simpa using h2.agg) ?_
    simp only [execOp, ho, hparts, Instr.build, Sem.run_bind, hz1, Result.andThen_ok, run_underlying hd, run_sizeOf hs, h1, Sem.run_pure]
  · simp at hc

theorem did_bslice {t : TypeId} {len : Nat} {parts : Array (Nat × Operand)} (ho : o.op = .buildSlice t len parts) (hc : compOp0 P o.op = some aop) (he : exec call e aop S = some (v, S')) (hr : Rel P r S w) (hE : EnvRel r e tmps) (hf : Fresh r S S') : Did P r S w S' v tmps o := by
  rw [ho] at hc
  simp only [compOp0, Option.bind_eq_bind, Option.bind_eq_some_iff] at hc
  obtain ⟨d, hd, hc⟩ := hc
  have hparts : (parts.map fun (i, x) => (i, evT tmps x)) = (parts.toList.map fun (i, x) => (i, evT tmps x)).toArray := by
    apply Array.ext'; simp
  split at hc
  · rename_i el
    simp only [Option.bind_eq_some_iff] at hc
    obtain ⟨s, hs, z, hz, hc⟩ := hc
    split at hc
    · rename_i hzl
      simp only [Option.bind_eq_some_iff, Option.some.injEq] at hc
      obtain ⟨l, hl, rfl⟩ := hc
      simp only [exec, M.bind_some, M.lift_some, M.pure_some] at he
      obtain ⟨c2, _, ⟨hfl, rfl⟩, b, S1, h1, rfl, rfl⟩ := he
      obtain ⟨i, zv, hi, hiz, hz2, hz3⟩ := zeroT_info hz
      have hzs : zv.cells.size = s := by rw [← hzl.1, ← hz2]; simp
      have hzr : LRel r (rep len z) (rep len z) := by rw [← hz2]; exact rep_plain hz3 len
      have hrl : ((Array.range (len * s)).map (fun x => zv.cells[x % zv.cells.size]!)).toList = rep len z := by
        rw [Array.toList_map, Array.toList_range, ← hz2, ← range_rep, hzs]
      have hzero : (if len * s = 0 then pure #[] else do pure (← zeroValue el).cells : Sem (Array Value)).run P w = .ok (if len * s = 0 then #[] else zv.cells) w := by
        split
        · rfl
        · simp [run_zeroValue hi hiz]
      have hcells : (Array.range (len * s)).map (fun x => (if len * s = 0 then #[] else zv.cells)[x % (if len * s = 0 then #[] else zv.cells).size]!) = (rep len z).toArray := by
        apply Array.ext'
        split
        · rename_i h0
          rw [h0]
          have : rep len z = [] := by apply List.eq_nil_of_length_eq_zero; rw [rep_length, hzl.1, h0]
          simp [this]
        · simp only [List.toList_toArray]; exact hrl
      obtain ⟨c2', k1, k2⟩ := fillA_ok hE (c' := (rep len z).toArray) hl hfl (by simpa using hzr)
      have hsmall : ¬ (len * s > 2 ^ 24) := by have e24 : (2 : Nat) ^ 24 = 16777216 := by decide
                                               omega
      obtain ⟨rfl, D, r', hsim, hle, m1, m2, m3, m4, m5⟩ := did_new (w' := { w with heap := w.heap.push (.cells c2' el (0, 0)) }) hr h1 hf (alloc_new _ _) k2 (by simp) (.inl rfl) (fun _ => rfl)
      refine ⟨D, r', _, _, hsim, slc_of m1 m2 m3 m5, .inl ?_⟩
      simp only [execOp, ho, hparts, Instr.buildSlice, Sem.run_bind, run_underlying hd, Result.andThen_ok, run_sizeOf hs, if_neg hsmall]
      by_cases h0 : len * s = 0
      · simp only [if_pos h0] at hcells
        rw [if_pos h0]
        simp only [Sem.run_bind, Sem.run_pure, Result.andThen_ok, hcells, k1, newRow, run_newObj]
      · simp only [if_neg h0] at hcells
        rw [if_neg h0]
        simp only [Sem.run_bind, Sem.run_pure, Result.andThen_ok, run_zeroValue hi hiz, hcells, k1, newRow, run_newObj]
    · simp at hc
  · simp at hc

theorem did_mkif {t : TypeId} {x : Operand} (ho : o.op = .makeInterface t x) (hc : compOp0 P o.op = some aop) (he : exec call e aop S = some (v, S')) (hr : Rel P r S w) (hE : EnvRel r e tmps) : Did P r S w S' v tmps o := by
  rw [ho] at hc
  simp only [compOp0, Option.bind_eq_bind, Option.bind_eq_some_iff] at hc
  obtain ⟨d, hd, hc⟩ := hc
  split at hc
  · simp at hc
  · rename_i hni
    simp only [Option.bind_eq_some_iff, Option.some.injEq] at hc
    obtain ⟨a, ha, rfl⟩ := hc
    simp only [exec, M.bind_some, M.lift_some, M.pure_some] at he
    obtain ⟨_, _, ⟨h1, rfl⟩, rfl, rfl⟩ := he
    refine did_pure hr (.iface (atom_ok ha h1 hE)) ?_
    simp only [execOp, ho, Instr.makeInterface, Sem.run_bind, run_underlying hd, Result.andThen_ok]
    cases d <;> first | rfl | exact absurd rfl (hni _)

theorem did_mkfn {f : FuncId} {first captured : Array Operand} (ho : o.op = .makeFunc (.func f) first captured) (hc : compOp0 P o.op = some aop) (he : exec call e aop S = some (v, S')) (hr : Rel P r S w) (hE : EnvRel r e tmps) : Did P r S w S' v tmps o := by
  rw [ho] at hc
  simp only [compOp0, Option.bind_eq_bind, Option.bind_eq_some_iff, Option.some.injEq] at hc
  obtain ⟨a, ha, b, hb, rfl⟩ := hc
  simp only [exec, M.bind_some, M.lift_some, M.pure_some] at he
  obtain ⟨_, _, ⟨h1, rfl⟩, _, _, ⟨h2, rfl⟩, rfl, rfl⟩ := he
  have k1 := atoms_ok hE ha h1
  have k2 := atoms_ok hE hb h2
  have e1 : ((first.toList.map (evT tmps)).toArray) = first.map (evT tmps) := by apply Array.ext'; simp
  have e2 : ((captured.toList.map (evT tmps)).toArray) = captured.map (evT tmps) := by apply Array.ext'; simp
  refine did_pure hr (k1.func k2) ?_
  simp [execOp, ho, Instr.makeFunc, e1, e2]

theorem did_ext {x : Operand} {i : Nat} (ho : o.op = .extract x i) (hc : compOp0 P o.op = some aop) (he : exec call e aop S = some (v, S')) (hr : Rel P r S w) (hE : EnvRel r e tmps) : Did P r S w S' v tmps o := by
  rw [ho] at hc
  simp only [compOp0, Option.bind_eq_bind, Option.bind_eq_some_iff, Option.some.injEq] at hc
  obtain ⟨a, ha, rfl⟩ := hc
  simp only [exec, M.bind_some, M.lift_some] at he
  obtain ⟨_, _, ⟨h1, rfl⟩, he⟩ := he
  split at he
  · simp only [M.bind_some, M.lift_some, M.pure_some] at he
    obtain ⟨_, _, ⟨h2, rfl⟩, rfl, rfl⟩ := he
    obtain ⟨a', hx, hl⟩ := (atom_ok ha h1 hE).tuple_inv
    obtain ⟨v', h3, h4⟩ := hl.get h2
    refine did_pure hr h4 ?_
    have h3' : a'[i]? = some v' := by simpa using h3
    simp [execOp, ho, hx, Instr.extract, h3']
  · exact (M.fail_some.1 he).elim

theorem did_fldA {t : TypeId} {x : Operand} {f : Nat} (ho : o.op = .fieldAddr t x f) (hc : compOp0 P o.op = some aop) (he : exec call e aop S = some (v, S')) (hr : Rel P r S w) (hE : EnvRel r e tmps) : Did P r S w S' v tmps o := by
  rw [ho] at hc
  simp only [compOp0, Option.bind_eq_bind, Option.bind_eq_some_iff] at hc
  obtain ⟨d, hd, hc⟩ := hc
  split at hc
  · rename_i fs
    simp only [Option.bind_eq_some_iff] at hc
    obtain ⟨fd, hfd, sz, hsz, hc⟩ := hc
    split at hc
    · simp at hc
    · rename_i hnz
      simp only [Option.bind_eq_some_iff, Option.some.injEq] at hc
      obtain ⟨a, ha, rfl⟩ := hc
      simp only [exec, M.bind_some, M.lift_some] at he
      obtain ⟨_, _, ⟨h1, rfl⟩, he⟩ := he
      split at he
      · rename_i p
        obtain ⟨rfl, rfl⟩ := M.pure_some.1 he
        obtain ⟨hsp, hdm, hx⟩ := (atom_ok ha h1 hE).ptr_inv
        refine did_pure hr (v' := .pointer (some ⟨r.to p.block, r.base p.block + (p.off + fd.offset), none⟩)) (.ptr hdm) ?_
        simp only [execOp, ho, hx, Instr.fieldAt, Sem.run_bind, run_underlying hd, Result.andThen_ok, hfd, Instr.sureAddr, Sem.run_pure, fieldPlace, run_sizeOf hsz, hnz, if_false, add_none, Nat.add_assoc]
      · exact (M.fail_some.1 he).elim
  · simp at hc

theorem did_fld {t : TypeId} {x : Operand} {f : Nat} (ho : o.op = .field t x f) (hc : compOp0 P o.op = some aop) (he : exec call e aop S = some (v, S')) (hr : Rel P r S w) (hE : EnvRel r e tmps) : Did P r S w S' v tmps o := by
  rw [ho] at hc
  simp only [compOp0, Option.bind_eq_bind, Option.bind_eq_some_iff] at hc
  obtain ⟨d, hd, hc⟩ := hc
  split at hc
  · rename_i fs
    simp only [Option.bind_eq_some_iff, Option.some.injEq] at hc
    obtain ⟨fd, hfd, sh, hsh, a, ha, rfl⟩ := hc
    simp only [exec, M.bind_some, M.lift_some] at he
    obtain ⟨_, _, ⟨h1, rfl⟩, he⟩ := he
    split at he
    · simp only [M.bind_some, M.lift_some, M.pure_some] at he
      obtain ⟨_, _, ⟨h2, rfl⟩, rfl, rfl⟩ := he
      obtain ⟨a', hx, hl⟩ := (atom_ok ha h1 hE).agg_inv
      obtain ⟨v', h3, h4⟩ := part_ok (w := w) hsh h2 hl
      refine did_pure hr h4 ?_
      simp only [execOp, ho, hx, Instr.field, Sem.run_bind, run_underlying hd, Result.andThen_ok, hfd, Go.asAgg, Sem.run_pure, h3]
    · exact (M.fail_some.1 he).elim
  · simp at hc

theorem did_ixA {t : TypeId} {x y : Operand} (ho : o.op = .indexAddr t x y) (hc : compOp0 P o.op = some aop) (he : exec call e aop S = some (v, S')) (hr : Rel P r S w) (hE : EnvRel r e tmps) : Did P r S w S' v tmps o := by
  rw [ho] at hc
  simp only [compOp0, Option.bind_eq_bind, Option.bind_eq_some_iff] at hc
  obtain ⟨d, hd, hc⟩ := hc
  split at hc
  · rename_i el
    simp only [Option.bind_eq_some_iff, Option.some.injEq] at hc
    obtain ⟨s, hs, a, ha, b, hb, rfl⟩ := hc
    simp only [exec, M.bind_some, M.lift_some, Option.bind_eq_some_iff] at he
    obtain ⟨_, _, ⟨h1, rfl⟩, i, _, ⟨⟨iv, h2, h3⟩, rfl⟩, he⟩ := he
    obtain ⟨ik, rfl⟩ := asInt_inv h3
    have hir := (atom_ok hb h2 hE).int_inv
    split at he
    · rename_i p len cap
      split at he
      · rename_i hi
        obtain ⟨rfl, rfl⟩ := M.pure_some.1 he
        obtain ⟨hsp, hdm, o', c', hx, hcc, hex, hgr, hor⟩ := (atom_ok ha h1 hE).slc_inv
        obtain rfl : o' = r.base p.block + p.off := by
          rcases hor with h | ⟨h, _⟩
          · exact h
          · omega
        refine did_pure hr (v' := .pointer (some ⟨r.to p.block, r.base p.block + (p.off + i.toNat * s), none⟩)) (.ptr hdm) ?_
        simp only [execOp, ho, hx, hir, Instr.indexAt, asIntOf, Sem.run_bind, Sem.run_pure, run_underlying hd, Result.andThen_ok, hi, and_self, if_true, run_sizeOf hs, add_none, Nat.add_assoc]
      · exact (M.fail_some.1 he).elim
    · exact (M.fail_some.1 he).elim
  · rename_i n el
    simp only [Option.bind_eq_some_iff, Option.some.injEq] at hc
    obtain ⟨s, hs, a, ha, b, hb, rfl⟩ := hc
    simp only [exec, M.bind_some, M.lift_some, Option.bind_eq_some_iff] at he
    obtain ⟨_, _, ⟨h1, rfl⟩, i, _, ⟨⟨iv, h2, h3⟩, rfl⟩, he⟩ := he
    obtain ⟨ik, rfl⟩ := asInt_inv h3
    have hir := (atom_ok hb h2 hE).int_inv
    split at he
    · rename_i p
      split at he
      · rename_i hi
        obtain ⟨rfl, rfl⟩ := M.pure_some.1 he
        obtain ⟨hsp, hdm, hx⟩ := (atom_ok ha h1 hE).ptr_inv
        refine did_pure hr (v' := .pointer (some ⟨r.to p.block, r.base p.block + (p.off + i.toNat * s), none⟩)) (.ptr hdm) ?_
        simp only [execOp, ho, hx, hir, Instr.indexAt, asIntOf, Sem.run_bind, Sem.run_pure, run_underlying hd, Result.andThen_ok, Instr.sureAddr, hi, and_self, if_true, run_sizeOf hs, add_none, Nat.add_assoc]
      · exact (M.fail_some.1 he).elim
    · exact (M.fail_some.1 he).elim
  · simp at hc

theorem did_s2a {t : TypeId} {x : Operand} (ho : o.op = .sliceToArrayPointer t x) (hc : compOp0 P o.op = some aop) (he : exec call e aop S = some (v, S')) (hr : Rel P r S w) (hE : EnvRel r e tmps) : Did P r S w S' v tmps o := by
  rw [ho] at hc
  simp only [compOp0, Option.bind_eq_bind, Option.bind_eq_some_iff] at hc
  obtain ⟨d, hd, hc⟩ := hc
  split at hc
  · rename_i n el
    split at hc
    · simp only [Option.bind_eq_some_iff, Option.some.injEq] at hc
      obtain ⟨a, ha, rfl⟩ := hc
      simp only [exec, M.bind_some, M.lift_some, Option.bind_eq_some_iff, Atom.ev, asInt, Option.some.injEq] at he
      obtain ⟨_, _, ⟨h1, rfl⟩, i, _, ⟨⟨iv, rfl, h3⟩, rfl⟩, he⟩ := he
      simp only [asInt, Option.some.injEq] at h3
      subst h3
      split at he
      · rename_i p len cap
        split at he
        · rename_i hi
          obtain ⟨rfl, rfl⟩ := M.pure_some.1 he
          obtain ⟨hsp, hdm, o', c', hx, hcc, hex, hgr, hor⟩ := (atom_ok ha h1 hE).slc_inv
          have hlen : ¬ len < n + 1 := by omega
          obtain rfl : o' = r.base p.block + p.off := by
            rcases hor with h | ⟨h, _⟩
            · exact h
            · omega
          refine did_pure hr (v' := .pointer (some ⟨r.to p.block, r.base p.block + (p.off + (n : Int).toNat * 0), none⟩)) (.ptr hdm) ?_
          simp only [execOp, ho, hx, Instr.arrayAt, Sem.run_bind, Sem.run_pure, run_underlying hd, Result.andThen_ok, hlen, if_false, Nat.mul_zero, Nat.add_zero]
        · exact (M.fail_some.1 he).elim
      · exact (M.fail_some.1 he).elim
    · simp at hc
  · simp at hc

theorem did_ix {t : TypeId} {x y : Operand} (ho : o.op = .index t x y) (hc : compOp0 P o.op = some aop) (he : exec call e aop S = some (v, S')) (hr : Rel P r S w) (hE : EnvRel r e tmps) : Did P r S w S' v tmps o := by
  rw [ho] at hc
  simp only [compOp0, Option.bind_eq_bind, Option.bind_eq_some_iff] at hc
  obtain ⟨d, hd, hc⟩ := hc
  split at hc
  · rename_i n el
    simp only [Option.bind_eq_some_iff, Option.some.injEq] at hc
    obtain ⟨s, hs, sh, hsh, a, ha, b, hb, rfl⟩ := hc
    simp only [exec, M.bind_some, M.lift_some, Option.bind_eq_some_iff] at he
    obtain ⟨_, _, ⟨h1, rfl⟩, i, _, ⟨⟨iv, h2, h3⟩, rfl⟩, he⟩ := he
    obtain ⟨ik, rfl⟩ := asInt_inv h3
    have hir := (atom_ok hb h2 hE).int_inv
    split at he
    · split at he
      · rename_i hi
        simp only [M.bind_some, M.lift_some, M.pure_some] at he
        obtain ⟨_, _, ⟨h4, rfl⟩, rfl, rfl⟩ := he
        obtain ⟨a', hx, hl⟩ := (atom_ok ha h1 hE).agg_inv
        obtain ⟨v', h5, h6⟩ := part_ok (w := w) hsh h4 hl
        refine did_pure hr h6 ?_
        simp only [execOp, ho, hx, hir, Instr.index, asIntOf, Sem.run_bind, Sem.run_pure, run_underlying hd, Result.andThen_ok, hi, and_self, if_true, run_sizeOf hs, h5]
      · exact (M.fail_some.1 he).elim
    · exact (M.fail_some.1 he).elim
  · simp only [Option.bind_eq_some_iff, Option.some.injEq] at hc
    obtain ⟨a, ha, b, hb, rfl⟩ := hc
    simp only [exec, M.bind_some, M.lift_some, Option.bind_eq_some_iff] at he
    obtain ⟨_, _, ⟨h1, rfl⟩, i, _, ⟨⟨iv, h2, h3⟩, rfl⟩, he⟩ := he
    obtain ⟨ik, rfl⟩ := asInt_inv h3
    have hir := (atom_ok hb h2 hE).int_inv
    split at he
    · rename_i s
      split at he
      · rename_i hi
        simp only [M.bind_some, M.lift_some, M.pure_some] at he
        obtain ⟨bt, _, ⟨h4, rfl⟩, rfl, rfl⟩ := he
        have hx := (atom_ok ha h1 hE).string_inv
        have hb : s[i.toNat]? = some bt := by
          have h4' : s.data[i.toNat]? = some bt := by simpa using h4
          obtain ⟨hlt, hv⟩ := Array.getElem?_eq_some_iff.1 h4'
          have hlt' : i.toNat < s.size := by simpa using hlt
          rw [getElem?_pos s i.toNat hlt']
          exact congrArg some hv
        refine did_pure hr (.int _ _) ?_
        simp only [execOp, ho, hx, hir, Instr.index, asIntOf, Sem.run_bind, Sem.run_pure, run_underlying hd, Result.andThen_ok, hi, if_true, hb]
      · exact (M.fail_some.1 he).elim
    · exact (M.fail_some.1 he).elim
  · simp at hc
end
end Go.Wb
end
/- The engine, part C9: conversions, slices, builtins. -/
section
set_option linter.unusedSimpArgs false
set_option linter.unusedVariables false
namespace Go.Wb
set_option linter.unusedSectionVars false
variable [GloK]
variable {P : Program} {r : Ren} {S S' : St} {w : World}

theorem did_new_ext {c : List Value} {b z : Nat} {str : Bool} {rc : Array Value} {el : TypeId} {fz : Nat × Nat} {w' : World} (hr : Rel P r S w) (h : nw (.cells (some z) str c) S = some (b, S')) (hf : Fresh r S S')
    (hw : New w w' (.cells rc el fz)) {l' : List Value} (hl : LRel r c l') (hat : ∀ (i : Nat) (v : Value), l'[i]? = some v → rc[i]? = some v) (hfz : fz.1 = fz.2 ∨ rc.size ≤ fz.1) (hstr : str = false → fz.1 = fz.2) {n c' : Nat}
    (hn : n ≤ c') (hc : c' * z ≤ rc.size) (hpl : ∀ (i : Nat) (v : Value), c.length ≤ i → rc[i]? = some v → plain v = true) : ∃ D r', Sim P D r S w r' S' w' ∧ VRel r' (.slice (some ⟨b, 0, none⟩) n n) (.slice (some ⟨w.heap.size, 0, none⟩) n c') := by
  obtain ⟨rfl, D, r', hs, hle, k1, k2, k3, k4, k5⟩ := did_new hr h hf hw hl hat hfz hstr (fun _ => hpl)
  refine ⟨D, r', hs, ?_⟩
  have := VRel.slc (r := r') (b := S.next) (o := 0) (n := n) (c := n) (c' := c') k1 (by rw [k5]; intro h; cases h) hn (fun y hy => by rw [k5] at hy; cases hy; rw [k3, k4]; omega)
  rw [k2, k3] at this
  exact this

theorem bytes_run : ∀ (l : List Value) (out : List UInt8) (acc : ByteArray), bytesOf l = some out →
    (forIn (m := Sem) l acc fun c s => (match c with
      | .int .u8 n => pure (.yield (s.push (UInt8.ofNat n.toNat)))
      | x => do
        stuck "bytesToString: byte expected"
        pure (.yield s) : Sem (ForInStep ByteArray))).run P w = .ok ⟨acc.data ++ out.toArray⟩ w
  | [], out, acc, h => by
    simp only [bytesOf, Option.some.injEq] at h; subst h
    simp
  | v :: l, out, acc, h => by
    cases v <;> try (simp [bytesOf] at h; done)
    rename_i k n
    cases k <;> try (simp [bytesOf] at h; done)
    simp only [bytesOf] at h
    split at h
    · rename_i m hm
      simp only [Option.some.injEq] at h; subst h
      simp only [List.forIn_cons, Sem.run_bind, Sem.run_pure, Result.andThen_ok]
      rw [bytes_run l m _ hm]
      congr 2
      apply Array.ext'
      simp [ByteArray.push]
    · simp at h
theorem bytesOf_rel : ∀ {l l' : List Value} {out : List UInt8}, bytesOf l = some out → LRel r l l' → l' = l
  | [], _, _, _, hl => by cases hl; rfl
  | v :: l, _, out, h, hl => by
    cases hl with
    | cons hv ht =>
      cases v <;> try (simp [bytesOf] at h; done)
      rename_i k n
      cases k <;> try (simp [bytesOf] at h; done)
      simp only [bytesOf] at h
      split at h
      · rename_i m hm
        rw [hv.int_inv, bytesOf_rel hm ht]
      · simp at h

section
variable {call : Tgt → List Value → M Value} {e : Env} {tmps : Array Value} {v : Value} {o : Oper} {aop : AOp}

theorem freeze_upd {b : Nat} {rc : Array Value} {el : TypeId} {lo hi : Nat} (h : w.heap[b]? = some (.cells rc el (lo, hi))) (hf : lo = hi ∨ rc.size ≤ lo) (o : Nat) :
    ∃ lo' hi', (markStringish ⟨b, o, none⟩).run P w = .ok () (w.freeze { block := b, off := rc.size } 1) ∧ Upd w (w.freeze { block := b, off := rc.size } 1) b (.cells rc el (lo', hi')) ∧ rc.size ≤ lo' := by
  have hb : b < w.heap.size := (Array.getElem?_eq_some_iff.1 h).1
  have hs : w.shape? b = some (el, rc.size) := by simp [World.shape?, h]
  by_cases hlh : lo = hi
  · refine ⟨rc.size, rc.size + 1, ?_, ⟨?_, ?_, ?_, ?_, ?_, ?_⟩, Nat.le_refl _⟩
    · simp [markStringish, hs]
    · simp [World.freeze]
    · simp [World.freeze, Array.getElem?_modify, h, hlh]
    · intro k hk
      simp only [World.freeze, Nat.one_ne_zero, if_false, Array.getElem?_modify]
      rw [if_neg (fun c => hk c.symm)]
    · simp [World.freeze]
    · simp [World.freeze]
    · simp [World.freeze]
  · have hsz : rc.size ≤ lo := hf.resolve_left hlh
    refine ⟨min lo rc.size, max hi (rc.size + 1), ?_, ⟨?_, ?_, ?_, ?_, ?_, ?_⟩, by omega⟩
    · simp [markStringish, hs]
    · simp [World.freeze]
    · simp [World.freeze, Array.getElem?_modify, h, hlh]
    · intro k hk
      simp only [World.freeze, Nat.one_ne_zero, if_false, Array.getElem?_modify]
      rw [if_neg (fun c => hk c.symm)]
    · simp [World.freeze]
    · simp [World.freeze]
    · simp [World.freeze]

theorem did_conv {src dst : TypeId} {x : Operand} (ho : o.op = .convert src dst x) (hc : compOp0 P o.op = some aop) (he : exec call e aop S = some (v, S')) (hr : Rel P r S w) (hE : EnvRel r e tmps) (hf : Fresh r S S') : Did P r S w S' v tmps o := by
  rw [ho] at hc
  simp only [compOp0, Option.bind_eq_bind, Option.bind_eq_some_iff] at hc
  obtain ⟨a, ha, ds, hds, dd, hdd, hc⟩ := hc
  have hrun : (execOp (evT tmps) o) = (do pure (.value (← convert src dst (evT tmps x)))) := by simp [execOp, ho]
  split at hc
  · rename_i ks k
    obtain rfl : AOp.conv (.int k) a = aop := by simpa using hc
    simp only [exec, M.bind_some, M.lift_some] at he
    obtain ⟨xv, _, ⟨h1, rfl⟩, he⟩ := he
    cases xv <;> try (exact (M.fail_some.1 he).elim)
    obtain ⟨rfl, rfl⟩ := M.pure_some.1 he
    have hx := (atom_ok ha h1 hE).int_inv
    exact did_pure hr (.int _ _) (by rw [hrun]; simp [hx, convert, run_underlying hds, run_underlying hdd, Conv.intToInt])
  · obtain rfl : AOp.conv .same a = aop := by simpa using hc
    simp only [exec, M.bind_some, M.lift_some] at he
    obtain ⟨xv, _, ⟨h1, rfl⟩, he⟩ := he
    cases xv <;> try (exact (M.fail_some.1 he).elim)
    obtain ⟨rfl, rfl⟩ := M.pure_some.1 he
    have hx := (atom_ok ha h1 hE).string_inv
    exact did_pure hr (.string _) (by rw [hrun]; simp [hx, convert, run_underlying hds, run_underlying hdd])
  · rename_i e1 e2
    simp only [Option.bind_eq_bind, Option.bind_eq_some_iff] at hc
    obtain ⟨u, hu, hc⟩ := hc
    split at hc
    · rename_i hcond
      obtain rfl : src = dst := of_decide_eq_true hcond
      obtain rfl : AOp.conv .sameSl a = aop := by simpa using hc
      obtain rfl : e1 = e2 := by rw [hds] at hdd; simpa using hdd
      have hu' : P.underlying e1 = some (.int .u8) := hu
      simp only [exec, M.bind_some, M.lift_some] at he
      obtain ⟨xv, _, ⟨h1, rfl⟩, he⟩ := he
      cases xv <;> try (exact (M.fail_some.1 he).elim)
      rename_i p n c
      cases p with
      | none => exact (M.fail_some.1 he).elim
      | some p =>
        simp only [M.bind_some, rd_some] at he
        obtain ⟨bk, S1, ⟨hb, rfl⟩, he⟩ := he
        cases bk with
        | loop => exact (M.fail_some.1 he).elim
        | map => exact (M.fail_some.1 he).elim
        | iter => exact (M.fail_some.1 he).elim
        | ro => exact (M.fail_some.1 he).elim
        | cells ext str cs =>
          simp only [M.bind_some, wr_some, M.pure_some] at he
          obtain ⟨_, S2, rfl, rfl, rfl⟩ := he
          have hxr := atom_ok ha h1 hE
          obtain ⟨hsp, hdm, o', c', hx, hcc, hex, hgr, hor⟩ := hxr.slc_inv
          obtain ⟨hd, rc, el, lo, hi, l', k1, k2, k3, k4, k5, k6, k7⟩ := cells_at hr hb
          obtain ⟨lo', hi', m1, m2, m3⟩ := freeze_upd (P := P) k1 k6 o'
          refine ⟨_, r, _, _, sim_upd hr hb rfl rfl (D := [(p.block, true), (p.block, false)]) rfl (by simp) m2 ⟨k2, k3, ⟨l', k4, k5⟩, .inr m3, fun h => by cases h⟩, hxr, .inl ?_⟩
          rw [hrun, hx]
          simp only [convert, Sem.run_bind, run_underlying hds, run_underlying hdd, Result.andThen_ok, beq_self_eq_true, run_underlying hu', m1, Sem.run_pure]
    · simp at hc
  · rename_i el
    simp only [Option.bind_eq_bind, Option.bind_eq_some_iff] at hc
    obtain ⟨u, hu, hc⟩ := hc
    split at hc
    · obtain rfl : AOp.conv (.str2b el) a = aop := by simpa using hc
      simp only [exec, M.bind_some, M.lift_some] at he
      obtain ⟨xv, _, ⟨h1, rfl⟩, he⟩ := he
      cases xv <;> try (exact (M.fail_some.1 he).elim)
      rename_i s
      simp only [M.bind_some, M.pure_some] at he
      obtain ⟨b, S1, h2, rfl, rfl⟩ := he
      have hx := (atom_ok ha h1 hE).string_inv
      obtain ⟨cap, hcap, hch⟩ := choose_cap (P := P) (w := w) s.size 0 el
      let rc : Array Value := s.data.map (fun b => Value.int .u8 b.toNat) ++ Array.replicate (cap - s.size) (.int .u8 0)
      have hrc : rc.size = cap := by simp [rc]; omega
      let w1 : World := { w with drawn := w.drawn + 1, heap := w.heap.push (.cells rc el (0, 0)) }
      have hw1 : w1.heap[w.heap.size]? = some (.cells rc el (0, 0)) := by simp [w1]
      obtain ⟨lo', hi', m1, m2, m3⟩ := freeze_upd (P := P) hw1 (.inl rfl) 0
      have hnew : New w (w1.freeze { block := w.heap.size, off := rc.size } 1) (.cells rc el (lo', hi')) := by
        refine ⟨?_, m2.os, m2.tape, m2.output⟩
        apply Array.ext_getElem?
        intro k
        by_cases hk : k = w.heap.size
        · subst hk; rw [m2.here]; simp
        · rw [m2.there k hk]
          simp only [w1]
          rw [Array.getElem?_push, Array.getElem?_push, if_neg hk, if_neg hk]
      have hl : LRel r (s.data.toList.map fun b => Value.int .u8 b.toNat) (s.data.toList.map fun b => Value.int .u8 b.toNat) := by
        generalize s.data.toList = q
        induction q with
        | nil => exact .nil
        | cons a q ih => exact .cons (.int _ _) ih
      obtain ⟨D, r', hs, hv⟩ := did_new_ext hr h2 hf hnew hl (fun i v hv => by
        have hlt := (List.getElem?_eq_some_iff.1 hv).1
        simp at hlt
        simp only [rc]
        rw [Array.getElem?_append_left (by simpa using hlt)]
        simpa using hv) (.inr m3) (fun h => by cases h) hcap (by rw [hrc]; omega) (fun i v hi hv => by
          simp only [rc] at hv
          rw [Array.getElem?_append_right (by simpa using hi), Array.getElem?_replicate] at hv
          split at hv
          · cases hv; rfl
          · cases hv)
      refine ⟨D, r', _, _, hs, hv, .inl ?_⟩
      rw [hrun, hx]
      have m1' : (markStringish ⟨w.heap.size, 0, none⟩).run P { w with drawn := w.drawn + 1, heap := w.heap.push (.cells rc el (0, 0)) } = .ok () (w1.freeze { block := w.heap.size, off := rc.size } 1) := m1
      simp only [convert, Sem.run_bind, run_underlying hds, run_underlying hdd, Result.andThen_ok, run_underlying hu, Conv.stringToBytes, hch, newRow, run_newObj, Sem.run_pure]
      rw [show s.data.map (fun b => Value.int .u8 b.toNat) ++ Array.replicate (cap - s.size) (.int .u8 0) = rc from rfl, m1']
      rfl
    · simp at hc
  · rename_i el
    simp only [Option.bind_eq_bind, Option.bind_eq_some_iff] at hc
    obtain ⟨u, hu, hc⟩ := hc
    split at hc
    · obtain rfl : AOp.conv .b2str a = aop := by simpa using hc
      simp only [exec, M.bind_some, M.lift_some] at he
      obtain ⟨xv, _, ⟨h1, rfl⟩, he⟩ := he
      cases xv <;> try (exact (M.fail_some.1 he).elim)
      case chan o1 =>
        cases o1 <;> try (exact (M.fail_some.1 he).elim)
        obtain ⟨rfl, rfl⟩ := M.pure_some.1 he
        obtain ⟨ad, hx⟩ : ∃ ad, evT tmps x = .slice (some ad) 0 0 := by
          have := atom_ok ha h1 hE
          generalize evT tmps x = y at this
          cases this
          exact ⟨_, rfl⟩
        refine did_pure hr (.string _) ?_
        rw [hrun, hx]
        simp [convert, run_underlying hds, run_underlying hdd, run_underlying hu, Conv.bytesToString, loadCells, loadCellsFrom]
      rename_i p n c
      cases p with
      | none =>
        obtain ⟨rfl, rfl⟩ := M.pure_some.1 he
        obtain ⟨rfl, rfl, hx⟩ := (atom_ok ha h1 hE).slcNil_inv
        exact did_pure hr (.string _) (by rw [hrun]; simp [hx, convert, run_underlying hds, run_underlying hdd, run_underlying hu, Conv.bytesToString])
      | some p =>
        simp only [M.bind_some, M.lift_some, M.pure_some] at he
        obtain ⟨cs, S1, h2, l, _, ⟨h3, rfl⟩, rfl, rfl⟩ := he
        obtain ⟨hsp, hdm, o', c', hx, hcc, hex, hgr, hor⟩ := (atom_ok ha h1 hE).slc_inv
        obtain ⟨l', m1, m2, m3, _, m5⟩ := ldCells_ok h2 hr
        obtain rfl := bytesOf_rel h3 m1
        refine ⟨_, r, w, _, m5, .string _, .inl ?_⟩
        have hload : (loadCells ⟨r.to p.block, o', none⟩ n).run P w = .ok l'.toArray w := by
          rcases hor with rfl | ⟨h0, _⟩
          · exact m3 w rfl
          · subst h0
            cases l' with
            | nil => simp [loadCells, loadCellsFrom]
            | cons _ _ => simp at m2
        have hb := bytes_run (P := P) (w := w) l' l ByteArray.empty h3
        have hxs : evT tmps x = .slice (some ⟨r.to p.block, o', none⟩) n c' := hx
        rw [hrun, hxs]
        simp only [convert, Sem.run_bind, run_underlying hds, run_underlying hdd, run_underlying hu, Result.andThen_ok, Conv.bytesToString, hload, List.forIn_toArray]
        erw [hb]
        have : ByteArray.empty.data ++ l.toArray = l.toArray := by show #[] ++ l.toArray = _; simp
        rw [this]
        rfl
    · simp at hc
  · simp at hc

theorem did_mkslice {t : TypeId} {x y : Operand} (ho : o.op = .makeSlice t x y) (hc : compOp0 P o.op = some aop) (he : exec call e aop S = some (v, S')) (hr : Rel P r S w) (hE : EnvRel r e tmps) (hf : Fresh r S S') : Did P r S w S' v tmps o := by
  rw [ho] at hc
  simp only [compOp0, Option.bind_eq_bind, Option.bind_eq_some_iff] at hc
  obtain ⟨d, hd, hc⟩ := hc
  split at hc
  · rename_i el
    simp only [Option.bind_eq_some_iff, Option.some.injEq] at hc
    obtain ⟨sz, hsz, bt, hbt, z, hz, a, ha, b, hb, rfl⟩ := hc
    simp only [exec, M.bind_some, M.lift_some, Option.bind_eq_some_iff] at he
    obtain ⟨ln, _, ⟨⟨lv, h1, h1'⟩, rfl⟩, cp, _, ⟨⟨cv, h2, h2'⟩, rfl⟩, he⟩ := he
    obtain ⟨k1, rfl⟩ := asInt_inv h1'
    obtain ⟨k2, rfl⟩ := asInt_inv h2'
    have hx1 := (atom_ok ha h1 hE).int_inv
    have hx2 := (atom_ok hb h2 hE).int_inv
    split at he
    · rename_i hcond
      obtain ⟨c1, c2, c3, c4, c5⟩ := hcond
      simp only [M.bind_some, M.pure_some] at he
      obtain ⟨nb, S1, h3, rfl, rfl⟩ := he
      obtain ⟨i, zv, hi, hiz, hz2, hz3⟩ := zeroT_info hz
      have hzs : zv.cells.size = sz := by rw [← c5, ← hz2]; simp
      have hbi := bytesT_info hbt hi
      have w1 : IntKind.i64.wrap ln = ln := wrap64_id c1 (by omega)
      have w2 : IntKind.i64.wrap cp = cp := wrap64_id (by omega) (by omega)
      have e48 : (2 : Int) ^ 48 = 281474976710656 := by decide
      have hzr : LRel r (rep cp.toNat z) (rep cp.toNat z) := by rw [← hz2]; exact rep_plain hz3 _
      have hcells : (Array.range (cp.toNat * sz)).map (fun x => (if cp.toNat * sz = 0 then #[] else zv.cells)[x % (if cp.toNat * sz = 0 then #[] else zv.cells).size]!) = (rep cp.toNat z).toArray := by
        apply Array.ext'
        split
        · rename_i h0
          rw [h0]
          have : rep cp.toNat z = [] := by apply List.eq_nil_of_length_eq_zero; rw [rep_length, c5, h0]
          simp [this]
        · simp only [List.toList_toArray]
          rw [Array.toList_map, Array.toList_range, ← hz2, ← range_rep, hzs]
      obtain ⟨rfl, D, r', hsim, hle, m1, m2, m3, m4, m5⟩ := did_new (w' := { w with heap := w.heap.push (.cells (rep cp.toNat z).toArray el (0, 0)) }) hr h3 hf (alloc_new _ _) hzr (by simp) (.inl rfl) (fun _ => rfl)
      refine ⟨D, r', _, _, hsim, slc_of m1 m2 m3 m5, .inl ?_⟩
      have t1 : (decide (cp < 0) || decide ((bt : Int) * cp > 2 ^ 48)) = false := by
        rw [e48]; simp; omega
      have t2 : ¬ (ln < 0) := by omega
      have t3 : ¬ (ln > cp) := by omega
      simp only [execOp, ho, hx1, hx2, Instr.makeSlice, Sem.run_bind, run_underlying hd, Result.andThen_ok, Go.asInt, asIntOf, Sem.run_pure, run_typeInfo hi, hbi, w1, w2, t1, t2, t3, decide_false, Bool.or_self, Bool.false_eq_true, if_false, run_askRoom, run_sizeOf hsz]
      by_cases h0 : cp.toNat * sz = 0
      · simp only [if_pos h0] at hcells
        rw [if_pos h0]
        simp only [Sem.run_bind, Sem.run_pure, Result.andThen_ok, hcells, newRow, run_newObj]
      · simp only [if_neg h0] at hcells
        rw [if_neg h0]
        simp only [Sem.run_bind, Sem.run_pure, Result.andThen_ok, run_zeroValue hi hiz, hcells, newRow, run_newObj]
    · exact (M.fail_some.1 he).elim
  · simp at hc
end
end Go.Wb
end
/- The engine, part C9m: maps. -/
section
set_option linter.unusedSimpArgs false
set_option linter.unusedVariables false
namespace Go.Wb
set_option linter.unusedSectionVars false
variable [GloK]
variable {P : Program} {r : Ren} {S S' : St} {w : World}

theorem run_getMap {b : Nat} {es : Array MapEntry} {cl : Nat} (h : w.heap[b]? = some (.map es cl)) : (getObj b).run P w = .ok (.map es cl) w := by simp [getObj, Sem.run, h]
theorem run_setMap {b : Nat} {es : Array MapEntry} {cl : Nat} (o : Obj) (h : w.heap[b]? = some (.map es cl)) : (setObj b o).run P w = .ok () { w with heap := w.heap.setIfInBounds b o } := by
  simp [setObj, Sem.run, h]
theorem VRel.map_inv {p : Nat} {v' : Value} (h : VRel r (.map (some p)) v') : r.dom p ∧ v' = .map (some (r.to p)) := by cases h; exact ⟨by assumption, rfl⟩
theorem VRel.mapNil_inv {v' : Value} (h : VRel r (.map none) v') : v' = .map none := by cases h; rfl
theorem eqCell_same {k : Nat} {kd : TypeDesc} {kt : TypeId} (hu : P.underlying kt = some kd) (hk : keyKind P kt = some (.one k)) {x y x' y' : Value} {b : Bool} (h : eqCell k x y = some b) (hx : VRel r x x') (hy : VRel r y y') : Instr.sameNow kd x' y' = some b := by
  have h2 := eqCell_rel h hx hy
  clear h hx hy
  unfold keyKind at hk
  rw [hu] at hk
  unfold eqCell at h2
  split at hk
  · rename_i hh
    obtain rfl : kd = .bool := by simpa using hh
    obtain rfl : 0 = k := by simpa using hk
    split at h2 <;> simp at h2 <;> rename_i he <;> first | (simp at he; done) | skip
    subst h2; rfl
  · rename_i q hh
    obtain rfl : kd = .int q := by simpa using hh
    obtain rfl : 1 = k := by simpa using hk
    split at h2 <;> first | (simp at h2; done) | skip
    · rename_i he; simp at he
    · rename_i he
      simp only [Instr.sameNow]
      exact h2
    · rename_i he; simp at he
  · rename_i hh
    obtain rfl : kd = .string := by simpa using hh
    obtain rfl : 2 = k := by simpa using hk
    split at h2 <;> first | (simp at h2; done) | skip
    · rename_i he; simp at he
    · rename_i he; simp at he
    · rename_i a b' he
      simp only [Option.some.injEq] at h2
      subst h2
      simp only [Instr.sameNow, beq_toListBytes, ByteArray.toList_eq]
  · rename_i fs hh
    split at hk <;> first | (split at hk <;> simp at hk; done) | (simp at hk; done)
  · simp at hk
theorem keyKind_agg {n : Nat} {offs : List (Nat × Nat)} {kt : TypeId} (hk : keyKind P kt = some (.agg n offs)) : ∃ fs, P.underlying kt = some (.struct fs) ∧ sizeT P kt = some n ∧ eqOffs P 8 kt 0 = some offs ∧ shOf P kt = some (.agg n) ∧ ∀ i, i < n → ∃ k, (i, k) ∈ offs := by
  unfold keyKind at hk
  split at hk <;> first | (simp at hk; done) | skip
  rename_i fs hu
  split at hk
  · rename_i m os h1 h2
    split at hk
    · rename_i h3
      simp only [Option.some.injEq, KK.agg.injEq] at hk
      obtain ⟨rfl, rfl⟩ := hk
      refine ⟨fs, hu, h1, h2, by unfold shOf; rw [hu, h1]; rfl, fun i hi => ?_⟩
      rw [List.all_eq_true] at h3
      have := h3 i (List.mem_range.2 hi)
      rw [List.any_eq_true] at this
      obtain ⟨⟨a, b⟩, h4, h5⟩ := this
      obtain rfl : a = i := Nat.eq_of_beq_eq_true h5
      exact ⟨b, h4⟩
    · simp at hk
  · simp at hk
theorem eqAgg_run {n : Nat} {offs : List (Nat × Nat)} {kt : TypeId} (hk : keyKind P kt = some (.agg n offs)) {x y x' y' : Value} {b : Bool} (h : eqV (.cells n offs) x y = some b) (hx : VRel r x x') (hy : VRel r y y') :
    (Op.equal kt x' y').run P w = .ok b w := by
  obtain ⟨fs, _, h2, h3, h4, _⟩ := keyKind_agg hk
  simp only [eqV] at h
  split at h
  · rename_i xs ys
    split at h
    · rename_i hl
      obtain ⟨xs', rfl, hxs⟩ : ∃ a, x' = .agg a ∧ LRel r xs.toList a.toList := by
        cases hx with
        | agg h1 h2 => exact ⟨_, rfl, LRel.of h1 h2⟩
      obtain ⟨ys', rfl, hys⟩ : ∃ a, y' = .agg a ∧ LRel r ys.toList a.toList := by
        cases hy with
        | agg h1 h2 => exact ⟨_, rfl, LRel.of h1 h2⟩
      have hb := eqCells_rel h hxs hys
      have px : partOf (.agg n) xs'.toList 0 = some (.agg xs') := by
        simp only [partOf]
        rw [if_pos (by have := hxs.length; omega), List.drop_zero, List.take_of_length_le (by have := hxs.length; omega)]
      have py : partOf (.agg n) ys'.toList 0 = some (.agg ys') := by
        simp only [partOf]
        rw [if_pos (by have := hys.length; omega), List.drop_zero, List.take_of_length_le (by have := hys.length; omega)]
      exact eq_fine 8 kt 0 offs h3 Op.maxDepth (by decide) _ _ b hb _ h4 _ _ px py
    · simp at h
  · simp at h
theorem eqCells_true : ∀ {offs : List (Nat × Nat)} {xs ys : List Value} {i k : Nat}, eqCells offs xs ys = some true → (i, k) ∈ offs → ∃ x y, xs[i]? = some x ∧ ys[i]? = some y ∧ eqCell k x y = some true
  | (o, k0) :: os, xs, ys, i, k, h, hm => by
    simp only [eqCells] at h
    split at h
    · rename_i x y h1 h2
      split at h
      · rename_i a c h3 h4
        simp only [Option.some.injEq, Bool.and_eq_true] at h
        obtain ⟨rfl, rfl⟩ := h
        rcases List.mem_cons.1 hm with e | e
        · cases e; exact ⟨x, y, h1, h2, h3⟩
        · exact eqCells_true h4 e
      · simp at h
    · simp at h
theorem eqCell_bits {k n : Nat} {x y : Value} (h : eqCell k x y = some true) : Instr.sameBits n y x = true := by
  unfold eqCell at h
  split at h
  · simp only [Option.some.injEq, beq_iff_eq] at h
    subst h
    cases n <;> simp [Instr.sameBits]
  · split at h
    · rename_i hk
      subst hk
      simp only [Option.some.injEq, beq_iff_eq] at h
      subst h
      cases n <;> simp [Instr.sameBits]
    · simp at h
  · rename_i a b
    simp only [Option.some.injEq] at h
    have e : b = a := by
      rw [beq_iff_eq] at h
      obtain ⟨a⟩ := a
      obtain ⟨b⟩ := b
      congr 1
      exact (Array.toList_inj.1 h).symm
    subst e
    have : (b == b) = true := by rw [beq_toListBytes]; exact beq_self_eq_true _
    cases n <;> simp [Instr.sameBits, this]
  · simp at h
theorem sameBits_agg {n : Nat} {offs : List (Nat × Nat)} {kt : TypeId} (hk : keyKind P kt = some (.agg n offs)) {x y x' y' : Value} (h : eqV (.cells n offs) x y = some true) (hx : VRel r x x') (hy : VRel r y y') :
    Instr.sameBits 10000 y' x' = true := by
  obtain ⟨fs, _, h2, h3, h4, h5⟩ := keyKind_agg hk
  simp only [eqV] at h
  split at h
  · rename_i xs ys
    split at h
    · rename_i hl
      obtain ⟨xs', rfl, hxs⟩ : ∃ a, x' = .agg a ∧ LRel r xs.toList a.toList := by
        cases hx with
        | agg h1 h2 => exact ⟨_, rfl, LRel.of h1 h2⟩
      obtain ⟨ys', rfl, hys⟩ : ∃ a, y' = .agg a ∧ LRel r ys.toList a.toList := by
        cases hy with
        | agg h1 h2 => exact ⟨_, rfl, LRel.of h1 h2⟩
      have hb := eqCells_rel h hxs hys
      have l1 : xs'.size = n := by have := hxs.length; simp only [Array.length_toList] at this hl; omega
      have l2 : ys'.size = n := by have := hys.length; simp only [Array.length_toList] at this hl; omega
      rw [Instr.sameBits]
      simp only [Bool.and_eq_true, beq_iff_eq, l1, l2, true_and, List.all_eq_true]
      intro ⟨a, b⟩ hab
      obtain ⟨i, hi, e⟩ := List.mem_iff_getElem.1 hab
      simp only [List.length_zip, Array.length_toList, l1, l2, Nat.min_self] at hi
      obtain ⟨k, hm⟩ := h5 i hi
      obtain ⟨u, v, e1, e2, e3⟩ := eqCells_true hb hm
      simp only [List.getElem_zip, Prod.mk.injEq] at e
      rw [List.getElem?_eq_getElem (by simpa [l1] using hi)] at e1
      rw [List.getElem?_eq_getElem (by simpa [l2] using hi)] at e2
      simp only [Option.some.injEq] at e1 e2
      obtain ⟨rfl, rfl⟩ := e
      subst e1 e2
      exact eqCell_bits e3
    · simp at h
  · simp at h
def FRel (r : Ren) : Option (Nat × MEnt) → Option (Nat × Value) → Prop
  | none, none => True
  | some (j, e), some (j', v') => j = j' ∧ VRel r e.val v'
  | _, _ => False
theorem findK_ok {k : Nat} {kd : TypeDesc} {kt : TypeId} (hu : P.underlying kt = some kd) (hk : keyKind P kt = some (.one k)) {y y' : Value} (hy : VRel r y y') : ∀ {es : List MEnt} {es' : List MapEntry} {i : Nat} {res : Option (Nat × MEnt)}, MRel r es es' → findK (.one k) y es i = some res →
    ∃ res', Instr.findNow kd y' es' i = some res' ∧ FRel r res res'
  | [], _, i, res, .nil, h => by
    simp only [findK, Option.some.injEq] at h
    subst h
    exact ⟨none, rfl, trivial⟩
  | m :: es, e :: es', i, res, .cons h1 h2 hb h3, h => by
    simp only [findK, eqKey] at h
    split at h
    · rename_i hb
      simp only [Option.some.injEq] at h
      subst h
      exact ⟨some (i, e.val), by simp only [Instr.findNow, eqCell_same hu hk hb hy h1], rfl, h2⟩
    · rename_i hb
      obtain ⟨res', g1, g2⟩ := findK_ok hu hk hy h3 h
      exact ⟨res', by simp only [Instr.findNow, eqCell_same hu hk hb hy h1]; exact g1, g2⟩
    · simp at h
theorem findK_at {k : KK} {y : Value} : ∀ {es : List MEnt} {i j : Nat} {m : MEnt}, findK k y es i = some (some (j, m)) → i ≤ j ∧ es[j - i]? = some m
  | [], i, j, m, h => by simp [findK] at h
  | e :: es, i, j, m, h => by
    simp only [findK] at h
    split at h
    · simp only [Option.some.injEq, Prod.mk.injEq] at h
      obtain ⟨rfl, rfl⟩ := h
      simp
    · obtain ⟨h1, h2⟩ := findK_at h
      refine ⟨by omega, ?_⟩
      obtain ⟨q, hq⟩ : ∃ q, j - i = q + 1 := ⟨j - i - 1, by omega⟩
      rw [hq, List.getElem?_cons_succ, ← h2]
      congr 1; omega
    · simp at h
theorem MRel.at {es : List MEnt} {es' : List MapEntry} (h : MRel r es es') : ∀ {i : Nat} {m : MEnt}, es[i]? = some m → ∃ e, es'[i]? = some e ∧ VRel r m.key e.key ∧ VRel r m.val e.val ∧ m.born = e.born := by
  induction h with
  | nil => intro i m h; simp at h
  | cons h1 h2 h3 _ ih =>
    intro i m h
    cases i with
    | zero => simp at h; subst h; exact ⟨_, rfl, h1, h2, h3⟩
    | succ i => obtain ⟨e, k1, k2⟩ := ih (by simpa using h); exact ⟨e, by simpa using k1, k2⟩
theorem map_at (hr : Rel P r S w) {b : Nat} {es : List MEnt} {cl : Nat} (h : S.heap.get b = some (.map es cl)) : ∃ es', w.heap[r.to b]? = some (.map es' cl) ∧ MRel r es es'.toList := by
  obtain ⟨_, o, h1, h2⟩ := hr.at_ b _ h
  cases o <;> try exact h2.elim
  rename_i es' cl'
  obtain ⟨rfl, h3⟩ := h2
  exact ⟨es', h1, h3⟩
theorem MRel.length {l : List MEnt} {l' : List MapEntry} (h : MRel r l l') : l.length = l'.length := by
  induction h with
  | nil => rfl
  | cons _ _ _ _ ih => simp [ih]
theorem MRel.append {l m : List MEnt} {l' m' : List MapEntry} (h : MRel r l l') (k : MRel r m m') : MRel r (l ++ m) (l' ++ m') := by
  induction h with
  | nil => exact k
  | cons h1 h2 h3 _ ih => exact .cons h1 h2 h3 ih
theorem MRel.erase {l : List MEnt} {l' : List MapEntry} (h : MRel r l l') (i : Nat) : MRel r (l.eraseIdx i) (l'.eraseIdx i) := by
  induction h generalizing i with
  | nil => simp; exact .nil
  | cons h1 h2 h3 h4 ih => cases i with
    | zero => simpa using h4
    | succ i => simpa using MRel.cons h1 h2 h3 (ih i)
theorem MRel.set {l : List MEnt} {l' : List MapEntry} (h : MRel r l l') (i : Nat) {m : MEnt} {f : MapEntry → MapEntry} (hf : ∀ e, l'[i]? = some e → VRel r m.key (f e).key ∧ VRel r m.val (f e).val ∧ m.born = (f e).born) : MRel r (l.set i m) (l'.modify i f) := by
  induction h generalizing i with
  | nil => cases i <;> exact .nil
  | cons h1 h2 h3 h4 ih => cases i with
    | zero =>
      obtain ⟨k1, k2, k3⟩ := hf _ rfl
      simpa using MRel.cons k1 k2 k3 h4
    | succ i => simpa using MRel.cons h1 h2 h3 (ih i (fun e he => hf e (by simpa using he)))
/-- the key that was found is the same one -/
theorem findNow_same {kd : TypeDesc} {y : Value} : ∀ {es : List MapEntry} {i j : Nat} {v : Value}, Instr.findNow kd y es i = some (some (j, v)) → ∃ e, i ≤ j ∧ es[j - i]? = some e ∧ Instr.sameNow kd y e.key = some true
  | [], i, j, v, h => by simp [Instr.findNow] at h
  | e :: es, i, j, v, h => by
    simp only [Instr.findNow] at h
    split at h
    · rename_i hs
      simp only [Option.some.injEq, Prod.mk.injEq] at h
      obtain ⟨rfl, _⟩ := h
      exact ⟨e, Nat.le_refl _, by simp, hs⟩
    · obtain ⟨e', h1, h2, h3⟩ := findNow_same h
      refine ⟨e', by omega, ?_, h3⟩
      obtain ⟨m, hm⟩ : ∃ m, j - i = m + 1 := ⟨j - i - 1, by omega⟩
      rw [hm, List.getElem?_cons_succ, ← h2]
      congr 1; omega
    · simp at h
theorem sameBits_of {kd : TypeDesc} {x y : Value} (h : Instr.sameNow kd x y = some true) : Instr.sameBits 10000 y x = true := by
  unfold Instr.sameNow at h
  split at h
  · split at h
    · rename_i hk
      subst hk
      simp only [Option.some.injEq, beq_iff_eq] at h
      subst h
      simp [Instr.sameBits]
    · simp at h
  · rename_i a b
    simp only [Option.some.injEq] at h
    rw [beq_toListBytes, beq_iff_eq] at h
    simp only [Instr.sameBits]
    rw [beq_toListBytes, h, beq_self_eq_true]
  · simp only [Option.some.injEq, beq_iff_eq] at h
    subst h
    simp [Instr.sameBits]
  · simp at h
theorem isKey_agg {kk : KK} {y : Value} (h : isKey kk y = true) : aggOk kk y = true := by
  cases kk with
  | one k => rfl
  | agg n o => simpa [isKey] using h
theorem chkKey_inv {kk : KK} {a : Option Value} {y : Value} (h : a.bind (chkKey kk) = some y) : a = some y ∧ aggOk kk y = true := by
  cases a with
  | none => simp at h
  | some z =>
    simp only [Option.bind_some, chkKey] at h
    split at h
    · rename_i hk; cases h; exact ⟨rfl, hk⟩
    · cases h
theorem findAsk_ok {n : Nat} {offs : List (Nat × Nat)} {kt : TypeId} (hk : keyKind P kt = some (.agg n offs)) {y y' : Value} (hy : VRel r y y') : ∀ {es : List MEnt} {es' : List MapEntry} {i : Nat} {res : Option (Nat × MEnt)}, MRel r es es' → findK (.agg n offs) y es i = some res →
    ∃ res', (Instr.findAsking kt y' es' i).run P w = .ok res' w ∧ FRel r res res' ∧ ∀ j v, res' = some (j, v) → ∃ e, i ≤ j ∧ es'[j - i]? = some e ∧ Instr.sameBits 10000 e.key y' = true
  | [], _, i, res, .nil, h => by
    simp only [findK, Option.some.injEq] at h
    subst h
    exact ⟨none, by simp [Instr.findAsking], trivial, by simp⟩
  | m :: es, e :: es', i, res, .cons h1 h2 hb h3, h => by
    simp only [findK, eqKey] at h
    split at h
    · rename_i hb
      simp only [Option.some.injEq] at h
      subst h
      refine ⟨some (i, e.val), by simp [Instr.findAsking, eqAgg_run hk hb hy h1], ⟨rfl, h2⟩, fun j v hj => ?_⟩
      simp only [Option.some.injEq, Prod.mk.injEq] at hj
      obtain ⟨rfl, _⟩ := hj
      exact ⟨e, Nat.le_refl _, by simp, sameBits_agg hk hb hy h1⟩
    · rename_i hb
      obtain ⟨res', g1, g2, g3⟩ := findAsk_ok hk hy h3 h
      refine ⟨res', by simp [Instr.findAsking, eqAgg_run hk hb hy h1, g1], g2, fun j v hj => ?_⟩
      obtain ⟨e', k1, k2, k3⟩ := g3 j v hj
      obtain ⟨q, hq⟩ : ∃ q, j - i = q + 1 := ⟨j - i - 1, by omega⟩
      refine ⟨e', by omega, ?_, k3⟩
      rw [hq, List.getElem?_cons_succ, ← k2]
      congr 1; omega
    · simp at h
theorem run_findKey {kk : KK} {kt : TypeId} (hk : keyKind P kt = some kk) {y y' : Value} (hy : VRel r y y') {es : List MEnt} {es' : List MapEntry} {res : Option (Nat × MEnt)} (hm : MRel r es es') (h : findK kk y es 0 = some res) :
    ∃ res', (Instr.findKey kt y' es').run P w = .ok res' w ∧ FRel r res res' ∧ ∀ j v, res' = some (j, v) → ∃ e, es'[j]? = some e ∧ Instr.sameBits 10000 e.key y' = true := by
  cases kk with
  | one k =>
    have hu : ∃ kd, P.underlying kt = some kd := by
      unfold keyKind at hk
      cases hh : P.underlying kt with
      | none => rw [hh] at hk; simp at hk
      | some d => exact ⟨d, rfl⟩
    obtain ⟨kd, hu⟩ := hu
    obtain ⟨res', g1, g2⟩ := findK_ok hu hk hy hm h
    refine ⟨res', by simp only [Instr.findKey, Sem.run_bind, run_underlying hu, Result.andThen_ok, g1, Sem.run_pure], g2, fun j v hj => ?_⟩
    subst hj
    obtain ⟨e1, _, g4, g5⟩ := findNow_same g1
    exact ⟨e1, by simpa using g4, sameBits_of g5⟩
  | agg n offs =>
    obtain ⟨fs, hu, _⟩ := keyKind_agg hk
    cases es' with
    | nil =>
      cases hm
      simp only [findK, Option.some.injEq] at h
      subst h
      exact ⟨none, by simp only [Instr.findKey, Sem.run_bind, run_underlying hu, Result.andThen_ok, Instr.findNow, Sem.run_pure], trivial, by simp⟩
    | cons e es' =>
      obtain ⟨res', g1, g2, g3⟩ := findAsk_ok (w := w) hk hy hm h
      refine ⟨res', ?_, g2, fun j v hj => ?_⟩
      · have hn : Instr.findNow (.struct fs) y' (e :: es') 0 = none := by
          simp only [Instr.findNow, Instr.sameNow]
        simp only [Instr.findKey, Sem.run_bind, run_underlying hu, Result.andThen_ok, hn, g1]
      · obtain ⟨e', _, k2, k3⟩ := g3 j v hj
        exact ⟨e', by simpa using k2, k3⟩
/-- what a key is made of may be compared -/
def CkFine (P : Program) (w : World) (em : Bool) (d : Nat) (t : TypeId) : Prop := ∀ (off : Nat) (offs : List (Nat × Nat)), eqOffs P d t off = some offs → ∀ (D : Nat), d ≤ D → ∀ (xs : List Value) (sh : Sh), shOf P t = some sh → ∀ (x : Value), partOf sh xs off = some x → (Instr.checkKey em D t x).run P w = .ok () w
theorem partOf_agg {n off : Nat} {xs : List Value} {x : Value} (h : partOf (.agg n) xs off = some x) : ∃ c : List Value, x = .agg c.toArray := by
  simp only [partOf] at h
  split at h
  · simp only [Option.some.injEq] at h; exact ⟨_, h.symm⟩
  · simp at h
theorem ck_fine (em : Bool) : ∀ (d : Nat) (t : TypeId), CkFine P w em d t
  | 0, t => by intro off offs h; simp [eqOffs] at h
  | d + 1, t => by
    intro off offs h D hD xs sh hsh x hx
    obtain ⟨D, rfl⟩ : ∃ k, D = k + 1 := ⟨D - 1, by omega⟩
    have hD' : d ≤ D := by omega
    simp only [eqOffs] at h
    split at h
    · rename_i hu; unfold Instr.checkKey; simp only [Sem.run_bind, run_underlying hu, Result.andThen_ok]; rfl
    · rename_i q hu; unfold Instr.checkKey; simp only [Sem.run_bind, run_underlying hu, Result.andThen_ok]; rfl
    · rename_i hu; unfold Instr.checkKey; simp only [Sem.run_bind, run_underlying hu, Result.andThen_ok]; rfl
    · rename_i fs hu
      split at h
      · simp at h
      · split at h
        · rename_i sz hs
          obtain rfl : Sh.agg sz = sh := by unfold shOf at hsh; rw [hu, hs] at hsh; simpa using hsh
          obtain ⟨c, rfl⟩ := partOf_agg hx
          rw [Instr.checkKey]
          simp only [Sem.run_bind, run_underlying hu, Result.andThen_ok]
          rw [← Array.forIn_toList]
          generalize fs.toList = L at h
          induction L generalizing offs with
          | nil => simp
          | cons f L ih =>
            simp only [eqFieldsO] at h
            split at h
            · simp at h
            · rename_i hn
              split at h
              · rename_i s a l h1 h2 h3
                split at h
                · rename_i hsz
                  simp only [Option.some.injEq] at h
                  obtain ⟨sh', e1, e2⟩ := eqOffs_sh h2
                  have e3 : ∀ m, sh' = .agg m → m = s := fun m e => by have := e2 m e; rw [h1] at this; simpa using this.symm
                  obtain ⟨y, p1, p2⟩ := part_part hx hsz e3
                  have r1 := ck_fine em d f.type _ _ h2 D hD' xs sh' e1 y p1
                  simp only [List.forIn_cons, Sem.run_bind, hn, ne_eq, not_false_eq_true, if_true, Result.andThen_ok, part_run e1 p2, r1, Sem.run_pure]
                  exact ih _ h3
                · simp at h
              · simp at h
        · simp at h
    · rename_i n e hu
      split at h
      · rename_i s sz h1 hs
        obtain rfl : Sh.agg sz = sh := by unfold shOf at hsh; rw [hu, hs] at hsh; simpa using hsh
        obtain ⟨c, rfl⟩ := partOf_agg hx
        rw [Instr.checkKey]
        simp only [Sem.run_bind, run_underlying hu, Result.andThen_ok]
        simp only [Std.Legacy.Range.forIn_eq_forIn_range', Std.Legacy.Range.size, Nat.sub_zero, Nat.add_one_sub_one, Nat.div_one]
        rw [List.range_eq_range'] at h
        generalize List.range' 0 n = is at h
        induction is generalizing offs with
        | nil => simp
        | cons j is ih =>
          simp only [eqItemsO] at h
          split at h
          · rename_i a l h2 h3
            split at h
            · rename_i hsz
              simp only [Option.some.injEq] at h
              obtain ⟨sh', e1, e2⟩ := eqOffs_sh h2
              have e3 : ∀ m, sh' = .agg m → m = s := fun m e' => by have := e2 m e'; rw [h1] at this; simpa using this.symm
              obtain ⟨y, p1, p2⟩ := part_part hx hsz e3
              have r1 := ck_fine em d e _ _ h2 D hD' xs sh' e1 y p1
              simp only [List.forIn_cons, Sem.run_bind, run_sizeOf h1, Result.andThen_ok, part_run e1 p2, r1, Sem.run_pure]
              exact ih _ h3
            · simp at h
          · simp at h
      · simp at h
    · simp at h
theorem run_checkKey {kk : KK} {kt : TypeId} (hk : keyKind P kt = some kk) {y y' : Value} (ha : aggOk kk y = true) (hy : VRel r y y') (b : Bool) : (Instr.checkKey b 10000 kt y').run P w = .ok () w := by
  cases kk with
  | one k =>
    unfold keyKind at hk
    unfold Instr.checkKey
    split at hk
    · rename_i hu; simp only [Sem.run_bind, run_underlying hu, Result.andThen_ok]; rfl
    · rename_i q hu; simp only [Sem.run_bind, run_underlying hu, Result.andThen_ok]; rfl
    · rename_i hu; simp only [Sem.run_bind, run_underlying hu, Result.andThen_ok]; rfl
    · split at hk <;> first | (split at hk <;> simp at hk; done) | (simp at hk; done)
    · simp at hk
  | agg n offs =>
    obtain ⟨fs, _, h2, h3, h4, _⟩ := keyKind_agg hk
    cases hy with
    | agg h5 h6 =>
      rename_i xs xs'
      have hl : xs.toList.length = n := by simpa [aggOk] using ha
      have hxs := LRel.of h5 h6
      have px : partOf (.agg n) xs'.toList 0 = some (.agg xs') := by
        simp only [partOf]
        rw [if_pos (by have := hxs.length; omega), List.drop_zero, List.take_of_length_le (by have := hxs.length; omega)]
      exact ck_fine b 8 kt 0 offs h3 10000 (by decide) _ _ h4 _ px
    | _ => simp [aggOk] at ha
theorem map_upd {b : Nat} {es : Array MapEntry} {cl : Nat} (h : w.heap[b]? = some (.map es cl)) (o : Obj) : Upd w { w with heap := w.heap.setIfInBounds b o } b o where
  here := by
    have hlt := (Array.getElem?_eq_some_iff.1 h).1
    simp [hlt]
  there := fun k hk => by simp only; rw [Array.getElem?_setIfInBounds, if_neg (Ne.symm hk)]
  size := by simp
  os := rfl
  tape := rfl
  output := rfl

section
variable {call : Tgt → List Value → M Value} {e : Env} {tmps : Array Value} {v : Value} {o : Oper} {aop : AOp}

theorem did_mkmap {t : TypeId} {h : Option Operand} (ho : o.op = .makeMap t h) (hc : compOp0 P o.op = some aop) (he : exec call e aop S = some (v, S')) (hr : Rel P r S w) (hE : EnvRel r e tmps) (hf : Fresh r S S') : Did P r S w S' v tmps o := by
  rw [ho] at hc
  simp only [compOp0, Option.bind_eq_bind, Option.bind_eq_some_iff] at hc
  obtain ⟨d, hd, hc⟩ := hc
  split at hc
  · rename_i kt el
    simp only [Option.bind_eq_some_iff, Option.some.injEq] at hc
    obtain ⟨a, ha, rfl⟩ := hc
    simp only [exec, M.bind_some, M.lift_some, M.pure_some] at he
    obtain ⟨_, S0, ⟨h1, hS⟩, b, S1, h2, rfl, rfl⟩ := he
    subst hS
    obtain ⟨rfl, rfl⟩ := nw_some.1 h2
    have hdm : ¬ r.dom S0.next := hf _ (Nat.le_refl _) (by simp)
    have := sim_new (P := P) (D := []) (base := 0) (size := 0) (ext := none) (b := .map [] 0) (S' := { heap := S0.heap.set S0.next (some (.map [] 0)), next := S0.next + 1, log := S0.log }) hr hdm rfl rfl rfl (alloc_new w (.map #[] 0)) ⟨rfl, MRel.nil⟩
    refine ⟨[], _, _, .map (some w.heap.size), this, ?_, .inl ?_⟩
    · have := VRel.map (r := r.add S0.next w.heap.size 0 0 none) (b := S0.next) (Ren.add_dom ..)
      rw [Ren.add_to] at this; exact this
    · cases h with
      | none => simp [execOp, ho, Instr.makeMap]
      | some x =>
        simp only [atomO, Option.map_eq_some_iff] at ha
        obtain ⟨a', ha', rfl⟩ := ha
        simp only [hintOk, Option.map_eq_some_iff, Option.bind_eq_some_iff] at h1
        obtain ⟨n, ⟨xv, hx, hn⟩, _⟩ := h1
        obtain ⟨kn, rfl⟩ := asInt_inv hn
        have := (atom_ok ha' hx hE).int_inv
        simp [execOp, ho, Instr.makeMap, run_underlying hd, this, Go.asInt, asIntOf]
  · simp at hc
theorem zeroV_run {t : TypeId} {z : Value} (h : zeroV P t = some z) : (zeroValue t).run P w = .ok z w ∧ plain z = true := by
  unfold zeroV at h
  split at h
  · rename_i i hi
    split at h
    · rename_i v hv
      split at h
      · rename_i hp
        simp only [Option.some.injEq] at h
        subst h
        exact ⟨run_zeroValue hi hv, hp⟩
      · simp at h
    · simp at h
  · simp at h
theorem did_mget {t : TypeId} {x i : Operand} {ok : Bool} (ho : o.op = .lookup t x i ok) (hc : compOp0 P o.op = some aop) (he : exec call e aop S = some (v, S')) (hr : Rel P r S w) (hE : EnvRel r e tmps) : Did P r S w S' v tmps o := by
  rw [ho] at hc
  simp only [compOp0, Option.bind_eq_bind, Option.bind_eq_some_iff] at hc
  obtain ⟨d, hd, hc⟩ := hc
  split at hc
  · rename_i kt el
    simp only [Option.bind_eq_some_iff, Option.some.injEq] at hc
    obtain ⟨kk, hkk, z, hz, a, ha, b, hb, rfl⟩ := hc
    obtain ⟨hz1, hz2⟩ := zeroV_run (w := w) hz
    simp only [exec, M.bind_some, M.lift_some] at he
    obtain ⟨xv, _, ⟨h1, rfl⟩, yv, _, ⟨h2, rfl⟩, he⟩ := he
    obtain ⟨h2, hag⟩ := chkKey_inv h2
    have hx := atom_ok ha h1 hE
    have hy := atom_ok hb h2 hE
    have none_rel : VRel r (mres ok z none) (if ok then .tuple #[z, .bool false] else z) := by
      cases ok with
      | true => exact LRel.tuple (l := [z, .bool false]) (l' := [z, .bool false]) (.cons (plain_rel hz2) (.cons (.bool _) .nil))
      | false => exact plain_rel hz2
    split at he
    · obtain ⟨rfl, rfl⟩ := M.pure_some.1 he
      have hxe := hx.mapNil_inv
      refine did_pure hr none_rel ?_
      obtain ⟨res0, f1, f2, _⟩ := run_findKey (w := w) (es := []) (es' := []) (res := none) hkk hy .nil rfl
      obtain rfl : none = res0 := by cases res0 with | none => rfl | some _ => exact f2.elim
      simp only [execOp, ho, hxe, Instr.lookup, Sem.run_bind, run_underlying hd, Result.andThen_ok, Sem.run_pure, run_checkKey hkk hag hy, f1, hz1]
    · rename_i mb
      simp only [M.bind_some, rd_some] at he
      obtain ⟨o1, _, ⟨hg, rfl⟩, he⟩ := he
      split at he
      · rename_i es cl
        simp only [M.bind_some, M.lift_some, M.pure_some] at he
        obtain ⟨res, _, ⟨hfk, rfl⟩, rfl, rfl⟩ := he
        obtain ⟨_, hxe⟩ := hx.map_inv
        obtain ⟨es', hw, hm⟩ := map_at hr hg
        obtain ⟨res', g1, g2, _⟩ := run_findKey (w := w) hkk hy hm hfk
        refine ⟨_, _, _, (match res' with | some (_, v') => if ok then .tuple #[v', .bool true] else v' | none => if ok then .tuple #[z, .bool false] else z), sim_log hr (D := [(mb, false)]) rfl rfl rfl, ?_, .inl ?_⟩
        · rcases res with _ | ⟨j, v1⟩ <;> rcases res' with _ | ⟨j', v1'⟩ <;> first | exact g2.elim | skip
          · exact none_rel
          · obtain ⟨rfl, g3⟩ := g2
            cases ok with
            | true => exact LRel.tuple (l := [v1.val, .bool true]) (l' := [v1', .bool true]) (.cons g3 (.cons (.bool _) .nil))
            | false => exact g3
        · simp only [execOp, ho, hxe, Instr.lookup, Sem.run_bind, run_underlying hd, Result.andThen_ok, run_getMap hw, Sem.run_pure, run_checkKey hkk hag hy, g1]
          cases res' with
          | none => simp [hz1]
          | some p => obtain ⟨j, v'⟩ := p; simp
      · exact (M.fail_some.1 he).elim
    · exact (M.fail_some.1 he).elim
  · simp at hc
theorem did_mset {t : TypeId} {m k x : Operand} (ho : o.op = .mapUpdate t m k x ∨ o.op = .insert t m k x) (hc : compOp0 P o.op = some aop) (he : exec call e aop S = some (v, S')) (hr : Rel P r S w) (hE : EnvRel r e tmps) : Did P r S w S' v tmps o := by
  have hru : execOp (evT tmps) o = (do Instr.mapUpdate t (evT tmps m) (evT tmps k) (evT tmps x); pure .skip) := by
    rcases ho with ho | ho <;> simp [execOp, ho]
  have hc : compOp0 P (.mapUpdate t m k x) = some aop := by rcases ho with ho | ho <;> (rw [ho] at hc; exact hc)
  simp only [compOp0, Option.bind_eq_bind, Option.bind_eq_some_iff] at hc
  obtain ⟨d, hd, hc⟩ := hc
  split at hc
  · rename_i kt el
    simp only [Option.bind_eq_some_iff, Option.some.injEq] at hc
    obtain ⟨kk, hkk, a, ha, b, hb, c, hcc, rfl⟩ := hc
    simp only [exec, M.bind_some, M.lift_some] at he
    obtain ⟨xv, _, ⟨h1, rfl⟩, yv, _, ⟨h2, rfl⟩, zv, _, ⟨h3, rfl⟩, he⟩ := he
    have hx := atom_ok ha h1 hE
    have hy := atom_ok hb h2 hE
    have hzr := atom_ok hcc h3 hE
    split at he
    · rename_i mb
      simp only [M.bind_some, rd_some] at he
      obtain ⟨o1, _, ⟨hg, rfl⟩, he⟩ := he
      split at he
      · rename_i es cl
        split at he
        · rename_i hkey
          simp only [M.bind_some, M.lift_some, M.pure_some] at he
          obtain ⟨res, _, ⟨hfk, rfl⟩, _, S1, hwr, rfl, rfl⟩ := he
          simp only [wr_some] at hwr
          subst hwr
          obtain ⟨_, hxe⟩ := hx.map_inv
          obtain ⟨es', hw, hm⟩ := map_at hr hg
          have hag := isKey_agg hkey
          obtain ⟨res', gf, g2, g1⟩ := run_findKey (w := w) hkk hy hm hfk
          rcases res with _ | ⟨j, v1⟩ <;> rcases res' with _ | ⟨j', v1'⟩ <;> first | exact g2.elim | skip
          · have hnew : BRel P r mb (mput yv zv es cl none) (.map (es'.push { key := evT tmps k, val := evT tmps x, born := cl }) (cl + 1)) := by
              refine ⟨rfl, ?_⟩
              simp only [Array.toList_push]
              exact hm.append (.cons hy hzr rfl .nil)
            refine ⟨_, _, _, undef, sim_upd hr (D := [(mb, true), (mb, false)]) hg rfl rfl rfl (by simp) (map_upd hw (.map (es'.push { key := evT tmps k, val := evT tmps x, born := cl }) (cl + 1))) hnew, undef_rel, .inr ⟨?_, rfl⟩⟩
            rw [hru]; simp only [hxe, Instr.mapUpdate, Sem.run_bind, run_underlying hd, Result.andThen_ok, run_getMap hw, run_checkKey hkk hag hy, gf, run_setMap _ hw, Sem.run_pure]
          · obtain ⟨rfl, g3⟩ := g2
            have hj : es[j]? = some v1 := by simpa using (findK_at hfk).2
            have hnew : BRel P r mb (mput yv zv es cl (some (j, v1))) (.map (es'.modify j fun e => { e with key := evT tmps k, val := evT tmps x }) cl) := by
              refine ⟨rfl, ?_⟩
              simp only [Array.toList_modify]
              obtain ⟨e0, q1, _, _, q4⟩ := hm.at hj
              exact hm.set j (fun e he => ⟨hy, hzr, by rw [q1] at he; cases he; exact q4⟩)
            refine ⟨_, _, _, undef, sim_upd hr (D := [(mb, true), (mb, false)]) hg rfl rfl rfl (by simp) (map_upd hw (.map (es'.modify j fun e => { e with key := evT tmps k, val := evT tmps x }) cl)) hnew, undef_rel, .inr ⟨?_, rfl⟩⟩
            obtain ⟨e1, g4, g5⟩ := g1 _ _ rfl
            have g4' : es'[j]? = some e1 := by simpa using g4
            have hst : (Instr.keyThatStays e1.key (evT tmps k)).run P w = .ok (evT tmps k) w := by
              simp only [Instr.keyThatStays, g5, if_true, Sem.run_pure]
            rw [hru]; simp only [hxe, Instr.mapUpdate, Sem.run_bind, run_underlying hd, Result.andThen_ok, run_getMap hw, run_checkKey hkk hag hy, gf, g4', Option.map_some, Option.getD_some, hst, run_setMap _ hw, Sem.run_pure]
        · exact (M.fail_some.1 he).elim
      · exact (M.fail_some.1 he).elim
    · exact (M.fail_some.1 he).elim
  · simp at hc
theorem did_ment {t : TypeId} {m k : Operand} (ho : o.op = .mapEntry t m k) (hc : compOp0 P o.op = some aop) (he : exec call e aop S = some (v, S')) (hr : Rel P r S w) (hE : EnvRel r e tmps) : Did P r S w S' v tmps o := by
  rw [ho] at hc
  simp only [compOp0, Option.bind_eq_bind, Option.bind_eq_some_iff] at hc
  obtain ⟨d, hd, hc⟩ := hc
  split at hc
  · rename_i kt el
    simp only [Option.bind_eq_some_iff, Option.some.injEq] at hc
    obtain ⟨kk, hkk, z, hz, a, ha, b, hb, rfl⟩ := hc
    obtain ⟨hz1, hz2⟩ := zeroV_run (w := w) hz
    simp only [exec, M.bind_some, M.lift_some] at he
    obtain ⟨xv, _, ⟨h1, rfl⟩, yv, _, ⟨h2, rfl⟩, he⟩ := he
    have hx := atom_ok ha h1 hE
    have hy := atom_ok hb h2 hE
    split at he
    · rename_i mb
      simp only [M.bind_some, rd_some] at he
      obtain ⟨o1, _, ⟨hg, rfl⟩, he⟩ := he
      split at he
      · rename_i es cl
        split at he
        · rename_i hkey
          simp only [M.bind_some, M.lift_some, M.pure_some] at he
          obtain ⟨res, _, ⟨hfk, rfl⟩, _, S1, hwr, rfl, rfl⟩ := he
          simp only [wr_some] at hwr
          subst hwr
          obtain ⟨_, hxe⟩ := hx.map_inv
          obtain ⟨es', hw, hm⟩ := map_at hr hg
          have hag := isKey_agg hkey
          obtain ⟨res', gf, g2, g1⟩ := run_findKey (w := w) hkk hy hm hfk
          rcases res with _ | ⟨j, v1⟩ <;> rcases res' with _ | ⟨j', v1'⟩ <;> first | exact g2.elim | skip
          · have hnew : BRel P r mb (mkeep yv z es cl none) (.map (es'.push { key := evT tmps k, val := z, born := cl }) (cl + 1)) := by
              refine ⟨rfl, ?_⟩
              simp only [Array.toList_push]
              exact hm.append (.cons hy (plain_rel hz2) rfl .nil)
            refine ⟨_, _, _, .tuple #[z, goInt cl], sim_upd hr (D := [(mb, true), (mb, false)]) hg rfl rfl rfl (by simp) (map_upd hw (.map (es'.push { key := evT tmps k, val := z, born := cl }) (cl + 1))) hnew,
              LRel.tuple (l := [z, .int .i64 cl]) (l' := [z, .int .i64 cl]) (.cons (plain_rel hz2) (.cons (.int _ _) .nil)), .inl ?_⟩
            simp only [execOp, ho, hxe, Instr.mapEntry, Sem.run_bind, run_underlying hd, Result.andThen_ok, run_getMap hw, run_checkKey hkk hag hy, gf, hz1, run_setMap _ hw, Sem.run_pure]
          · obtain ⟨rfl, g3⟩ := g2
            have hj : es[j]? = some v1 := by simpa using (findK_at hfk).2
            obtain ⟨e0, q1, _, q3, q4⟩ := hm.at hj
            have q1' : es'[j]? = some e0 := by simpa using q1
            have hnew : BRel P r mb (mkeep yv z es cl (some (j, v1))) (.map (es'.modify j fun e => { e with key := evT tmps k }) cl) := by
              refine ⟨rfl, ?_⟩
              simp only [Array.toList_modify]
              exact hm.set j (fun e he => by rw [q1] at he; cases he; exact ⟨hy, q3, q4⟩)
            refine ⟨_, _, _, .tuple #[v1', goInt v1.born], sim_upd hr (D := [(mb, true), (mb, false)]) hg rfl rfl rfl (by simp) (map_upd hw (.map (es'.modify j fun e => { e with key := evT tmps k }) cl)) hnew,
              LRel.tuple (l := [v1.val, .int .i64 v1.born]) (l' := [v1', .int .i64 v1.born]) (.cons g3 (.cons (.int _ _) .nil)), .inl ?_⟩
            obtain ⟨e1, g4, g5⟩ := g1 _ _ rfl
            have g4' : es'[j]? = some e1 := by simpa using g4
            obtain rfl : e1 = e0 := by rw [g4'] at q1'; simpa using q1'
            have hst : (Instr.keyThatStays e1.key (evT tmps k)).run P w = .ok (evT tmps k) w := by
              simp only [Instr.keyThatStays, g5, if_true, Sem.run_pure]
            simp only [execOp, ho, hxe, Instr.mapEntry, Sem.run_bind, run_underlying hd, Result.andThen_ok, run_getMap hw, run_checkKey hkk hag hy, gf, g4', Option.map_some, Option.getD_some, hst, run_setMap _ hw, Sem.run_pure, q4]
        · exact (M.fail_some.1 he).elim
      · exact (M.fail_some.1 he).elim
    · exact (M.fail_some.1 he).elim
  · simp at hc
theorem findBorn_ok {t : Int} : ∀ {es : List MEnt} {es' : List MapEntry} {i j : Nat} {m : MEnt}, MRel r es es' → findBorn t es i = some (j, m) → i ≤ j ∧ es'.findIdx? (fun e => (e.born : Int) == t) = some (j - i) ∧ es[j - i]? = some m
  | [], _, i, j, m, .nil, h => by simp [findBorn] at h
  | m0 :: es, e :: es', i, j, m, .cons h1 h2 h3 h4, h => by
    simp only [findBorn] at h
    rw [h3] at h
    split at h
    · rename_i hb
      simp only [Option.some.injEq, Prod.mk.injEq] at h
      obtain ⟨rfl, rfl⟩ := h
      exact ⟨Nat.le_refl _, by rw [List.findIdx?_cons, if_pos hb]; simp, by simp⟩
    · rename_i hb
      obtain ⟨k1, k2, k3⟩ := findBorn_ok h4 h
      obtain ⟨q, hq⟩ : ∃ q, j - i = q + 1 := ⟨j - i - 1, by omega⟩
      have hq2 : j - (i + 1) = q := by omega
      rw [hq2] at k2 k3
      exact ⟨by omega, by rw [List.findIdx?_cons, if_neg hb, k2, hq]; rfl, by rw [hq, List.getElem?_cons_succ]; exact k3⟩
theorem did_mfill {t : TypeId} {m s x : Operand} (ho : o.op = .entryStore t m s x) (hc : compOp0 P o.op = some aop) (he : exec call e aop S = some (v, S')) (hr : Rel P r S w) (hE : EnvRel r e tmps) : Did P r S w S' v tmps o := by
  rw [ho] at hc
  simp only [compOp0, Option.bind_eq_bind, Option.bind_eq_some_iff, Option.some.injEq] at hc
  obtain ⟨a, ha, b, hb, c, hcc, rfl⟩ := hc
  simp only [exec, M.bind_some, M.lift_some, Option.bind_eq_some_iff] at he
  obtain ⟨xv, _, ⟨h1, rfl⟩, tv, _, ⟨⟨sv, h2, h2'⟩, rfl⟩, zv, _, ⟨h3, rfl⟩, he⟩ := he
  obtain ⟨kn, rfl⟩ := asInt_inv h2'
  have hx := atom_ok ha h1 hE
  have hs := (atom_ok hb h2 hE).int_inv
  have hzr := atom_ok hcc h3 hE
  split at he
  · rename_i mb
    simp only [M.bind_some, rd_some] at he
    obtain ⟨o1, _, ⟨hg, rfl⟩, he⟩ := he
    split at he
    · rename_i es cl
      simp only [M.bind_some, M.lift_some, M.pure_some] at he
      obtain ⟨⟨j, m0⟩, _, ⟨hfk, rfl⟩, _, S1, hwr, rfl, rfl⟩ := he
      simp only [wr_some] at hwr
      subst hwr
      obtain ⟨_, hxe⟩ := hx.map_inv
      obtain ⟨es', hw, hm⟩ := map_at hr hg
      obtain ⟨_, g1, g2⟩ := findBorn_ok hm hfk
      simp only [Nat.sub_zero] at g1 g2
      have g1' : es'.findIdx? (fun e => (e.born : Int) == tv) = some j := by rw [show es' = es'.toList.toArray by simp, List.findIdx?_toArray]; exact g1
      obtain ⟨e0, q1, q2, _, q4⟩ := hm.at g2
      have hnew : BRel P r mb (.map (es.set j ⟨m0.key, zv, m0.born⟩) cl) (.map (es'.modify j fun e => { e with val := evT tmps x }) cl) := by
        refine ⟨rfl, ?_⟩
        simp only [Array.toList_modify]
        exact hm.set j (fun e he => by rw [q1] at he; cases he; exact ⟨q2, hzr, q4⟩)
      refine ⟨_, _, _, undef, sim_upd hr (D := [(mb, true), (mb, false)]) hg rfl rfl rfl (by simp) (map_upd hw (.map (es'.modify j fun e => { e with val := evT tmps x }) cl)) hnew, undef_rel, .inr ⟨?_, rfl⟩⟩
      simp only [execOp, ho, hxe, hs, Instr.entryStore, Sem.run_bind, Result.andThen_ok, run_getMap hw, Go.asInt, asIntOf, Sem.run_pure, g1', run_setMap _ hw]
    · exact (M.fail_some.1 he).elim
  · exact (M.fail_some.1 he).elim
theorem did_mdel {c : Call} (hcal : c.callee = .builtin .delete) (ho : o.op = .call c) (hc : compBuiltin P .delete c.argTypes c.args = some aop) (he : exec call e aop S = some (v, S')) (hr : Rel P r S w) (hE : EnvRel r e tmps) (hargs : ∀ {i : Nat} {x : Operand}, c.args[i]? = some x → (c.args.map (evT tmps))[i]? = some (evT tmps x)) :
    Did P r S w S' v tmps o := by
  have hrun : (execOp (evT tmps) o) = (do pure (.value (← Builtin.delete_ c.argTypes o.type (c.args.map (evT tmps))))) := by simp [execOp, ho, resolve, hcal, invoke, builtin]
  simp only [compBuiltin, Option.bind_eq_bind, Option.bind_eq_some_iff] at hc
  obtain ⟨m, hm, a, ha, k, hk, b, hb, mt, hmt, md, hmd, hc⟩ := hc
  have hm' := hargs hm
  have hk' := hargs hk
  split at hc
  · rename_i kt el
    simp only [Option.bind_eq_some_iff, Option.some.injEq] at hc
    obtain ⟨kk, hkk, rfl⟩ := hc
    simp only [exec, M.bind_some, M.lift_some] at he
    obtain ⟨xv, _, ⟨h1, rfl⟩, yv, _, ⟨h2, rfl⟩, he⟩ := he
    obtain ⟨h2, hag⟩ := chkKey_inv h2
    have hx := atom_ok ha h1 hE
    have hy := atom_ok hb h2 hE
    split at he
    · obtain ⟨rfl, rfl⟩ := M.pure_some.1 he
      have hxe := hx.mapNil_inv
      refine did_pure hr undef_rel ?_
      rw [hrun]
      simp only [Builtin.delete_, hmt, hm', hk', hxe, Sem.run_bind, run_underlying hmd, Result.andThen_ok, run_checkKey hkk hag hy, Sem.run_pure, undef]
    · rename_i mb
      simp only [M.bind_some, rd_some] at he
      obtain ⟨o1, _, ⟨hg, rfl⟩, he⟩ := he
      split at he
      · rename_i es cl
        simp only [M.bind_some, M.lift_some, M.pure_some] at he
        obtain ⟨res, _, ⟨hfk, rfl⟩, _, S1, hwr, rfl, rfl⟩ := he
        simp only [wr_some] at hwr
        subst hwr
        obtain ⟨_, hxe⟩ := hx.map_inv
        obtain ⟨es', hw, hmr⟩ := map_at hr hg
        obtain ⟨res', g1, g2, _⟩ := run_findKey (w := w) hkk hy hmr hfk
        rcases res with _ | ⟨j, v1⟩ <;> rcases res' with _ | ⟨j', v1'⟩ <;> first | exact g2.elim | skip
        · refine ⟨_, _, _, undef, sim_upd hr (D := [(mb, true), (mb, false)]) hg rfl rfl rfl (by simp) (map_upd hw (.map es' cl)) (show BRel P r mb (.map (mcut es none) cl) (.map es' cl) from ⟨rfl, hmr⟩), undef_rel, .inl ?_⟩
          rw [hrun]
          simp only [Builtin.delete_, hmt, hm', hk', hxe, Sem.run_bind, run_underlying hmd, Result.andThen_ok, run_getMap hw, run_checkKey hkk hag hy, g1, run_setMap _ hw, Sem.run_pure, undef]
        · obtain ⟨rfl, g3⟩ := g2
          have hnew : BRel P r mb (.map (mcut es (some (j, v1))) cl) (.map (es'.eraseIdxIfInBounds j) cl) := by
            refine ⟨rfl, ?_⟩
            simp only [mcut, Array.toList_eraseIdxIfInBounds]
            exact hmr.erase j
          refine ⟨_, _, _, undef, sim_upd hr (D := [(mb, true), (mb, false)]) hg rfl rfl rfl (by simp) (map_upd hw (.map (es'.eraseIdxIfInBounds j) cl)) hnew, undef_rel, .inl ?_⟩
          rw [hrun]
          simp only [Builtin.delete_, hmt, hm', hk', hxe, Sem.run_bind, run_underlying hmd, Result.andThen_ok, run_getMap hw, run_checkKey hkk hag hy, g1, run_setMap _ hw, Sem.run_pure, undef]
      · exact (M.fail_some.1 he).elim
    · exact (M.fail_some.1 he).elim
  · simp at hc
theorem decA_eq (s : ByteArray) (pos : Nat) : decA s pos = Utf8.decode s pos := by
  unfold decA
  split
  · rename_i b hb
    split
    · rename_i h
      have hlt : b.toNat < 128 := by simpa using h
      have hp : pos < s.data.toList.length := (List.getElem?_eq_some_iff.1 hb).1
      have hg : s.get! pos = b := by
        have h1 : s.data[pos]? = some b := by simpa using hb
        show s.data[pos]! = b
        simp [getElem!_def, h1]
      simp only [Utf8.decode, Nat.add_zero, hg, hlt, if_true]
    · rfl
  · rfl
theorem run_getIter {b pos : Nat} {s : ByteArray} (h : w.heap[b]? = some (.stringIter s pos)) : (getObj b).run P w = .ok (.stringIter s pos) w := by simp [getObj, Sem.run, h]
theorem run_setIter {b pos : Nat} {s : ByteArray} (o : Obj) (h : w.heap[b]? = some (.stringIter s pos)) : (setObj b o).run P w = .ok () { w with heap := w.heap.setIfInBounds b o } := by
  simp [setObj, Sem.run, h]
theorem iter_upd {b pos : Nat} {s : ByteArray} (h : w.heap[b]? = some (.stringIter s pos)) (o : Obj) : Upd w { w with heap := w.heap.setIfInBounds b o } b o where
  here := by
    have hlt := (Array.getElem?_eq_some_iff.1 h).1
    simp [hlt]
  there := fun k hk => by simp only; rw [Array.getElem?_setIfInBounds, if_neg (Ne.symm hk)]
  size := by simp
  os := rfl
  tape := rfl
  output := rfl
theorem did_srange {t : TypeId} {x : Operand} (ho : o.op = .range t x) (hc : compOp0 P o.op = some aop) (he : exec call e aop S = some (v, S')) (hr : Rel P r S w) (hE : EnvRel r e tmps) (hf : Fresh r S S') : Did P r S w S' v tmps o := by
  rw [ho] at hc
  simp only [compOp0, Option.bind_eq_bind, Option.bind_eq_some_iff] at hc
  obtain ⟨d, hd, hc⟩ := hc
  split at hc
  · simp only [Option.bind_eq_some_iff, Option.some.injEq] at hc
    obtain ⟨a, ha, rfl⟩ := hc
    simp only [exec, M.bind_some, M.lift_some] at he
    obtain ⟨xv, S0, ⟨h1, hS⟩, he⟩ := he
    subst hS
    have hx := atom_ok ha h1 hE
    split at he
    · rename_i s
      simp only [M.bind_some, M.pure_some] at he
      obtain ⟨b, S1, h2, rfl, rfl⟩ := he
      obtain ⟨rfl, rfl⟩ := nw_some.1 h2
      have hxe := hx.string_inv
      have hdm : ¬ r.dom S0.next := hf _ (Nat.le_refl _) (by simp)
      have hs := sim_new (P := P) (D := []) (base := 0) (size := 0) (ext := none) (b := .iter s 0) (S' := { heap := S0.heap.set S0.next (some (.iter s 0)), next := S0.next + 1, log := S0.log }) hr hdm rfl rfl rfl (alloc_new w (.stringIter s 0)) ⟨Ren.add_base .., rfl, rfl⟩
      refine ⟨[], _, _, .pointer (some ⟨w.heap.size, 0, none⟩), hs, ?_, .inl ?_⟩
      · exact ptr_of (Ren.add_dom ..) (Ren.add_to ..) (Ren.add_base ..)
      · simp only [execOp, ho, hxe, Instr.range, Sem.run_bind, run_underlying hd, Result.andThen_ok, Sem.run_pure, run_newObj]
    · exact (M.fail_some.1 he).elim
  · simp at hc
theorem did_snext {x : Operand} {s : Bool} (ho : o.op = .next x s) (hc : compOp0 P o.op = some aop) (he : exec call e aop S = some (v, S')) (hr : Rel P r S w) (hE : EnvRel r e tmps) : Did P r S w S' v tmps o := by
  rw [ho] at hc
  simp only [compOp0] at hc
  cases s with
  | false => simp at hc
  | true =>
    simp only [if_true, Option.bind_eq_bind, Option.bind_eq_some_iff, Option.some.injEq] at hc
    obtain ⟨a, ha, rfl⟩ := hc
    simp only [exec, M.bind_some, M.lift_some] at he
    obtain ⟨xv, S0, ⟨h1, hS⟩, he⟩ := he
    subst hS
    have hx := atom_ok ha h1 hE
    split at he
    · rename_i p
      simp only [M.bind_some, rd_some] at he
      obtain ⟨o1, _, ⟨hg, rfl⟩, he⟩ := he
      split at he
      · rename_i st pos
        obtain ⟨_, hdm, hxe⟩ := hx.ptr_inv
        obtain ⟨_, ob, hw, hb⟩ := hr.at_ _ _ hg
        cases ob <;> try exact hb.elim
        rename_i st' pos'
        obtain ⟨hb0, rfl, rfl⟩ := hb
        have hsz : st.data.toList.length = st.size := by rw [Array.length_toList]; rfl
        cases h0 : Nat.beq p.off 0 <;> cases hlt : Nat.blt pos st.data.toList.length <;> rw [h0, hlt] at he <;> dsimp only at he
        case true.true =>
          simp only [M.bind_some, wr_some, M.pure_some] at he
          obtain ⟨_, S1, hwr, rfl, rfl⟩ := he
          subst hwr
          have h0' : p.off = 0 := by simpa using h0
          have hlt' : pos < st.size := by rw [← hsz]; simpa using hlt
          rw [hb0, h0', Nat.add_zero] at hxe
          have hnew : BRel P r p.block (.iter st (pos + (decA st pos).2)) (.stringIter st (pos + (decA st pos).2)) := ⟨hb0, rfl, rfl⟩
          refine ⟨_, _, _, _, sim_upd hr (D := [(p.block, true), (p.block, false)]) hg rfl rfl rfl (by simp) (iter_upd hw (.stringIter st (pos + (decA st pos).2))) hnew,
            LRel.tuple (l := [.bool true, .int .i64 pos, .int .i32 (decA st pos).1]) (l' := [.bool true, .int .i64 pos, .int .i32 (decA st pos).1]) (.cons (.bool _) (.cons (.int _ _) (.cons (.int _ _) .nil))), .inl ?_⟩
          simp only [execOp, ho, hxe, Instr.next, Sem.run_bind, run_getIter hw, Result.andThen_ok, hlt', if_true, run_setIter _ hw, Sem.run_pure, ← decA_eq, goInt]
        case true.false =>
          obtain ⟨rfl, rfl⟩ := M.pure_some.1 he
          have h0' : p.off = 0 := by simpa using h0
          have hlt' : ¬ pos < st.size := fun hh => by rw [← hsz] at hh; rw [show Nat.blt pos st.data.toList.length = true from Nat.ble_eq_true_of_le hh] at hlt; cases hlt
          rw [hb0, h0', Nat.add_zero] at hxe
          refine ⟨_, _, _, _, sim_log hr (D := [(p.block, false)]) rfl rfl rfl, LRel.tuple (l := [.bool false]) (l' := [.bool false]) (.cons (.bool _) .nil), .inl ?_⟩
          simp only [execOp, ho, hxe, Instr.next, Sem.run_bind, run_getIter hw, Result.andThen_ok, hlt', if_false, Sem.run_pure]
        all_goals exact (M.fail_some.1 he).elim
      · exact (M.fail_some.1 he).elim
    · exact (M.fail_some.1 he).elim
end
end Go.Wb
end
/- The engine, part C10: slice expressions, builtins; all operations but calls of functions. -/
section
set_option linter.unusedSimpArgs false
set_option linter.unusedVariables false
namespace Go.Wb
set_option linter.unusedSectionVars false
variable [GloK]
variable {P : Program} {r : Ren} {S S' : St} {w : World}
theorem bnds_hi {e : Env} {la ha ma : Option Atom} {len cap : Nat} {b : Nat × Nat × Nat} (h : bnds e len cap la ha ma = some b) : b.2.1 = len ∨ b.2.1 ≤ b.2.2 := by
  unfold bnds at h
  split at h
  · simp at h
  · rename_i m hm
    split at h
    · simp at h
    · rename_i hh hhb
      split at h
      · simp at h
      · simp at h
        subst h
        simp only
        cases ha with
        | none => left; simpa [bnd] using hhb.symm
        | some a =>
          right
          simp only [bnd] at hhb
          split at hhb
          · split at hhb
            · simp at hhb; omega
            · simp at hhb
          · simp at hhb

section
variable {call : Tgt → List Value → M Value} {e : Env} {tmps : Array Value} {v : Value} {o : Oper} {aop : AOp}

theorem did_slice {t : TypeId} {x : Operand} {lo hi mx : Option Operand} (ho : o.op = .slice t x lo hi mx) (hc : compOp0 P o.op = some aop) (he : exec call e aop S = some (v, S')) (hr : Rel P r S w) (hE : EnvRel r e tmps) : Did P r S w S' v tmps o := by
  rw [ho] at hc
  simp only [compOp0, Option.bind_eq_bind, Option.bind_eq_some_iff] at hc
  obtain ⟨a, ha, la, hla, hia, hhi, ma, hma, hc⟩ := hc
  split at hc
  · simp at hc
  rename_i hmh
  simp only [Option.bind_eq_some_iff] at hc
  obtain ⟨d, hd, hc⟩ := hc
  have arr : ∀ {n el s : Nat}, sizeT P el = some s → aop = .slcA n s a la hia ma →
      (∀ p : Addr, evT tmps x = .pointer (some p) → (Instr.sliceAt t (evT tmps x) (lo.map (evT tmps)) (hi.map (evT tmps)) (mx.map (evT tmps))).run P w = (do
        let (l, h, m) ← Instr.sliceBounds false n n (lo.map (evT tmps)) (hi.map (evT tmps)) (mx.map (evT tmps))
        let size ← sizeOf el
        pure (.slice (some (if m = l then p else p.add (l * size))) (h - l) (m - l)) : Sem Value).run P w) → Did P r S w S' v tmps o := by
    intro n el s hs haop hrun
    subst haop
    simp only [exec, M.bind_some, M.lift_some] at he
    obtain ⟨xv, _, ⟨h1, rfl⟩, he⟩ := he
    cases xv <;> try (exact (M.fail_some.1 he).elim)
    rename_i p
    cases p with
    | none => exact (M.fail_some.1 he).elim
    | some p =>
      simp only [M.bind_some, M.lift_some, rd_some] at he
      obtain ⟨b, _, ⟨hb, rfl⟩, bk, S1, ⟨hbk, rfl⟩, he⟩ := he
      cases bk with
      | loop => exact (M.fail_some.1 he).elim
      | map => exact (M.fail_some.1 he).elim
      | iter => exact (M.fail_some.1 he).elim
      | ro => exact (M.fail_some.1 he).elim
      | cells ext str cs =>
        cases ext with
        | some z => exact (M.fail_some.1 he).elim
        | none =>
          obtain ⟨rfl, rfl⟩ := M.pure_some.1 he
          obtain ⟨hsp, hdm, hx⟩ := (atom_ok ha h1 hE).ptr_inv
          obtain ⟨hd2, rc, el2, lo2, hi2, l', k1, k2, k3, k4, k5, k6, k7⟩ := cells_at hr hbk
          obtain ⟨m', hb1, hb2, hb3, hb4⟩ := bnds_ok (P := P) (w := w) hE hla hhi hma hmh (Nat.le_refl n) hb false
          obtain rfl : m' = b.2.2 := by rcases hb4 with ⟨_, h, h'⟩ | h <;> omega
          obtain ⟨bk2, of, sp⟩ := p
          simp only at hsp hx hdm k2
          subst hsp
          refine ⟨_, r, w, .slice (some (if b.2.2 = b.1 then ⟨r.to bk2, r.base bk2 + of, none⟩ else (⟨r.to bk2, r.base bk2 + of, none⟩ : Addr).add (b.1 * s))) (b.2.1 - b.1) (b.2.2 - b.1), sim_log hr (D := [(bk2, false)]) rfl rfl rfl, ?_, .inl ?_⟩
          · split
            · exact .slc hdm (fun _ => rfl) (Nat.le_refl _) (fun z hz => by rw [k2] at hz; cases hz)
            · rw [add_none, Nat.add_assoc]
              exact .slc hdm (fun _ => rfl) (Nat.le_refl _) (fun z hz => by rw [k2] at hz; cases hz)
          · simp only [execOp, ho, Sem.run_bind, hrun _ hx, hb1, Result.andThen_ok, run_sizeOf hs, Sem.run_pure]
  split at hc
  · rename_i n el
    simp only [Option.bind_eq_some_iff, Option.some.injEq] at hc
    obtain ⟨s, hs, rfl⟩ := hc
    exact arr hs rfl fun p hp => by simp only [Instr.sliceAt, Sem.run_bind, run_underlying hd, Result.andThen_ok, hp, Instr.sureAddr, Sem.run_pure]
  · split at hc
    · obtain rfl : AOp.slcS a la hia = aop := by simpa using hc
      simp only [exec, M.bind_some, M.lift_some] at he
      obtain ⟨xv, _, ⟨h1, rfl⟩, he⟩ := he
      cases xv <;> try (exact (M.fail_some.1 he).elim)
      rename_i s
      simp only [M.bind_some, M.lift_some, M.pure_some] at he
      obtain ⟨b, _, ⟨hb, rfl⟩, rfl, rfl⟩ := he
      have hx := (atom_ok ha h1 hE).string_inv
      have hma' : ma = none := by simpa [atomO] using hma.symm
      subst hma'
      obtain ⟨m', hb1, hb2, hb3, hb4⟩ := bnds_ok (P := P) (w := w) hE hla hhi (mx := none) (ma := none) rfl (by simp) (Nat.le_refl s.size) hb false
      refine did_pure hr (.string _) ?_
      simp only [execOp, ho, Instr.sliceAt, Instr.slice, Sem.run_bind, run_underlying hd, Result.andThen_ok, hx, Option.map_none, Option.isSome_none, Bool.false_eq_true, if_false]
      simp only [Option.map_none] at hb1
      simp [hb1]
    · simp at hc
  · rename_i el
    simp only [Option.bind_eq_some_iff, Option.some.injEq] at hc
    obtain ⟨s, hs, rfl⟩ := hc
    simp only [exec, M.bind_some, M.lift_some] at he
    obtain ⟨xv, _, ⟨h1, rfl⟩, he⟩ := he
    have hrun : ∀ (q : Option Addr) (len cap : Nat), evT tmps x = .slice q len cap → (execOp (evT tmps) o).run P w = ((Instr.sliceBounds true len cap (lo.map (evT tmps)) (hi.map (evT tmps)) (mx.map (evT tmps))).run P w).andThen fun b w' =>
        .ok (.value (.slice (if b.2.2 = b.1 then q else q.map (·.add (b.1 * s))) (b.2.1 - b.1) (b.2.2 - b.1))) w' := by
      intro q len cap hq
      simp only [execOp, ho, Instr.sliceAt, Instr.slice, Sem.run_bind, run_underlying hd, Result.andThen_ok, hq]
      cases (Instr.sliceBounds true len cap (lo.map (evT tmps)) (hi.map (evT tmps)) (mx.map (evT tmps))).run P w with
      | halt h w' => rfl
      | ok b w' => simp only [Result.andThen_ok, run_sizeOf hs, Sem.run_pure]
    cases xv <;> try (exact (M.fail_some.1 he).elim)
    rotate_left
    · rename_i q
      cases q with
      | some q => exact (M.fail_some.1 he).elim
      | none =>
        simp only [M.bind_some, M.lift_some, M.pure_some] at he
        obtain ⟨b, _, ⟨hb, rfl⟩, rfl, rfl⟩ := he
        obtain ⟨q, hx⟩ := (atom_ok ha h1 hE).token_inv
        obtain ⟨m', hb1, hb2, hb3, hb4⟩ := bnds_ok (P := P) (w := w) hE hla hhi hma hmh (Nat.le_refl 0) hb true
        have hm0 : m' = 0 := by rcases hb4 with ⟨_, _, h⟩ | h <;> omega
        have hh0 : b.2.1 = 0 := by rcases bnds_hi hb with h | h <;> omega
        refine did_pure hr (.slcE q) ?_
        rw [hrun (some q) 0 0 hx, hb1]
        simp only [Result.andThen_ok, hm0, hh0]
        have : b.1 = 0 := by omega
        simp [this]
    rename_i p len cap
    cases p with
    | none =>
      simp only [M.bind_some, M.lift_some, M.pure_some] at he
      obtain ⟨b, _, ⟨hb, rfl⟩, rfl, rfl⟩ := he
      obtain ⟨rfl, rfl, hx⟩ := (atom_ok ha h1 hE).slcNil_inv
      obtain ⟨m', hb1, hb2, hb3, hb4⟩ := bnds_ok (P := P) (w := w) hE hla hhi hma hmh (Nat.le_refl 0) hb true
      have hm0 : m' = 0 := by rcases hb4 with ⟨_, _, h⟩ | h <;> omega
      have hh0 : b.2.1 = 0 := by rcases bnds_hi hb with h | h <;> omega
      refine did_pure hr .slcNil ?_
      rw [hrun none 0 0 hx, hb1]
      simp only [Result.andThen_ok, hm0, hh0]
      have : b.1 = 0 := by omega
      simp [this]
    | some p =>
      simp only [M.bind_some, M.lift_some, rd_some] at he
      obtain ⟨b, _, ⟨hb, rfl⟩, bk, S1, ⟨hbk, rfl⟩, he⟩ := he
      cases bk with
      | loop => exact (M.fail_some.1 he).elim
      | map => exact (M.fail_some.1 he).elim
      | iter => exact (M.fail_some.1 he).elim
      | ro cs =>
        simp only at he
        split at he
        case isFalse => exact (M.fail_some.1 he).elim
        rename_i hhm
        obtain ⟨rfl, rfl⟩ := M.pure_some.1 he
        obtain ⟨hsp, hdm, o', c', hx, hcc, hex, hgr, hor⟩ := (atom_ok ha h1 hE).slc_inv
        obtain ⟨hd2, rc, el2, fz, l', k1, k2, k4, k5⟩ := ro_at hr hbk
        obtain ⟨m', hb1, hb2, hb3, hb4⟩ := bnds_ok (P := P) (w := w) hE hla hhi hma hmh hcc hb true
        obtain ⟨bk2, of, sp⟩ := p
        simp only at hsp hx hdm k2 hex hgr hor
        subst hsp
        have hmm : b.2.2 ≤ m' ∧ m' ≤ c' := by rcases hb4 with ⟨_, h1, h2⟩ | h1 <;> omega
        obtain ⟨rfl, rfl⟩ := hex k2
        obtain rfl : m' = b.2.2 := by rcases hb4 with ⟨_, h1, h2⟩ | h1 <;> omega
        refine ⟨_, r, w, .slice (if b.2.2 = b.1 then some ⟨r.to bk2, r.base bk2 + of, none⟩ else some ((⟨r.to bk2, r.base bk2 + of, none⟩ : Addr).add (b.1 * s))) (b.2.1 - b.1) (b.2.2 - b.1), sim_log hr (D := [(bk2, false)]) rfl rfl rfl, ?_, .inl ?_⟩
        · split
          · rename_i h
            exact .slc hdm (fun _ => rfl) (Nat.le_refl _) (fun z hz => by rw [k2] at hz; cases hz)
          · rename_i h; rw [add_none, Nat.add_assoc]
            exact .slc hdm (fun _ => rfl) (Nat.le_refl _) (fun z hz => by rw [k2] at hz; cases hz)
        · rw [hrun _ _ _ hx, hb1]
          simp only [Result.andThen_ok]
          split <;> rfl
      | cells ext str cs =>
        simp only at he
        split at he
        case isFalse => exact (M.fail_some.1 he).elim
        rename_i hcond
        obtain ⟨hext, hhm⟩ := hcond
        obtain ⟨rfl, rfl⟩ := M.pure_some.1 he
        obtain ⟨hsp, hdm, o', c', hx, hcc, hex, hgr, hor⟩ := (atom_ok ha h1 hE).slc_inv
        obtain ⟨hd2, rc, el2, lo2, hi2, l', k1, k2, k3, k4, k5, k6, k7⟩ := cells_at hr hbk
        obtain ⟨m', hb1, hb2, hb3, hb4⟩ := bnds_ok (P := P) (w := w) hE hla hhi hma hmh hcc hb true
        obtain ⟨bk2, of, sp⟩ := p
        simp only at hsp hx hdm k2 hex hgr hor
        subst hsp
        have hmm : b.2.2 ≤ m' ∧ m' ≤ c' := by rcases hb4 with ⟨_, h1, h2⟩ | h1 <;> omega
        refine ⟨_, r, w, .slice (if m' = b.1 then some ⟨r.to bk2, o', none⟩ else some ((⟨r.to bk2, o', none⟩ : Addr).add (b.1 * s))) (b.2.1 - b.1) (m' - b.1), sim_log hr (D := [(bk2, false)]) rfl rfl rfl, ?_, .inl ?_⟩
        · cases hext with
          | inl hext =>
            subst hext
            obtain ⟨rfl, rfl⟩ := hex k2
            obtain rfl : m' = b.2.2 := by rcases hb4 with ⟨_, h1, h2⟩ | h1 <;> omega
            rw [if_neg (fun hh => Bool.noConfusion hh.1)]
            split
            · rename_i h
              exact .slc hdm (fun _ => rfl) (Nat.le_refl _) (fun z hz => by rw [k2] at hz; cases hz)
            · rename_i h; rw [add_none, Nat.add_assoc]
              exact .slc hdm (fun _ => rfl) (Nat.le_refl _) (fun z hz => by rw [k2] at hz; cases hz)
          | inr hext =>
            subst hext
            obtain ⟨hg1, hg2⟩ := hgr s k2
            have hmul : m' * s ≤ c' * s := Nat.mul_le_mul_right _ hmm.2
            by_cases h : b.2.2 = b.1
            · -- nothing is left
              by_cases hmx : ma.isSome = true
              · rw [if_pos ⟨rfl, hmx, h⟩]
                have hmn : mx ≠ none := by
                  intro e
                  subst e
                  rw [show ma = none by simpa [atomO] using hma.symm] at hmx
                  cases hmx
                have hm' : m' = b.2.2 := by
                  rcases hb4 with ⟨h1, _⟩ | h1
                  · exact absurd h1 hmn
                  · exact h1
                rw [if_pos (by omega)]
                have e1 : b.2.1 - b.1 = 0 := by omega
                have e2 : m' - b.1 = 0 := by omega
                rw [e1, e2]
                exact .slcE _
              rw [if_neg (fun hh => hmx hh.2.1), if_pos h]
              have e1 : b.2.1 - b.1 = 0 := by omega
              have e2 : b.2.2 - b.1 = 0 := by omega
              rw [e1, e2]
              by_cases h' : m' = b.1
              · rw [if_pos h']
                exact .slc0 (c' := m' - b.1) hdm k2 hg2 (by rw [h']; simp; omega)
              · rw [if_neg h', add_none]
                refine .slc0 hdm k2 (by omega) ?_
                rw [Nat.sub_mul]
                have : b.1 * s ≤ m' * s := Nat.mul_le_mul_right _ (by omega)
                omega
            · rw [if_neg (fun hh => h hh.2.2), if_neg h, if_neg (by omega), add_none]
              have ho' : o' = r.base bk2 + of := by
                rcases hor with h2 | ⟨_, h2⟩
                · exact h2
                · omega
              rw [ho', Nat.add_assoc]
              refine .slc hdm (fun e => by rw [k2] at e; cases e) (by omega) (fun z hz => ?_)
              rw [k2] at hz
              obtain rfl : s = z := by simpa using hz
              show r.base bk2 + (of + b.1 * s) + (m' - b.1) * s ≤ r.size bk2
              rw [Nat.sub_mul]
              have : b.1 * s ≤ m' * s := Nat.mul_le_mul_right _ (by omega)
              omega
        · rw [hrun _ _ _ hx, hb1]
          simp only [Result.andThen_ok]
          congr 3
  · rename_i arrT
    simp only [Option.bind_eq_some_iff] at hc
    obtain ⟨d2, hd2, hc⟩ := hc
    split at hc
    · rename_i n el
      simp only [Option.bind_eq_some_iff, Option.some.injEq] at hc
      obtain ⟨s, hs, rfl⟩ := hc
      exact arr hs rfl fun p hp => by
        simp only [Instr.sliceAt, Instr.slice, Sem.run_bind, run_underlying hd, run_underlying hd2, Result.andThen_ok, hp, Go.asAddr, Sem.run_pure]
    · simp at hc
  · simp at hc

end
end Go.Wb
end
/- The engine, part C11: builtins; all operations but calls of functions. -/
section
set_option linter.unusedSimpArgs false
set_option linter.unusedVariables false
namespace Go.Wb
set_option linter.unusedSectionVars false
variable [GloK]
variable {P : Program} {r : Ren} {S S' : St} {w : World}
section
variable {call : Tgt → List Value → M Value} {e : Env} {tmps : Array Value} {v : Value} {o : Oper} {aop : AOp}

theorem args_at {args : Array Operand} {i : Nat} {x : Operand} (h : args[i]? = some x) : (args.map (evT tmps))[i]? = some (evT tmps x) := by simp [h]

theorem did_len {c : Call} (hcal : c.callee = .builtin .len) (ho : o.op = .call c) (hc : compBuiltin P .len c.argTypes c.args = some aop) (he : exec call e aop S = some (v, S')) (hr : Rel P r S w) (hE : EnvRel r e tmps) : Did P r S w S' v tmps o := by
  have hrun : (execOp (evT tmps) o) = (do pure (.value (← Builtin.len_ c.argTypes o.type (c.args.map (evT tmps))))) := by simp [execOp, ho, resolve, hcal, invoke, builtin]
  simp only [compBuiltin, Option.bind_eq_bind, Option.bind_eq_some_iff] at hc
  obtain ⟨x, hx, a, ha, t, ht, d, hd, hc⟩ := hc
  have hx' := args_at (tmps := tmps) hx
  have key : ∀ (k : LenK), aop = .len k a → k ≠ .map → (∀ (xv : Value) (n : Nat), lenV k xv = some n → VRel r xv (evT tmps x) → (Builtin.len_ c.argTypes o.type (c.args.map (evT tmps))).run P w = .ok (goInt n) w) → Did P r S w S' v tmps o := by
    intro k hk hnm hl
    subst hk
    have he2 : ((M.lift (a.ev e)).bind fun x => (M.lift (lenV k x)).bind fun n => M.pure (.int .i64 n)) S = some (v, S') := by
      have : exec call e (.len k a) = ((M.lift (a.ev e)).bind fun x => (M.lift (lenV k x)).bind fun n => M.pure (.int .i64 n)) := by
        cases k <;> first | rfl | exact absurd rfl hnm
      rw [← this]; exact he
    simp only [M.bind_some, M.lift_some, M.pure_some] at he2
    obtain ⟨xv, _, ⟨h1, rfl⟩, n, _, ⟨h2, rfl⟩, rfl, rfl⟩ := he2
    refine did_pure hr (.int _ _) ?_
    rw [hrun]
    simp only [Sem.run_bind, hl xv n h2 (atom_ok ha h1 hE), Result.andThen_ok, Sem.run_pure, goInt]
  split at hc
  · obtain rfl : AOp.len .str a = aop := by simpa using hc
    refine key _ rfl (by simp) fun xv n h hxv => ?_
    cases xv <;> simp [lenV] at h
    subst h
    have := hxv.string_inv
    simp [Builtin.len_, ht, hx', run_underlying hd, this]
  · obtain rfl : AOp.len .slice a = aop := by simpa using hc
    refine key _ rfl (by simp) fun xv n h hxv => ?_
    have tok : xv = .chan none → (Builtin.len_ c.argTypes o.type (c.args.map (evT tmps))).run P w = .ok (goInt n) w := by
      intro e
      subst e
      obtain ⟨a', hxe⟩ := hxv.token_inv
      obtain rfl : 0 = n := by simpa [lenV] using h
      simp [Builtin.len_, ht, hx', run_underlying hd, hxe]
    cases xv
    case chan q => cases q with
      | none => exact tok rfl
      | some q => simp [lenV] at h
    all_goals try (simp [lenV] at h; done)
    rename_i p m cc
    obtain rfl : m = n := by simpa [lenV] using h
    cases p with
    | none => obtain ⟨rfl, rfl, hxe⟩ := hxv.slcNil_inv; simp [Builtin.len_, ht, hx', run_underlying hd, hxe]
    | some p => obtain ⟨_, _, o', c', hxe, _⟩ := hxv.slc_inv; simp [Builtin.len_, ht, hx', run_underlying hd, hxe]
  · rename_i n el
    obtain rfl : AOp.len (.arr n) a = aop := by simpa using hc
    refine key _ rfl (by simp) fun xv m h hxv => ?_
    simp [lenV] at h
    subst h
    simp [Builtin.len_, ht, hx', run_underlying hd]
  · rename_i arr
    simp only [Option.bind_eq_some_iff] at hc
    obtain ⟨d2, hd2, hc⟩ := hc
    split at hc
    · rename_i n el
      obtain rfl : AOp.len (.arr n) a = aop := by simpa using hc
      refine key _ rfl (by simp) fun xv m h hxv => ?_
      simp [lenV] at h
      subst h
      simp [Builtin.len_, ht, hx', run_underlying hd, run_underlying hd2]
    · simp at hc
  · obtain rfl : AOp.len .map a = aop := by simpa using hc
    simp only [exec, M.bind_some, M.lift_some] at he
    obtain ⟨xv, S0, ⟨h1, hS⟩, he⟩ := he
    subst hS
    have hxv := atom_ok ha h1 hE
    have other : ((M.lift (lenV .map xv)).bind fun n => M.pure (.int .i64 n) : M Value) S0 = some (v, S') → Did P r S0 w S' v tmps o := by
      intro he
      simp only [M.bind_some, M.lift_some, M.pure_some] at he
      obtain ⟨n, _, ⟨h, rfl⟩, rfl, rfl⟩ := he
      cases xv <;> simp [lenV] at h
      rename_i p
      cases p <;> simp [lenV] at h
      subst h
      refine did_pure hr (.int _ _) ?_
      rw [hrun]
      have hxe := hxv.mapNil_inv
      simp [Builtin.len_, ht, hx', run_underlying hd, hxe, goInt]
    cases xv with
    | map p =>
      cases p with
      | none => exact other he
      | some b =>
        simp only [M.bind_some, rd_some] at he
        obtain ⟨o1, _, ⟨hg, rfl⟩, he⟩ := he
        cases o1 with
        | map es cl =>
          obtain ⟨rfl, rfl⟩ := M.pure_some.1 he
          obtain ⟨_, hxe⟩ := hxv.map_inv
          obtain ⟨es', hw, hmr⟩ := map_at hr hg
          refine ⟨_, _, _, _, sim_log hr (D := [(b, false)]) rfl rfl rfl, .int _ _, .inl ?_⟩
          rw [hrun]
          have hl : es.length = es'.size := by simpa using hmr.length
          simp [Builtin.len_, ht, hx', run_underlying hd, hxe, run_getMap hw, hl, goInt]
        | cells => exact (M.fail_some.1 he).elim
        | loop => exact (M.fail_some.1 he).elim
        | iter => exact (M.fail_some.1 he).elim
        | ro => exact (M.fail_some.1 he).elim
    | _ => exact other he
  · simp at hc

theorem did_cap {c : Call} (hcal : c.callee = .builtin .cap) (ho : o.op = .call c) (hc : compBuiltin P .cap c.argTypes c.args = some aop) (he : exec call e aop S = some (v, S')) (hr : Rel P r S w) (hE : EnvRel r e tmps) : Did P r S w S' v tmps o := by
  have hrun : (execOp (evT tmps) o) = (do pure (.value (← Builtin.cap_ c.argTypes o.type (c.args.map (evT tmps))))) := by simp [execOp, ho, resolve, hcal, invoke, builtin]
  simp only [compBuiltin, Option.bind_eq_bind, Option.bind_eq_some_iff] at hc
  obtain ⟨x, hx, a, ha, t, ht, d, hd, hc⟩ := hc
  have hx' := args_at (tmps := tmps) hx
  split at hc
  · obtain rfl : AOp.cap a = aop := by simpa using hc
    simp only [exec, M.bind_some, M.lift_some] at he
    obtain ⟨xv, _, ⟨h1, rfl⟩, he⟩ := he
    have hxr := atom_ok ha h1 hE
    cases xv <;> try (exact (M.fail_some.1 he).elim)
    rename_i p n cc
    cases p with
    | none =>
      obtain ⟨rfl, rfl⟩ := M.pure_some.1 he
      obtain ⟨rfl, rfl, hxe⟩ := hxr.slcNil_inv
      exact did_pure hr (.int _ _) (by rw [hrun]; simp [Builtin.cap_, ht, hx', run_underlying hd, hxe, goInt])
    | some p =>
      simp only [M.bind_some, rd_some] at he
      obtain ⟨bk, S1, ⟨hb, rfl⟩, he⟩ := he
      cases bk with
      | loop => exact (M.fail_some.1 he).elim
      | map => exact (M.fail_some.1 he).elim
      | iter => exact (M.fail_some.1 he).elim
      | ro cs =>
        obtain ⟨rfl, rfl⟩ := M.pure_some.1 he
        obtain ⟨hsp, hdm, o', c', hxe, hcc, hex, hgr, hor⟩ := hxr.slc_inv
        obtain ⟨hd2, rc, el2, fz, l', k1, k2, _⟩ := ro_at hr hb
        obtain ⟨rfl, _⟩ := hex k2
        exact ⟨_, r, w, _, sim_log hr (D := [(p.block, false)]) rfl rfl rfl, .int _ _, .inl (by rw [hrun]; simp [Builtin.cap_, ht, hx', run_underlying hd, hxe, goInt])⟩
      | cells ext str cs =>
        cases ext with
        | some z => exact (M.fail_some.1 he).elim
        | none =>
          obtain ⟨rfl, rfl⟩ := M.pure_some.1 he
          obtain ⟨hsp, hdm, o', c', hxe, hcc, hex, hgr, hor⟩ := hxr.slc_inv
          obtain ⟨hd2, rc, el2, lo2, hi2, l', k1, k2, _⟩ := cells_at hr hb
          obtain ⟨rfl, _⟩ := hex k2
          exact ⟨_, r, w, _, sim_log hr (D := [(p.block, false)]) rfl rfl rfl, .int _ _, .inl (by rw [hrun]; simp [Builtin.cap_, ht, hx', run_underlying hd, hxe, goInt])⟩
  · simp at hc

theorem did_append {c : Call} (hcal : c.callee = .builtin .append) (ho : o.op = .call c) (hc : compBuiltin P .append c.argTypes c.args = some aop) (he : exec call e aop S = some (v, S')) (hr : Rel P r S w) (hE : EnvRel r e tmps) (hf : Fresh r S S') :
    Did P r S w S' v tmps o := by
  have hrun : (execOp (evT tmps) o) = (do pure (.value (← Builtin.append_ c.argTypes o.type (c.args.map (evT tmps))))) := by simp [execOp, ho, resolve, hcal, invoke, builtin]
  simp only [compBuiltin, Option.bind_eq_bind, Option.bind_eq_some_iff] at hc
  obtain ⟨s, hs, a, ha, x, hx, b, hb, st, hst, sd, hsd, xt, hxt, xd, hxd, hc⟩ := hc
  have hs' := args_at (tmps := tmps) hs
  have hx' := args_at (tmps := tmps) hx
  have two : ∀ (el sz bt : Nat) (hsl : P.underlying st = some (.slice el)) (hxd' : ∀ k, xd ≠ .int k) (hz : (zeroT P el).map (·.length) = sizeT P el) (h1 : sizeT P el = some sz) (h2 : bytesT P el = some bt), aop = .app sz bt el a b → Did P r S w S' v tmps o := by
    intro el sz bt hsl hxd' hz h1 h2 haop
    subst haop
    rw [h1] at hz
    simp only [Option.map_eq_some_iff] at hz
    obtain ⟨z, hz, hzl⟩ := hz
    obtain ⟨i, zv, hi, hiz, hz2, hz3⟩ := zeroT_info hz
    have e1 := sizeT_info h1 hi
    have e2 := bytesT_info h2 hi
    subst e1; subst e2
    have hzs : zv.cells.size = i.size := by rw [← hzl, ← hz2]; simp
    simp only [exec, M.bind_some, M.lift_some, M.pure_some] at he
    obtain ⟨sv, _, ⟨k1, rfl⟩, xv, _, ⟨k2, rfl⟩, v0, S1, h3, rfl, rfl⟩ := he
    have hsr := atom_ok ha k1 hE
    have hxr := atom_ok hb k2 hE
    unfold appendA at h3
    split at h3
    case h_3 => exact (M.fail_some.1 h3).elim
    case h_2 =>
      obtain ⟨q, hq⟩ := hsr.token_inv
      simp only [M.bind_some, M.lift_some] at h3
      obtain ⟨n, Sx, ⟨hn, hSx⟩, h3⟩ := h3
      subst hSx
      have hln := lenOf_ok (P := P) (w := w) hn hxr
      have hs0 : (c.args.map (evT tmps))[0]? = some (.slice (some q) 0 0) := by rw [← hq]; exact hs'
      have hld : ∀ w0 : World, (Builtin.firstCells i.size 0 (.slice (some q) 0 0)).run P w0 = .ok ([] : List Value).toArray w0 := by
        intro w0
        simp only [Builtin.firstCells, Nat.zero_mul]
        rfl
      split at h3
      · rename_i hn0
        subst hn0
        simp only [M.bind_some] at h3
        obtain ⟨l, S2, hnew, h4⟩ := h3
        obtain ⟨rfl, rfl⟩ := M.pure_some.1 h4
        obtain ⟨D, l', m1, m2, m3, m4, m5⟩ := firstN_ok (.inl hn) hnew hxr hr
        have hl0 : l' = [] := List.eq_nil_of_length_eq_zero (by rw [← m1.length, m3]; simp)
        subst hl0
        refine ⟨D, r, w, _, m5, .slcE q, .inl ?_⟩
        rw [hrun]
        simp only [Sem.run_bind, run_append_put hst hxt hs0 hx' hsl hxd hxd' hi hln (Nat.le_refl 0) (m2 w rfl) (w' := w) (by simp [storeCells]), Result.andThen_ok, Sem.run_pure]
      · rename_i hn0
        have h3' := h3
        simp only [growA] at h3'
        split at h3'
        case isFalse => exact (M.fail_some.1 h3').elim
        simp only [M.bind_some] at h3'
        obtain ⟨l, S2, hnew, _⟩ := h3'
        obtain ⟨D, l', m1, m2, m3, m4, m5⟩ := firstN_ok (.inl hn) hnew hxr hr
        obtain ⟨⟨b1, b2⟩, base', sCap', q1, q⟩ := growA_ok h3 (.slcNil (r := r)) (by omega) hr hf hnew m3 m1 m4 m5
        obtain ⟨rfl, rfl⟩ : base' = none ∧ sCap' = 0 := by simpa using q1.symm
        rcases q with ⟨q2, _⟩ | ⟨q2, old, q3, q4⟩
        · omega
        · have hold : old = [] := by
            have := q3 w rfl
            simpa [Builtin.firstCells] using this.symm
          subst hold
          obtain ⟨newCap, rest, p1, p2, pp, p3⟩ := run_append_grow (ty := o.type) hst hxt hs0 hx' hsl hxd hxd' hi hiz hzs hln q2 m2 (fun w0 _ => hld w0) b1 b2
          obtain ⟨D', r', q5, q6⟩ := q4 newCap rest el { w with drawn := w.drawn + 1 } p1 p2 (pp hz3) ⟨rfl, rfl, rfl, rfl⟩
          refine ⟨D', r', _, _, q5, q6, .inl ?_⟩
          rw [hrun]
          simp only [Sem.run_bind, p3, Result.andThen_ok, Sem.run_pure]
    rename_i base sLen sCap
    simp only [M.bind_some, M.lift_some] at h3
    obtain ⟨n, Sx, ⟨hn, hSx⟩, h3⟩ := h3
    subst hSx
    have hln := lenOf_ok (P := P) (w := w) hn hxr
    split at h3
    · rename_i hle
      have h3' := h3
      simp only [putA, M.bind_some] at h3'
      obtain ⟨l, S2, hnew, _⟩ := h3'
      obtain ⟨D, l', m1, m2, m3, m4, m5⟩ := firstN_ok (.inl hn) hnew hxr hr
      obtain ⟨D', w', base', sCap', q1, q2, q3, q4, q5⟩ := putA_ok h3 hsr hle hr hnew m3 m1 m4 m5
      refine ⟨D', r, w', _, q3, q4, .inl ?_⟩
      rw [hrun]
      simp only [Sem.run_bind, run_append_put hst hxt (q1 ▸ hs') hx' hsl hxd hxd' hi hln q2 (m2 w rfl) q5, Result.andThen_ok, Sem.run_pure]
    · rename_i hle
      have h3' := h3
      simp only [growA] at h3'
      split at h3'
      case isFalse => exact (M.fail_some.1 h3').elim
      simp only [M.bind_some] at h3'
      obtain ⟨l, S2, hnew, _⟩ := h3'
      obtain ⟨D, l', m1, m2, m3, m4, m5⟩ := firstN_ok (.inl hn) hnew hxr hr
      obtain ⟨⟨b1, b2⟩, base', sCap', q1, q⟩ := growA_ok h3 hsr hle hr hf hnew m3 m1 m4 m5
      rcases q with ⟨q2, D', r', w', q3, q4, q5⟩ | ⟨q2, old, q3, q4⟩
      · refine ⟨D', r', w', _, q3, q4, .inl ?_⟩
        rw [hrun]
        simp only [Sem.run_bind, run_append_put hst hxt (q1 ▸ hs') hx' hsl hxd hxd' hi hln q2 (m2 w rfl) q5, Result.andThen_ok, Sem.run_pure]
      · obtain ⟨newCap, rest, p1, p2, pp, p3⟩ := run_append_grow (ty := o.type) hst hxt (q1 ▸ hs') hx' hsl hxd hxd' hi hiz hzs hln q2 m2 (q1 ▸ q3) b1 b2
        obtain ⟨D', r', q5, q6⟩ := q4 newCap rest el { w with drawn := w.drawn + 1 } p1 p2 (pp hz3) ⟨rfl, rfl, rfl, rfl⟩
        refine ⟨D', r', _, _, q5, q6, .inl ?_⟩
        rw [hrun]
        simp only [Sem.run_bind, p3, Result.andThen_ok, Sem.run_pure]
  split at hc
  · split at hc
    · rename_i hz
      simp only [Option.bind_eq_bind, Option.bind_eq_some_iff, Option.some.injEq] at hc
      obtain ⟨sz, h1, bt, h2, h3⟩ := hc
      exact two _ sz bt hsd (fun k h => by cases h) hz h1 h2 h3.symm
    · simp at hc
  · split at hc
    · rename_i hz
      simp only [Option.bind_eq_bind, Option.bind_eq_some_iff, Option.some.injEq] at hc
      obtain ⟨sz, h1, bt, h2, h3⟩ := hc
      exact two _ sz bt hsd (fun k h => by cases h) hz h1 h2 h3.symm
    · simp at hc
  · rename_i el k
    simp only [Option.bind_eq_bind, Option.bind_eq_some_iff, Option.some.injEq] at hc
    obtain ⟨sz, h1, bt, h2, z, hz, rfl⟩ := hc
    obtain ⟨i, zv, hi, hiz, hz2, hz3⟩ := zeroT_info hz
    have e1 := sizeT_info h1 hi
    have e2 := bytesT_info h2 hi
    subst e1; subst e2
    simp only [exec, M.bind_some, M.lift_some, M.pure_some] at he
    obtain ⟨sv, _, ⟨k1, rfl⟩, xv, _, ⟨k2, rfl⟩, v0, S1, h3, rfl, rfl⟩ := he
    have hsr := atom_ok ha k1 hE
    have hxr := atom_ok hb k2 hE
    unfold appendZ at h3
    split at h3
    case h_2 => exact (M.fail_some.1 h3).elim
    rename_i base sLen sCap kk n
    split at h3
    case isFalse => exact (M.fail_some.1 h3).elim
    rename_i hcond
    obtain ⟨c1, c2, c3, c4⟩ := hcond
    have hxe := hxr.int_inv
    rw [hxe] at hx'
    have hzs : zv.cells.size = i.size := by rw [← c4, ← hz2]; simp
    have hlen : (rep n.toNat z).length = n.toNat * i.size := by rw [rep_length, c4]
    have hzr : LRel r (rep n.toNat z) (rep n.toNat zv.cells.toList) := by rw [← hz2]; exact rep_plain hz3 _
    split at h3
    · rename_i hle
      obtain ⟨D', w', base', sCap', q1, q2, q3, q4, q5⟩ := putA_ok h3 hsr hle hr rfl hlen hzr rfl (Sim.refl hr)
      refine ⟨D', r, w', _, q3, q4, .inl ?_⟩
      rw [hrun]
      simp only [Sem.run_bind, run_append_putZ hst hxt (q1 ▸ hs') hx' hsd hxd hi hiz c1 c2 c3 q2 hzs q5, Result.andThen_ok, Sem.run_pure]
    · rename_i hle
      obtain ⟨⟨b1, b2⟩, base', sCap', q1, q⟩ := growA_ok h3 hsr hle hr hf rfl hlen hzr rfl (Sim.refl hr)
      rcases q with ⟨q2, D', r', w', q3, q4, q5⟩ | ⟨q2, old, q3, q4⟩
      · refine ⟨D', r', w', _, q3, q4, .inl ?_⟩
        rw [hrun]
        simp only [Sem.run_bind, run_append_putZ hst hxt (q1 ▸ hs') hx' hsd hxd hi hiz c1 c2 c3 q2 hzs q5, Result.andThen_ok, Sem.run_pure]
      · obtain ⟨newCap, rest, p1, p2, pp, p3⟩ := run_append_growZ (ty := o.type) hst hxt (q1 ▸ hs') hx' hsd hxd hi hiz hzs c1 c2 c3 q2 (q1 ▸ q3) b1 b2
        obtain ⟨D', r', q5, q6⟩ := q4 newCap rest el { w with drawn := w.drawn + 1 } p1 p2 (pp hz3) ⟨rfl, rfl, rfl, rfl⟩
        refine ⟨D', r', _, _, q5, q6, .inl ?_⟩
        rw [hrun]
        simp only [Sem.run_bind, p3, Result.andThen_ok, Sem.run_pure]
  · simp at hc

theorem did_copy {c : Call} (hcal : c.callee = .builtin .copy) (ho : o.op = .call c) (hc : compBuiltin P .copy c.argTypes c.args = some aop) (he : exec call e aop S = some (v, S')) (hr : Rel P r S w) (hE : EnvRel r e tmps) (hf : Fresh r S S') :
    Did P r S w S' v tmps o := by
  have hrun : (execOp (evT tmps) o) = (do pure (.value (← Builtin.copy_ c.argTypes o.type (c.args.map (evT tmps))))) := by simp [execOp, ho, resolve, hcal, invoke, builtin]
  simp only [compBuiltin, Option.bind_eq_bind, Option.bind_eq_some_iff] at hc
  obtain ⟨dx, hdx, a, ha, x, hx, b, hb, st, hst, sd, hsd, hc⟩ := hc
  have hd' := args_at (tmps := tmps) hdx
  have hx' := args_at (tmps := tmps) hx
  split at hc
  · rename_i el
    simp only [Option.bind_eq_bind, Option.bind_eq_some_iff, Option.some.injEq] at hc
    obtain ⟨sz, h1, rfl⟩ := hc
    simp only [exec, M.bind_some, M.lift_some] at he
    obtain ⟨dv, _, ⟨k1, rfl⟩, xv, _, ⟨k2, rfl⟩, he⟩ := he
    have hdr := atom_ok ha k1 hE
    have hxr := atom_ok hb k2 hE
    cases dv <;> try (exact (M.fail_some.1 he).elim)
    rename_i base dLen dCap
    simp only [M.bind_some, M.lift_some] at he
    obtain ⟨n, Sx, ⟨hn, hSx⟩, cs, S1, hcs, he⟩ := he
    subst hSx
    have hln := lenOf_ok (P := P) (w := w) hn hxr
    obtain ⟨D, l', m1, m2, m3, m4, m5⟩ := firstN_ok (.inr ⟨n, hn, Nat.min_le_left _ _⟩) hcs hxr hr
    cases base with
    | none =>
      obtain ⟨rfl, rfl⟩ := M.pure_some.1 he
      obtain ⟨rfl, rfl, hde⟩ := hdr.slcNil_inv
      refine ⟨D, r, w, _, m5, .int _ _, .inl ?_⟩
      rw [hrun]
      have hm : (Builtin.firstCells sz (Nat.min n 0) (evT tmps x)).run P w = .ok l'.toArray w := m2 w rfl
      simp only [Builtin.copy_, hst, hd', hx', hde, Sem.run_bind, run_underlying hsd, Result.andThen_ok, hln, run_sizeOf h1, Sem.run_pure, goInt, hm]
    | some p =>
      simp only [M.bind_some, M.pure_some] at he
      obtain ⟨_, S2, hst2, rfl, rfl⟩ := he
      obtain ⟨hsp, hdm, o', c', hde, hcc, hex, hgr, hor⟩ := hdr.slc_inv
      obtain ⟨w', q1, q2⟩ := st_any (a' := (⟨r.to p.block, o', none⟩ : Addr)) hst2 m5.rel m1 (by
        rcases hor with rfl | ⟨rfl, _⟩
        · exact .inl rfl
        · right
          apply List.eq_nil_of_length_eq_zero
          rw [m3]; simp)
      have hn2 : S'.next = S1.next := by
        have := hst2
        simp only [stCells, M.bind_some, rd_some] at this
        obtain ⟨o, S3, ⟨_, rfl⟩, h6⟩ := this
        split at h6
        · split at h6
          · have := wr_some.1 h6; rw [this]
          · exact (M.fail_some.1 h6).elim
        · exact (M.fail_some.1 h6).elim
      refine ⟨_, r, w', _, m5.trans (fresh_of_next (hn2.trans m4)) hr q2, .int _ _, .inl ?_⟩
      rw [hrun]
      have hm : (Builtin.firstCells sz (Nat.min n dLen) (evT tmps x)).run P w = .ok l'.toArray w := m2 w rfl
      simp only [Builtin.copy_, hst, hd', hx', hde, Sem.run_bind, run_underlying hsd, Result.andThen_ok, hln, run_sizeOf h1, Sem.run_pure, goInt, hm, q1]
  · simp at hc

theorem did_clear {c : Call} (hcal : c.callee = .builtin .clear) (ho : o.op = .call c) (hc : compBuiltin P .clear c.argTypes c.args = some aop) (he : exec call e aop S = some (v, S')) (hr : Rel P r S w) (hE : EnvRel r e tmps) :
    Did P r S w S' v tmps o := by
  have hrun : (execOp (evT tmps) o) = (do pure (.value (← Builtin.clear_ c.argTypes o.type (c.args.map (evT tmps))))) := by simp [execOp, ho, resolve, hcal, invoke, builtin]
  simp only [compBuiltin, Option.bind_eq_bind, Option.bind_eq_some_iff] at hc
  obtain ⟨x, hx, a, ha, st, hst, sd, hsd, hc⟩ := hc
  have hx' := args_at (tmps := tmps) hx
  split at hc
  · rename_i el
    simp only [Option.bind_eq_bind, Option.bind_eq_some_iff, Option.some.injEq] at hc
    obtain ⟨z, hz, rfl⟩ := hc
    obtain ⟨i, zv, hi, hiz, hz2, hz3⟩ := zeroT_info hz
    simp only [exec, M.bind_some, M.lift_some] at he
    obtain ⟨xv, _, ⟨k1, rfl⟩, he⟩ := he
    have hxr := atom_ok ha k1 hE
    cases xv <;> try (exact (M.fail_some.1 he).elim)
    rename_i p n cc
    cases p with
    | none =>
      obtain ⟨rfl, rfl⟩ := M.pure_some.1 he
      obtain ⟨rfl, rfl, hxe⟩ := hxr.slcNil_inv
      exact did_pure hr undef_rel (by rw [hrun]; simp [Builtin.clear_, hst, hx', run_underlying hsd, hxe, undef])
    | some p =>
      simp only [M.bind_some, M.pure_some] at he
      obtain ⟨_, S1, h2, rfl, rfl⟩ := he
      obtain ⟨hsp, hdm, o', c', hxe, hcc, hex, hgr, hor⟩ := hxr.slc_inv
      have hzr : LRel r (rep n z) (rep n zv.cells.toList) := by rw [← hz2]; exact rep_plain hz3 _
      obtain ⟨w', q1, q2⟩ := st_any (a' := (⟨r.to p.block, o', none⟩ : Addr)) h2 hr hzr (by
        rcases hor with rfl | ⟨rfl, _⟩
        · exact .inl rfl
        · right; rfl)
      refine ⟨_, r, w', _, q2, undef_rel, .inl ?_⟩
      rw [hrun]
      cases n with
      | zero =>
        have hw' : w' = w := by
          simp [rep, storeCells] at q1; exact q1.symm
        subst hw'
        simp [Builtin.clear_, hst, hx', run_underlying hsd, hxe, undef]
      | succ n =>
        have hzc : (Builtin.zeroCells zv.cells (n + 1)).toList = rep (n + 1) zv.cells.toList := zeroCells_rep _ _
        simp only [Builtin.clear_, hst, hx', hxe, Sem.run_bind, run_underlying hsd, Result.andThen_ok, run_zeroValue hi hiz, hzc, q1, Sem.run_pure, undef]
  · simp at hc

theorem maxL_ok (gt : Bool) (f : Value → Value → Sem Value) (hf : ∀ x y z : Value, maxV gt x y = some z → ∀ w : World, (f x y).run P w = .ok z w) : ∀ (l l' : List Value) (x z x' : Value), maxL gt x l = some z → LRel r l l' → VRel r x x' →
    (l'.foldlM f x').run P w = .ok z w ∧ VRel r z z ∨ (l = [] ∧ l' = [] ∧ z = x)
  | [], l', x, z, x', h, hl, hx => by
    cases hl
    simp only [maxL, Option.some.injEq] at h
    exact .inr ⟨rfl, rfl, h.symm⟩
  | y :: l, l', x, z, x', h, hl, hx => by
    cases hl with
    | cons hy ht =>
      rename_i y' l2
      simp only [maxL] at h
      split at h
      · rename_i q hq
        have e : x' = x ∧ y' = y ∧ VRel r q q := by
          cases x <;> cases y <;> simp [maxV] at hq
          exact ⟨hx.int_inv, hy.int_inv, by rw [← hq.2]; exact .int _ _⟩
        obtain ⟨rfl, rfl, hqr⟩ := e
        simp only [List.foldlM_cons, Sem.run_bind, hf _ _ _ hq w, Result.andThen_ok]
        rcases maxL_ok gt f hf l l2 q z q h ht hqr with h1 | ⟨rfl, rfl, rfl⟩
        · exact .inl h1
        · exact .inl ⟨by simp, hqr⟩
      · simp at h

theorem did_max {c : Call} {gt : Bool} (hcal : c.callee = .builtin (if gt then .max else .min)) (ho : o.op = .call c) (hc : compBuiltin P (if gt then .max else .min) c.argTypes c.args = some aop) (he : exec call e aop S = some (v, S')) (hr : Rel P r S w) (hE : EnvRel r e tmps) :
    Did P r S w S' v tmps o := by
  have e1 : ((c.args.map (evT tmps)).toList) = c.args.toList.map (evT tmps) := by simp
  cases gt with
  | true =>
    simp only [if_true] at hcal hc
    have hrun : (execOp (evT tmps) o) = (do pure (.value (← Builtin.max_ c.argTypes o.type (c.args.map (evT tmps))))) := by simp [execOp, ho, resolve, hcal, invoke, builtin]
    simp only [compBuiltin, Option.bind_eq_bind, Option.bind_eq_some_iff, Option.some.injEq] at hc
    obtain ⟨as, has, rfl⟩ := hc
    simp only [exec, M.bind_some, M.lift_some] at he
    obtain ⟨l, _, ⟨hl, rfl⟩, he⟩ := he
    have hlr := atoms_ok hE has hl
    cases l with
    | nil => exact (M.fail_some.1 he).elim
    | cons x l =>
      simp only [M.bind_some, M.lift_some, M.pure_some] at he
      obtain ⟨z, _, ⟨hz, rfl⟩, rfl, rfl⟩ := he
      generalize hq : c.args.toList.map (evT tmps) = q at hlr
      cases hlr with
      | cons hx ht =>
        rename_i x' l'
        have hm := maxL_ok (P := P) (r := r) (w := w) true Builtin.max2 (fun x y z h w => by cases x <;> cases y <;> simp [maxV] at h; obtain ⟨rfl, rfl⟩ := h; simp [Builtin.max2]) l l' x v x' hz ht hx
        rcases hm with ⟨h1, h2⟩ | ⟨rfl, rfl, rfl⟩
        · refine did_pure hr h2 ?_
          rw [hrun]
          simp only [Builtin.max_, e1, hq, Sem.run_bind, h1, Result.andThen_ok, Sem.run_pure]
        · refine did_pure hr hx ?_
          rw [hrun]
          simp [Builtin.max_, hq]
  | false =>
    simp only [Bool.false_eq_true, if_false] at hcal hc
    have hrun : (execOp (evT tmps) o) = (do pure (.value (← Builtin.min_ c.argTypes o.type (c.args.map (evT tmps))))) := by simp [execOp, ho, resolve, hcal, invoke, builtin]
    simp only [compBuiltin, Option.bind_eq_bind, Option.bind_eq_some_iff, Option.some.injEq] at hc
    obtain ⟨as, has, rfl⟩ := hc
    simp only [exec, M.bind_some, M.lift_some] at he
    obtain ⟨l, _, ⟨hl, rfl⟩, he⟩ := he
    have hlr := atoms_ok hE has hl
    cases l with
    | nil => exact (M.fail_some.1 he).elim
    | cons x l =>
      simp only [M.bind_some, M.lift_some, M.pure_some] at he
      obtain ⟨z, _, ⟨hz, rfl⟩, rfl, rfl⟩ := he
      generalize hq : c.args.toList.map (evT tmps) = q at hlr
      cases hlr with
      | cons hx ht =>
        rename_i x' l'
        have hm := maxL_ok (P := P) (r := r) (w := w) false Builtin.min2 (fun x y z h w => by cases x <;> cases y <;> simp [maxV] at h; obtain ⟨rfl, rfl⟩ := h; simp [Builtin.min2]) l l' x v x' hz ht hx
        rcases hm with ⟨h1, h2⟩ | ⟨rfl, rfl, rfl⟩
        · refine did_pure hr h2 ?_
          rw [hrun]
          simp only [Builtin.min_, e1, hq, Sem.run_bind, h1, Result.andThen_ok, Sem.run_pure]
        · refine did_pure hr hx ?_
          rw [hrun]
          simp [Builtin.min_, hq]

/-- every operation but a call of a function value -/
theorem exec_ok0 (hc : compOp0 P o.op = some aop) (hncall : ∀ c f, o.op = .call c → c.callee ≠ .value f) (he : exec call e aop S = some (v, S')) (hr : Rel P r S w) (hE : EnvRel r e tmps) (hf : Fresh r S S') : Did P r S w S' v tmps o := by
  cases ho : o.op with
  | move x => exact did_mov (.inl ho) hc he hr hE
  | assign x => exact did_mov (.inr ho) hc he hr hE
  | pick c a b => exact did_pick ho hc he hr hE
  | alloc t => exact did_alloc ho hc he hr hf
  | box t x => exact did_box ho hc he hr hE hf
  | build t parts => exact did_build ho hc he hr hE
  | buildSlice t n parts => exact did_bslice ho hc he hr hE hf
  | load t a => exact did_load ho hc he hr hE
  | store t a x => exact did_store ho hc he hr hE
  | nilCheck x => exact did_nilchk ho hc he hr hE
  | sliceToArrayPointer t x => exact did_s2a ho hc he hr hE
  | binOp op xt x y yt => exact did_bin ho hc he hr hE
  | unOp op t x => exact did_un ho hc he hr hE
  | convert a b x => exact did_conv ho hc he hr hE hf
  | makeInterface t x => exact did_mkif ho hc he hr hE
  | makeFunc fn a b =>
    cases fn with
    | func f => exact did_mkfn ho hc he hr hE
    | _ => rw [ho] at hc; simp [compOp0] at hc
  | makeSlice t a b => exact did_mkslice ho hc he hr hE hf
  | slice t x l h m => exact did_slice ho hc he hr hE
  | fieldAddr t x f => exact did_fldA ho hc he hr hE
  | field t x f => exact did_fld ho hc he hr hE
  | indexAddr t x i => exact did_ixA ho hc he hr hE
  | index t x i => exact did_ix ho hc he hr hE
  | extract x i => exact did_ext ho hc he hr hE
  | makeMap t h => exact did_mkmap ho hc he hr hE hf
  | lookup t x i k => exact did_mget ho hc he hr hE
  | mapUpdate t m k x => exact did_mset (.inl ho) hc he hr hE
  | insert t m k x => exact did_mset (.inr ho) hc he hr hE
  | range t x => exact did_srange ho hc he hr hE hf
  | next x s => exact did_snext ho hc he hr hE
  | mapEntry t m k => exact did_ment ho hc he hr hE
  | entryStore t m s x => exact did_mfill ho hc he hr hE
  | panic x =>
    rw [ho] at hc
    obtain rfl : AOp.panic = aop := by simpa [compOp0] using hc
    simp [exec, M.fail] at he
  | call c =>
    have hc' := hc
    rw [ho] at hc'
    cases hcal : c.callee with
    | value f => exact absurd hcal (hncall c f ho)
    | invoke a m => simp [compOp0, hcal] at hc'
    | builtin b =>
      have hc2 : compBuiltin P b c.argTypes c.args = some aop := by simpa [compOp0, hcal] using hc'
      cases b with
      | len => exact did_len hcal ho hc2 he hr hE
      | cap => exact did_cap hcal ho hc2 he hr hE
      | append => exact did_append hcal ho hc2 he hr hE hf
      | copy => exact did_copy hcal ho hc2 he hr hE hf
      | clear => exact did_clear hcal ho hc2 he hr hE
      | max => exact did_max (gt := true) hcal ho hc2 he hr hE
      | min => exact did_max (gt := false) hcal ho hc2 he hr hE
      | delete => exact did_mdel hcal ho hc2 he hr hE (fun h => args_at h)
      | _ => simp [compBuiltin] at hc2
  | _ => rw [ho] at hc; simp [compOp0] at hc
theorem compOp_inv {op : Op} (hc : compOp P op = some aop) : compOp0 P op = some aop ∨ aop = .panic := by
  unfold compOp at hc
  split at hc
  · simp at hc
  cases h : compOp0 P op with
  | none => rw [h] at hc; exact .inr (by simpa using hc.symm)
  | some a => rw [h] at hc; exact .inl (by simpa using hc)
theorem exec_ok (hc : compOp P o.op = some aop) (hncall : ∀ c f, o.op = .call c → c.callee ≠ .value f) (he : exec call e aop S = some (v, S')) (hr : Rel P r S w) (hE : EnvRel r e tmps) (hf : Fresh r S S') : Did P r S w S' v tmps o := by
  rcases compOp_inv hc with h | rfl
  · exact exec_ok0 h hncall he hr hE hf
  · simp [exec, M.fail] at he
end
end Go.Wb
end
