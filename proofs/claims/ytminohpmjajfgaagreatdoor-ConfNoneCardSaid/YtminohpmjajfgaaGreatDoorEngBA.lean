/- The engine: EngA EngB EngF EngLg. It proves nothing of the program by itself; it has no conditions. -/
import Derived.Calls
import Derived.Laws.Cells
/- The engine, part A: an evaluator over an abstract heap for the model's code. Definitions only. -/
section
namespace Go.Wb

/-! ## A map from numbers -/
inductive Tr (α : Type) where
  | leaf
  | node (v : Option α) (l r : Tr α)

namespace Tr
variable {α : Type}
def val : Tr α → Option α | .leaf => none | .node v _ _ => v
def left : Tr α → Tr α | .leaf => .leaf | .node _ l _ => l
def right : Tr α → Tr α | .leaf => .leaf | .node _ _ r => r
def get : Tr α → Nat → Option α
  | .leaf, _ => none
  | .node v _ _, 0 => v
  | .node _ l r, k + 1 => match k % 2 with | 0 => l.get (k / 2) | _ + 1 => r.get (k / 2)
def setF : Nat → Tr α → Nat → Option α → Tr α
  | 0, t, _, _ => t
  | _ + 1, t, 0, v => .node v t.left t.right
  | f + 1, t, k + 1, v => match k % 2 with
    | 0 => .node t.val (setF f t.left (k / 2) v) t.right
    | _ + 1 => .node t.val t.left (setF f t.right (k / 2) v)
def set (t : Tr α) (k : Nat) (v : Option α) : Tr α := setF (k + 1) t k v

theorem get_leaf (k : Nat) : (leaf : Tr α).get k = none := by cases k <;> rfl
theorem get_zero (t : Tr α) : t.get 0 = t.val := by cases t <;> rfl
theorem get_succ (t : Tr α) (k : Nat) : t.get (k + 1) = match k % 2 with | 0 => t.left.get (k / 2) | _ + 1 => t.right.get (k / 2) := by
  cases t with
  | leaf => simp only [left, right, get_leaf]; split <;> rfl
  | node v l r => rfl
theorem get_setF (f : Nat) : ∀ (t : Tr α) (k : Nat) (v : Option α) (j : Nat), k < f → (setF f t k v).get j = if j = k then v else t.get j := by
  induction f with
  | zero => intro t k v j h; omega
  | succ f ih =>
    intro t k v j h
    cases k with
    | zero =>
      cases j with
      | zero => simp [setF, get]
      | succ j => simp only [setF, get_succ, left, right]; simp
    | succ k =>
      have hk : k / 2 < f := by have := Nat.div_le_self k 2; omega
      cases j with
      | zero =>
        simp only [setF]
        split <;> simp [get_zero, val]
      | succ j =>
        simp only [setF]
        split
        · rename_i h0
          simp only [get_succ, left, right]
          split
          · rename_i h1
            rw [ih _ _ _ _ hk]
            by_cases e : j = k
            · subst e; simp
            · rw [if_neg (by omega), if_neg (by omega)]
          · rename_i m h1
            have : j ≠ k := by intro e; subst e; omega
            rw [if_neg (by omega)]
        · rename_i m h0
          simp only [get_succ, left, right]
          split
          · rename_i h1
            have : j ≠ k := by intro e; subst e; omega
            rw [if_neg (by omega)]
          · rename_i n h1
            rw [ih _ _ _ _ hk]
            by_cases e : j = k
            · subst e; simp
            · rw [if_neg (by omega), if_neg (by omega)]
theorem get_set (t : Tr α) (k : Nat) (v : Option α) (j : Nat) : (t.set k v).get j = if j = k then v else t.get j := get_setF _ _ _ _ _ (Nat.lt_succ_self k)
theorem get_set_same (t : Tr α) (k : Nat) (v : Option α) : (t.set k v).get k = v := by rw [get_set, if_pos rfl]
theorem get_set_ne (t : Tr α) {k j : Nat} (v : Option α) (h : j ≠ k) : (t.set k v).get j = t.get j := by rw [get_set, if_neg h]
end Tr

abbrev Env := Tr Value

/-! ## The code as it is run -/
inductive Atom where
  | tmp (t : Nat)
  | const (v : Value)

def Atom.ev (e : Env) : Atom → Option Value
  | .tmp t => e.get t
  | .const v => some v

/-- how a variable of a type lies in memory: one cell, or so many -/
inductive Sh where
  | one
  | agg (n : Nat)

inductive CK where
  | int (k : IntKind)
  | str2b (elem : TypeId)
  | b2str
  | same
  | sameSl

inductive NilK where
  | ptr | slice | map | func | iface
inductive EqK where
  | bool
  | nil (k : NilK)
  | cells (n : Nat) (offs : List (Nat × Nat))

/-- what a map's keys are: of one cell, or of so many with these that are compared -/
inductive KK where
  | one (k : Nat)
  | agg (n : Nat) (offs : List (Nat × Nat))

inductive LenK where
  | str | slice | arr (n : Nat) | map

inductive AOp where
  | mov (a : Atom)
  | pick (c a b : Atom)
  | bin (op : BinOp) (a b : Atom)
  | eq (neg : Bool) (k : EqK) (a b : Atom)
  | un (op : UnOp) (a : Atom)
  | conv (k : CK) (a : Atom)
  | alloc (elem : TypeId) (zero : List Value)
  | box (elem : TypeId) (a : Atom)
  | build (zero : List Value) (parts : List (Nat × Nat × Atom))
  | bslice (elem : TypeId) (len : Nat) (zero : List Value) (parts : List (Nat × Nat × Atom))
  | load (sh : Sh) (a : Atom)
  | store (n : Nat) (a v : Atom)
  | nilchk (a : Atom)
  | mkslice (elem : TypeId) (size bytes : Nat) (zero : List Value) (l c : Atom)
  | slcS (x : Atom) (lo hi : Option Atom)
  | slc (size : Nat) (x : Atom) (lo hi mx : Option Atom)
  | slcA (n size : Nat) (x : Atom) (lo hi mx : Option Atom)
  | fldA (off : Nat) (a : Atom)
  | fld (sh : Sh) (off : Nat) (a : Atom)
  | ixA (size : Nat) (a i : Atom)
  | ixAA (n size : Nat) (a i : Atom)
  | ix (n size : Nat) (sh : Sh) (a i : Atom)
  | ixS (a i : Atom)
  | mkfn (fn : FuncId) (first captured : List Atom)
  | mkif (t : TypeId) (a : Atom)
  | ext (a : Atom) (i : Nat)
  | call (f : Atom) (args : List Atom)
  | app (size bytes : Nat) (elem : TypeId) (s x : Atom)
  | appZ (size bytes : Nat) (elem : TypeId) (zero : List Value) (s x : Atom)
  | len (k : LenK) (a : Atom)
  | cap (a : Atom)
  | copy (size : Nat) (d s : Atom)
  | clear (zero : List Value) (a : Atom)
  | max (args : List Atom)
  | min (args : List Atom)
  | mkmap (h : Option Atom)
  | mget (kk : KK) (ok : Bool) (zero : Value) (m k : Atom)
  | mset (kk : KK) (m k v : Atom)
  | mdel (kk : KK) (m k : Atom)
  | ment (kk : KK) (zero : Value) (m k : Atom)
  | mfill (m s v : Atom)
  | srange (a : Atom)
  | snext (a : Atom)
  | panic

structure AInstr where
  dst : Option Nat
  guard : Option (Nat × Bool)
  op : AOp

inductive ACode where
  | skip
  | ops (l : List AInstr)
  | drawn (l : List AInstr) (masks : List Nat)
  | seq (a b : ACode)
  | cond (c : Atom) (a b : ACode)
  | block (id : Nat) (a : ACode)
  | loop (a : ACode)
  | range (f : Atom) (params : List Nat) (assign body : ACode)
  | exit (id : Nat)
  | ret

inductive ARes where
  | tmp (t : Nat)
  | cell (t : Nat) (sh : Sh)

structure AFunc where
  nparams : Nat
  results : List ARes
  body : ACode

inductive XK where
  | indexByte
  | overlaps (size : Nat)
  | insert (size bytes : Nat)
  | countByte
  | cmpStr
  | join
  | sw (off : Nat) (k1 k2 : ByteArray) (v1 v2 : Int)
inductive AFn where
  | go (a : AFunc)
  | ext (k : XK)
  | sum (g : List Value → Option Value)

/-! ## The abstract heap -/
inductive Ext where
  | normal
  | exit (id : Nat)
  | ret

/-- an entry of a map: key, value, when it came -/
structure MEnt where
  key : Value
  val : Value
  born : Nat

inductive Blk where
  | cells (ext : Option Nat) (str : Bool) (c : List Value)
  | loop (params : List Nat) (assign body : ACode) (env : Env) (pending : Option Ext)
  | map (es : List MEnt) (clock : Nat)
  | ro (c : List Value)
  | iter (s : ByteArray) (pos : Nat)
def Blk.isRo : Blk → Bool
  | .ro _ => true
  | _ => false

structure St where
  heap : Tr Blk
  next : Nat
  log : List (Nat × Bool)

abbrev M (α : Type) := St → Option (α × St)
namespace M
variable {α β : Type}
def pure (a : α) : M α := fun s => some (a, s)
def bind (m : M α) (f : α → M β) : M β := fun s => match m s with | none => none | some (a, s') => f a s'
def fail : M α := fun _ => none
def lift (o : Option α) : M α := fun s => match o with | none => none | some a => some (a, s)
end M
def rd (b : Nat) : M Blk := fun s => match s.heap.get b with | none => none | some o => some (o, { heap := s.heap, next := s.next, log := (b, false) :: s.log })
def wr (b : Nat) (o : Option Blk) : M Unit := fun s => some ((), { heap := s.heap.set b o, next := s.next, log := (b, true) :: s.log })
def nw (o : Blk) : M Nat := fun s => some (s.next, { heap := s.heap.set s.next (some o), next := s.next + 1, log := s.log })

/-! ## Memory -/
/-- is a list so long? without its length -/
def longer {α : Type} : Nat → List α → Bool
  | 0, _ => true
  | _ + 1, [] => false
  | k + 1, _ :: l => longer k l
theorem longer_iff {α : Type} : ∀ (k : Nat) (l : List α), longer k l = true ↔ k ≤ l.length
  | 0, l => by simp [longer]
  | k + 1, [] => by simp [longer]
  | k + 1, a :: l => by simp [longer, longer_iff k l]
/-- is a list no longer? -/
def withinL {α : Type} : List α → Nat → Bool
  | [], _ => true
  | _ :: _, 0 => false
  | _ :: l, k + 1 => withinL l k
theorem withinL_iff {α : Type} : ∀ (l : List α) (k : Nat), withinL l k = true ↔ l.length ≤ k
  | [], k => by simp [withinL]
  | a :: l, 0 => by simp [withinL]
  | a :: l, k + 1 => by simp [withinL, withinL_iff l k]
instance (priority := 2000) decLen (k : Nat) (c : List Value) : Decidable (k ≤ c.length) := decidable_of_iff (longer k c = true) (longer_iff k c)
def setAll : List Value → Nat → List Value → List Value
  | c, _, [] => c
  | c, i, v :: vs => setAll (c.set i v) (i + 1) vs
def overlay : List Value → List Value → List Value
  | c, [] => c
  | [], _ => []
  | _ :: c, v :: vs => v :: overlay c vs
def splice : List Value → Nat → List Value → List Value
  | c, 0, vs => overlay c vs
  | [], _ + 1, _ => []
  | a :: c, k + 1, vs => a :: splice c k vs
theorem setAll_cons (a : Value) : ∀ (vs c : List Value) (i : Nat), setAll (a :: c) (i + 1) vs = a :: setAll c i vs
  | [], c, i => rfl
  | v :: vs, c, i => by simp only [setAll, List.set_cons_succ]; exact setAll_cons a vs _ _
theorem overlay_eq : ∀ (vs c : List Value), vs.length ≤ c.length → overlay c vs = setAll c 0 vs
  | [], c, _ => by cases c <;> rfl
  | v :: vs, [], h => by simp at h
  | v :: vs, a :: c, h => by simp only [overlay, setAll, List.set_cons_zero]; rw [setAll_cons, overlay_eq vs c (by simpa using h)]
theorem splice_eq : ∀ (off : Nat) (c vs : List Value), off + vs.length ≤ c.length → splice c off vs = setAll c off vs
  | 0, c, vs, h => by
    have : splice c 0 vs = overlay c vs := by cases c <;> rfl
    rw [this]; exact overlay_eq vs c (by omega)
  | k + 1, [], vs, h => by simp at h
  | k + 1, a :: c, vs, h => by
    simp only [splice]
    rw [splice_eq k c vs (by simp at h; omega), setAll_cons]
def ldCells (b off n : Nat) : M (List Value) := (rd b).bind fun o => match o with
  | .cells _ _ c => if off + n ≤ c.length then M.pure ((c.drop off).take n) else M.fail
  | .ro c => if off + n ≤ c.length then M.pure ((c.drop off).take n) else M.fail
  | _ => M.fail
def ld1 (b off : Nat) : M Value := (rd b).bind fun o => match o with
  | .cells _ _ c => M.lift c[off]?
  | .ro c => M.lift c[off]?
  | _ => M.fail
def stCells (b off : Nat) (vs : List Value) : M Unit := (rd b).bind fun o => match o with
  | .cells x t c => if off + vs.length ≤ c.length ∧ vs.all (·.oneCell') = true then wr b (some (.cells x t (splice c off vs))) else M.fail
  | _ => M.fail
def asInt : Value → Option Int | .int _ n => some n | _ => none
def asBool : Value → Option Bool | .bool b => some b | _ => none
def rep : Nat → List Value → List Value
  | 0, _ => []
  | n + 1, z => z ++ rep n z

def partOf (sh : Sh) (cs : List Value) (off : Nat) : Option Value :=
  match sh with
  | .one => cs[off]?
  | .agg n => if off + n ≤ cs.length then some (.agg ((cs.drop off).take n).toArray) else none

def binV (op : BinOp) (x y : Value) : Option Value :=
  match op, x, y with
  | .shl, .int k a, .int _ b => if b < 0 then none else some (.int k (k.wrap (a * 2 ^ (Min.min b.toNat k.bits))))
  | .shr, .int k a, .int _ b => if b < 0 then none else some (.int k (a.fdiv (2 ^ (Min.min b.toNat k.bits))))
  | op, .int k a, .int k' b =>
    if k ≠ k' then none else
    match op with
    | .add => some (.int k (k.wrap (a + b)))
    | .sub => some (.int k (k.wrap (a - b)))
    | .mul => some (.int k (k.wrap (a * b)))
    | .quo => if b = 0 then none else some (.int k (k.wrap (a.tdiv b)))
    | .rem => if b = 0 then none else some (.int k (a.tmod b))
    | .and => some (.int k (k.wrap (BitVec.ofInt k.bits a &&& BitVec.ofInt k.bits b).toNat))
    | .or => some (.int k (k.wrap (BitVec.ofInt k.bits a ||| BitVec.ofInt k.bits b).toNat))
    | .xor => some (.int k (k.wrap (BitVec.ofInt k.bits a ^^^ BitVec.ofInt k.bits b).toNat))
    | .andNot => some (.int k (k.wrap (BitVec.ofInt k.bits a &&& ~~~ BitVec.ofInt k.bits b).toNat))
    | .eql => some (.bool (a == b))
    | .neq => some (.bool (a != b))
    | .lss => some (.bool (a < b))
    | .leq => some (.bool (a ≤ b))
    | .gtr => some (.bool (a > b))
    | .geq => some (.bool (a ≥ b))
    | _ => none
  | op, .string a, .string b =>
    match op with
    | .add => if ((a.size + b.size : Nat) : Int) > IntKind.i64.max then none else some (.string (a ++ b))
    | .eql => some (.bool (a.toList == b.toList))
    | .neq => some (.bool !(a.toList == b.toList))
    | .lss => some (.bool (Op.bytesLess a.toList b.toList))
    | .leq => some (.bool (Op.bytesLess a.toList b.toList || a.toList == b.toList))
    | .gtr => some (.bool !(Op.bytesLess a.toList b.toList || a.toList == b.toList))
    | .geq => some (.bool !(Op.bytesLess a.toList b.toList))
    | _ => none
  | _, _, _ => none

/-- two cells of one kind (0: bool, 1: a number, 2: a string), compared -/
def eqCell (k : Nat) (x y : Value) : Option Bool :=
  match k, x, y with
  | 0, .bool a, .bool b => some (a == b)
  | 1, .int k a, .int k' b => if k = k' then some (a == b) else none
  | 2, .string a, .string b => some (a.data.toList == b.data.toList)
  | _, _, _ => none
def eqCells : List (Nat × Nat) → List Value → List Value → Option Bool
  | [], _, _ => some true
  | (o, k) :: os, xs, ys => match xs[o]?, ys[o]? with
    | some x, some y => match eqCell k x y, eqCells os xs ys with
      | some a, some b => some (a && b)
      | _, _ => none
    | _, _ => none
def isNil : NilK → Value → Option Bool
  | .ptr, .pointer none => some true
  | .ptr, .pointer (some _) => some false
  | .slice, .slice none _ _ => some true
  | .slice, .slice (some _) _ _ => some false
  | .map, .map none => some true
  | .map, .map (some _) => some false
  | .func, .nilFunc => some true
  | .func, .func _ _ _ => some false
  | .iface, .nilIface => some true
  | .iface, .iface _ _ => some false
  | _, _ => none
def eqV (k : EqK) (x y : Value) : Option Bool :=
  match k with
  | .bool => match x, y with | .bool a, .bool b => some (a == b) | _, _ => none
  | .nil k => match isNil k x, isNil k y with
    | some true, some b => some b
    | some false, some true => some false
    | _, _ => none
  | .cells n offs => match x, y with
    | .agg xs, .agg ys => if xs.toList.length = n ∧ ys.toList.length = n then eqCells offs xs.toList ys.toList else none
    | _, _ => none

def unV (op : UnOp) (x : Value) : Option Value :=
  match op, x with
  | .neg, .int k n => some (.int k (k.wrap (0 - n)))
  | .xor, .int k n => some (.int k (k.wrap (BitVec.ofInt k.bits (if k.signed then -1 else k.max) ^^^ BitVec.ofInt k.bits n).toNat))
  | .not, .bool b => some (.bool !b)
  | _, _ => none

def bytesOf : List Value → Option (List UInt8)
  | [] => some []
  | .int .u8 n :: r => match bytesOf r with | some l => some (UInt8.ofNat n.toNat :: l) | none => none
  | _ :: _ => none

def evs (e : Env) : List Atom → Option (List Value)
  | [] => some []
  | a :: r => match a.ev e, evs e r with | some v, some l => some (v :: l) | _, _ => none

/-- parts laid over cells -/
def fillA (e : Env) : List (Nat × Nat × Atom) → List Value → Option (List Value)
  | [], c => some c
  | (off, size, a) :: r, c => match a.ev e with
    | some v => if v.cells.size = size ∧ off + size ≤ c.length then fillA e r (setAll c off v.cells.toList) else none
    | none => none

def bnd (e : Env) (x : Option Atom) (dflt : Nat) (y : Nat) : Option Nat :=
  match x with
  | none => some dflt
  | some a => match (a.ev e).bind asInt with
    | some i => if 0 ≤ i ∧ i ≤ y then some i.toNat else none
    | none => none
/-- low, high, max -/
def bnds (e : Env) (len cap : Nat) (lo hi mx : Option Atom) : Option (Nat × Nat × Nat) :=
  match bnd e mx cap cap with
  | none => none
  | some m => match bnd e hi len m with
    | none => none
    | some h => match bnd e lo 0 h with
      | none => none
      | some l => some (l, h, m)

inductive Tgt where
  | fn (f : FuncId)
  | yield (l : Nat)
def target (f : Value) (args : List Value) : Option (Tgt × List Value) :=
  match f with
  | .func (.func f) first captured => some (.fn f, first.toList ++ args ++ captured.toList)
  | .func (.yield l) _ _ => some (.yield l, args)
  | _ => none

def lenV (k : LenK) (v : Value) : Option Nat :=
  match k, v with
  | .str, .string s => some s.size
  | .slice, .slice _ n _ => some n
  | .slice, .chan none => some 0
  | .arr n, _ => some n
  | .map, .map none => some 0
  | _, _ => none

/-- the first n elements' cells of a slice or a string -/
def firstN (size n : Nat) : Value → M (List Value)
  | .slice (some a) _ _ => ldCells a.block a.off (n * size)
  | .slice none _ _ => M.pure []
  | .chan none => if n = 0 then M.pure [] else M.fail
  | .string s => if size = 1 then M.pure ((s.data.toList.take n).map fun b => .int .u8 b.toNat) else M.fail
  | _ => M.fail
def lenOf : Value → Option Nat
  | .chan none => some 0
  | .slice _ n _ => some n
  | .string s => some s.size
  | _ => none

def growA (size bytes : Nat) (base : Option Addr) (sLen sCap n : Nat) (news : M (List Value)) : M Value :=
  if 2 * ((sLen + n) * bytes) ≤ 281474976710656 ∧ bytes ≠ 0 ∧ size ≠ 0 then
    news.bind fun new => if new.all (·.oneCell') = true then (
    match base with
    | some a => (rd a.block).bind fun o => match o with
      | .cells ext str c =>
        if a.off + sLen * size ≤ c.length then
          match ext with
          | none => (nw (.cells (some size) false ((c.drop a.off).take (sLen * size) ++ new))).bind fun nb => M.pure (.slice (some ⟨nb, 0, none⟩) (sLen + n) (sLen + n))
          | some z => if z = size ∧ withinL c (a.off + (sLen + n) * size) = true then
              (wr a.block none).bind fun _ =>
              (nw (.cells (some size) str ((c.drop a.off).take (sLen * size) ++ new))).bind fun nb => M.pure (.slice (some ⟨nb, 0, none⟩) (sLen + n) (sLen + n))
            else M.fail
        else M.fail
      | _ => M.fail
    | none => if sCap = 0 ∧ sLen = 0 then (nw (.cells (some size) false new)).bind fun nb => M.pure (.slice (some ⟨nb, 0, none⟩) n n) else M.fail) else M.fail
  else M.fail
def putA (size : Nat) (base : Option Addr) (sLen sCap n : Nat) (news : M (List Value)) : M Value :=
  news.bind fun new =>
  match base with
  | some a => (stCells a.block (a.off + sLen * size) new).bind fun _ => M.pure (.slice base (sLen + n) sCap)
  | none => if sCap = 0 then M.pure (.slice none 0 0) else M.fail
def appendA (size bytes : Nat) (s x : Value) : M Value :=
  match s with
  | .slice base sLen sCap => (M.lift (lenOf x)).bind fun n =>
    if sLen + n ≤ sCap then putA size base sLen sCap n (firstN size n x) else growA size bytes base sLen sCap n (firstN size n x)
  | .chan none => (M.lift (lenOf x)).bind fun n => if n = 0 then (firstN size 0 x).bind fun _ => M.pure (.chan none) else growA size bytes none 0 0 n (firstN size n x)
  | _ => M.fail
def appendZ (size bytes : Nat) (zero : List Value) (s x : Value) : M Value :=
  match s, x with
  | .slice base sLen sCap, .int _ l =>
    if 0 ≤ l ∧ l < 281474976710656 ∧ l * bytes ≤ 281474976710656 ∧ zero.length = size then
      if sLen + l.toNat ≤ sCap then putA size base sLen sCap l.toNat (M.pure (rep l.toNat zero)) else growA size bytes base sLen sCap l.toNat (M.pure (rep l.toNat zero))
    else M.fail
  | _, _ => M.fail

/-- is a block one of plain cells (of cells that may be grown)? -/
def chkS (own : Bool) (b : Nat) : M Unit := (rd b).bind fun o => match o with
  | .cells (some _) false _ => M.pure ()
  | .cells none false _ => if own then M.fail else M.pure ()
  | _ => M.fail
/-- may a slice be cut? -/
def chkC (size : Nat) (base : Option Addr) : M Unit := match base with
  | none => M.pure ()
  | some a => (rd a.block).bind fun o => match o with
    | .cells x _ _ => if x = none ∨ x = some size then M.pure () else M.fail
    | _ => M.fail
/-- the new element and what lies behind it: in place where there is room for sure -/
def insG (size bytes : Nat) (a : Addr) (n c i : Nat) (news : M (List Value)) : M Value :=
  if a.off = 0 ∧ size ≠ 0 ∧ n + 1 < 4611686018427387904 then
    if i + (n + 1 - i) ≤ c then putA size (some a) i c (n + 1 - i) news else growA size bytes (some a) i c (n + 1 - i) news
  else M.fail
/-- slices.Insert of one element -/
def insA (size bytes : Nat) (base : Option Addr) (n c : Nat) (i : Int) (xb : Option Addr) (xc : Nat) : M Value :=
  if 0 ≤ i ∧ i ≤ n ∧ n ≤ c then
    if i = n then (chkC size base).bind fun _ => appendA size bytes (.slice base n c) (.slice xb 1 xc)
    else match base, xb with
      | some a, some b => if a.block ≠ b.block then
          (chkS false b.block).bind fun _ => (chkS true a.block).bind fun _ =>
          insG size bytes a n c i.toNat ((ldCells b.block b.off size).bind fun l => (ldCells a.block (a.off + i.toNat * size) ((n - i.toNat) * size)).bind fun r => M.pure (l ++ r))
        else M.fail
      | _, _ => M.fail
  else M.fail
/-- .. whatever it is put into -/
def insS (size bytes : Nat) (s : Value) (i : Int) (xb : Option Addr) (xc : Nat) : M Value := match s with
  | .slice base n c => insA size bytes base n c i xb xc
  | .chan none => if i = 0 then appendA size bytes (.chan none) (.slice xb 1 xc) else M.fail
  | _ => M.fail

def maxV (gt : Bool) : Value → Value → Option Value
  | .int k x, .int k' y => if k = k' then some (.int k (if gt then (if y > x then y else x) else (if y < x then y else x))) else none
  | _, _ => none
def maxL (gt : Bool) : Value → List Value → Option Value
  | x, [] => some x
  | x, y :: r => match maxV gt x y with | some z => maxL gt z r | none => none

/-- two keys, compared -/
def eqKey (kk : KK) (x y : Value) : Option Bool := match kk with
  | .one k => eqCell k x y
  | .agg n offs => eqV (.cells n offs) x y
/-- a key of the right size -/
def aggOk (kk : KK) (y : Value) : Bool := match kk, y with
  | .one _, _ => true
  | .agg n _, .agg xs => Nat.beq xs.toList.length n
  | .agg _ _, _ => false
def chkKey (kk : KK) (y : Value) : Option Value := match aggOk kk y with
  | true => some y
  | false => none
/-- where a key stands in a map -/
def findK (kk : KK) (k : Value) : List MEnt → Nat → Option (Option (Nat × MEnt))
  | [], _ => some none
  | e :: r, i => match eqKey kk k e.key with
    | some true => some (some (i, e))
    | some false => findK kk k r (i + 1)
    | none => none
def mres (ok : Bool) (zero : Value) : Option (Nat × MEnt) → Value
  | some (_, e) => if ok then .tuple #[e.val, .bool true] else e.val
  | none => if ok then .tuple #[zero, .bool false] else zero
def mput (k v : Value) (es : List MEnt) (cl : Nat) : Option (Nat × MEnt) → Blk
  | some (i, e) => .map (es.set i ⟨k, v, e.born⟩) cl
  | none => .map (es ++ [⟨k, v, cl⟩]) (cl + 1)
def mcut (es : List MEnt) : Option (Nat × MEnt) → List MEnt
  | some (i, _) => es.eraseIdx i
  | none => es
def mstamp (zero : Value) (cl : Nat) : Option (Nat × MEnt) → Value
  | some (_, e) => .tuple #[e.val, .int .i64 e.born]
  | none => .tuple #[zero, .int .i64 cl]
def mkeep (k zero : Value) (es : List MEnt) (cl : Nat) : Option (Nat × MEnt) → Blk
  | some (i, e) => .map (es.set i ⟨k, e.val, e.born⟩) cl
  | none => .map (es ++ [⟨k, zero, cl⟩]) (cl + 1)
def findBorn (b : Int) : List MEnt → Nat → Option (Nat × MEnt)
  | [], _ => none
  | e :: r, i => if (e.born : Int) == b then some (i, e) else findBorn b r (i + 1)
/-- a key that may be one of this kind -/
def isKey (kk : KK) (k : Value) : Bool := match kk, k with | .one 0, .bool _ => true | .one 1, .int _ _ => true | .one 2, .string _ => true | .agg n o, y => aggOk (.agg n o) y | _, _ => false
def hintOk (e : Env) : Option Atom → Option Unit
  | none => some ()
  | some a => ((a.ev e).bind asInt).map fun _ => ()

/-- the rune that stands there, and how long it is -/
def decA (s : ByteArray) (pos : Nat) : Nat × Nat := match s.data.toList[pos]? with
  | some b => match Nat.blt b.toNat 128 with
    | true => (b.toNat, 1)
    | false => Utf8.decode s pos
  | none => Utf8.decode s pos

/-! ## An operation -/
section
variable (call : Tgt → List Value → M Value)
def exec (e : Env) : AOp → M Value
  | .mov a => (M.lift (a.ev e)).bind fun v => M.pure v
  | .pick c a b => (M.lift ((c.ev e).bind asBool)).bind fun t => (M.lift (if t then a.ev e else b.ev e)).bind fun v => M.pure v
  | .bin op a b => (M.lift (a.ev e)).bind fun x => (M.lift (b.ev e)).bind fun y => (M.lift (binV op x y)).bind fun v => M.pure v
  | .eq neg k a b => (M.lift (a.ev e)).bind fun x => (M.lift (b.ev e)).bind fun y => (M.lift (eqV k x y)).bind fun t => M.pure (.bool (if neg then !t else t))
  | .un op a => (M.lift (a.ev e)).bind fun x => (M.lift (unV op x)).bind fun v => M.pure v
  | .conv k a => (M.lift (a.ev e)).bind fun x => match k, x with
    | .int k, .int _ n => M.pure (.int k (k.wrap n))
    | .str2b _, .string s => (nw (.cells (some 1) true (s.data.toList.map fun b => .int .u8 b.toNat))).bind fun nb => M.pure (.slice (some ⟨nb, 0, none⟩) s.size s.size)
    | .b2str, .slice none _ _ => M.pure (.string .empty)
    | .b2str, .chan none => M.pure (.string .empty)
    | .b2str, .slice (some a) n _ => (ldCells a.block a.off n).bind fun cs => (M.lift (bytesOf cs)).bind fun l => M.pure (.string ⟨l.toArray⟩)
    | .same, .string s => M.pure (.string s)
    | .sameSl, .slice (some a) n c => (rd a.block).bind fun o => match o with
      | .cells x _ cs => (wr a.block (some (.cells x true cs))).bind fun _ => M.pure (.slice (some a) n c)
      | _ => M.fail
    | _, _ => M.fail
  | .alloc _ zero => (nw (.cells none false zero)).bind fun b => M.pure (.pointer (some ⟨b, 0, none⟩))
  | .box _ a => (M.lift (a.ev e)).bind fun v => (nw (.cells none false v.cells.toList)).bind fun b => M.pure (.pointer (some ⟨b, 0, none⟩))
  | .build zero parts => (M.lift (fillA e parts zero)).bind fun c => M.pure (.agg c.toArray)
  | .bslice _ len zero parts => (M.lift (fillA e parts zero)).bind fun c => (nw (.cells none false c)).bind fun b => M.pure (.slice (some ⟨b, 0, none⟩) len len)
  | .load sh a => (M.lift (a.ev e)).bind fun x => match x with
    | .pointer (some p) => match sh with
      | .one => (ld1 p.block p.off).bind fun v => M.pure v
      | .agg n => (ldCells p.block p.off n).bind fun c => M.pure (.agg c.toArray)
    | _ => M.fail
  | .store n a v => (M.lift (a.ev e)).bind fun x => (M.lift (v.ev e)).bind fun y => match x with
    | .pointer (some p) => if y.cells.size = n then (stCells p.block p.off y.cells.toList).bind fun _ => M.pure undef else M.fail
    | _ => M.fail
  | .nilchk a => (M.lift (a.ev e)).bind fun x => match x with
    | .pointer (some p) => M.pure (.pointer (some p))
    | .func (.func f) first captured => M.pure (.func (.func f) first captured)
    | .func (.yield l) first captured => M.pure (.func (.yield l) first captured)
    | _ => M.fail
  | .mkslice _ size bytes zero l c => (M.lift ((l.ev e).bind asInt)).bind fun ln => (M.lift ((c.ev e).bind asInt)).bind fun cp =>
    if 0 ≤ ln ∧ ln ≤ cp ∧ bytes * cp ≤ 281474976710656 ∧ cp < 4611686018427387904 ∧ zero.length = size then
      (nw (.cells none false (rep cp.toNat zero))).bind fun b => M.pure (.slice (some ⟨b, 0, none⟩) ln.toNat cp.toNat)
    else M.fail
  | .slcS x lo hi => (M.lift (x.ev e)).bind fun v => match v with
    | .string s => (M.lift (bnds e s.size s.size lo hi none)).bind fun b => M.pure (.string (s.extract b.1 b.2.1))
    | _ => M.fail
  | .slc size x lo hi mx => (M.lift (x.ev e)).bind fun v => match v with
    | .slice none _ _ => (M.lift (bnds e 0 0 lo hi mx)).bind fun _ => M.pure (.slice none 0 0)
    | .slice (some a) len cap => (M.lift (bnds e len cap lo hi mx)).bind fun b => (rd a.block).bind fun o => match o with
      | .cells ext _ _ => if (ext = none ∨ ext = some size) ∧ b.2.1 ≤ b.2.2 then
          M.pure (if ext.isSome = true ∧ mx.isSome = true ∧ b.2.2 = b.1 then .chan none else .slice (some (if b.2.2 = b.1 then a else ⟨a.block, a.off + b.1 * size, none⟩)) (b.2.1 - b.1) (b.2.2 - b.1))
        else M.fail
      | .ro _ => if b.2.1 ≤ b.2.2 then
          M.pure (.slice (some (if b.2.2 = b.1 then a else ⟨a.block, a.off + b.1 * size, none⟩)) (b.2.1 - b.1) (b.2.2 - b.1))
        else M.fail
      | _ => M.fail
    | .chan none => (M.lift (bnds e 0 0 lo hi mx)).bind fun _ => M.pure (.chan none)
    | _ => M.fail
  | .slcA n size x lo hi mx => (M.lift (x.ev e)).bind fun v => match v with
    | .pointer (some a) => (M.lift (bnds e n n lo hi mx)).bind fun b => (rd a.block).bind fun o => match o with
      | .cells none _ _ => M.pure (.slice (some (if b.2.2 = b.1 then a else ⟨a.block, a.off + b.1 * size, none⟩)) (b.2.1 - b.1) (b.2.2 - b.1))
      | _ => M.fail
    | _ => M.fail
  | .fldA off a => (M.lift (a.ev e)).bind fun x => match x with
    | .pointer (some p) => M.pure (.pointer (some ⟨p.block, p.off + off, none⟩))
    | _ => M.fail
  | .fld sh off a => (M.lift (a.ev e)).bind fun x => match x with
    | .agg cs => (M.lift (partOf sh cs.toList off)).bind fun v => M.pure v
    | _ => M.fail
  | .ixA size a i => (M.lift (a.ev e)).bind fun x => (M.lift ((i.ev e).bind asInt)).bind fun i => match x with
    | .slice (some p) len _ => if 0 ≤ i ∧ i < len then M.pure (.pointer (some ⟨p.block, p.off + i.toNat * size, none⟩)) else M.fail
    | _ => M.fail
  | .ixAA n size a i => (M.lift (a.ev e)).bind fun x => (M.lift ((i.ev e).bind asInt)).bind fun i => match x with
    | .pointer (some p) => if 0 ≤ i ∧ i < n then M.pure (.pointer (some ⟨p.block, p.off + i.toNat * size, none⟩)) else M.fail
    | _ => M.fail
  | .ix n size sh a i => (M.lift (a.ev e)).bind fun x => (M.lift ((i.ev e).bind asInt)).bind fun i => match x with
    | .agg cs => if 0 ≤ i ∧ i < n then (M.lift (partOf sh cs.toList (i.toNat * size))).bind fun v => M.pure v else M.fail
    | _ => M.fail
  | .ixS a i => (M.lift (a.ev e)).bind fun x => (M.lift ((i.ev e).bind asInt)).bind fun i => match x with
    | .string s => if 0 ≤ i then (M.lift s.data.toList[i.toNat]?).bind fun b => M.pure (.int .u8 b.toNat) else M.fail
    | _ => M.fail
  | .mkfn fn first captured => (M.lift (evs e first)).bind fun l => (M.lift (evs e captured)).bind fun r => M.pure (.func (.func fn) l.toArray r.toArray)
  | .mkif t a => (M.lift (a.ev e)).bind fun x => M.pure (.iface t x)
  | .ext a i => (M.lift (a.ev e)).bind fun x => match x with
    | .tuple vs => (M.lift vs.toList[i]?).bind fun v => M.pure v
    | _ => M.fail
  | .call f args => (M.lift (f.ev e)).bind fun g => (M.lift (evs e args)).bind fun l => (M.lift (target g l)).bind fun t => (call t.1 t.2).bind fun v => M.pure v
  | .app size bytes _ s x => (M.lift (s.ev e)).bind fun s => (M.lift (x.ev e)).bind fun x => (appendA size bytes s x).bind fun v => M.pure v
  | .appZ size bytes _ zero s x => (M.lift (s.ev e)).bind fun s => (M.lift (x.ev e)).bind fun x => (appendZ size bytes zero s x).bind fun v => M.pure v
  | .len k a => (M.lift (a.ev e)).bind fun x => match k, x with
    | .map, .map (some b) => (rd b).bind fun o => match o with
      | .map es _ => M.pure (.int .i64 es.length)
      | _ => M.fail
    | k, x => (M.lift (lenV k x)).bind fun n => M.pure (.int .i64 n)
  | .cap a => (M.lift (a.ev e)).bind fun x => match x with
    | .slice none _ _ => M.pure (.int .i64 0)
    | .slice (some p) _ n => (rd p.block).bind fun o => match o with
      | .cells none _ _ => M.pure (.int .i64 n)
      | .ro _ => M.pure (.int .i64 n)
      | _ => M.fail
    | _ => M.fail
  | .copy size d s => (M.lift (d.ev e)).bind fun d => (M.lift (s.ev e)).bind fun s => match d with
    | .slice base dLen _ => (M.lift (lenOf s)).bind fun sl => (firstN size (Min.min sl dLen) s).bind fun cs => match base with
      | some a => (stCells a.block a.off cs).bind fun _ => M.pure (.int .i64 (Min.min sl dLen : Nat))
      | none => M.pure (.int .i64 (Min.min sl dLen : Nat))
    | _ => M.fail
  | .clear zero a => (M.lift (a.ev e)).bind fun x => match x with
    | .slice none _ _ => M.pure (.tuple #[])
    | .slice (some p) n _ => (stCells p.block p.off (rep n zero)).bind fun _ => M.pure (.tuple #[])
    | _ => M.fail
  | .max args => (M.lift (evs e args)).bind fun l => match l with
    | x :: r => (M.lift (maxL true x r)).bind fun v => M.pure v
    | [] => M.fail
  | .min args => (M.lift (evs e args)).bind fun l => match l with
    | x :: r => (M.lift (maxL false x r)).bind fun v => M.pure v
    | [] => M.fail
  | .mkmap h => (M.lift (hintOk e h)).bind fun _ => (nw (.map [] 0)).bind fun b => M.pure (.map (some b))
  | .mget kk ok zero m k => (M.lift (m.ev e)).bind fun x => (M.lift ((k.ev e).bind (chkKey kk))).bind fun y => match x with
    | .map none => M.pure (mres ok zero none)
    | .map (some b) => (rd b).bind fun o => match o with
      | .map es _ => (M.lift (findK kk y es 0)).bind fun r => M.pure (mres ok zero r)
      | _ => M.fail
    | _ => M.fail
  | .mset kk m k v => (M.lift (m.ev e)).bind fun x => (M.lift (k.ev e)).bind fun y => (M.lift (v.ev e)).bind fun z => match x with
    | .map (some b) => (rd b).bind fun o => match o with
      | .map es cl => if isKey kk y = true then (M.lift (findK kk y es 0)).bind fun r => (wr b (some (mput y z es cl r))).bind fun _ => M.pure undef else M.fail
      | _ => M.fail
    | _ => M.fail
  | .mdel kk m k => (M.lift (m.ev e)).bind fun x => (M.lift ((k.ev e).bind (chkKey kk))).bind fun y => match x with
    | .map none => M.pure (.tuple #[])
    | .map (some b) => (rd b).bind fun o => match o with
      | .map es cl => (M.lift (findK kk y es 0)).bind fun r => (wr b (some (.map (mcut es r) cl))).bind fun _ => M.pure (.tuple #[])
      | _ => M.fail
    | _ => M.fail
  | .ment kk zero m k => (M.lift (m.ev e)).bind fun x => (M.lift (k.ev e)).bind fun y => match x with
    | .map (some b) => (rd b).bind fun o => match o with
      | .map es cl => if isKey kk y = true then (M.lift (findK kk y es 0)).bind fun r => (wr b (some (mkeep y zero es cl r))).bind fun _ => M.pure (mstamp zero cl r) else M.fail
      | _ => M.fail
    | _ => M.fail
  | .mfill m s v => (M.lift (m.ev e)).bind fun x => (M.lift ((s.ev e).bind asInt)).bind fun t => (M.lift (v.ev e)).bind fun z => match x with
    | .map (some b) => (rd b).bind fun o => match o with
      | .map es cl => (M.lift (findBorn t es 0)).bind fun r => (wr b (some (.map (es.set r.1 ⟨r.2.key, z, r.2.born⟩) cl))).bind fun _ => M.pure undef
      | _ => M.fail
    | _ => M.fail
  | .srange a => (M.lift (a.ev e)).bind fun x => match x with
    | .string s => (nw (.iter s 0)).bind fun b => M.pure (.pointer (some ⟨b, 0, none⟩))
    | _ => M.fail
  | .snext a => (M.lift (a.ev e)).bind fun x => match x with
    | .pointer (some p) => (rd p.block).bind fun o => match o with
      | .iter s pos => match Nat.beq p.off 0, Nat.blt pos s.data.toList.length with
        | true, true => (wr p.block (some (.iter s (pos + (decA s pos).2)))).bind fun _ => M.pure (.tuple #[.bool true, .int .i64 pos, .int .i32 (decA s pos).1])
        | true, false => M.pure (.tuple #[.bool false])
        | false, _ => M.fail
      | _ => M.fail
    | _ => M.fail
  | .panic => M.fail

def putD (e : Env) (d : Option Nat) (v : Value) : Env := match d with | none => e | some d => e.set d (some v)
def wanted (want : Bool) : Value → Option Bool
  | .bool b => some (b == want)
  | .tuple _ => some false
  | _ => none

def instr (i : AInstr) (e : Env) : M Env :=
  match i.guard with
  | none => (exec call e i.op).bind fun v => M.pure (putD e i.dst v)
  | some (t, want) => (M.lift ((e.get t).bind (wanted want))).bind fun b =>
    if b then (exec call e i.op).bind fun v => M.pure (putD e i.dst v) else M.pure (putD e i.dst undef)
def instrs : List AInstr → Env → M Env
  | [], e => M.pure e
  | i :: r, e => (instr call i e).bind fun e' => instrs r e'

/-- what an operation of a region that draws touched: the log, from which number on and up to which it made blocks -/
structure Touch where
  log : List (Nat × Bool)
  lo : Nat
  hi : Nat
def hits (a b : Touch) : Bool := a.log.any fun x => (Nat.ble b.lo x.1 && Nat.blt x.1 b.hi) || b.log.any fun y => Nat.beq x.1 y.1 && (x.2 || y.2)
def apartOne (m : Nat) (t : Touch) : List (Nat × Touch) → Bool
  | [] => true
  | (i, u) :: r => (m.testBit i || (!(hits t u) && !(hits u t))) && apartOne m t r
/-- the touches, the last one first: those that no edge orders hit each other nowhere -/
def apartAll (masks : List Nat) : List (Nat × Touch) → Bool
  | [] => true
  | (j, t) :: r => apartOne (masks.getD j 0) t r && apartAll masks r
def keepT (i : Nat) (t : Touch) (ts : List (Nat × Touch)) : List (Nat × Touch) :=
  match t.log, Nat.beq t.lo t.hi with
  | [], true => ts
  | _, _ => (i, t) :: ts
def drawnGo : List AInstr → Nat → Env → List (Nat × Touch) → M (Env × List (Nat × Touch))
  | [], _, e, ts => M.pure (e, ts)
  | i :: r, n, e, ts => fun s =>
    match instr call i e { heap := s.heap, next := s.next, log := [] } with
    | none => none
    | some (e', s') => drawnGo r (n + 1) e' (keepT n { log := s'.log, lo := s.next, hi := s'.next } ts) { heap := s'.heap, next := s'.next, log := s'.log ++ s.log }
def drawnA (l : List AInstr) (masks : List Nat) (e : Env) : M Env :=
  (drawnGo call l 0 e []).bind fun r => if apartAll masks r.2 then M.pure r.1 else M.fail

def iter (body : Env → M (Ext × Env)) : Nat → Env → M (Ext × Env)
  | 0, _ => M.fail
  | n + 1, e => (body e).bind fun r => match r.1 with
    | .normal => iter body n r.2
    | _ => M.pure r

def run (fuel : Nat) : ACode → Env → M (Ext × Env)
  | .skip, e => M.pure (.normal, e)
  | .ops l, e => (instrs call l e).bind fun e' => M.pure (.normal, e')
  | .drawn l ps, e => (drawnA call l ps e).bind fun e' => M.pure (.normal, e')
  | .seq a b, e => (run fuel a e).bind fun r => match r.1 with
    | .normal => run fuel b r.2
    | _ => M.pure r
  | .cond c a b, e => (M.lift ((c.ev e).bind asBool)).bind fun t => match t with
    | true => run fuel a e
    | false => run fuel b e
  | .block id a, e => (run fuel a e).bind fun r => match r.1 with
    | .exit i => if i = id then M.pure (.normal, r.2) else M.pure r
    | _ => M.pure r
  | .loop a, e => iter (run fuel a) fuel e
  | .range f params assign body, e => (M.lift (f.ev e)).bind fun g => (nw (.loop params assign body e none)).bind fun l =>
    (M.lift (target g [.func (.yield l) #[] #[]])).bind fun t => (call t.1 t.2).bind fun _ => (rd l).bind fun o => match o with
      | .loop _ _ _ _ p => (wr l none).bind fun _ => match p with
        | none => M.pure (.normal, e)
        | some x => M.pure (x, e)
      | _ => M.fail
  | .exit id, e => M.pure (.exit id, e)
  | .ret, e => M.pure (.ret, e)
end

def resV (e : Env) : ARes → M Value
  | .tmp t => M.lift (e.get t)
  | .cell t sh => (M.lift (e.get t)).bind fun x => match x with
    | .pointer (some p) => match sh with
      | .one => ld1 p.block p.off
      | .agg n => (ldCells p.block p.off n).bind fun c => M.pure (.agg c.toArray)
    | _ => M.fail
def resAll (e : Env) : List ARes → M (List Value)
  | [] => M.pure []
  | r :: rs => (resV e r).bind fun v => (resAll e rs).bind fun l => M.pure (v :: l)
def argsEnv : List Value → Nat → Env → Env
  | [], _, e => e
  | v :: r, i, e => argsEnv r (i + 1) (e.set i (some v))
def zipSet : List Nat → List Value → Env → Env
  | p :: ps, v :: vs, e => zipSet ps vs (e.set p (some v))
  | _, _, e => e

def findByte (c : UInt8) : List UInt8 → Int → Int
  | [], _ => -1
  | b :: r, i => if b == c then i else findByte c r (i + 1)
def countB (c : UInt8) : List UInt8 → Nat → Nat
  | [], n => n
  | b :: r, n => if b == c then countB c r (n + 1) else countB c r n
/-- strings, joined -/
def strsOf : List Value → Option (List ByteArray)
  | [] => some []
  | .string s :: r => match strsOf r with | some l => some (s :: l) | none => none
  | _ :: _ => none
def joinT (sep : List UInt8) : List ByteArray → List UInt8
  | [] => []
  | s :: r => sep ++ (s.data.toList ++ joinT sep r)
def joinB (sep : ByteArray) : List ByteArray → ByteArray
  | [] => ⟨#[]⟩
  | s :: r => ⟨(s.data.toList ++ joinT sep.data.toList r).toArray⟩
def cmpB : List UInt8 → List UInt8 → Int
  | [], [] => 0
  | [], _ :: _ => -1
  | _ :: _, [] => 1
  | a :: r, b :: t => if a == b then cmpB r t else if Nat.blt a.toNat b.toNat then -1 else 1
/-- which of two keys a string is -/
def swV (k1 k2 : ByteArray) (v1 v2 : Int) (s : ByteArray) : Int := if s.data.toList == k1.data.toList then v1 else if s.data.toList == k2.data.toList then v2 else 0
def extA (k : XK) (args : List Value) : M Value :=
  match k, args with
  | .indexByte, [.string s, .int .u8 c] => M.pure (.int .i64 (findByte (UInt8.ofNat c.toNat) s.data.toList 0))
  | .overlaps size, [.slice a la _, .slice b lb _] => match a, b with
    | some a, some b =>
      if la = 0 ∨ lb = 0 ∨ size = 0 then M.pure (.bool false)
      else (rd a.block).bind fun x => (rd b.block).bind fun y => match x, y with
        | .cells _ false _, .cells _ false _ => M.pure (.bool (a.block == b.block && decide (a.off < b.off + lb * size) && decide (b.off < a.off + la * size)))
        | _, _ => M.fail
    | _, _ => M.pure (.bool false)
  | .insert size bytes, [s, .int .i64 i, .slice xb 1 xc] => insS size bytes s i xb xc
  | .countByte, [.string s, .int .u8 c] => M.pure (.int .i64 (countB (UInt8.ofNat c.toNat) s.data.toList 0))
  | .cmpStr, [.string s, .string t] => M.pure (.int .i64 (cmpB s.data.toList t.data.toList))
  | .join, [.slice none n _, .string _] => if n = 0 then M.pure (.string ⟨#[]⟩) else M.fail
  | .join, [.slice (some a) n cp, .string sep] => if cp < n ∨ 140737488355328 < n then M.fail else (ldCells a.block a.off n).bind fun cs => (M.lift (strsOf cs)).bind fun l => if 140737488355328 < (joinB sep l).data.toList.length then M.fail else M.pure (.string (joinB sep l))
  | .sw off k1 k2 v1 v2, [.pointer (some p), .string s] => (stCells p.block (p.off + off) [.int .u32 (swV k1 k2 v1 v2 s)]).bind fun _ => (rd p.block).bind fun _ => M.pure (.bool (decide (swV k1 k2 v1 v2 s > 0)))
  | _, _ => M.fail

/-- a call, with so much fuel: the depth of calls, and the rounds of each loop -/
def callN (F : Nat → Option AFn) : Nat → Tgt → List Value → M Value
  | 0, _, _ => M.fail
  | n + 1, .fn f, args => match F f with
    | none => M.fail
    | some (.ext k) => extA k args
    | some (.sum g) => M.lift (g args)
    | some (.go af) => if args.length = af.nparams then
        (run (callN F n) n af.body (argsEnv args 0 .leaf)).bind fun r => match r.1 with
          | .exit _ => M.fail
          | _ => (resAll r.2 af.results).bind fun vs => match vs with
            | [v] => M.pure v
            | vs => M.pure (.tuple vs.toArray)
      else M.fail
  | n + 1, .yield l, args => (rd l).bind fun o => match o with
    | .loop params assign body e none => if args.length = params.length then
        (wr l none).bind fun _ => (run (callN F n) n assign (zipSet params args e)).bind fun r => match r.1 with
          | .normal => (run (callN F n) n body r.2).bind fun r => match r.1 with
            | .normal => (wr l (some (.loop params assign body e none))).bind fun _ => M.pure (.bool true)
            | x => (wr l (some (.loop params assign body e (some x)))).bind fun _ => M.pure (.bool false)
          | _ => M.fail
      else M.fail
    | _ => M.fail

end Go.Wb
end
/- The engine, part B: from the model's code to the code that is run. Definitions only. -/
section
namespace Go.Wb

def plainF : Nat → Value → Bool
  | 0, _ => false
  | n + 1, v => match v with
    | .bool _ | .int _ _ | .string _ | .nilFunc | .nilIface | .pointer none | .map none => true
    | .slice none 0 0 => true
    | .func (.func _) f c => f.toList.all (plainF n) && c.toList.all (plainF n)
    | .agg cs => cs.toList.all (plainF n)
    | .tuple cs => cs.toList.all (plainF n)
    | .iface _ v => plainF n v
    | _ => false
def plain (v : Value) : Bool := plainF 6 v
/-- the package-level variables that may be read: where each one lies among the abstract blocks, and what it holds -/
class GloK where
  ix : Nat → Option Nat
  inv : Nat → Nat
  cells : List (List Value)
  ok : ∀ g i, ix g = some i → inv i = g ∧ i < cells.length
  pl : ∀ c ∈ cells, ∀ v ∈ c, plain v = true
variable [GloK]

def atom : Operand → Option Atom
  | .tmp t => some (.tmp t)
  | .const v => if plain v then some (.const v) else none
  | .func f => some (.const (.func (.func f) #[] #[]))
  | .global g => match GloK.ix g with
    | some i => some (.const (.pointer (some ⟨i, 0, none⟩)))
    | none => none
def atoms : List Operand → Option (List Atom)
  | [] => some []
  | a :: r => match atom a, atoms r with | some x, some l => some (x :: l) | _, _ => none
def atomO : Option Operand → Option (Option Atom)
  | none => some none
  | some a => (atom a).map some

section
variable (P : Program)
def sizeT (t : TypeId) : Option Nat := (P.info? t).map (·.size)
def bytesT (t : TypeId) : Option Nat := (P.info? t).map (·.bytes)
def zeroT (t : TypeId) : Option (List Value) := match P.info? t with
  | some i => match i.zero with
    | some v => if plain v then some v.cells.toList else none
    | none => none
  | none => none
def shOf (t : TypeId) : Option Sh := match P.underlying t with
  | some (.struct _) | some (.array _ _) => (sizeT P t).map Sh.agg
  | some _ => some .one
  | none => none
/-- the offsets and kinds of the cells that '==' compares -/
def eqFieldsO (rec : TypeId → Nat → Option (List (Nat × Nat))) (sz off : Nat) : List Field → Option (List (Nat × Nat))
  | [] => some []
  | f :: fs => if f.name = "_" then none else match sizeT P f.type, rec f.type (off + f.offset), eqFieldsO rec sz off fs with
    | some s, some a, some l => if f.offset + max s 1 ≤ sz then some (a ++ l) else none
    | _, _, _ => none
def eqItemsO (rec : Nat → Option (List (Nat × Nat))) (s sz off : Nat) : List Nat → Option (List (Nat × Nat))
  | [] => some []
  | i :: is => match rec (off + i * s), eqItemsO rec s sz off is with
    | some a, some l => if i * s + max s 1 ≤ sz then some (a ++ l) else none
    | _, _ => none
def eqOffs : Nat → TypeId → Nat → Option (List (Nat × Nat))
  | 0, _, _ => none
  | d + 1, t, off => match P.underlying t with
    | some .bool => some [(off, 0)]
    | some (.int _) => some [(off, 1)]
    | some .string => some [(off, 2)]
    | some (.struct fs) => if P.stoodInHeld t then none else match sizeT P t with
      | some sz => eqFieldsO P (eqOffs d) sz off fs.toList
      | none => none
    | some (.array n e) => match sizeT P e, sizeT P t with
      | some s, some sz => eqItemsO (eqOffs d e) s sz off (List.range n)
      | _, _ => none
    | _ => none
def eqAgg (t : TypeId) : Option EqK := if P.eqGuardType P.depth t then none else match sizeT P t, eqOffs P 8 t 0 with
  | some n, some offs => some (.cells n offs)
  | _, _ => none
def eqKind (t : TypeId) : Option EqK := match P.underlying t with
  | some .bool => some .bool
  | some (.pointer _) => some (.nil .ptr)
  | some (.slice _) => some (.nil .slice)
  | some (.map _ _) => some (.nil .map)
  | some (.func _ _ _) => some (.nil .func)
  | some (.interface _) => some (.nil .iface)
  | some (.struct _) => eqAgg P t
  | some (.array _ _) => eqAgg P t
  | _ => none
def isC : Operand → Bool | .const _ => true | _ => false
/-- values of an interface's type are compared with the literal nil alone -/
def eqKind2 (t : TypeId) (x y : Operand) : Option EqK := match eqKind P t with
  | some (.nil .iface) => if (isC x || isC y) = true then some (.nil .iface) else none
  | o => o
/-- a map's keys: bools, numbers, strings, structs of such ones -/
def keyKind (t : TypeId) : Option KK := match P.underlying t with
  | some .bool => some (.one 0)
  | some (.int _) => some (.one 1)
  | some .string => some (.one 2)
  | some (.struct _) => match sizeT P t, eqOffs P 8 t 0 with
    | some n, some offs => if (List.range n).all (fun i => offs.any fun o => Nat.beq o.1 i) then some (.agg n offs) else none
    | _, _ => none
  | _ => none
def zeroV (t : TypeId) : Option Value := match P.info? t with
  | some i => match i.zero with
    | some v => if plain v then some v else none
    | none => none
  | none => none
def place1 (fs : Array Field) (i : Nat) : Option (Nat × Nat) := match fs[i]? with
  | some f => (sizeT P f.type).map fun s => (f.offset, s)
  | none => none
def partsS (place : Nat → Option (Nat × Nat)) : List (Nat × Operand) → Option (List (Nat × Nat × Atom))
  | [] => some []
  | (i, x) :: r => match place i, atom x, partsS place r with
    | some (o, s), some a, some l => some ((o, s, a) :: l)
    | _, _, _ => none

def compBuiltin (b : Builtin) (argTypes : Array TypeId) (args : Array Operand) : Option AOp := do
  match b with
  | .len =>
    let a ← atom (← args[0]?)
    match ← P.underlying (← argTypes[0]?) with
    | .string => some (.len .str a)
    | .slice _ => some (.len .slice a)
    | .array n _ => some (.len (.arr n) a)
    | .pointer arr => match ← P.underlying arr with
      | .array n _ => some (.len (.arr n) a)
      | _ => none
    | .map _ _ => some (.len .map a)
    | _ => none
  | .cap =>
    let a ← atom (← args[0]?)
    match ← P.underlying (← argTypes[0]?) with
    | .slice _ => some (.cap a)
    | _ => none
  | .append =>
    let s ← atom (← args[0]?)
    let x ← atom (← args[1]?)
    match ← P.underlying (← argTypes[0]?), ← P.underlying (← argTypes[1]?) with
    | .slice e, .slice _ => if (zeroT P e).map (·.length) = sizeT P e then some (.app (← sizeT P e) (← bytesT P e) e s x) else none
    | .slice e, .string => if (zeroT P e).map (·.length) = sizeT P e then some (.app (← sizeT P e) (← bytesT P e) e s x) else none
    | .slice e, .int _ => some (.appZ (← sizeT P e) (← bytesT P e) e (← zeroT P e) s x)
    | _, _ => none
  | .copy =>
    let d ← atom (← args[0]?)
    let s ← atom (← args[1]?)
    match ← P.underlying (← argTypes[0]?) with
    | .slice e => some (.copy (← sizeT P e) d s)
    | _ => none
  | .clear =>
    let a ← atom (← args[0]?)
    match ← P.underlying (← argTypes[0]?) with
    | .slice e => some (.clear (← zeroT P e) a)
    | _ => none
  | .delete =>
    let m ← atom (← args[0]?)
    let k ← atom (← args[1]?)
    match ← P.underlying (← argTypes[0]?) with
    | .map kt _ => some (.mdel (← keyKind P kt) m k)
    | _ => none
  | .max => some (.max (← atoms args.toList))
  | .min => some (.min (← atoms args.toList))
  | _ => none

def compOp0 (o : Op) : Option AOp := do
  match o with
  | .move x | .assign x => some (.mov (← atom x))
  | .pick c a b => some (.pick (← atom c) (← atom a) (← atom b))
  | .alloc t => some (.alloc t (← zeroT P t))
  | .box t x => some (.box t (← atom x))
  | .build t parts => match ← P.underlying t with
    | .struct fs => if fs.toList.all (fun f => (sizeT P f.type).isSome) then some (.build (← zeroT P t) (← partsS (place1 P fs) parts.toList)) else none
    | .array _ e =>
      let s ← sizeT P e
      some (.build (← zeroT P t) (← partsS (fun i => some (i * s, s)) parts.toList))
    | _ => none
  | .buildSlice t len parts => match ← P.underlying t with
    | .slice e =>
      let s ← sizeT P e
      let z ← zeroT P e
      if z.length = s ∧ len * s ≤ 65536 then some (.bslice e len (rep len z) (← partsS (fun i => some (i * s, s)) parts.toList)) else none
    | _ => none
  | .load t a => some (.load (← shOf P t) (← atom a))
  | .store t a v => some (.store (← sizeT P t) (← atom a) (← atom v))
  | .nilCheck x => some (.nilchk (← atom x))
  | .sliceToArrayPointer t x => match ← P.underlying t with
    | .array (n + 1) _ => if n < 4611686018427387904 then some (.ixA 0 (← atom x) (.const (.int .i64 n))) else none
    | _ => none
  | .binOp op xt x y _ =>
    match op, ← P.underlying xt with
    | op, .int _ | op, .string => some (.bin op (← atom x) (← atom y))
    | .eql, _ => some (.eq false (← eqKind2 P xt x y) (← atom x) (← atom y))
    | .neq, _ => some (.eq true (← eqKind2 P xt x y) (← atom x) (← atom y))
    | _, _ => none
  | .unOp op _ x => some (.un op (← atom x))
  | .convert src dst x =>
    let a ← atom x
    match ← P.underlying src, ← P.underlying dst with
    | .int _, .int k => some (.conv (.int k) a)
    | .string, .string => some (.conv .same a)
    | .slice _, .slice e =>
      match ← P.underlying e, decide (src = dst) with
      | .int .u8, true => some (.conv .sameSl a)
      | _, _ => none
    | .string, .slice e => match ← P.underlying e with
      | .int .u8 => some (.conv (.str2b e) a)
      | _ => none
    | .slice e, .string => match ← P.underlying e with
      | .int .u8 => some (.conv .b2str a)
      | _ => none
    | _, _ => none
  | .makeInterface t x => match ← P.underlying t with
    | .interface _ => none
    | _ => some (.mkif t (← atom x))
  | .makeFunc (.func f) first captured => some (.mkfn f (← atoms first.toList) (← atoms captured.toList))
  | .makeSlice t l c => match ← P.underlying t with
    | .slice e => some (.mkslice e (← sizeT P e) (← bytesT P e) (← zeroT P e) (← atom l) (← atom c))
    | _ => none
  | .slice t x lo hi mx =>
    let a ← atom x
    let l ← atomO lo
    let h ← atomO hi
    let m ← atomO mx
    if mx.isSome && hi.isNone then none else
    match ← P.underlying t with
    | .array n e => some (.slcA n (← sizeT P e) a l h m)
    | .string => match mx with
      | none => some (.slcS a l h)
      | _ => none
    | .slice e => some (.slc (← sizeT P e) a l h m)
    | .pointer arr => match ← P.underlying arr with
      | .array n e => some (.slcA n (← sizeT P e) a l h m)
      | _ => none
    | _ => none
  | .fieldAddr s x f => match ← P.underlying s with
    | .struct fs =>
      let fd ← fs[f]?
      let sz ← sizeT P fd.type
      if sz = 0 then none else some (.fldA fd.offset (← atom x))
    | _ => none
  | .field s x f => match ← P.underlying s with
    | .struct fs =>
      let fd ← fs[f]?
      some (.fld (← shOf P fd.type) fd.offset (← atom x))
    | _ => none
  | .indexAddr t x i => match ← P.underlying t with
    | .slice e => some (.ixA (← sizeT P e) (← atom x) (← atom i))
    | .array n e => some (.ixAA n (← sizeT P e) (← atom x) (← atom i))
    | _ => none
  | .index t x i => match ← P.underlying t with
    | .array n e => some (.ix n (← sizeT P e) (← shOf P e) (← atom x) (← atom i))
    | .string => some (.ixS (← atom x) (← atom i))
    | _ => none
  | .makeMap t h => match ← P.underlying t with
    | .map _ _ => some (.mkmap (← atomO h))
    | _ => none
  | .lookup t x i ok => match ← P.underlying t with
    | .map kt e => some (.mget (← keyKind P kt) ok (← zeroV P e) (← atom x) (← atom i))
    | _ => none
  | .mapUpdate t m k v => match ← P.underlying t with
    | .map kt _ => some (.mset (← keyKind P kt) (← atom m) (← atom k) (← atom v))
    | _ => none
  | .insert t m k v => match ← P.underlying t with
    | .map kt _ => some (.mset (← keyKind P kt) (← atom m) (← atom k) (← atom v))
    | _ => none
  | .range t x => match ← P.underlying t with
    | .string => some (.srange (← atom x))
    | _ => none
  | .next x s => if s then some (.snext (← atom x)) else none
  | .mapEntry t m k => match ← P.underlying t with
    | .map kt e => some (.ment (← keyKind P kt) (← zeroV P e) (← atom m) (← atom k))
    | _ => none
  | .entryStore _ m s v => some (.mfill (← atom m) (← atom s) (← atom v))
  | .extract x i => some (.ext (← atom x) i)
  | .panic _ => some .panic
  | .call c => match c.callee with
    | .value f => some (.call (← atom f) (← atoms c.args.toList))
    | .builtin b => compBuiltin P b c.argTypes c.args
    | _ => none
  | _ => none

def isDefer : Op → Bool | .defer _ => true | _ => false
/-- what is not run here: the run ends there -/
def compOp (o : Op) : Option AOp := if isDefer o then none else some ((compOp0 P o).getD .panic)
def guardOf (ops : Array Oper) : Option (Nat × Bool) → Option (Option (Nat × Bool))
  | none => some none
  | some (j, want) => match ops[j]? with
    | some oj => match oj.dst with
      | some d => some (some (d, want))
      | none => none
    | none => none
def compInstr (n : Nat) (ops : Array Oper) (o : Oper) : Option AInstr := match guardOf ops o.guard, compOp P o.op with
  | some g, some a => if o.dst.all (· < n) then some { dst := o.dst, guard := g, op := a } else none
  | _, _ => none
def compInstrs (n : Nat) (ops : Array Oper) : List Oper → Option (List AInstr)
  | [] => some []
  | o :: r => match compInstr P n ops o, compInstrs n ops r with
    | some a, some l => some (a :: l)
    | _, _ => none

def namesOf (ops : Array Oper) (o : Oper) : List Nat :=
  (o.op.operands.toList.filterMap fun | .tmp t => some t | _ => none) ++
  (match o.guard with | some (j, _) => ((ops[j]?).bind (·.dst)).toList | none => [])
/-- edges point back; 'before' is what it is; operations that no edge orders share no temporary that one of them writes -/
def orderOk (ops : Array Oper) : Bool :=
  let b := Region.before ops
  (List.range ops.size).all fun j => match ops[j]? with
    | none => false
    | some oj => oj.after.toList.all (fun e => !Region.binds .any e || Nat.blt e.on j) &&
      Nat.beq (b.getD j 0) (oj.after.toList.foldl (fun s e => if Region.binds .any e then s ||| 2 ^ e.on ||| b.getD e.on 0 else s) 0) &&
      (List.range j).all fun i => (b.getD j 0).testBit i || match ops[i]? with
        | none => false
        | some oi => (match oi.dst with | some d => !(namesOf ops oj).contains d && oj.dst != some d | none => true) &&
            (match oj.dst with | some d => !(namesOf ops oi).contains d | none => true)

def compCode (n : Nat) : Code → Option ACode
  | .skip => some .skip
  | .label _ => some .skip
  | .region _ ops draw => match compInstrs P n ops ops.toList with
    | none => none
    | some l => if draw then if orderOk ops then some (.drawn l (Region.before ops).toList) else none else some (.ops l)
  | .seq a b => match compCode n a, compCode n b with
    | some x, some y => some (.seq x y)
    | _, _ => none
  | .cond c a b => match atom c, compCode n a, compCode n b with
    | some c, some x, some y => some (.cond c x y)
    | _, _, _ => none
  | .block id a => match compCode n a with
    | some x => some (.block id x)
    | none => none
  | .loop a => match compCode n a with
    | some x => some (.loop x)
    | none => none
  | .rangeFunc f ps assign body => match atom f, compCode n assign, compCode n body with
    | some f, some x, some y => if ps.toList.all (· < n) then some (.range f ps.toList x y) else none
    | _, _, _ => none
  | .scope a => compCode n a
  | .exit id => some (.exit id)
  | .ret => some .ret
  | _ => none

def compRes : List ResultVar → Option (List ARes)
  | [] => some []
  | .tmp t :: r => match compRes r with | some l => some (.tmp t :: l) | none => none
  | .cell a t :: r => match shOf P t, compRes r with | some sh, some l => some (.cell a sh :: l) | _, _ => none
def noRow (n : String) : Bool := n != "runtime.NumGoroutine" && (Extern.allNextRows.lookup n).isNone && (Extern.allGenericRows.lookup n).isNone && (Extern.allTypedRows.lookup n).isNone && (Extern.allRows.lookup n).isNone
def compFunc (fn : Func) : Option AFn := match fn.body with
  | none => if fn.name = "internal/bytealg.IndexByteString" ∧ fn.origin = "" then some (.ext .indexByte)
    else if fn.name = "internal/bytealg.CountString" ∧ fn.origin = "" then some (.ext .countByte)
    else if fn.name = "internal/bytealg.abigen_runtime_cmpstring" ∧ fn.origin = "" then some (.ext .cmpStr)
    else if fn.origin = "slices.overlaps" ∧ noRow fn.name = true then match fn.params[0]? with
      | none => none
      | some t => match P.underlying t with
        | some (.slice e) => (sizeT P e).map fun s => .ext (.overlaps s)
        | _ => none
    else none
  | some c => if fn.name = "runtime.NumGoroutine" then none else
    match compCode P fn.ntmps c, compRes P fn.results.toList with
    | some a, some rs => some (.go { nparams := fn.params.size + fn.nfree, results := rs, body := a })
    | _, _ => none
end
end Go.Wb
end
/- The engine, part F: a computation looks at what it has touched, and at nothing else. -/
section
set_option linter.unusedSimpArgs false
set_option linter.unusedVariables false
namespace Go.Wb

def Framed {α : Type} (m : M α) : Prop := ∀ S a S', m S = some (a, S') → S.next ≤ S'.next ∧ ∃ D, S'.log = D ++ S.log ∧
  (∀ id, (id, true) ∉ D → ¬ (S.next ≤ id ∧ id < S'.next) → S'.heap.get id = S.heap.get id) ∧
  ∀ S2 : St, S2.next = S.next → (∀ id b, (id, b) ∈ D → S2.heap.get id = S.heap.get id) →
    ∃ S2', m S2 = some (a, S2') ∧ S2'.next = S'.next ∧ S2'.log = D ++ S2.log ∧
      (∀ id, ((id, true) ∈ D ∨ (S.next ≤ id ∧ id < S'.next)) → S2'.heap.get id = S'.heap.get id) ∧
      (∀ id, (id, true) ∉ D → ¬ (S.next ≤ id ∧ id < S'.next) → S2'.heap.get id = S2.heap.get id)

theorem Framed.pure {α : Type} (a : α) : Framed (M.pure a) := by
  intro S b S' h
  simp only [M.pure, Option.some.injEq, Prod.mk.injEq] at h
  obtain ⟨rfl, rfl⟩ := h
  refine ⟨Nat.le_refl _, [], rfl, fun _ _ _ => rfl, fun S2 h1 _ => ⟨S2, rfl, h1, rfl, ?_, fun _ _ _ => rfl⟩⟩
  rintro id (h | h)
  · simp at h
  · omega
theorem Framed.fail {α : Type} : Framed (M.fail : M α) := by intro S b S' h; simp [M.fail] at h
theorem Framed.lift {α : Type} (o : Option α) : Framed (M.lift o) := by
  cases o with
  | none => intro S b S' h; simp [M.lift] at h
  | some a => exact Framed.pure a
theorem Framed.rd (b : Nat) : Framed (rd b) := by
  intro S o S' h
  unfold Wb.rd at h
  cases hb : S.heap.get b with
  | none => simp [hb] at h
  | some p =>
    simp only [hb, Option.some.injEq, Prod.mk.injEq] at h
    obtain ⟨rfl, rfl⟩ := h
    refine ⟨Nat.le_refl _, [(b, false)], rfl, fun _ _ _ => rfl, fun S2 h1 h2 => ⟨{ heap := S2.heap, next := S2.next, log := (b, false) :: S2.log }, ?_, h1, rfl, ?_, fun _ _ _ => rfl⟩⟩
    · unfold Wb.rd
      rw [h2 b false (by simp), hb]
    · rintro id (h | h)
      · simp at h
      · simp only at h; omega
theorem Framed.wr (b : Nat) (o : Option Blk) : Framed (wr b o) := by
  intro S u S' h
  simp only [Wb.wr, Option.some.injEq, Prod.mk.injEq] at h
  obtain ⟨_, rfl⟩ := h
  refine ⟨Nat.le_refl _, [(b, true)], rfl, ?_, fun S2 h1 h2 => ⟨{ heap := S2.heap.set b o, next := S2.next, log := (b, true) :: S2.log }, rfl, h1, rfl, ?_, ?_⟩⟩
  · intro id h _
    simp only
    rw [Tr.get_set, if_neg (by intro e; subst e; simp at h)]
  · rintro id (h | h)
    · simp at h; subst h; simp [Tr.get_set]
    · simp only at h; omega
  · intro id h _
    simp only
    rw [Tr.get_set, if_neg (by intro e; subst e; simp at h)]
theorem Framed.nw (o : Blk) : Framed (nw o) := by
  intro S n S' h
  simp only [Wb.nw, Option.some.injEq, Prod.mk.injEq] at h
  obtain ⟨rfl, rfl⟩ := h
  refine ⟨by simp, [], rfl, ?_, fun S2 h1 h2 => ⟨{ heap := S2.heap.set S2.next (some o), next := S2.next + 1, log := S2.log }, by simp [Wb.nw, h1], by simp [h1], rfl, ?_, ?_⟩⟩
  · intro id _ h
    simp only at h ⊢
    rw [Tr.get_set, if_neg (by omega)]
  · rintro id (h | h)
    · simp at h
    · simp only at h ⊢
      have : id = S.next := by omega
      subst this
      rw [h1, Tr.get_set_same, Tr.get_set_same]
  · intro id _ h
    simp only at h ⊢
    rw [Tr.get_set, if_neg (by omega)]

theorem Framed.bind {α β : Type} {m : M α} {f : α → M β} (hm : Framed m) (hf : ∀ a, Framed (f a)) : Framed (m.bind f) := by
  intro S b S' h
  unfold M.bind at h
  cases h1 : m S with
  | none => simp [h1] at h
  | some p =>
    obtain ⟨a, S1⟩ := p
    simp only [h1] at h
    obtain ⟨n1, D1, l1, s1, k1⟩ := hm S a S1 h1
    obtain ⟨n2, D2, l2, s2, k2⟩ := hf a S1 b S' h
    refine ⟨Nat.le_trans n1 n2, D2 ++ D1, by rw [l2, l1, List.append_assoc], ?_, ?_⟩
    · intro id hn hx
      rw [s2 id (fun c => hn (by simp [c])) (by omega), s1 id (fun c => hn (by simp [c])) (by omega)]
    · intro S2 hn hag
      obtain ⟨T1, t1, t2, t3, t4, t5⟩ := k1 S2 hn fun id b hb => hag id b (by simp [hb])
      obtain ⟨T2, u1, u2, u3, u4, u5⟩ := k2 T1 t2 fun id b hb => by
        by_cases c : (id, true) ∈ D1 ∨ (S.next ≤ id ∧ id < S1.next)
        · exact t4 id c
        · have c1 : (id, true) ∉ D1 := fun h => c (.inl h)
          have c2 : ¬ (S.next ≤ id ∧ id < S1.next) := fun h => c (.inr h)
          rw [t5 id c1 c2, s1 id c1 c2]
          exact hag id b (by simp [hb])
      refine ⟨T2, by simp [M.bind, t1, u1], u2, by rw [u3, t3, List.append_assoc], ?_, ?_⟩
      · intro id hid
        by_cases c : (id, true) ∈ D2 ∨ (S1.next ≤ id ∧ id < S'.next)
        · exact u4 id c
        · have c1 : (id, true) ∉ D2 := fun h => c (.inl h)
          have c2 : ¬ (S1.next ≤ id ∧ id < S'.next) := fun h => c (.inr h)
          rw [u5 id c1 c2, s2 id c1 c2]
          refine t4 id ?_
          rcases hid with hid | hid
          · rcases List.mem_append.1 hid with h | h
            · exact absurd h c1
            · exact .inl h
          · exact .inr (by omega)
      · intro id hn hx
        rw [u5 id (fun c => hn (by simp [c])) (by omega), t5 id (fun c => hn (by simp [c])) (by omega)]
theorem Framed.ite {α : Type} {c : Prop} [Decidable c] {a b : M α} (ha : Framed a) (hb : Framed b) : Framed (if c then a else b) := by split <;> assumption

theorem Framed.ldCells (b off n : Nat) : Framed (ldCells b off n) := .bind (.rd b) fun o => by
  cases o with
  | cells x t c => exact .ite (.pure _) .fail
  | loop => exact .fail
  | map => exact .fail
  | iter => exact .fail
  | ro c => exact .ite (.pure _) .fail
theorem Framed.ld1 (b off : Nat) : Framed (ld1 b off) := .bind (.rd b) fun o => by
  cases o with
  | cells x t c => exact .lift _
  | loop => exact .fail
  | map => exact .fail
  | iter => exact .fail
  | ro c => exact .lift _
theorem Framed.stCells (b off : Nat) (vs : List Value) : Framed (stCells b off vs) := .bind (.rd b) fun o => by
  cases o with
  | cells x t c => exact .ite (.wr _ _) .fail
  | loop => exact .fail
  | map => exact .fail
  | iter => exact .fail
  | ro => exact .fail
theorem Framed.firstN (size n : Nat) (v : Value) : Framed (firstN size n v) := by
  unfold Wb.firstN
  split
  · exact .ldCells _ _ _
  · exact .pure _
  · exact .ite (.pure _) .fail
  · exact .ite (.pure _) .fail
  · exact .fail
theorem Framed.putA (size : Nat) (base : Option Addr) (sLen sCap n : Nat) {news : M (List Value)} (h : Framed news) : Framed (putA size base sLen sCap n news) := by
  refine .bind h fun new => ?_
  cases base with
  | none => exact .ite (.pure _) .fail
  | some a => exact .bind (.stCells _ _ _) fun _ => .pure _
theorem Framed.growA (size bytes : Nat) (base : Option Addr) (sLen sCap n : Nat) {news : M (List Value)} (h : Framed news) : Framed (growA size bytes base sLen sCap n news) := by
  refine .ite (.bind h fun new => .ite ?_ .fail) .fail
  cases base with
  | none => exact .ite (.bind (.nw _) fun _ => .pure _) .fail
  | some a =>
    refine .bind (.rd _) fun o => ?_
    cases o with
    | loop => exact .fail
    | map => exact .fail
    | iter => exact .fail
    | ro => exact .fail
    | cells x t c =>
      refine .ite ?_ .fail
      cases x with
      | none => exact .bind (.nw _) fun _ => .pure _
      | some z => exact .ite (.bind (.wr _ _) fun _ => .bind (.nw _) fun _ => .pure _) .fail
theorem Framed.appendA (size bytes : Nat) (s x : Value) : Framed (appendA size bytes s x) := by
  unfold Wb.appendA
  split
  · exact .bind (.lift _) fun n => .ite (.putA _ _ _ _ _ (.firstN _ _ _)) (.growA _ _ _ _ _ _ (.firstN _ _ _))
  · exact .bind (.lift _) fun n => .ite (.bind (.firstN _ _ _) fun _ => .pure _) (.growA _ _ _ _ _ _ (.firstN _ _ _))
  · exact .fail
theorem Framed.appendZ (size bytes : Nat) (z : List Value) (s x : Value) : Framed (appendZ size bytes z s x) := by
  unfold Wb.appendZ
  split
  · exact .ite (.ite (.putA _ _ _ _ _ (.pure _)) (.growA _ _ _ _ _ _ (.pure _))) .fail
  · exact .fail

section
variable {call : Tgt → List Value → M Value} (hcall : ∀ t a, Framed (call t a))
include hcall
theorem Framed.exec (e : Env) (op : AOp) : Framed (exec call e op) := by
  cases op <;> unfold Wb.exec
  case call f args => exact .bind (.lift _) fun g => .bind (.lift _) fun l => .bind (.lift _) fun t => .bind (hcall _ _) fun v => .pure _
  case app => exact .bind (.lift _) fun s => .bind (.lift _) fun x => .bind (.appendA _ _ _ _) fun v => .pure _
  case appZ => exact .bind (.lift _) fun s => .bind (.lift _) fun x => .bind (.appendZ _ _ _ _ _) fun v => .pure _
  case panic => exact .fail
  case len =>
    refine .bind (.lift _) fun x => ?_
    split
    · refine .bind (.rd _) fun o => ?_
      split
      · exact .pure _
      · exact .fail
    · exact .bind (.lift _) fun _ => .pure _
  case mget =>
    refine .bind (.lift _) fun x => .bind (.lift _) fun y => ?_
    split
    · exact .pure _
    · refine .bind (.rd _) fun o => ?_
      split
      · exact .bind (.lift _) fun _ => .pure _
      · exact .fail
    · exact .fail
  case mset =>
    refine .bind (.lift _) fun x => .bind (.lift _) fun y => .bind (.lift _) fun z => ?_
    split
    · refine .bind (.rd _) fun o => ?_
      split
      · exact .ite (.bind (.lift _) fun _ => .bind (.wr _ _) fun _ => .pure _) .fail
      · exact .fail
    · exact .fail
  case ment =>
    refine .bind (.lift _) fun x => .bind (.lift _) fun y => ?_
    split
    · refine .bind (.rd _) fun o => ?_
      split
      · exact .ite (.bind (.lift _) fun _ => .bind (.wr _ _) fun _ => .pure _) .fail
      · exact .fail
    · exact .fail
  case mfill =>
    refine .bind (.lift _) fun x => .bind (.lift _) fun t => .bind (.lift _) fun z => ?_
    split
    · refine .bind (.rd _) fun o => ?_
      split
      · exact .bind (.lift _) fun _ => .bind (.wr _ _) fun _ => .pure _
      · exact .fail
    · exact .fail
  case mdel =>
    refine .bind (.lift _) fun x => .bind (.lift _) fun y => ?_
    split
    · exact .pure _
    · refine .bind (.rd _) fun o => ?_
      split
      · exact .bind (.lift _) fun _ => .bind (.wr _ _) fun _ => .pure _
      · exact .fail
    · exact .fail
  case srange =>
    refine .bind (.lift _) fun x => ?_
    split
    · exact .bind (.nw _) fun _ => .pure _
    · exact .fail
  case snext =>
    refine .bind (.lift _) fun x => ?_
    split
    · refine .bind (.rd _) fun o => ?_
      split
      · split
        · exact .bind (.wr _ _) fun _ => .pure _
        · exact .pure _
        · exact .fail
      · exact .fail
    · exact .fail
  case conv k a =>
    refine .bind (.lift _) fun x => ?_
    split
    · exact .pure _
    · exact .bind (.nw _) fun _ => .pure _
    · exact .pure _
    · exact .pure _
    · exact .bind (.ldCells _ _ _) fun _ => .bind (.lift _) fun _ => .pure _
    · exact .pure _
    · refine .bind (.rd _) fun o => ?_
      cases o with
      | cells x t c => exact .bind (.wr _ _) fun _ => .pure _
      | loop => exact .fail
      | map => exact .fail
      | iter => exact .fail
      | ro => exact .fail
    · exact .fail
  case slc =>
    refine .bind (.lift _) fun v => ?_
    split
    · exact .bind (.lift _) fun _ => .pure _
    · refine .bind (.lift _) fun b => .bind (.rd _) fun o => ?_
      cases o with
      | cells x t c => exact .ite (.pure _) .fail
      | loop => exact .fail
      | map => exact .fail
      | iter => exact .fail
      | ro c => exact .ite (.pure _) .fail
    · exact .bind (.lift _) fun _ => .pure _
    · exact .fail
  case slcA =>
    refine .bind (.lift _) fun v => ?_
    split
    · refine .bind (.lift _) fun b => .bind (.rd _) fun o => ?_
      split
      · exact .pure _
      · exact .fail
    · exact .fail
  case cap =>
    refine .bind (.lift _) fun v => ?_
    split
    · exact .pure _
    · refine .bind (.rd _) fun o => ?_
      split
      · exact .pure _
      · exact .pure _
      · exact .fail
    · exact .fail
  case copy =>
    refine .bind (.lift _) fun d => .bind (.lift _) fun s => ?_
    split
    · refine .bind (.lift _) fun sl => .bind (.firstN _ _ _) fun cs => ?_
      split
      · exact .bind (.stCells _ _ _) fun _ => .pure _
      · exact .pure _
    · exact .fail
  case load =>
    refine .bind (.lift _) fun x => ?_
    split
    · split
      · exact .bind (.ld1 _ _) fun _ => .pure _
      · exact .bind (.ldCells _ _ _) fun _ => .pure _
    · exact .fail
  case store =>
    refine .bind (.lift _) fun x => .bind (.lift _) fun y => ?_
    split
    · exact .ite (.bind (.stCells _ _ _) fun _ => .pure _) .fail
    · exact .fail
  case clear =>
    refine .bind (.lift _) fun x => ?_
    split
    · exact .pure _
    · exact .bind (.stCells _ _ _) fun _ => .pure _
    · exact .fail
  all_goals
    repeat' first
      | exact Framed.pure _
      | exact Framed.lift _
      | exact Framed.fail
      | exact Framed.nw _
      | refine Framed.bind ?_ fun _ => ?_
      | refine Framed.ite ?_ ?_
      | split
theorem Framed.instr (i : AInstr) (e : Env) : Framed (instr call i e) := by
  unfold Wb.instr
  split
  · exact .bind (.exec hcall _ _) fun _ => .pure _
  · exact .bind (.lift _) fun b => .ite (.bind (.exec hcall _ _) fun _ => .pure _) (.pure _)
theorem Framed.instrs : ∀ (l : List AInstr) (e : Env), Framed (instrs call l e)
  | [], e => .pure _
  | i :: r, e => .bind (.instr hcall i e) fun e' => Framed.instrs r e'
theorem Framed.drawnGo : ∀ (l : List AInstr) (n : Nat) (e : Env) (ts : List (Nat × Touch)), Framed (drawnGo call l n e ts)
  | [], n, e, ts => .pure _
  | i :: r, n, e, ts => by
    -- as a bind over a computation that logs what it touched
    have key : Framed (fun S : St => match Wb.instr call i e { heap := S.heap, next := S.next, log := [] } with
        | none => none
        | some (e', s') => some ((e', ({ log := s'.log, lo := S.next, hi := s'.next } : Touch)), { heap := s'.heap, next := s'.next, log := s'.log ++ S.log }) : M (Env × Touch)) := by
      intro S a S' h
      cases h1 : Wb.instr call i e { heap := S.heap, next := S.next, log := [] } with
      | none => simp [h1] at h
      | some p =>
        obtain ⟨e', s'⟩ := p
        simp only [h1, Option.some.injEq, Prod.mk.injEq] at h
        obtain ⟨rfl, rfl⟩ := h
        obtain ⟨n1, D, l1, s1, k1⟩ := Framed.instr hcall i e _ _ _ h1
        simp only [List.append_nil] at l1
        refine ⟨n1, D, by simp [l1], s1, ?_⟩
        intro S2 hn hag
        obtain ⟨T, t1, t2, t3, t4, t5⟩ := k1 { heap := S2.heap, next := S2.next, log := [] } hn hag
        simp only [List.append_nil] at t3
        refine ⟨{ heap := T.heap, next := T.next, log := T.log ++ S2.log }, by dsimp only; rw [t1]; simp [t3, l1, t2, hn], t2, by simp [t3], t4, t5⟩
    have := Framed.bind key fun p => Framed.drawnGo r (n + 1) p.1 (keepT n p.2 ts)
    have e : Wb.drawnGo call (i :: r) n e ts = M.bind (fun S : St => match Wb.instr call i e { heap := S.heap, next := S.next, log := [] } with
        | none => none
        | some (e', s') => some ((e', ({ log := s'.log, lo := S.next, hi := s'.next } : Touch)), { heap := s'.heap, next := s'.next, log := s'.log ++ S.log })) fun p => Wb.drawnGo call r (n + 1) p.1 (keepT n p.2 ts) := by
      funext S
      simp only [Wb.drawnGo, M.bind]
      cases Wb.instr call i e { heap := S.heap, next := S.next, log := [] } with
      | none => rfl
      | some p => rfl
    rw [e]; exact this
theorem Framed.drawnA (l : List AInstr) (ps : List Nat) (e : Env) : Framed (drawnA call l ps e) := .bind (.drawnGo hcall l 0 e []) fun r => .ite (.pure _) .fail
omit hcall in
theorem Framed.iter {body : Env → M (Ext × Env)} (h : ∀ e, Framed (body e)) : ∀ (n : Nat) (e : Env), Framed (iter body n e)
  | 0, e => .fail
  | n + 1, e => .bind (h e) fun r => by
    split
    · exact Framed.iter h n _
    · exact .pure _
theorem Framed.run (fuel : Nat) : ∀ (c : ACode) (e : Env), Framed (run call fuel c e)
  | .skip, e => .pure _
  | .ops l, e => .bind (.instrs hcall l e) fun _ => .pure _
  | .drawn l ps, e => .bind (.drawnA hcall l ps e) fun _ => .pure _
  | .seq a b, e => .bind (Framed.run fuel a e) fun r => by
    split
    · exact Framed.run fuel b _
    · exact .pure _
  | .cond c a b, e => .bind (.lift _) fun t => by
    split
    · exact Framed.run fuel a e
    · exact Framed.run fuel b e
  | .block id a, e => .bind (Framed.run fuel a e) fun r => by
    split
    · exact .ite (.pure _) (.pure _)
    · exact .pure _
  | .loop a, e => .iter (fun e => Framed.run fuel a e) fuel e
  | .range f ps a b, e => .bind (.lift _) fun g => .bind (.nw _) fun l => .bind (.lift _) fun t => .bind (hcall _ _) fun _ => .bind (.rd _) fun o => by
    split
    · refine .bind (.wr _ _) fun _ => ?_
      split
      · exact .pure _
      · exact .pure _
    · exact .fail
  | .exit id, e => .pure _
  | .ret, e => .pure _
end
theorem Framed.resV (e : Env) (a : ARes) : Framed (resV e a) := by
  cases a with
  | tmp t => exact .lift _
  | cell t sh =>
    refine .bind (.lift _) fun x => ?_
    split
    · split
      · exact .ld1 _ _
      · exact .bind (.ldCells _ _ _) fun _ => .pure _
    · exact .fail
theorem Framed.resAll (e : Env) : ∀ l : List ARes, Framed (resAll e l)
  | [] => .pure _
  | r :: rs => .bind (.resV e r) fun v => .bind (Framed.resAll e rs) fun l => .pure _
theorem Framed.chkS (own : Bool) (b : Nat) : Framed (chkS own b) := by
  refine .bind (.rd _) fun o => ?_
  split
  · exact .pure _
  · exact .ite .fail (.pure _)
  · exact .fail
theorem Framed.chkC (size : Nat) (base : Option Addr) : Framed (chkC size base) := by
  unfold Wb.chkC
  split
  · exact .pure _
  · refine .bind (.rd _) fun o => ?_
    split
    · exact .ite (.pure _) .fail
    · exact .fail
theorem Framed.insG (size bytes : Nat) (a : Addr) (n c i : Nat) {news : M (List Value)} (h : Framed news) : Framed (insG size bytes a n c i news) :=
  .ite (.ite (.putA _ _ _ _ _ h) (.growA _ _ _ _ _ _ h)) .fail
theorem Framed.insA (size bytes : Nat) (base : Option Addr) (n c : Nat) (i : Int) (xb : Option Addr) (xc : Nat) : Framed (insA size bytes base n c i xb xc) := by
  refine .ite (.ite (.bind (.chkC _ _) fun _ => .appendA _ _ _ _) ?_) .fail
  split
  · exact .ite (.bind (.chkS _ _) fun _ => .bind (.chkS _ _) fun _ => .insG _ _ _ _ _ _ (.bind (.ldCells _ _ _) fun _ => .bind (.ldCells _ _ _) fun _ => .pure _)) .fail
  · exact .fail
theorem Framed.insS (size bytes : Nat) (s : Value) (i : Int) (xb : Option Addr) (xc : Nat) : Framed (insS size bytes s i xb xc) := by
  unfold Wb.insS
  split
  · exact .insA _ _ _ _ _ _ _ _
  · exact .ite (.appendA _ _ _ _) .fail
  · exact .fail
theorem Framed.extA (k : XK) (args : List Value) : Framed (extA k args) := by
  unfold Wb.extA
  split
  · exact .pure _
  · split
    · refine .ite (.pure _) (.bind (.rd _) fun x => .bind (.rd _) fun y => ?_)
      split
      · exact .pure _
      · exact .fail
    · exact .pure _
  · exact .insS _ _ _ _ _ _
  · exact .pure _
  · exact .pure _
  · exact .ite (.pure _) .fail
  · exact .ite .fail (.bind (.ldCells _ _ _) fun _ => .bind (.lift _) fun _ => .ite .fail (.pure _))
  · exact .bind (.stCells _ _ _) fun _ => .bind (.rd _) fun _ => .pure _
  · exact .fail
theorem Framed.callN (F : Nat → Option AFn) : ∀ (n : Nat) (t : Tgt) (args : List Value), Framed (callN F n t args)
  | 0, t, args => by unfold Wb.callN; exact .fail
  | n + 1, .fn f, args => by
    unfold Wb.callN
    split
    · exact .fail
    · exact .extA _ _
    · exact .lift _
    · refine .ite (.bind (.run (Framed.callN F n) _ _ _) fun r => ?_) .fail
      split
      · exact .fail
      · refine .bind (.resAll _ _) fun vs => ?_
        split <;> exact .pure _
  | n + 1, .yield l, args => by
    unfold Wb.callN
    refine .bind (.rd _) fun o => ?_
    split
    · refine .ite (.bind (.wr _ _) fun _ => .bind (.run (Framed.callN F n) _ _ _) fun r => ?_) .fail
      split
      · refine .bind (.run (Framed.callN F n) _ _ _) fun r => ?_
        split
        · exact .bind (.wr _ _) fun _ => .pure _
        · exact .bind (.wr _ _) fun _ => .pure _
      · exact .fail
    · exact .fail

theorem Framed.next {α : Type} {m : M α} (h : Framed m) {S S' : St} {a : α} (k : m S = some (a, S')) : S.next ≤ S'.next := (h S a S' k).1
end Go.Wb
end
/- The engine, part Lg: a computation does not look at its log. -/
section
set_option linter.unusedSimpArgs false
set_option linter.unusedVariables false
set_option linter.unusedSectionVars false
namespace Go.Wb
def Lg {α : Type} (m : M α) : Prop := ∀ S a S', m S = some (a, S') → ∃ D : List (Nat × Bool), S'.log = D ++ S.log ∧ ∀ L, m { heap := S.heap, next := S.next, log := L } = some (a, { heap := S'.heap, next := S'.next, log := D ++ L })
theorem Lg.pure {α : Type} (a : α) : Lg (M.pure a) := by intro S b S' h; cases h; exact ⟨[], rfl, fun L => rfl⟩
theorem Lg.fail {α : Type} : Lg (M.fail : M α) := by intro S b S' h; cases h
theorem Lg.lift {α : Type} (o : Option α) : Lg (M.lift o) := by cases o with | none => exact Lg.fail | some a => exact Lg.pure a
theorem Lg.rd (b : Nat) : Lg (rd b) := by
  intro S o S' h
  unfold Wb.rd at h
  cases hb : S.heap.get b with
  | none => rw [hb] at h; cases h
  | some p => rw [hb] at h; cases h; exact ⟨[(b, false)], rfl, fun L => by simp only [Wb.rd, hb]; rfl⟩
theorem Lg.wr (b : Nat) (o : Option Blk) : Lg (wr b o) := by intro S u S' h; cases h; exact ⟨[(b, true)], rfl, fun L => rfl⟩
theorem Lg.nw (o : Blk) : Lg (nw o) := by intro S u S' h; cases h; exact ⟨[], rfl, fun L => rfl⟩
theorem Lg.bind {α β : Type} {m : M α} {f : α → M β} (hm : Lg m) (hf : ∀ a, Lg (f a)) : Lg (m.bind f) := by
  intro S b S' h
  simp only [M.bind] at h
  cases hx : m S with
  | none => rw [hx] at h; cases h
  | some p =>
    obtain ⟨a, S1⟩ := p
    rw [hx] at h
    obtain ⟨D1, q1, h1⟩ := hm S a S1 hx
    obtain ⟨D2, q2, h2⟩ := hf a _ b S' h
    exact ⟨D2 ++ D1, by rw [q2, q1, List.append_assoc], fun L => by simp only [M.bind, h1 L, h2 (D1 ++ L), List.append_assoc]⟩
theorem Lg.ite {α : Type} {c : Prop} [Decidable c] {a b : M α} (ha : Lg a) (hb : Lg b) : Lg (if c then a else b) := by split <;> assumption

theorem Lg.ldCells (b off n : Nat) : Lg (ldCells b off n) := .bind (.rd b) fun o => by
  cases o with
  | cells x t c => exact .ite (.pure _) .fail
  | loop => exact .fail
  | map => exact .fail
  | iter => exact .fail
  | ro c => exact .ite (.pure _) .fail
theorem Lg.ld1 (b off : Nat) : Lg (ld1 b off) := .bind (.rd b) fun o => by
  cases o with
  | cells x t c => exact .lift _
  | loop => exact .fail
  | map => exact .fail
  | iter => exact .fail
  | ro c => exact .lift _
theorem Lg.stCells (b off : Nat) (vs : List Value) : Lg (stCells b off vs) := .bind (.rd b) fun o => by
  cases o with
  | cells x t c => exact .ite (.wr _ _) .fail
  | loop => exact .fail
  | map => exact .fail
  | iter => exact .fail
  | ro => exact .fail
theorem Lg.firstN (size n : Nat) (v : Value) : Lg (firstN size n v) := by
  unfold Wb.firstN
  split
  · exact .ldCells _ _ _
  · exact .pure _
  · exact .ite (.pure _) .fail
  · exact .ite (.pure _) .fail
  · exact .fail
theorem Lg.putA (size : Nat) (base : Option Addr) (sLen sCap n : Nat) {news : M (List Value)} (h : Lg news) : Lg (putA size base sLen sCap n news) := by
  refine .bind h fun new => ?_
  cases base with
  | none => exact .ite (.pure _) .fail
  | some a => exact .bind (.stCells _ _ _) fun _ => .pure _
theorem Lg.growA (size bytes : Nat) (base : Option Addr) (sLen sCap n : Nat) {news : M (List Value)} (h : Lg news) : Lg (growA size bytes base sLen sCap n news) := by
  refine .ite (.bind h fun new => .ite ?_ .fail) .fail
  cases base with
  | none => exact .ite (.bind (.nw _) fun _ => .pure _) .fail
  | some a =>
    refine .bind (.rd _) fun o => ?_
    cases o with
    | loop => exact .fail
    | map => exact .fail
    | iter => exact .fail
    | ro => exact .fail
    | cells x t c =>
      refine .ite ?_ .fail
      cases x with
      | none => exact .bind (.nw _) fun _ => .pure _
      | some z => exact .ite (.bind (.wr _ _) fun _ => .bind (.nw _) fun _ => .pure _) .fail
theorem Lg.appendA (size bytes : Nat) (s x : Value) : Lg (appendA size bytes s x) := by
  unfold Wb.appendA
  split
  · exact .bind (.lift _) fun n => .ite (.putA _ _ _ _ _ (.firstN _ _ _)) (.growA _ _ _ _ _ _ (.firstN _ _ _))
  · exact .bind (.lift _) fun n => .ite (.bind (.firstN _ _ _) fun _ => .pure _) (.growA _ _ _ _ _ _ (.firstN _ _ _))
  · exact .fail
theorem Lg.appendZ (size bytes : Nat) (z : List Value) (s x : Value) : Lg (appendZ size bytes z s x) := by
  unfold Wb.appendZ
  split
  · exact .ite (.ite (.putA _ _ _ _ _ (.pure _)) (.growA _ _ _ _ _ _ (.pure _))) .fail
  · exact .fail

section
variable {call : Tgt → List Value → M Value} (hcall : ∀ t a, Lg (call t a))
include hcall
theorem Lg.exec (e : Env) (op : AOp) : Lg (exec call e op) := by
  cases op <;> unfold Wb.exec
  case call f args => exact .bind (.lift _) fun g => .bind (.lift _) fun l => .bind (.lift _) fun t => .bind (hcall _ _) fun v => .pure _
  case app => exact .bind (.lift _) fun s => .bind (.lift _) fun x => .bind (.appendA _ _ _ _) fun v => .pure _
  case appZ => exact .bind (.lift _) fun s => .bind (.lift _) fun x => .bind (.appendZ _ _ _ _ _) fun v => .pure _
  case panic => exact .fail
  case len =>
    refine .bind (.lift _) fun x => ?_
    split
    · refine .bind (.rd _) fun o => ?_
      split
      · exact .pure _
      · exact .fail
    · exact .bind (.lift _) fun _ => .pure _
  case mget =>
    refine .bind (.lift _) fun x => .bind (.lift _) fun y => ?_
    split
    · exact .pure _
    · refine .bind (.rd _) fun o => ?_
      split
      · exact .bind (.lift _) fun _ => .pure _
      · exact .fail
    · exact .fail
  case mset =>
    refine .bind (.lift _) fun x => .bind (.lift _) fun y => .bind (.lift _) fun z => ?_
    split
    · refine .bind (.rd _) fun o => ?_
      split
      · exact .ite (.bind (.lift _) fun _ => .bind (.wr _ _) fun _ => .pure _) .fail
      · exact .fail
    · exact .fail
  case ment =>
    refine .bind (.lift _) fun x => .bind (.lift _) fun y => ?_
    split
    · refine .bind (.rd _) fun o => ?_
      split
      · exact .ite (.bind (.lift _) fun _ => .bind (.wr _ _) fun _ => .pure _) .fail
      · exact .fail
    · exact .fail
  case mfill =>
    refine .bind (.lift _) fun x => .bind (.lift _) fun t => .bind (.lift _) fun z => ?_
    split
    · refine .bind (.rd _) fun o => ?_
      split
      · exact .bind (.lift _) fun _ => .bind (.wr _ _) fun _ => .pure _
      · exact .fail
    · exact .fail
  case mdel =>
    refine .bind (.lift _) fun x => .bind (.lift _) fun y => ?_
    split
    · exact .pure _
    · refine .bind (.rd _) fun o => ?_
      split
      · exact .bind (.lift _) fun _ => .bind (.wr _ _) fun _ => .pure _
      · exact .fail
    · exact .fail
  case srange =>
    refine .bind (.lift _) fun x => ?_
    split
    · exact .bind (.nw _) fun _ => .pure _
    · exact .fail
  case snext =>
    refine .bind (.lift _) fun x => ?_
    split
    · refine .bind (.rd _) fun o => ?_
      split
      · split
        · exact .bind (.wr _ _) fun _ => .pure _
        · exact .pure _
        · exact .fail
      · exact .fail
    · exact .fail
  case conv k a =>
    refine .bind (.lift _) fun x => ?_
    split
    · exact .pure _
    · exact .bind (.nw _) fun _ => .pure _
    · exact .pure _
    · exact .pure _
    · exact .bind (.ldCells _ _ _) fun _ => .bind (.lift _) fun _ => .pure _
    · exact .pure _
    · refine .bind (.rd _) fun o => ?_
      cases o with
      | cells x t c => exact .bind (.wr _ _) fun _ => .pure _
      | loop => exact .fail
      | map => exact .fail
      | iter => exact .fail
      | ro => exact .fail
    · exact .fail
  case slc =>
    refine .bind (.lift _) fun v => ?_
    split
    · exact .bind (.lift _) fun _ => .pure _
    · refine .bind (.lift _) fun b => .bind (.rd _) fun o => ?_
      cases o with
      | cells x t c => exact .ite (.pure _) .fail
      | loop => exact .fail
      | map => exact .fail
      | iter => exact .fail
      | ro c => exact .ite (.pure _) .fail
    · exact .bind (.lift _) fun _ => .pure _
    · exact .fail
  case slcA =>
    refine .bind (.lift _) fun v => ?_
    split
    · refine .bind (.lift _) fun b => .bind (.rd _) fun o => ?_
      split
      · exact .pure _
      · exact .fail
    · exact .fail
  case cap =>
    refine .bind (.lift _) fun v => ?_
    split
    · exact .pure _
    · refine .bind (.rd _) fun o => ?_
      split
      · exact .pure _
      · exact .pure _
      · exact .fail
    · exact .fail
  case copy =>
    refine .bind (.lift _) fun d => .bind (.lift _) fun s => ?_
    split
    · refine .bind (.lift _) fun sl => .bind (.firstN _ _ _) fun cs => ?_
      split
      · exact .bind (.stCells _ _ _) fun _ => .pure _
      · exact .pure _
    · exact .fail
  case load =>
    refine .bind (.lift _) fun x => ?_
    split
    · split
      · exact .bind (.ld1 _ _) fun _ => .pure _
      · exact .bind (.ldCells _ _ _) fun _ => .pure _
    · exact .fail
  case store =>
    refine .bind (.lift _) fun x => .bind (.lift _) fun y => ?_
    split
    · exact .ite (.bind (.stCells _ _ _) fun _ => .pure _) .fail
    · exact .fail
  case clear =>
    refine .bind (.lift _) fun x => ?_
    split
    · exact .pure _
    · exact .bind (.stCells _ _ _) fun _ => .pure _
    · exact .fail
  all_goals
    repeat' first
      | exact Lg.pure _
      | exact Lg.lift _
      | exact Lg.fail
      | exact Lg.nw _
      | refine Lg.bind ?_ fun _ => ?_
      | refine Lg.ite ?_ ?_
      | split
theorem Lg.instr (i : AInstr) (e : Env) : Lg (instr call i e) := by
  unfold Wb.instr
  split
  · exact .bind (.exec hcall _ _) fun _ => .pure _
  · exact .bind (.lift _) fun b => .ite (.bind (.exec hcall _ _) fun _ => .pure _) (.pure _)
theorem Lg.instrs : ∀ (l : List AInstr) (e : Env), Lg (instrs call l e)
  | [], e => .pure _
  | i :: r, e => .bind (.instr hcall i e) fun e' => Lg.instrs r e'
theorem Lg.drawnGo : ∀ (l : List AInstr) (n : Nat) (e : Env) (ts : List (Nat × Touch)), Lg (drawnGo call l n e ts)
  | [], n, e, ts => .pure _
  | i :: r, n, e, ts => by
    have key : Lg (fun S : St => match Wb.instr call i e { heap := S.heap, next := S.next, log := [] } with
        | none => none
        | some (e', s') => some ((e', ({ log := s'.log, lo := S.next, hi := s'.next } : Touch)), { heap := s'.heap, next := s'.next, log := s'.log ++ S.log }) : M (Env × Touch)) := by
      intro S a S' h
      cases h1 : Wb.instr call i e { heap := S.heap, next := S.next, log := [] } with
      | none => simp [h1] at h
      | some p =>
        obtain ⟨e', s'⟩ := p
        simp only [h1, Option.some.injEq, Prod.mk.injEq] at h
        obtain ⟨rfl, rfl⟩ := h
        exact ⟨s'.log, rfl, fun L => by simp only [h1]⟩
    have := Lg.bind key fun p => Lg.drawnGo r (n + 1) p.1 (keepT n p.2 ts)
    have e : Wb.drawnGo call (i :: r) n e ts = M.bind (fun S : St => match Wb.instr call i e { heap := S.heap, next := S.next, log := [] } with
        | none => none
        | some (e', s') => some ((e', ({ log := s'.log, lo := S.next, hi := s'.next } : Touch)), { heap := s'.heap, next := s'.next, log := s'.log ++ S.log })) fun p => Wb.drawnGo call r (n + 1) p.1 (keepT n p.2 ts) := by
      funext S
      simp only [Wb.drawnGo, M.bind]
      cases Wb.instr call i e { heap := S.heap, next := S.next, log := [] } with
      | none => rfl
      | some p => rfl
    rw [e]; exact this
theorem Lg.drawnA (l : List AInstr) (ps : List Nat) (e : Env) : Lg (drawnA call l ps e) := .bind (.drawnGo hcall l 0 e []) fun r => .ite (.pure _) .fail
omit hcall in
theorem Lg.iter {body : Env → M (Ext × Env)} (h : ∀ e, Lg (body e)) : ∀ (n : Nat) (e : Env), Lg (iter body n e)
  | 0, e => .fail
  | n + 1, e => .bind (h e) fun r => by
    split
    · exact Lg.iter h n _
    · exact .pure _
theorem Lg.run (fuel : Nat) : ∀ (c : ACode) (e : Env), Lg (run call fuel c e)
  | .skip, e => .pure _
  | .ops l, e => .bind (.instrs hcall l e) fun _ => .pure _
  | .drawn l ps, e => .bind (.drawnA hcall l ps e) fun _ => .pure _
  | .seq a b, e => .bind (Lg.run fuel a e) fun r => by
    split
    · exact Lg.run fuel b _
    · exact .pure _
  | .cond c a b, e => .bind (.lift _) fun t => by
    split
    · exact Lg.run fuel a e
    · exact Lg.run fuel b e
  | .block id a, e => .bind (Lg.run fuel a e) fun r => by
    split
    · exact .ite (.pure _) (.pure _)
    · exact .pure _
  | .loop a, e => .iter (fun e => Lg.run fuel a e) fuel e
  | .range f ps a b, e => .bind (.lift _) fun g => .bind (.nw _) fun l => .bind (.lift _) fun t => .bind (hcall _ _) fun _ => .bind (.rd _) fun o => by
    split
    · refine .bind (.wr _ _) fun _ => ?_
      split
      · exact .pure _
      · exact .pure _
    · exact .fail
  | .exit id, e => .pure _
  | .ret, e => .pure _
end
theorem Lg.resV (e : Env) (a : ARes) : Lg (resV e a) := by
  cases a with
  | tmp t => exact .lift _
  | cell t sh =>
    refine .bind (.lift _) fun x => ?_
    split
    · split
      · exact .ld1 _ _
      · exact .bind (.ldCells _ _ _) fun _ => .pure _
    · exact .fail
theorem Lg.resAll (e : Env) : ∀ l : List ARes, Lg (resAll e l)
  | [] => .pure _
  | r :: rs => .bind (.resV e r) fun v => .bind (Lg.resAll e rs) fun l => .pure _
theorem Lg.chkS (own : Bool) (b : Nat) : Lg (chkS own b) := by
  refine .bind (.rd _) fun o => ?_
  split
  · exact .pure _
  · exact .ite .fail (.pure _)
  · exact .fail
theorem Lg.chkC (size : Nat) (base : Option Addr) : Lg (chkC size base) := by
  unfold Wb.chkC
  split
  · exact .pure _
  · refine .bind (.rd _) fun o => ?_
    split
    · exact .ite (.pure _) .fail
    · exact .fail
theorem Lg.insG (size bytes : Nat) (a : Addr) (n c i : Nat) {news : M (List Value)} (h : Lg news) : Lg (insG size bytes a n c i news) :=
  .ite (.ite (.putA _ _ _ _ _ h) (.growA _ _ _ _ _ _ h)) .fail
theorem Lg.insA (size bytes : Nat) (base : Option Addr) (n c : Nat) (i : Int) (xb : Option Addr) (xc : Nat) : Lg (insA size bytes base n c i xb xc) := by
  refine .ite (.ite (.bind (.chkC _ _) fun _ => .appendA _ _ _ _) ?_) .fail
  split
  · exact .ite (.bind (.chkS _ _) fun _ => .bind (.chkS _ _) fun _ => .insG _ _ _ _ _ _ (.bind (.ldCells _ _ _) fun _ => .bind (.ldCells _ _ _) fun _ => .pure _)) .fail
  · exact .fail
theorem Lg.insS (size bytes : Nat) (s : Value) (i : Int) (xb : Option Addr) (xc : Nat) : Lg (insS size bytes s i xb xc) := by
  unfold Wb.insS
  split
  · exact .insA _ _ _ _ _ _ _ _
  · exact .ite (.appendA _ _ _ _) .fail
  · exact .fail
theorem Lg.extA (k : XK) (args : List Value) : Lg (extA k args) := by
  unfold Wb.extA
  split
  · exact .pure _
  · split
    · refine .ite (.pure _) (.bind (.rd _) fun x => .bind (.rd _) fun y => ?_)
      split
      · exact .pure _
      · exact .fail
    · exact .pure _
  · exact .insS _ _ _ _ _ _
  · exact .pure _
  · exact .pure _
  · exact .ite (.pure _) .fail
  · exact .ite .fail (.bind (.ldCells _ _ _) fun _ => .bind (.lift _) fun _ => .ite .fail (.pure _))
  · exact .bind (.stCells _ _ _) fun _ => .bind (.rd _) fun _ => .pure _
  · exact .fail
theorem Lg.callN (F : Nat → Option AFn) : ∀ (n : Nat) (t : Tgt) (args : List Value), Lg (callN F n t args)
  | 0, t, args => by unfold Wb.callN; exact .fail
  | n + 1, .fn f, args => by
    unfold Wb.callN
    split
    · exact .fail
    · exact .extA _ _
    · exact .lift _
    · refine .ite (.bind (.run (Lg.callN F n) _ _ _) fun r => ?_) .fail
      split
      · exact .fail
      · refine .bind (.resAll _ _) fun vs => ?_
        split <;> exact .pure _
  | n + 1, .yield l, args => by
    unfold Wb.callN
    refine .bind (.rd _) fun o => ?_
    split
    · refine .ite (.bind (.wr _ _) fun _ => .bind (.run (Lg.callN F n) _ _ _) fun r => ?_) .fail
      split
      · refine .bind (.run (Lg.callN F n) _ _ _) fun r => ?_
        split
        · exact .bind (.wr _ _) fun _ => .pure _
        · exact .bind (.wr _ _) fun _ => .pure _
      · exact .fail
    · exact .fail

end Go.Wb
end
