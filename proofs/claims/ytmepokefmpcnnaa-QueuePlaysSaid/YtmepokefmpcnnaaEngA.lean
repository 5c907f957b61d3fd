/- The engine, part A: an evaluator over an abstract heap for the model's code. Definitions only. -/
import Derived.Calls
import Derived.Laws.Cells
namespace Go.Wb

/-! ## A map from numbers -/
inductive Tr (α : Type) where
  | leaf
  | node (v : Option α) (l r : Tr α)

namespace Tr
variable {α : Type}
def val : Tr α → Option α | .leaf => none | .node v _ _ => v
def left : Tr α → Tr α | .leaf => .leaf | .node _ l _ => l
def right : Tr α → Tr α | .leaf => .leaf | .node _ _ r => r
def get : Tr α → Nat → Option α
  | .leaf, _ => none
  | .node v _ _, 0 => v
  | .node _ l r, k + 1 => match k % 2 with | 0 => l.get (k / 2) | _ + 1 => r.get (k / 2)
def setF : Nat → Tr α → Nat → Option α → Tr α
  | 0, t, _, _ => t
  | _ + 1, t, 0, v => .node v t.left t.right
  | f + 1, t, k + 1, v => match k % 2 with
    | 0 => .node t.val (setF f t.left (k / 2) v) t.right
    | _ + 1 => .node t.val t.left (setF f t.right (k / 2) v)
def set (t : Tr α) (k : Nat) (v : Option α) : Tr α := setF (k + 1) t k v

theorem get_leaf (k : Nat) : (leaf : Tr α).get k = none := by cases k <;> rfl
theorem get_zero (t : Tr α) : t.get 0 = t.val := by cases t <;> rfl
theorem get_succ (t : Tr α) (k : Nat) : t.get (k + 1) = match k % 2 with | 0 => t.left.get (k / 2) | _ + 1 => t.right.get (k / 2) := by
  cases t with
  | leaf => simp only [left, right, get_leaf]; split <;> rfl
  | node v l r => rfl
theorem get_setF (f : Nat) : ∀ (t : Tr α) (k : Nat) (v : Option α) (j : Nat), k < f → (setF f t k v).get j = if j = k then v else t.get j := by
  induction f with
  | zero => intro t k v j h; omega
  | succ f ih =>
    intro t k v j h
    cases k with
    | zero =>
      cases j with
      | zero => simp [setF, get]
      | succ j => simp only [setF, get_succ, left, right]; simp
    | succ k =>
      have hk : k / 2 < f := by have := Nat.div_le_self k 2; omega
      cases j with
      | zero =>
        simp only [setF]
        split <;> simp [get_zero, val]
      | succ j =>
        simp only [setF]
        split
        · rename_i h0
          simp only [get_succ, left, right]
          split
          · rename_i h1
            rw [ih _ _ _ _ hk]
            by_cases e : j = k
            · subst e; simp
            · rw [if_neg (by omega), if_neg (by omega)]
          · rename_i m h1
            have : j ≠ k := by intro e; subst e; omega
            rw [if_neg (by omega)]
        · rename_i m h0
          simp only [get_succ, left, right]
          split
          · rename_i h1
            have : j ≠ k := by intro e; subst e; omega
            rw [if_neg (by omega)]
          · rename_i n h1
            rw [ih _ _ _ _ hk]
            by_cases e : j = k
            · subst e; simp
            · rw [if_neg (by omega), if_neg (by omega)]
theorem get_set (t : Tr α) (k : Nat) (v : Option α) (j : Nat) : (t.set k v).get j = if j = k then v else t.get j := get_setF _ _ _ _ _ (Nat.lt_succ_self k)
theorem get_set_same (t : Tr α) (k : Nat) (v : Option α) : (t.set k v).get k = v := by rw [get_set, if_pos rfl]
theorem get_set_ne (t : Tr α) {k j : Nat} (v : Option α) (h : j ≠ k) : (t.set k v).get j = t.get j := by rw [get_set, if_neg h]
end Tr

abbrev Env := Tr Value

/-! ## The code as it is run -/
inductive Atom where
  | tmp (t : Nat)
  | const (v : Value)

def Atom.ev (e : Env) : Atom → Option Value
  | .tmp t => e.get t
  | .const v => some v

/-- how a variable of a type lies in memory: one cell, or so many -/
inductive Sh where
  | one
  | agg (n : Nat)

inductive CK where
  | int (k : IntKind)
  | str2b (elem : TypeId)
  | b2str
  | same
  | sameSl

inductive NilK where
  | ptr | slice | map | func
inductive EqK where
  | bool
  | nil (k : NilK)
  | cells (n : Nat) (offs : List (Nat × Nat))

inductive LenK where
  | str | slice | arr (n : Nat) | map

inductive AOp where
  | mov (a : Atom)
  | pick (c a b : Atom)
  | bin (op : BinOp) (a b : Atom)
  | eq (neg : Bool) (k : EqK) (a b : Atom)
  | un (op : UnOp) (a : Atom)
  | conv (k : CK) (a : Atom)
  | alloc (elem : TypeId) (zero : List Value)
  | box (elem : TypeId) (a : Atom)
  | build (zero : List Value) (parts : List (Nat × Nat × Atom))
  | bslice (elem : TypeId) (len : Nat) (zero : List Value) (parts : List (Nat × Nat × Atom))
  | load (sh : Sh) (a : Atom)
  | store (n : Nat) (a v : Atom)
  | nilchk (a : Atom)
  | mkslice (elem : TypeId) (size bytes : Nat) (zero : List Value) (l c : Atom)
  | slcS (x : Atom) (lo hi : Option Atom)
  | slc (size : Nat) (x : Atom) (lo hi mx : Option Atom)
  | slcA (n size : Nat) (x : Atom) (lo hi mx : Option Atom)
  | fldA (off : Nat) (a : Atom)
  | fld (sh : Sh) (off : Nat) (a : Atom)
  | ixA (size : Nat) (a i : Atom)
  | ixAA (n size : Nat) (a i : Atom)
  | ix (n size : Nat) (sh : Sh) (a i : Atom)
  | ixS (a i : Atom)
  | mkfn (fn : FuncId) (first captured : List Atom)
  | mkif (t : TypeId) (a : Atom)
  | ext (a : Atom) (i : Nat)
  | call (f : Atom) (args : List Atom)
  | app (size bytes : Nat) (elem : TypeId) (s x : Atom)
  | appZ (size bytes : Nat) (elem : TypeId) (zero : List Value) (s x : Atom)
  | len (k : LenK) (a : Atom)
  | cap (a : Atom)
  | copy (size : Nat) (d s : Atom)
  | clear (zero : List Value) (a : Atom)
  | max (args : List Atom)
  | min (args : List Atom)
  | mkmap (h : Option Atom)
  | mget (kk : Nat) (ok : Bool) (zero : Value) (m k : Atom)
  | mset (kk : Nat) (m k v : Atom)
  | mdel (kk : Nat) (m k : Atom)
  | ment (kk : Nat) (zero : Value) (m k : Atom)
  | mfill (m s v : Atom)
  | panic

structure AInstr where
  dst : Option Nat
  guard : Option (Nat × Bool)
  op : AOp

inductive ACode where
  | skip
  | ops (l : List AInstr)
  | drawn (l : List AInstr) (masks : List Nat)
  | seq (a b : ACode)
  | cond (c : Atom) (a b : ACode)
  | block (id : Nat) (a : ACode)
  | loop (a : ACode)
  | range (f : Atom) (params : List Nat) (assign body : ACode)
  | exit (id : Nat)
  | ret

inductive ARes where
  | tmp (t : Nat)
  | cell (t : Nat) (sh : Sh)

structure AFunc where
  nparams : Nat
  results : List ARes
  body : ACode

inductive XK where
  | indexByte
  | overlaps (size : Nat)
inductive AFn where
  | go (a : AFunc)
  | ext (k : XK)
  | sum (g : List Value → Option Value)

/-! ## The abstract heap -/
inductive Ext where
  | normal
  | exit (id : Nat)
  | ret

/-- an entry of a map: key, value, when it came -/
structure MEnt where
  key : Value
  val : Value
  born : Nat

inductive Blk where
  | cells (ext : Option Nat) (str : Bool) (c : List Value)
  | loop (params : List Nat) (assign body : ACode) (env : Env) (pending : Option Ext)
  | map (es : List MEnt) (clock : Nat)
  | ro (c : List Value)
def Blk.isRo : Blk → Bool
  | .ro _ => true
  | _ => false

structure St where
  heap : Tr Blk
  next : Nat
  log : List (Nat × Bool)

abbrev M (α : Type) := St → Option (α × St)
namespace M
variable {α β : Type}
def pure (a : α) : M α := fun s => some (a, s)
def bind (m : M α) (f : α → M β) : M β := fun s => match m s with | none => none | some (a, s') => f a s'
def fail : M α := fun _ => none
def lift (o : Option α) : M α := fun s => match o with | none => none | some a => some (a, s)
end M
def rd (b : Nat) : M Blk := fun s => match s.heap.get b with | none => none | some o => some (o, { heap := s.heap, next := s.next, log := (b, false) :: s.log })
def wr (b : Nat) (o : Option Blk) : M Unit := fun s => some ((), { heap := s.heap.set b o, next := s.next, log := (b, true) :: s.log })
def nw (o : Blk) : M Nat := fun s => some (s.next, { heap := s.heap.set s.next (some o), next := s.next + 1, log := s.log })

/-! ## Memory -/
/-- is a list so long? without its length -/
def longer {α : Type} : Nat → List α → Bool
  | 0, _ => true
  | _ + 1, [] => false
  | k + 1, _ :: l => longer k l
theorem longer_iff {α : Type} : ∀ (k : Nat) (l : List α), longer k l = true ↔ k ≤ l.length
  | 0, l => by simp [longer]
  | k + 1, [] => by simp [longer]
  | k + 1, a :: l => by simp [longer, longer_iff k l]
instance (priority := 2000) decLen (k : Nat) (c : List Value) : Decidable (k ≤ c.length) := decidable_of_iff (longer k c = true) (longer_iff k c)
def setAll : List Value → Nat → List Value → List Value
  | c, _, [] => c
  | c, i, v :: vs => setAll (c.set i v) (i + 1) vs
def overlay : List Value → List Value → List Value
  | c, [] => c
  | [], _ => []
  | _ :: c, v :: vs => v :: overlay c vs
def splice : List Value → Nat → List Value → List Value
  | c, 0, vs => overlay c vs
  | [], _ + 1, _ => []
  | a :: c, k + 1, vs => a :: splice c k vs
theorem setAll_cons (a : Value) : ∀ (vs c : List Value) (i : Nat), setAll (a :: c) (i + 1) vs = a :: setAll c i vs
  | [], c, i => rfl
  | v :: vs, c, i => by simp only [setAll, List.set_cons_succ]; exact setAll_cons a vs _ _
theorem overlay_eq : ∀ (vs c : List Value), vs.length ≤ c.length → overlay c vs = setAll c 0 vs
  | [], c, _ => by cases c <;> rfl
  | v :: vs, [], h => by simp at h
  | v :: vs, a :: c, h => by simp only [overlay, setAll, List.set_cons_zero]; rw [setAll_cons, overlay_eq vs c (by simpa using h)]
theorem splice_eq : ∀ (off : Nat) (c vs : List Value), off + vs.length ≤ c.length → splice c off vs = setAll c off vs
  | 0, c, vs, h => by
    have : splice c 0 vs = overlay c vs := by cases c <;> rfl
    rw [this]; exact overlay_eq vs c (by omega)
  | k + 1, [], vs, h => by simp at h
  | k + 1, a :: c, vs, h => by
    simp only [splice]
    rw [splice_eq k c vs (by simp at h; omega), setAll_cons]
def ldCells (b off n : Nat) : M (List Value) := (rd b).bind fun o => match o with
  | .cells _ _ c => if off + n ≤ c.length then M.pure ((c.drop off).take n) else M.fail
  | .ro c => if off + n ≤ c.length then M.pure ((c.drop off).take n) else M.fail
  | _ => M.fail
def ld1 (b off : Nat) : M Value := (rd b).bind fun o => match o with
  | .cells _ _ c => M.lift c[off]?
  | .ro c => M.lift c[off]?
  | _ => M.fail
def stCells (b off : Nat) (vs : List Value) : M Unit := (rd b).bind fun o => match o with
  | .cells x t c => if off + vs.length ≤ c.length ∧ vs.all (·.oneCell') = true then wr b (some (.cells x t (splice c off vs))) else M.fail
  | _ => M.fail
def asInt : Value → Option Int | .int _ n => some n | _ => none
def asBool : Value → Option Bool | .bool b => some b | _ => none
def rep : Nat → List Value → List Value
  | 0, _ => []
  | n + 1, z => z ++ rep n z

def partOf (sh : Sh) (cs : List Value) (off : Nat) : Option Value :=
  match sh with
  | .one => cs[off]?
  | .agg n => if off + n ≤ cs.length then some (.agg ((cs.drop off).take n).toArray) else none

def binV (op : BinOp) (x y : Value) : Option Value :=
  match op, x, y with
  | .shl, .int k a, .int _ b => if b < 0 then none else some (.int k (k.wrap (a * 2 ^ (Min.min b.toNat k.bits))))
  | .shr, .int k a, .int _ b => if b < 0 then none else some (.int k (a.fdiv (2 ^ (Min.min b.toNat k.bits))))
  | op, .int k a, .int k' b =>
    if k ≠ k' then none else
    match op with
    | .add => some (.int k (k.wrap (a + b)))
    | .sub => some (.int k (k.wrap (a - b)))
    | .mul => some (.int k (k.wrap (a * b)))
    | .quo => if b = 0 then none else some (.int k (k.wrap (a.tdiv b)))
    | .rem => if b = 0 then none else some (.int k (a.tmod b))
    | .and => some (.int k (k.wrap (BitVec.ofInt k.bits a &&& BitVec.ofInt k.bits b).toNat))
    | .or => some (.int k (k.wrap (BitVec.ofInt k.bits a ||| BitVec.ofInt k.bits b).toNat))
    | .xor => some (.int k (k.wrap (BitVec.ofInt k.bits a ^^^ BitVec.ofInt k.bits b).toNat))
    | .andNot => some (.int k (k.wrap (BitVec.ofInt k.bits a &&& ~~~ BitVec.ofInt k.bits b).toNat))
    | .eql => some (.bool (a == b))
    | .neq => some (.bool (a != b))
    | .lss => some (.bool (a < b))
    | .leq => some (.bool (a ≤ b))
    | .gtr => some (.bool (a > b))
    | .geq => some (.bool (a ≥ b))
    | _ => none
  | op, .string a, .string b =>
    match op with
    | .add => if ((a.size + b.size : Nat) : Int) > IntKind.i64.max then none else some (.string (a ++ b))
    | .eql => some (.bool (a.toList == b.toList))
    | .neq => some (.bool !(a.toList == b.toList))
    | .lss => some (.bool (Op.bytesLess a.toList b.toList))
    | .leq => some (.bool (Op.bytesLess a.toList b.toList || a.toList == b.toList))
    | .gtr => some (.bool !(Op.bytesLess a.toList b.toList || a.toList == b.toList))
    | .geq => some (.bool !(Op.bytesLess a.toList b.toList))
    | _ => none
  | _, _, _ => none

/-- two cells of one kind (0: bool, 1: a number, 2: a string), compared -/
def eqCell (k : Nat) (x y : Value) : Option Bool :=
  match k, x, y with
  | 0, .bool a, .bool b => some (a == b)
  | 1, .int k a, .int k' b => if k = k' then some (a == b) else none
  | 2, .string a, .string b => some (a.data.toList == b.data.toList)
  | _, _, _ => none
def eqCells : List (Nat × Nat) → List Value → List Value → Option Bool
  | [], _, _ => some true
  | (o, k) :: os, xs, ys => match xs[o]?, ys[o]? with
    | some x, some y => match eqCell k x y, eqCells os xs ys with
      | some a, some b => some (a && b)
      | _, _ => none
    | _, _ => none
def isNil : NilK → Value → Option Bool
  | .ptr, .pointer none => some true
  | .ptr, .pointer (some _) => some false
  | .slice, .slice none _ _ => some true
  | .slice, .slice (some _) _ _ => some false
  | .map, .map none => some true
  | .map, .map (some _) => some false
  | .func, .nilFunc => some true
  | .func, .func _ _ _ => some false
  | _, _ => none
def eqV (k : EqK) (x y : Value) : Option Bool :=
  match k with
  | .bool => match x, y with | .bool a, .bool b => some (a == b) | _, _ => none
  | .nil k => match isNil k x, isNil k y with
    | some true, some b => some b
    | some false, some true => some false
    | _, _ => none
  | .cells n offs => match x, y with
    | .agg xs, .agg ys => if xs.toList.length = n ∧ ys.toList.length = n then eqCells offs xs.toList ys.toList else none
    | _, _ => none

def unV (op : UnOp) (x : Value) : Option Value :=
  match op, x with
  | .neg, .int k n => some (.int k (k.wrap (0 - n)))
  | .xor, .int k n => some (.int k (k.wrap (BitVec.ofInt k.bits (if k.signed then -1 else k.max) ^^^ BitVec.ofInt k.bits n).toNat))
  | .not, .bool b => some (.bool !b)
  | _, _ => none

def bytesOf : List Value → Option (List UInt8)
  | [] => some []
  | .int .u8 n :: r => match bytesOf r with | some l => some (UInt8.ofNat n.toNat :: l) | none => none
  | _ :: _ => none

def evs (e : Env) : List Atom → Option (List Value)
  | [] => some []
  | a :: r => match a.ev e, evs e r with | some v, some l => some (v :: l) | _, _ => none

/-- parts laid over cells -/
def fillA (e : Env) : List (Nat × Nat × Atom) → List Value → Option (List Value)
  | [], c => some c
  | (off, size, a) :: r, c => match a.ev e with
    | some v => if v.cells.size = size ∧ off + size ≤ c.length then fillA e r (setAll c off v.cells.toList) else none
    | none => none

def bnd (e : Env) (x : Option Atom) (dflt : Nat) (y : Nat) : Option Nat :=
  match x with
  | none => some dflt
  | some a => match (a.ev e).bind asInt with
    | some i => if 0 ≤ i ∧ i ≤ y then some i.toNat else none
    | none => none
/-- low, high, max -/
def bnds (e : Env) (len cap : Nat) (lo hi mx : Option Atom) : Option (Nat × Nat × Nat) :=
  match bnd e mx cap cap with
  | none => none
  | some m => match bnd e hi len m with
    | none => none
    | some h => match bnd e lo 0 h with
      | none => none
      | some l => some (l, h, m)

inductive Tgt where
  | fn (f : FuncId)
  | yield (l : Nat)
def target (f : Value) (args : List Value) : Option (Tgt × List Value) :=
  match f with
  | .func (.func f) first captured => some (.fn f, first.toList ++ args ++ captured.toList)
  | .func (.yield l) _ _ => some (.yield l, args)
  | _ => none

def lenV (k : LenK) (v : Value) : Option Nat :=
  match k, v with
  | .str, .string s => some s.size
  | .slice, .slice _ n _ => some n
  | .slice, .chan none => some 0
  | .arr n, _ => some n
  | .map, .map none => some 0
  | _, _ => none

/-- the first n elements' cells of a slice or a string -/
def firstN (size n : Nat) : Value → M (List Value)
  | .slice (some a) _ _ => ldCells a.block a.off (n * size)
  | .slice none _ _ => M.pure []
  | .chan none => if n = 0 then M.pure [] else M.fail
  | .string s => if size = 1 then M.pure ((s.data.toList.take n).map fun b => .int .u8 b.toNat) else M.fail
  | _ => M.fail
def lenOf : Value → Option Nat
  | .chan none => some 0
  | .slice _ n _ => some n
  | .string s => some s.size
  | _ => none

def growA (size bytes : Nat) (base : Option Addr) (sLen sCap n : Nat) (news : M (List Value)) : M Value :=
  if 2 * ((sLen + n) * bytes) ≤ 281474976710656 ∧ bytes ≠ 0 ∧ size ≠ 0 then
    news.bind fun new => if new.all (·.oneCell') = true then (
    match base with
    | some a => (rd a.block).bind fun o => match o with
      | .cells ext str c =>
        if a.off + sLen * size ≤ c.length then
          match ext with
          | none => (nw (.cells (some size) false ((c.drop a.off).take (sLen * size) ++ new))).bind fun nb => M.pure (.slice (some ⟨nb, 0, none⟩) (sLen + n) (sLen + n))
          | some z => if z = size then
              (wr a.block none).bind fun _ =>
              (nw (.cells (some size) str ((c.drop a.off).take (sLen * size) ++ new))).bind fun nb => M.pure (.slice (some ⟨nb, 0, none⟩) (sLen + n) (sLen + n))
            else M.fail
        else M.fail
      | _ => M.fail
    | none => if sCap = 0 ∧ sLen = 0 then (nw (.cells (some size) false new)).bind fun nb => M.pure (.slice (some ⟨nb, 0, none⟩) n n) else M.fail) else M.fail
  else M.fail
def putA (size : Nat) (base : Option Addr) (sLen sCap n : Nat) (news : M (List Value)) : M Value :=
  news.bind fun new =>
  match base with
  | some a => (stCells a.block (a.off + sLen * size) new).bind fun _ => M.pure (.slice base (sLen + n) sCap)
  | none => if sCap = 0 then M.pure (.slice none 0 0) else M.fail
def appendA (size bytes : Nat) (s x : Value) : M Value :=
  match s with
  | .slice base sLen sCap => (M.lift (lenOf x)).bind fun n =>
    if sLen + n ≤ sCap then putA size base sLen sCap n (firstN size n x) else growA size bytes base sLen sCap n (firstN size n x)
  | _ => M.fail
def appendZ (size bytes : Nat) (zero : List Value) (s x : Value) : M Value :=
  match s, x with
  | .slice base sLen sCap, .int _ l =>
    if 0 ≤ l ∧ l < 281474976710656 ∧ l * bytes ≤ 281474976710656 ∧ zero.length = size then
      if sLen + l.toNat ≤ sCap then putA size base sLen sCap l.toNat (M.pure (rep l.toNat zero)) else growA size bytes base sLen sCap l.toNat (M.pure (rep l.toNat zero))
    else M.fail
  | _, _ => M.fail

def maxV (gt : Bool) : Value → Value → Option Value
  | .int k x, .int k' y => if k = k' then some (.int k (if gt then (if y > x then y else x) else (if y < x then y else x))) else none
  | _, _ => none
def maxL (gt : Bool) : Value → List Value → Option Value
  | x, [] => some x
  | x, y :: r => match maxV gt x y with | some z => maxL gt z r | none => none

/-- where a key stands in a map -/
def findK (kk : Nat) (k : Value) : List MEnt → Nat → Option (Option (Nat × MEnt))
  | [], _ => some none
  | e :: r, i => match eqCell kk k e.key with
    | some true => some (some (i, e))
    | some false => findK kk k r (i + 1)
    | none => none
def mres (ok : Bool) (zero : Value) : Option (Nat × MEnt) → Value
  | some (_, e) => if ok then .tuple #[e.val, .bool true] else e.val
  | none => if ok then .tuple #[zero, .bool false] else zero
def mput (k v : Value) (es : List MEnt) (cl : Nat) : Option (Nat × MEnt) → Blk
  | some (i, e) => .map (es.set i ⟨k, v, e.born⟩) cl
  | none => .map (es ++ [⟨k, v, cl⟩]) (cl + 1)
def mcut (es : List MEnt) : Option (Nat × MEnt) → List MEnt
  | some (i, _) => es.eraseIdx i
  | none => es
def mstamp (zero : Value) (cl : Nat) : Option (Nat × MEnt) → Value
  | some (_, e) => .tuple #[e.val, .int .i64 e.born]
  | none => .tuple #[zero, .int .i64 cl]
def mkeep (k zero : Value) (es : List MEnt) (cl : Nat) : Option (Nat × MEnt) → Blk
  | some (i, e) => .map (es.set i ⟨k, e.val, e.born⟩) cl
  | none => .map (es ++ [⟨k, zero, cl⟩]) (cl + 1)
def findBorn (b : Int) : List MEnt → Nat → Option (Nat × MEnt)
  | [], _ => none
  | e :: r, i => if (e.born : Int) == b then some (i, e) else findBorn b r (i + 1)
/-- a key that may be one of this kind -/
def isKey (kk : Nat) (k : Value) : Bool := match kk, k with | 0, .bool _ => true | 1, .int _ _ => true | 2, .string _ => true | _, _ => false
def hintOk (e : Env) : Option Atom → Option Unit
  | none => some ()
  | some a => ((a.ev e).bind asInt).map fun _ => ()

/-! ## An operation -/
section
variable (call : Tgt → List Value → M Value)
def exec (e : Env) : AOp → M Value
  | .mov a => (M.lift (a.ev e)).bind fun v => M.pure v
  | .pick c a b => (M.lift ((c.ev e).bind asBool)).bind fun t => (M.lift (if t then a.ev e else b.ev e)).bind fun v => M.pure v
  | .bin op a b => (M.lift (a.ev e)).bind fun x => (M.lift (b.ev e)).bind fun y => (M.lift (binV op x y)).bind fun v => M.pure v
  | .eq neg k a b => (M.lift (a.ev e)).bind fun x => (M.lift (b.ev e)).bind fun y => (M.lift (eqV k x y)).bind fun t => M.pure (.bool (if neg then !t else t))
  | .un op a => (M.lift (a.ev e)).bind fun x => (M.lift (unV op x)).bind fun v => M.pure v
  | .conv k a => (M.lift (a.ev e)).bind fun x => match k, x with
    | .int k, .int _ n => M.pure (.int k (k.wrap n))
    | .str2b _, .string s => (nw (.cells (some 1) true (s.data.toList.map fun b => .int .u8 b.toNat))).bind fun nb => M.pure (.slice (some ⟨nb, 0, none⟩) s.size s.size)
    | .b2str, .slice none _ _ => M.pure (.string .empty)
    | .b2str, .slice (some a) n _ => (ldCells a.block a.off n).bind fun cs => (M.lift (bytesOf cs)).bind fun l => M.pure (.string ⟨l.toArray⟩)
    | .same, .string s => M.pure (.string s)
    | .sameSl, .slice (some a) n c => (rd a.block).bind fun o => match o with
      | .cells x _ cs => (wr a.block (some (.cells x true cs))).bind fun _ => M.pure (.slice (some a) n c)
      | _ => M.fail
    | _, _ => M.fail
  | .alloc _ zero => (nw (.cells none false zero)).bind fun b => M.pure (.pointer (some ⟨b, 0, none⟩))
  | .box _ a => (M.lift (a.ev e)).bind fun v => (nw (.cells none false v.cells.toList)).bind fun b => M.pure (.pointer (some ⟨b, 0, none⟩))
  | .build zero parts => (M.lift (fillA e parts zero)).bind fun c => M.pure (.agg c.toArray)
  | .bslice _ len zero parts => (M.lift (fillA e parts zero)).bind fun c => (nw (.cells none false c)).bind fun b => M.pure (.slice (some ⟨b, 0, none⟩) len len)
  | .load sh a => (M.lift (a.ev e)).bind fun x => match x with
    | .pointer (some p) => match sh with
      | .one => (ld1 p.block p.off).bind fun v => M.pure v
      | .agg n => (ldCells p.block p.off n).bind fun c => M.pure (.agg c.toArray)
    | _ => M.fail
  | .store n a v => (M.lift (a.ev e)).bind fun x => (M.lift (v.ev e)).bind fun y => match x with
    | .pointer (some p) => if y.cells.size = n then (stCells p.block p.off y.cells.toList).bind fun _ => M.pure undef else M.fail
    | _ => M.fail
  | .nilchk a => (M.lift (a.ev e)).bind fun x => match x with
    | .pointer (some p) => M.pure (.pointer (some p))
    | .func (.func f) first captured => M.pure (.func (.func f) first captured)
    | .func (.yield l) first captured => M.pure (.func (.yield l) first captured)
    | _ => M.fail
  | .mkslice _ size bytes zero l c => (M.lift ((l.ev e).bind asInt)).bind fun ln => (M.lift ((c.ev e).bind asInt)).bind fun cp =>
    if 0 ≤ ln ∧ ln ≤ cp ∧ bytes * cp ≤ 281474976710656 ∧ cp < 4611686018427387904 ∧ zero.length = size then
      (nw (.cells none false (rep cp.toNat zero))).bind fun b => M.pure (.slice (some ⟨b, 0, none⟩) ln.toNat cp.toNat)
    else M.fail
  | .slcS x lo hi => (M.lift (x.ev e)).bind fun v => match v with
    | .string s => (M.lift (bnds e s.size s.size lo hi none)).bind fun b => M.pure (.string (s.extract b.1 b.2.1))
    | _ => M.fail
  | .slc size x lo hi mx => (M.lift (x.ev e)).bind fun v => match v with
    | .slice none _ _ => (M.lift (bnds e 0 0 lo hi mx)).bind fun _ => M.pure (.slice none 0 0)
    | .slice (some a) len cap => (M.lift (bnds e len cap lo hi mx)).bind fun b => (rd a.block).bind fun o => match o with
      | .cells ext _ _ => if (ext = none ∨ ext = some size) ∧ b.2.1 ≤ b.2.2 then
          M.pure (.slice (some (if b.2.2 = b.1 then a else ⟨a.block, a.off + b.1 * size, none⟩)) (b.2.1 - b.1) (b.2.2 - b.1))
        else M.fail
      | .ro _ => if b.2.1 ≤ b.2.2 then
          M.pure (.slice (some (if b.2.2 = b.1 then a else ⟨a.block, a.off + b.1 * size, none⟩)) (b.2.1 - b.1) (b.2.2 - b.1))
        else M.fail
      | _ => M.fail
    | _ => M.fail
  | .slcA n size x lo hi mx => (M.lift (x.ev e)).bind fun v => match v with
    | .pointer (some a) => (M.lift (bnds e n n lo hi mx)).bind fun b => (rd a.block).bind fun o => match o with
      | .cells none _ _ => M.pure (.slice (some (if b.2.2 = b.1 then a else ⟨a.block, a.off + b.1 * size, none⟩)) (b.2.1 - b.1) (b.2.2 - b.1))
      | _ => M.fail
    | _ => M.fail
  | .fldA off a => (M.lift (a.ev e)).bind fun x => match x with
    | .pointer (some p) => M.pure (.pointer (some ⟨p.block, p.off + off, none⟩))
    | _ => M.fail
  | .fld sh off a => (M.lift (a.ev e)).bind fun x => match x with
    | .agg cs => (M.lift (partOf sh cs.toList off)).bind fun v => M.pure v
    | _ => M.fail
  | .ixA size a i => (M.lift (a.ev e)).bind fun x => (M.lift ((i.ev e).bind asInt)).bind fun i => match x with
    | .slice (some p) len _ => if 0 ≤ i ∧ i < len then M.pure (.pointer (some ⟨p.block, p.off + i.toNat * size, none⟩)) else M.fail
    | _ => M.fail
  | .ixAA n size a i => (M.lift (a.ev e)).bind fun x => (M.lift ((i.ev e).bind asInt)).bind fun i => match x with
    | .pointer (some p) => if 0 ≤ i ∧ i < n then M.pure (.pointer (some ⟨p.block, p.off + i.toNat * size, none⟩)) else M.fail
    | _ => M.fail
  | .ix n size sh a i => (M.lift (a.ev e)).bind fun x => (M.lift ((i.ev e).bind asInt)).bind fun i => match x with
    | .agg cs => if 0 ≤ i ∧ i < n then (M.lift (partOf sh cs.toList (i.toNat * size))).bind fun v => M.pure v else M.fail
    | _ => M.fail
  | .ixS a i => (M.lift (a.ev e)).bind fun x => (M.lift ((i.ev e).bind asInt)).bind fun i => match x with
    | .string s => if 0 ≤ i then (M.lift s.data.toList[i.toNat]?).bind fun b => M.pure (.int .u8 b.toNat) else M.fail
    | _ => M.fail
  | .mkfn fn first captured => (M.lift (evs e first)).bind fun l => (M.lift (evs e captured)).bind fun r => M.pure (.func (.func fn) l.toArray r.toArray)
  | .mkif t a => (M.lift (a.ev e)).bind fun x => M.pure (.iface t x)
  | .ext a i => (M.lift (a.ev e)).bind fun x => match x with
    | .tuple vs => (M.lift vs.toList[i]?).bind fun v => M.pure v
    | _ => M.fail
  | .call f args => (M.lift (f.ev e)).bind fun g => (M.lift (evs e args)).bind fun l => (M.lift (target g l)).bind fun t => (call t.1 t.2).bind fun v => M.pure v
  | .app size bytes _ s x => (M.lift (s.ev e)).bind fun s => (M.lift (x.ev e)).bind fun x => (appendA size bytes s x).bind fun v => M.pure v
  | .appZ size bytes _ zero s x => (M.lift (s.ev e)).bind fun s => (M.lift (x.ev e)).bind fun x => (appendZ size bytes zero s x).bind fun v => M.pure v
  | .len k a => (M.lift (a.ev e)).bind fun x => match k, x with
    | .map, .map (some b) => (rd b).bind fun o => match o with
      | .map es _ => M.pure (.int .i64 es.length)
      | _ => M.fail
    | k, x => (M.lift (lenV k x)).bind fun n => M.pure (.int .i64 n)
  | .cap a => (M.lift (a.ev e)).bind fun x => match x with
    | .slice none _ _ => M.pure (.int .i64 0)
    | .slice (some p) _ n => (rd p.block).bind fun o => match o with
      | .cells none _ _ => M.pure (.int .i64 n)
      | .ro _ => M.pure (.int .i64 n)
      | _ => M.fail
    | _ => M.fail
  | .copy size d s => (M.lift (d.ev e)).bind fun d => (M.lift (s.ev e)).bind fun s => match d with
    | .slice base dLen _ => (M.lift (lenOf s)).bind fun sl => (firstN size (Min.min sl dLen) s).bind fun cs => match base with
      | some a => (stCells a.block a.off cs).bind fun _ => M.pure (.int .i64 (Min.min sl dLen : Nat))
      | none => M.pure (.int .i64 (Min.min sl dLen : Nat))
    | _ => M.fail
  | .clear zero a => (M.lift (a.ev e)).bind fun x => match x with
    | .slice none _ _ => M.pure (.tuple #[])
    | .slice (some p) n _ => (stCells p.block p.off (rep n zero)).bind fun _ => M.pure (.tuple #[])
    | _ => M.fail
  | .max args => (M.lift (evs e args)).bind fun l => match l with
    | x :: r => (M.lift (maxL true x r)).bind fun v => M.pure v
    | [] => M.fail
  | .min args => (M.lift (evs e args)).bind fun l => match l with
    | x :: r => (M.lift (maxL false x r)).bind fun v => M.pure v
    | [] => M.fail
  | .mkmap h => (M.lift (hintOk e h)).bind fun _ => (nw (.map [] 0)).bind fun b => M.pure (.map (some b))
  | .mget kk ok zero m k => (M.lift (m.ev e)).bind fun x => (M.lift (k.ev e)).bind fun y => match x with
    | .map none => M.pure (mres ok zero none)
    | .map (some b) => (rd b).bind fun o => match o with
      | .map es _ => (M.lift (findK kk y es 0)).bind fun r => M.pure (mres ok zero r)
      | _ => M.fail
    | _ => M.fail
  | .mset kk m k v => (M.lift (m.ev e)).bind fun x => (M.lift (k.ev e)).bind fun y => (M.lift (v.ev e)).bind fun z => match x with
    | .map (some b) => (rd b).bind fun o => match o with
      | .map es cl => if isKey kk y = true then (M.lift (findK kk y es 0)).bind fun r => (wr b (some (mput y z es cl r))).bind fun _ => M.pure undef else M.fail
      | _ => M.fail
    | _ => M.fail
  | .mdel kk m k => (M.lift (m.ev e)).bind fun x => (M.lift (k.ev e)).bind fun y => match x with
    | .map none => M.pure (.tuple #[])
    | .map (some b) => (rd b).bind fun o => match o with
      | .map es cl => (M.lift (findK kk y es 0)).bind fun r => (wr b (some (.map (mcut es r) cl))).bind fun _ => M.pure (.tuple #[])
      | _ => M.fail
    | _ => M.fail
  | .ment kk zero m k => (M.lift (m.ev e)).bind fun x => (M.lift (k.ev e)).bind fun y => match x with
    | .map (some b) => (rd b).bind fun o => match o with
      | .map es cl => if isKey kk y = true then (M.lift (findK kk y es 0)).bind fun r => (wr b (some (mkeep y zero es cl r))).bind fun _ => M.pure (mstamp zero cl r) else M.fail
      | _ => M.fail
    | _ => M.fail
  | .mfill m s v => (M.lift (m.ev e)).bind fun x => (M.lift ((s.ev e).bind asInt)).bind fun t => (M.lift (v.ev e)).bind fun z => match x with
    | .map (some b) => (rd b).bind fun o => match o with
      | .map es cl => (M.lift (findBorn t es 0)).bind fun r => (wr b (some (.map (es.set r.1 ⟨r.2.key, z, r.2.born⟩) cl))).bind fun _ => M.pure undef
      | _ => M.fail
    | _ => M.fail
  | .panic => M.fail

def putD (e : Env) (d : Option Nat) (v : Value) : Env := match d with | none => e | some d => e.set d (some v)
def wanted (want : Bool) : Value → Option Bool
  | .bool b => some (b == want)
  | .tuple _ => some false
  | _ => none

def instr (i : AInstr) (e : Env) : M Env :=
  match i.guard with
  | none => (exec call e i.op).bind fun v => M.pure (putD e i.dst v)
  | some (t, want) => (M.lift ((e.get t).bind (wanted want))).bind fun b =>
    if b then (exec call e i.op).bind fun v => M.pure (putD e i.dst v) else M.pure (putD e i.dst undef)
def instrs : List AInstr → Env → M Env
  | [], e => M.pure e
  | i :: r, e => (instr call i e).bind fun e' => instrs r e'

/-- what an operation of a region that draws touched: the log, from which number on and up to which it made blocks -/
structure Touch where
  log : List (Nat × Bool)
  lo : Nat
  hi : Nat
def hits (a b : Touch) : Bool := a.log.any fun x => (Nat.ble b.lo x.1 && Nat.blt x.1 b.hi) || b.log.any fun y => Nat.beq x.1 y.1 && (x.2 || y.2)
def apartOne (m : Nat) (t : Touch) : List (Nat × Touch) → Bool
  | [] => true
  | (i, u) :: r => (m.testBit i || (!(hits t u) && !(hits u t))) && apartOne m t r
/-- the touches, the last one first: those that no edge orders hit each other nowhere -/
def apartAll (masks : List Nat) : List (Nat × Touch) → Bool
  | [] => true
  | (j, t) :: r => apartOne (masks.getD j 0) t r && apartAll masks r
def keepT (i : Nat) (t : Touch) (ts : List (Nat × Touch)) : List (Nat × Touch) :=
  match t.log, Nat.beq t.lo t.hi with
  | [], true => ts
  | _, _ => (i, t) :: ts
def drawnGo : List AInstr → Nat → Env → List (Nat × Touch) → M (Env × List (Nat × Touch))
  | [], _, e, ts => M.pure (e, ts)
  | i :: r, n, e, ts => fun s =>
    match instr call i e { heap := s.heap, next := s.next, log := [] } with
    | none => none
    | some (e', s') => drawnGo r (n + 1) e' (keepT n { log := s'.log, lo := s.next, hi := s'.next } ts) { heap := s'.heap, next := s'.next, log := s'.log ++ s.log }
def drawnA (l : List AInstr) (masks : List Nat) (e : Env) : M Env :=
  (drawnGo call l 0 e []).bind fun r => if apartAll masks r.2 then M.pure r.1 else M.fail

def iter (body : Env → M (Ext × Env)) : Nat → Env → M (Ext × Env)
  | 0, _ => M.fail
  | n + 1, e => (body e).bind fun r => match r.1 with
    | .normal => iter body n r.2
    | _ => M.pure r

def run (fuel : Nat) : ACode → Env → M (Ext × Env)
  | .skip, e => M.pure (.normal, e)
  | .ops l, e => (instrs call l e).bind fun e' => M.pure (.normal, e')
  | .drawn l ps, e => (drawnA call l ps e).bind fun e' => M.pure (.normal, e')
  | .seq a b, e => (run fuel a e).bind fun r => match r.1 with
    | .normal => run fuel b r.2
    | _ => M.pure r
  | .cond c a b, e => (M.lift ((c.ev e).bind asBool)).bind fun t => match t with
    | true => run fuel a e
    | false => run fuel b e
  | .block id a, e => (run fuel a e).bind fun r => match r.1 with
    | .exit i => if i = id then M.pure (.normal, r.2) else M.pure r
    | _ => M.pure r
  | .loop a, e => iter (run fuel a) fuel e
  | .range f params assign body, e => (M.lift (f.ev e)).bind fun g => (nw (.loop params assign body e none)).bind fun l =>
    (M.lift (target g [.func (.yield l) #[] #[]])).bind fun t => (call t.1 t.2).bind fun _ => (rd l).bind fun o => match o with
      | .loop _ _ _ _ p => (wr l none).bind fun _ => match p with
        | none => M.pure (.normal, e)
        | some x => M.pure (x, e)
      | _ => M.fail
  | .exit id, e => M.pure (.exit id, e)
  | .ret, e => M.pure (.ret, e)
end

def resV (e : Env) : ARes → M Value
  | .tmp t => M.lift (e.get t)
  | .cell t sh => (M.lift (e.get t)).bind fun x => match x with
    | .pointer (some p) => match sh with
      | .one => ld1 p.block p.off
      | .agg n => (ldCells p.block p.off n).bind fun c => M.pure (.agg c.toArray)
    | _ => M.fail
def resAll (e : Env) : List ARes → M (List Value)
  | [] => M.pure []
  | r :: rs => (resV e r).bind fun v => (resAll e rs).bind fun l => M.pure (v :: l)
def argsEnv : List Value → Nat → Env → Env
  | [], _, e => e
  | v :: r, i, e => argsEnv r (i + 1) (e.set i (some v))
def zipSet : List Nat → List Value → Env → Env
  | p :: ps, v :: vs, e => zipSet ps vs (e.set p (some v))
  | _, _, e => e

def findByte (c : UInt8) : List UInt8 → Int → Int
  | [], _ => -1
  | b :: r, i => if b == c then i else findByte c r (i + 1)
def extA (k : XK) (args : List Value) : M Value :=
  match k, args with
  | .indexByte, [.string s, .int .u8 c] => M.pure (.int .i64 (findByte (UInt8.ofNat c.toNat) s.data.toList 0))
  | .overlaps size, [.slice a la _, .slice b lb _] => match a, b with
    | some a, some b =>
      if la = 0 ∨ lb = 0 ∨ size = 0 then M.pure (.bool false)
      else (rd a.block).bind fun x => (rd b.block).bind fun y => match x, y with
        | .cells _ false _, .cells _ false _ => M.pure (.bool (a.block == b.block && decide (a.off < b.off + lb * size) && decide (b.off < a.off + la * size)))
        | _, _ => M.fail
    | _, _ => M.pure (.bool false)
  | _, _ => M.fail

/-- a call, with so much fuel: the depth of calls, and the rounds of each loop -/
def callN (F : Nat → Option AFn) : Nat → Tgt → List Value → M Value
  | 0, _, _ => M.fail
  | n + 1, .fn f, args => match F f with
    | none => M.fail
    | some (.ext k) => extA k args
    | some (.sum g) => M.lift (g args)
    | some (.go af) => if args.length = af.nparams then
        (run (callN F n) n af.body (argsEnv args 0 .leaf)).bind fun r => match r.1 with
          | .exit _ => M.fail
          | _ => (resAll r.2 af.results).bind fun vs => match vs with
            | [v] => M.pure v
            | vs => M.pure (.tuple vs.toArray)
      else M.fail
  | n + 1, .yield l, args => (rd l).bind fun o => match o with
    | .loop params assign body e none => if args.length = params.length then
        (wr l none).bind fun _ => (run (callN F n) n assign (zipSet params args e)).bind fun r => match r.1 with
          | .normal => (run (callN F n) n body r.2).bind fun r => match r.1 with
            | .normal => (wr l (some (.loop params assign body e none))).bind fun _ => M.pure (.bool true)
            | x => (wr l (some (.loop params assign body e (some x)))).bind fun _ => M.pure (.bool false)
          | _ => M.fail
      else M.fail
    | _ => M.fail

end Go.Wb
