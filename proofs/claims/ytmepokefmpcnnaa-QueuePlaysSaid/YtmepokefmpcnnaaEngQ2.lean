/- The engine, part Q: a quick evaluator for closed runs, laid for the kernel: small closed bodies. Definitions only. -/
import Derived.Test.YtmepokefmpcnnaaEngB
set_option linter.unusedVariables false
set_option autoImplicit false
namespace Go.Wb.Q
noncomputable section
inductive D8 | c0 | c1 | c2 | c3 | c4 | c5 | c6 | c7 deriving DecidableEq
inductive Pt | lo (i j : D8) | hi (i j k : D8) | no deriving DecidableEq
def d8 (n : Nat) : D8 := match n with | 0 => .c0 | 1 => .c1 | 2 => .c2 | 3 => .c3 | 4 => .c4 | 5 => .c5 | 6 => .c6 | _ => .c7
def pt (n : Nat) : Pt := match Nat.blt n 64, Nat.blt n 576 with | true, _ => .lo (d8 (n / 8)) (d8 (n % 8)) | false, true => .hi (d8 ((n - 64) / 64)) (d8 ((n - 64) / 8 % 8)) (d8 (n % 8)) | false, false => .no
structure E1 where mk :: (a b c d e f g h : Option Value)
def sel1 : D8 → E1 → Option Value := @D8.rec (fun _ => E1 → Option Value) E1.a E1.b E1.c E1.d E1.e E1.f E1.g E1.h
def k1a (v : Option Value) (a b c d e f g h : Option Value) : E1 := .mk v b c d e f g h
def u1a (v : Option Value) : E1 → E1 := @E1.rec (fun _ => E1) (k1a v)
def k1b (v : Option Value) (a b c d e f g h : Option Value) : E1 := .mk a v c d e f g h
def u1b (v : Option Value) : E1 → E1 := @E1.rec (fun _ => E1) (k1b v)
def k1c (v : Option Value) (a b c d e f g h : Option Value) : E1 := .mk a b v d e f g h
def u1c (v : Option Value) : E1 → E1 := @E1.rec (fun _ => E1) (k1c v)
def k1d (v : Option Value) (a b c d e f g h : Option Value) : E1 := .mk a b c v e f g h
def u1d (v : Option Value) : E1 → E1 := @E1.rec (fun _ => E1) (k1d v)
def k1e (v : Option Value) (a b c d e f g h : Option Value) : E1 := .mk a b c d v f g h
def u1e (v : Option Value) : E1 → E1 := @E1.rec (fun _ => E1) (k1e v)
def k1f (v : Option Value) (a b c d e f g h : Option Value) : E1 := .mk a b c d e v g h
def u1f (v : Option Value) : E1 → E1 := @E1.rec (fun _ => E1) (k1f v)
def k1g (v : Option Value) (a b c d e f g h : Option Value) : E1 := .mk a b c d e f v h
def u1g (v : Option Value) : E1 → E1 := @E1.rec (fun _ => E1) (k1g v)
def k1h (v : Option Value) (a b c d e f g h : Option Value) : E1 := .mk a b c d e f g v
def u1h (v : Option Value) : E1 → E1 := @E1.rec (fun _ => E1) (k1h v)
def upd1 : D8 → Option Value → E1 → E1 := @D8.rec (fun _ => Option Value → E1 → E1) u1a u1b u1c u1d u1e u1f u1g u1h
structure E2 where mk :: (a b c d e f g h : E1)
def sel2 : D8 → E2 → E1 := @D8.rec (fun _ => E2 → E1) E2.a E2.b E2.c E2.d E2.e E2.f E2.g E2.h
def k2a (u : E1 → E1) (a b c d e f g h : E1) : E2 := .mk (u a) b c d e f g h
def u2a (u : E1 → E1) : E2 → E2 := @E2.rec (fun _ => E2) (k2a u)
def k2b (u : E1 → E1) (a b c d e f g h : E1) : E2 := .mk a (u b) c d e f g h
def u2b (u : E1 → E1) : E2 → E2 := @E2.rec (fun _ => E2) (k2b u)
def k2c (u : E1 → E1) (a b c d e f g h : E1) : E2 := .mk a b (u c) d e f g h
def u2c (u : E1 → E1) : E2 → E2 := @E2.rec (fun _ => E2) (k2c u)
def k2d (u : E1 → E1) (a b c d e f g h : E1) : E2 := .mk a b c (u d) e f g h
def u2d (u : E1 → E1) : E2 → E2 := @E2.rec (fun _ => E2) (k2d u)
def k2e (u : E1 → E1) (a b c d e f g h : E1) : E2 := .mk a b c d (u e) f g h
def u2e (u : E1 → E1) : E2 → E2 := @E2.rec (fun _ => E2) (k2e u)
def k2f (u : E1 → E1) (a b c d e f g h : E1) : E2 := .mk a b c d e (u f) g h
def u2f (u : E1 → E1) : E2 → E2 := @E2.rec (fun _ => E2) (k2f u)
def k2g (u : E1 → E1) (a b c d e f g h : E1) : E2 := .mk a b c d e f (u g) h
def u2g (u : E1 → E1) : E2 → E2 := @E2.rec (fun _ => E2) (k2g u)
def k2h (u : E1 → E1) (a b c d e f g h : E1) : E2 := .mk a b c d e f g (u h)
def u2h (u : E1 → E1) : E2 → E2 := @E2.rec (fun _ => E2) (k2h u)
def upd2 : D8 → (E1 → E1) → E2 → E2 := @D8.rec (fun _ => (E1 → E1) → E2 → E2) u2a u2b u2c u2d u2e u2f u2g u2h
structure E3 where mk :: (a b c d e f g h : E2)
def sel3 : D8 → E3 → E2 := @D8.rec (fun _ => E3 → E2) E3.a E3.b E3.c E3.d E3.e E3.f E3.g E3.h
def k3a (u : E2 → E2) (a b c d e f g h : E2) : E3 := .mk (u a) b c d e f g h
def u3a (u : E2 → E2) : E3 → E3 := @E3.rec (fun _ => E3) (k3a u)
def k3b (u : E2 → E2) (a b c d e f g h : E2) : E3 := .mk a (u b) c d e f g h
def u3b (u : E2 → E2) : E3 → E3 := @E3.rec (fun _ => E3) (k3b u)
def k3c (u : E2 → E2) (a b c d e f g h : E2) : E3 := .mk a b (u c) d e f g h
def u3c (u : E2 → E2) : E3 → E3 := @E3.rec (fun _ => E3) (k3c u)
def k3d (u : E2 → E2) (a b c d e f g h : E2) : E3 := .mk a b c (u d) e f g h
def u3d (u : E2 → E2) : E3 → E3 := @E3.rec (fun _ => E3) (k3d u)
def k3e (u : E2 → E2) (a b c d e f g h : E2) : E3 := .mk a b c d (u e) f g h
def u3e (u : E2 → E2) : E3 → E3 := @E3.rec (fun _ => E3) (k3e u)
def k3f (u : E2 → E2) (a b c d e f g h : E2) : E3 := .mk a b c d e (u f) g h
def u3f (u : E2 → E2) : E3 → E3 := @E3.rec (fun _ => E3) (k3f u)
def k3g (u : E2 → E2) (a b c d e f g h : E2) : E3 := .mk a b c d e f (u g) h
def u3g (u : E2 → E2) : E3 → E3 := @E3.rec (fun _ => E3) (k3g u)
def k3h (u : E2 → E2) (a b c d e f g h : E2) : E3 := .mk a b c d e f g (u h)
def u3h (u : E2 → E2) : E3 → E3 := @E3.rec (fun _ => E3) (k3h u)
def upd3 : D8 → (E2 → E2) → E3 → E3 := @D8.rec (fun _ => (E2 → E2) → E3 → E3) u3a u3b u3c u3d u3e u3f u3g u3h
structure QE where mk :: (lo : E2) (hi : E3)
def E1.nil : E1 := ⟨none, none, none, none, none, none, none, none⟩
def E2.nil : E2 := ⟨.nil, .nil, .nil, .nil, .nil, .nil, .nil, .nil⟩
def E3.nil : E3 := ⟨.nil, .nil, .nil, .nil, .nil, .nil, .nil, .nil⟩
def QE.nil : QE := ⟨.nil, .nil⟩
def getLo (i j : D8) (e : QE) : Option Value := sel1 j (sel2 i e.lo)
def getHi (i j k : D8) (e : QE) : Option Value := sel1 k (sel2 j (sel3 i e.hi))
def getNo (_ : QE) : Option Value := none
def getE (t : Nat) : QE → Option Value := @Pt.rec (fun _ => QE → Option Value) getLo getHi getNo (pt t)
def kLo (i j : D8) (v : Option Value) (lo : E2) (hi : E3) : QE := .mk (upd2 i (upd1 j v) lo) hi
def kHi (i j k : D8) (v : Option Value) (lo : E2) (hi : E3) : QE := .mk lo (upd3 i (upd2 j (upd1 k v)) hi)
def setLo (i j : D8) (v : Option Value) : QE → QE := @QE.rec (fun _ => QE) (kLo i j v)
def setHi (i j k : D8) (v : Option Value) : QE → QE := @QE.rec (fun _ => QE) (kHi i j k v)
def setNo (v : Option Value) (e : QE) : QE := e
def setE (t : Nat) : Option Value → QE → QE := @Pt.rec (fun _ => Option Value → QE → QE) setLo setHi setNo (pt t)

/-! ## State -/
inductive QB where
  | cells (ext : Option Nat) (str : Bool) (len : Nat) (c : Tr Value)
  | loop (params : List Nat) (assign body : ACode) (env : QE) (pending : Option Ext)
  | map (es : List MEnt) (cl : Nat)
structure QS where mk :: (h : Tr QB) (n : Nat) (lg : List (Nat × Bool))
abbrev OV := Option Value
abbrev KV := Value → QS → Bool
abbrev SemV := QS → KV → Bool
abbrev Call := Tgt → List Value → SemV
abbrev SemO := Call → QE → SemV
abbrev KE := QE → QS → Bool
abbrev SemI := Call → QE → QS → KE → Bool
abbrev KX := Ext → QE → QS → Bool
abbrev SemC := Call → Nat → QE → QS → KX → Bool

/-! ## Small parts -/
def bO (x : OV) (f : Value → OV) : OV := @Option.rec Value (fun _ => OV) none f x
def bB (x : OV) (f : Value → Bool) : Bool := @Option.rec Value (fun _ => Bool) false f x
def bL (x : Option (List Value)) (f : List Value → OV) : OV := @Option.rec (List Value) (fun _ => OV) none f x
def bLB (x : Option (List Value)) (f : List Value → Bool) : Bool := @Option.rec (List Value) (fun _ => Bool) false f x
def ifO (b : Bool) (x y : OV) : OV := @Bool.rec (fun _ => OV) y x b
def ifB (b : Bool) (x y : Bool) : Bool := @Bool.rec (fun _ => Bool) y x b
def thenO (b : Bool) (x : OV) : OV := @Bool.rec (fun _ => OV) none x b
def thenB (b : Bool) (x : Bool) : Bool := @Bool.rec (fun _ => Bool) false x b
def andB2 (a b : Bool) : Bool := @Bool.rec (fun _ => Bool) false b a
def evC (v : Value) (_ : QE) : OV := some v
def evA : Atom → QE → OV := @Atom.rec (fun _ => QE → OV) getE evC
def eBoolO : Value → (Bool → OV) → OV := @Value.rec (fun _ => (Bool → OV) → OV) (fun _ => Unit) (fun _ => Unit) (fun x0 f => f x0) (fun _ _ _ => none) (fun _ _ _ => none) (fun _ _ _ _ => none) (fun _ _ => none) (fun _ _ => none) (fun _ _ _ _ => none) (fun _ _ => none) (fun _ _ => none) (fun _ _ _ _ _ _ => none) (fun  _ => none) (fun _ _ _ _ => none) (fun  _ => none) (fun _ _ _ => none) (fun _ _ _ => none) (fun _ _ => ()) () (fun _ _ _ _ => ())
def eIntO : Value → (IntKind → Int → OV) → OV := @Value.rec (fun _ => (IntKind → Int → OV) → OV) (fun _ => Unit) (fun _ => Unit) (fun _ _ => none) (fun x0 x1 f => f x0 x1) (fun _ _ _ => none) (fun _ _ _ _ => none) (fun _ _ => none) (fun _ _ => none) (fun _ _ _ _ => none) (fun _ _ => none) (fun _ _ => none) (fun _ _ _ _ _ _ => none) (fun  _ => none) (fun _ _ _ _ => none) (fun  _ => none) (fun _ _ _ => none) (fun _ _ _ => none) (fun _ _ => ()) () (fun _ _ _ _ => ())
def eStrO : Value → (ByteArray → OV) → OV := @Value.rec (fun _ => (ByteArray → OV) → OV) (fun _ => Unit) (fun _ => Unit) (fun _ _ => none) (fun _ _ _ => none) (fun _ _ _ => none) (fun _ _ _ _ => none) (fun x0 f => f x0) (fun _ _ => none) (fun _ _ _ _ => none) (fun _ _ => none) (fun _ _ => none) (fun _ _ _ _ _ _ => none) (fun  _ => none) (fun _ _ _ _ => none) (fun  _ => none) (fun _ _ _ => none) (fun _ _ _ => none) (fun _ _ => ()) () (fun _ _ _ _ => ())
def ePtrO : Value → (Option Addr → OV) → OV := @Value.rec (fun _ => (Option Addr → OV) → OV) (fun _ => Unit) (fun _ => Unit) (fun _ _ => none) (fun _ _ _ => none) (fun _ _ _ => none) (fun _ _ _ _ => none) (fun _ _ => none) (fun x0 f => f x0) (fun _ _ _ _ => none) (fun _ _ => none) (fun _ _ => none) (fun _ _ _ _ _ _ => none) (fun  _ => none) (fun _ _ _ _ => none) (fun  _ => none) (fun _ _ _ => none) (fun _ _ _ => none) (fun _ _ => ()) () (fun _ _ _ _ => ())
def eSlO : Value → (Option Addr → Nat → Nat → OV) → OV := @Value.rec (fun _ => (Option Addr → Nat → Nat → OV) → OV) (fun _ => Unit) (fun _ => Unit) (fun _ _ => none) (fun _ _ _ => none) (fun _ _ _ => none) (fun _ _ _ _ => none) (fun _ _ => none) (fun _ _ => none) (fun x0 x1 x2 f => f x0 x1 x2) (fun _ _ => none) (fun _ _ => none) (fun _ _ _ _ _ _ => none) (fun  _ => none) (fun _ _ _ _ => none) (fun  _ => none) (fun _ _ _ => none) (fun _ _ _ => none) (fun _ _ => ()) () (fun _ _ _ _ => ())
def eFuncO : Value → (Fn → Array Value → Array Value → OV) → OV := @Value.rec (fun _ => (Fn → Array Value → Array Value → OV) → OV) (fun _ => Unit) (fun _ => Unit) (fun _ _ => none) (fun _ _ _ => none) (fun _ _ _ => none) (fun _ _ _ _ => none) (fun _ _ => none) (fun _ _ => none) (fun _ _ _ _ => none) (fun _ _ => none) (fun _ _ => none) (fun x0 x1 x2 _ _ f => f x0 x1 x2) (fun  _ => none) (fun _ _ _ _ => none) (fun  _ => none) (fun _ _ _ => none) (fun _ _ _ => none) (fun _ _ => ()) () (fun _ _ _ _ => ())
def eAggO : Value → (Array Value → OV) → OV := @Value.rec (fun _ => (Array Value → OV) → OV) (fun _ => Unit) (fun _ => Unit) (fun _ _ => none) (fun _ _ _ => none) (fun _ _ _ => none) (fun _ _ _ _ => none) (fun _ _ => none) (fun _ _ => none) (fun _ _ _ _ => none) (fun _ _ => none) (fun _ _ => none) (fun _ _ _ _ _ _ => none) (fun  _ => none) (fun _ _ _ _ => none) (fun  _ => none) (fun x0 _ f => f x0) (fun _ _ _ => none) (fun _ _ => ()) () (fun _ _ _ _ => ())
def eTupO : Value → (Array Value → OV) → OV := @Value.rec (fun _ => (Array Value → OV) → OV) (fun _ => Unit) (fun _ => Unit) (fun _ _ => none) (fun _ _ _ => none) (fun _ _ _ => none) (fun _ _ _ _ => none) (fun _ _ => none) (fun _ _ => none) (fun _ _ _ _ => none) (fun _ _ => none) (fun _ _ => none) (fun _ _ _ _ _ _ => none) (fun  _ => none) (fun _ _ _ _ => none) (fun  _ => none) (fun _ _ _ => none) (fun x0 _ f => f x0) (fun _ _ => ()) () (fun _ _ _ _ => ())
def eBoolB : Value → (Bool → Bool) → Bool := @Value.rec (fun _ => (Bool → Bool) → Bool) (fun _ => Unit) (fun _ => Unit) (fun x0 f => f x0) (fun _ _ _ => false) (fun _ _ _ => false) (fun _ _ _ _ => false) (fun _ _ => false) (fun _ _ => false) (fun _ _ _ _ => false) (fun _ _ => false) (fun _ _ => false) (fun _ _ _ _ _ _ => false) (fun  _ => false) (fun _ _ _ _ => false) (fun  _ => false) (fun _ _ _ => false) (fun _ _ _ => false) (fun _ _ => ()) () (fun _ _ _ _ => ())
def eIntB : Value → (IntKind → Int → Bool) → Bool := @Value.rec (fun _ => (IntKind → Int → Bool) → Bool) (fun _ => Unit) (fun _ => Unit) (fun _ _ => false) (fun x0 x1 f => f x0 x1) (fun _ _ _ => false) (fun _ _ _ _ => false) (fun _ _ => false) (fun _ _ => false) (fun _ _ _ _ => false) (fun _ _ => false) (fun _ _ => false) (fun _ _ _ _ _ _ => false) (fun  _ => false) (fun _ _ _ _ => false) (fun  _ => false) (fun _ _ _ => false) (fun _ _ _ => false) (fun _ _ => ()) () (fun _ _ _ _ => ())
def eStrB : Value → (ByteArray → Bool) → Bool := @Value.rec (fun _ => (ByteArray → Bool) → Bool) (fun _ => Unit) (fun _ => Unit) (fun _ _ => false) (fun _ _ _ => false) (fun _ _ _ => false) (fun _ _ _ _ => false) (fun x0 f => f x0) (fun _ _ => false) (fun _ _ _ _ => false) (fun _ _ => false) (fun _ _ => false) (fun _ _ _ _ _ _ => false) (fun  _ => false) (fun _ _ _ _ => false) (fun  _ => false) (fun _ _ _ => false) (fun _ _ _ => false) (fun _ _ => ()) () (fun _ _ _ _ => ())
def ePtrB : Value → (Option Addr → Bool) → Bool := @Value.rec (fun _ => (Option Addr → Bool) → Bool) (fun _ => Unit) (fun _ => Unit) (fun _ _ => false) (fun _ _ _ => false) (fun _ _ _ => false) (fun _ _ _ _ => false) (fun _ _ => false) (fun x0 f => f x0) (fun _ _ _ _ => false) (fun _ _ => false) (fun _ _ => false) (fun _ _ _ _ _ _ => false) (fun  _ => false) (fun _ _ _ _ => false) (fun  _ => false) (fun _ _ _ => false) (fun _ _ _ => false) (fun _ _ => ()) () (fun _ _ _ _ => ())
def eSlB : Value → (Option Addr → Nat → Nat → Bool) → Bool := @Value.rec (fun _ => (Option Addr → Nat → Nat → Bool) → Bool) (fun _ => Unit) (fun _ => Unit) (fun _ _ => false) (fun _ _ _ => false) (fun _ _ _ => false) (fun _ _ _ _ => false) (fun _ _ => false) (fun _ _ => false) (fun x0 x1 x2 f => f x0 x1 x2) (fun _ _ => false) (fun _ _ => false) (fun _ _ _ _ _ _ => false) (fun  _ => false) (fun _ _ _ _ => false) (fun  _ => false) (fun _ _ _ => false) (fun _ _ _ => false) (fun _ _ => ()) () (fun _ _ _ _ => ())
def eFuncB : Value → (Fn → Array Value → Array Value → Bool) → Bool := @Value.rec (fun _ => (Fn → Array Value → Array Value → Bool) → Bool) (fun _ => Unit) (fun _ => Unit) (fun _ _ => false) (fun _ _ _ => false) (fun _ _ _ => false) (fun _ _ _ _ => false) (fun _ _ => false) (fun _ _ => false) (fun _ _ _ _ => false) (fun _ _ => false) (fun _ _ => false) (fun x0 x1 x2 _ _ f => f x0 x1 x2) (fun  _ => false) (fun _ _ _ _ => false) (fun  _ => false) (fun _ _ _ => false) (fun _ _ _ => false) (fun _ _ => ()) () (fun _ _ _ _ => ())
def eAggB : Value → (Array Value → Bool) → Bool := @Value.rec (fun _ => (Array Value → Bool) → Bool) (fun _ => Unit) (fun _ => Unit) (fun _ _ => false) (fun _ _ _ => false) (fun _ _ _ => false) (fun _ _ _ _ => false) (fun _ _ => false) (fun _ _ => false) (fun _ _ _ _ => false) (fun _ _ => false) (fun _ _ => false) (fun _ _ _ _ _ _ => false) (fun  _ => false) (fun _ _ _ _ => false) (fun  _ => false) (fun x0 _ f => f x0) (fun _ _ _ => false) (fun _ _ => ()) () (fun _ _ _ _ => ())
def eTupB : Value → (Array Value → Bool) → Bool := @Value.rec (fun _ => (Array Value → Bool) → Bool) (fun _ => Unit) (fun _ => Unit) (fun _ _ => false) (fun _ _ _ => false) (fun _ _ _ => false) (fun _ _ _ _ => false) (fun _ _ => false) (fun _ _ => false) (fun _ _ _ _ => false) (fun _ _ => false) (fun _ _ => false) (fun _ _ _ _ _ _ => false) (fun  _ => false) (fun _ _ _ _ => false) (fun  _ => false) (fun _ _ _ => false) (fun x0 _ f => f x0) (fun _ _ => ()) () (fun _ _ _ _ => ())
def eNatO (k : Nat → OV) : Int → OV := @Int.rec (fun _ => OV) k (fun _ => none)
def eNatB (k : Nat → Bool) : Int → Bool := @Int.rec (fun _ => Bool) k (fun _ => false)
def natO (v : Value) (k : Nat → OV) : OV := eIntO v (fun _ => eNatO k)
def natB (v : Value) (k : Nat → Bool) : Bool := eIntB v (fun _ => eNatB k)
def someB (b : Bool) : OV := some (.bool b)
def someI (k : IntKind) (n : Int) : OV := some (.int k n)
def someN (k : IntKind) (n : Nat) : OV := some (.int k (.ofNat n))
def lim : IntKind → Nat := @IntKind.rec (fun _ => Nat) 128 32768 2147483648 9223372036854775808 256 65536 4294967296 18446744073709551616
def sameK (a b : IntKind) : Bool := Nat.beq (lim a) (lim b)
def wrSlow (k : IntKind) (n : Nat) : OV := someI k (k.wrap (.ofNat n))
def wrN (k : IntKind) (n : Nat) : OV := ifO (Nat.blt n (lim k)) (someN k n) (wrSlow k n)
abbrev N2 := IntKind → Nat → Nat → OV
def slowN (op : BinOp) (k : IntKind) (a b : Nat) : OV := binV op (.int k (.ofNat a)) (.int k (.ofNat b))
def nAdd : N2 := fun k a b => wrN k (a + b)
def nSub : N2 := fun k a b => ifO (Nat.ble b a) (wrN k (a - b)) (slowN .sub k a b)
def nMul : N2 := fun k a b => wrN k (a * b)
def nQuo : N2 := fun k a b => ifO (Nat.beq b 0) none (wrN k (a / b))
def nRem : N2 := fun k a b => ifO (Nat.beq b 0) none (someN k (a % b))
def nEql : N2 := fun _ a b => someB (Nat.beq a b)
def nNeq : N2 := fun _ a b => someB (not (Nat.beq a b))
def nLss : N2 := fun _ a b => someB (Nat.blt a b)
def nLeq : N2 := fun _ a b => someB (Nat.ble a b)
def nGtr : N2 := fun _ a b => someB (Nat.blt b a)
def nGeq : N2 := fun _ a b => someB (Nat.ble b a)
def bitN (f : Nat → Nat → Nat) (op : BinOp) : N2 := fun k a b => ifO (Nat.blt a (lim k)) (ifO (Nat.blt b (lim k)) (someN k (f a b)) (slowN op k a b)) (slowN op k a b)
def binN : BinOp → N2 := @BinOp.rec (fun _ => N2) nAdd nSub nMul nQuo nRem (bitN Nat.land .and) (bitN Nat.lor .or) (bitN Nat.xor .xor) (slowN .shl) (slowN .shr) (slowN .andNot) nEql nNeq nLss nLeq nGtr nGeq
def binI4 (op : BinOp) (k : IntKind) (a : Nat) (b : Int) : OV := @Int.rec (fun _ => OV) (binN op k a) (fun m => binV op (.int k (.ofNat a)) (.int k (.negSucc m))) b
def binI3 (op : BinOp) (k : IntKind) (a b : Int) : OV := @Int.rec (fun _ => OV) (fun m => binI4 op k m b) (fun m => binV op (.int k (.negSucc m)) (.int k b)) a
def binI2 (op : BinOp) (k : IntKind) (a : Int) (k' : IntKind) (b : Int) : OV := ifO (sameK k k') (binI3 op k a b) (binV op (.int k a) (.int k' b))
def binI (op : BinOp) (y : Value) (k : IntKind) (a : Int) : OV := eIntO y (binI2 op k a)
def binS (op : BinOp) (y : Value) (s : ByteArray) : OV := eStrO y (fun s' => binV op (.string s) (.string s'))
/-- by the kind of the first one -/
def binK : Value → BinOp → Value → OV := @Value.rec (fun _ => BinOp → Value → OV) (fun _ => Unit) (fun _ => Unit) (fun _ _ _ => none) (fun k n op y => binI op y k n) (fun _ _ _ _ => none) (fun _ _ _ _ _ => none)
  (fun s op y => binS op y s) (fun _ _ _ => none) (fun _ _ _ _ _ => none) (fun _ _ _ => none) (fun _ _ _ => none) (fun _ _ _ _ _ _ _ => none) (fun _ _ => none) (fun _ _ _ _ _ => none) (fun _ _ => none) (fun _ _ _ _ => none) (fun _ _ _ _ => none)
  (fun _ _ => ()) () (fun _ _ _ _ => ())
def binQ (op : BinOp) (x y : Value) : OV := binK x op y

/-! ## Operations that touch no memory -/
abbrev P := QE → OV
def at2 (f : Value → Value → OV) (y : OV) (x : Value) : OV := bO y (f x)
def on2 (f : Value → Value → OV) (x y : OV) : OV := bO x (at2 f y)
def pMov (a : Atom) : P := evA a
def pPick2 (a b : OV) (t : Value) : OV := eBoolO t (fun t => ifO t a b)
def pPick (c a b : Atom) : P := fun e => bO (evA c e) (pPick2 (evA a e) (evA b e))
def pBin (op : BinOp) (a b : Atom) : P := fun e => on2 (binQ op) (evA a e) (evA b e)
def eqO (neg : Bool) (t : Option Bool) : OV := @Option.rec Bool (fun _ => OV) none (fun t => someB (@Bool.rec (fun _ => Bool) t (not t) neg)) t
def pEq (neg : Bool) (k : EqK) (a b : Atom) : P := fun e => on2 (fun x y => eqO neg (eqV k x y)) (evA a e) (evA b e)
def pUn (op : UnOp) (a : Atom) : P := fun e => bO (evA a e) (unV op)
def cvI (k : IntKind) (n : Int) : OV := @Int.rec (fun _ => OV) (wrN k) (fun m => someI k (k.wrap (.negSucc m))) n
def pConv (k : CK) (a : Atom) : P := fun e => match k with
  | .int k => bO (evA a e) fun x => eIntO x fun _ n => cvI k n
  | .same => bO (evA a e) fun x => eStrO x fun s => some (.string s)
  | _ => none
def setN : Nat → Value → List Value → List Value := @Nat.rec (fun _ => Value → List Value → List Value) (fun v l => @List.rec Value (fun _ => List Value) [] (fun _ r _ => v :: r) l)
  (fun _ ih v l => @List.rec Value (fun _ => List Value) [] (fun a r _ => a :: ih v r) l)
def lenIs : Nat → List Value → Bool := @Nat.rec (fun _ => List Value → Bool) (@List.rec Value (fun _ => Bool) true (fun _ _ _ => false)) (fun _ ih => @List.rec Value (fun _ => Bool) false (fun _ l _ => ih l))
def cellsL (v : Value) : List Value := v.cells.toList
def fillStep (off size : Nat) (l : List Value) (v : Value) (ih : List Value → Option (List Value)) : Option (List Value) :=
  @Bool.rec (fun _ => Option (List Value)) none (@Bool.rec (fun _ => Option (List Value)) none (ih (setAll l off (cellsL v))) (longer (off + size) l)) (lenIs size (cellsL v))
def fillP (e : QE) : List (Nat × Nat × Atom) → List Value → Option (List Value) := @List.rec (Nat × Nat × Atom) (fun _ => List Value → Option (List Value)) some
  (fun p _ ih l => @Option.rec Value (fun _ => Option (List Value)) none (fun v => fillStep p.1 p.2.1 l v ih) (evA p.2.2 e))
def pBuild (zero : List Value) (parts : List (Nat × Nat × Atom)) : P := fun e => bL (fillP e parts zero) fun l => some (.agg ⟨l⟩)
def ptrO (v : Value) (k : Addr → OV) : OV := ePtrO v (@Option.rec Addr (fun _ => OV) none k)
def ptrB (v : Value) (k : Addr → Bool) : Bool := ePtrB v (@Option.rec Addr (fun _ => Bool) false k)
def mkPtr (b o : Nat) : OV := some (.pointer (some ⟨b, o, none⟩))
def pFldA (off : Nat) (a : Atom) : P := fun e => bO (evA a e) fun x => ptrO x fun p => mkPtr p.block (p.off + off)
def partQ (sh : Sh) (cs : List Value) (off : Nat) : OV := @Sh.rec (fun _ => OV) cs[off]? (fun m => thenO (longer (off + m) cs) (some (.agg ⟨(cs.drop off).take m⟩))) sh
def pFld (sh : Sh) (off : Nat) (a : Atom) : P := fun e => bO (evA a e) fun x => eAggO x fun cs => partQ sh cs.toList off
def ixA2 (size i : Nat) (p : Option Addr) (len : Nat) (_ : Nat) : OV := @Option.rec Addr (fun _ => OV) none (fun p => thenO (Nat.blt i len) (mkPtr p.block (p.off + i * size))) p
def pIxA (size : Nat) (a i : Atom) : P := fun e => on2 (fun x i => natO i fun i => eSlO x (ixA2 size i)) (evA a e) (evA i e)
def pIxAA (m size : Nat) (a i : Atom) : P := fun e => on2 (fun x i => natO i fun i => ptrO x fun p => thenO (Nat.blt i m) (mkPtr p.block (p.off + i * size))) (evA a e) (evA i e)
def pIx (m size : Nat) (sh : Sh) (a i : Atom) : P := fun e => on2 (fun x i => natO i fun i => eAggO x fun cs => thenO (Nat.blt i m) (partQ sh cs.toList (i * size))) (evA a e) (evA i e)
def byteO (b : Option UInt8) : OV := @Option.rec UInt8 (fun _ => OV) none (fun b => someN .u8 b.toNat) b
def pIxS (a i : Atom) : P := fun e => on2 (fun x i => natO i fun i => eStrO x fun s => byteO s.data.toList[i]?) (evA a e) (evA i e)
def evL : List Atom → QE → Option (List Value) := @List.rec Atom (fun _ => QE → Option (List Value)) (fun _ => some [])
  (fun a _ ih e => @Option.rec Value (fun _ => Option (List Value)) none (fun v => @Option.rec (List Value) (fun _ => Option (List Value)) none (fun l => some (v :: l)) (ih e)) (evA a e))
def pMkf (fn : FuncId) (first captured : List Atom) : P := fun e => bL (evL first e) fun l => bL (evL captured e) fun r => some (.func (.func fn) ⟨l⟩ ⟨r⟩)
def pMki (t : TypeId) (a : Atom) : P := fun e => bO (evA a e) fun x => some (.iface t x)
def pExt (a : Atom) (i : Nat) : P := fun e => bO (evA a e) fun x => eTupO x fun vs => vs.toList[i]?
def lenO (n : Option Nat) : OV := @Option.rec Nat (fun _ => OV) none (someN .i64) n
def pLen (k : LenK) (a : Atom) : P := fun e => bO (evA a e) fun x => lenO (lenV k x)
def pMax (gt : Bool) (args : List Atom) : P := fun e => bL (evL args e) fun l => match l with | x :: r => maxL gt x r | [] => none
def pNil (a : Atom) : P := fun e => bO (evA a e) fun x => match x with
  | .pointer (some p) => some (.pointer (some p))
  | .func (.func f) first captured => some (.func (.func f) first captured)
  | .func (.yield l) first captured => some (.func (.yield l) first captured)
  | _ => none
def bndQ (e : QE) (x : Option Atom) (d y : Nat) : Option Nat := match x with
  | none => some d
  | some a => match evA a e with
    | some (.int _ (.ofNat i)) => @Bool.rec (fun _ => Option Nat) none (some i) (Nat.ble i y)
    | _ => none
def bndsQ (e : QE) (len cap : Nat) (lo hi mx : Option Atom) : Option (Nat × Nat × Nat) := match bndQ e mx cap cap with
  | none => none
  | some m => match bndQ e hi len m with
    | none => none
    | some h => match bndQ e lo 0 h with
      | none => none
      | some l => some (l, h, m)
def pSlS (x : Atom) (lo hi : Option Atom) : P := fun e => bO (evA x e) fun v => eStrO v fun s => match bndsQ e s.size s.size lo hi none with
  | some (l, h, _) => some (.string (s.extract l h))
  | none => none
def fin (S : QS) (c : KV) (r : OV) : Bool := bB r fun v => c v S
def pureO (p : P) : SemO := fun _ e S c => fin S c (p e)

/-! ## Memory -/
def getQ : Tr QB → Nat → Option QB := @Tr.rec QB (fun _ => Nat → Option QB) (fun _ => none)
  (fun v _ _ il ir k => @Nat.rec (fun _ => Option QB) v (fun m _ => @Nat.rec (fun _ => Option QB) (il (m / 2)) (fun _ _ => ir (m / 2)) (m % 2)) k)
def getV : Tr Value → Nat → OV := @Tr.rec Value (fun _ => Nat → OV) (fun _ => none)
  (fun v _ _ il ir k => @Nat.rec (fun _ => OV) v (fun m _ => @Nat.rec (fun _ => OV) (il (m / 2)) (fun _ _ => ir (m / 2)) (m % 2)) k)
def nodesQ (w : Option QB) (l r : Tr QB) (ih : Tr QB → Nat → Option QB → Tr QB) (m : Nat) (v : Option QB) : Tr QB := @Nat.rec (fun _ => Tr QB) (.node w (ih l (m / 2) v) r) (fun _ _ => .node w l (ih r (m / 2) v)) (m % 2)
def set1Q (ih : Tr QB → Nat → Option QB → Tr QB) (m : Nat) (v : Option QB) : Tr QB → Tr QB := @Tr.rec QB (fun _ => Tr QB) (nodesQ none .leaf .leaf ih m v) (fun w l r _ _ => nodesQ w l r ih m v)
def set0Q (v : Option QB) : Tr QB → Tr QB := @Tr.rec QB (fun _ => Tr QB) (.node v .leaf .leaf) (fun _ l r _ _ => .node v l r)
def setQ : Nat → Tr QB → Nat → Option QB → Tr QB := @Nat.rec (fun _ => Tr QB → Nat → Option QB → Tr QB) (fun t _ _ => t)
  (fun _ ih t k v => @Nat.rec (fun _ => Tr QB) (set0Q v t) (fun m _ => set1Q ih m v t) k)
def nodesV (w : Option Value) (l r : Tr Value) (ih : Tr Value → Nat → Option Value → Tr Value) (m : Nat) (v : Option Value) : Tr Value := @Nat.rec (fun _ => Tr Value) (.node w (ih l (m / 2) v) r) (fun _ _ => .node w l (ih r (m / 2) v)) (m % 2)
def set1V (ih : Tr Value → Nat → Option Value → Tr Value) (m : Nat) (v : Option Value) : Tr Value → Tr Value := @Tr.rec Value (fun _ => Tr Value) (nodesV none .leaf .leaf ih m v) (fun w l r _ _ => nodesV w l r ih m v)
def set0V (v : Option Value) : Tr Value → Tr Value := @Tr.rec Value (fun _ => Tr Value) (.node v .leaf .leaf) (fun _ l r _ _ => .node v l r)
def setV : Nat → Tr Value → Nat → Option Value → Tr Value := @Nat.rec (fun _ => Tr Value → Nat → Option Value → Tr Value) (fun t _ _ => t)
  (fun _ ih t k v => @Nat.rec (fun _ => Tr Value) (set0V v t) (fun m _ => set1V ih m v t) k)
abbrev LG := List (Nat × Bool)
abbrev HP := Tr QB
def bQ (x : Option QB) (f : QB → Bool) : Bool := @Option.rec QB (fun _ => Bool) false f x
abbrev KC := Option Nat → Bool → Nat → Tr Value → Bool
def eCells : QB → KC → Bool := @QB.rec (fun _ => KC → Bool) (fun x s n t f => f x s n t) (fun _ _ _ _ _ _ => false) (fun _ _ _ => false)
def eMap : QB → (List MEnt → Nat → Bool) → Bool := @QB.rec (fun _ => (List MEnt → Nat → Bool) → Bool) (fun _ _ _ _ _ => false) (fun _ _ _ _ _ _ => false) (fun es cl f => f es cl)
def eS (f : HP → Nat → LG → Bool) (S : QS) : Bool := @QS.rec (fun _ => Bool) f S
def atC (h : HP) (b : Nat) (f : KC) : Bool := bQ (getQ h b) fun o => eCells o f
def mkS (h : HP) (b : Nat) (o : Option QB) (n : Nat) (lg : LG) : QS := .mk (setQ (Nat.succ b) h b o) n lg
/-- so many cells from a place on, ahead of others -/
def takeQ (t : Tr Value) (off : Nat) : Nat → List Value → Option (List Value) := @Nat.rec (fun _ => List Value → Option (List Value)) some
  (fun m ih acc => @Option.rec Value (fun _ => Option (List Value)) none (fun v => ih (v :: acc)) (getV t (off + m)))
def fillC : List Value → Nat → Tr Value → Tr Value := @List.rec Value (fun _ => Nat → Tr Value → Tr Value) (fun _ t => t) (fun v _ ih i t => ih (i + 1) (setV (Nat.succ i) t i (some v)))
def lenL : List Value → Nat := @List.rec Value (fun _ => Nat) 0 (fun _ _ ih => Nat.succ ih)
def ld1R (b off : Nat) (c : KV) (h : HP) (n : Nat) (lg : LG) : Bool := atC h b fun _ _ len t => thenB (Nat.blt off len) (fin (.mk h n ((b, false) :: lg)) c (getV t off))
def ld1Q (b off : Nat) (S : QS) (c : KV) : Bool := eS (ld1R b off c) S
def ldCR (b off m : Nat) (c : List Value → QS → Bool) (h : HP) (n : Nat) (lg : LG) : Bool := atC h b fun _ _ len t => thenB (Nat.ble (off + m) len) (bLB (takeQ t off m []) fun l => c l (.mk h n ((b, false) :: lg)))
def ldCQ (b off m : Nat) (S : QS) (c : List Value → QS → Bool) : Bool := eS (ldCR b off m c) S
def oneC : Value → Bool := @Value.rec (fun _ => Bool) (fun _ => Unit) (fun _ => Unit) (fun _ => true) (fun _ _ => true) (fun _ _ => true) (fun _ _ _ => true) (fun _ => true) (fun _ => true) (fun _ _ _ => true) (fun _ => true) (fun _ => true) (fun _ _ _ _ _ => true) true (fun _ _ _ => true) true (fun _ _ => false) (fun _ _ => false)
  (fun _ _ => ()) () (fun _ _ _ _ => ())
def allQ : List Value → Bool := @List.rec Value (fun _ => Bool) true (fun v _ ih => thenB (oneC v) ih)
def stCR (b off : Nat) (vs : List Value) (c : QS → Bool) (h : HP) (n : Nat) (lg : LG) : Bool := atC h b fun x s len t => thenB (Nat.ble (off + lenL vs) len) (thenB (allQ vs) (c (mkS h b (some (.cells x s len (fillC vs off t))) n ((b, true) :: (b, false) :: lg))))
def stCQ (b off : Nat) (vs : List Value) (S : QS) (c : QS → Bool) : Bool := eS (stCR b off vs c) S
def nwR (o : QB) (c : Nat → QS → Bool) (h : HP) (n : Nat) (lg : LG) : Bool := @Nat.rec (fun _ => Bool) (c 0 (mkS h 0 (some o) 1 lg)) (fun m _ => c (Nat.succ m) (mkS h (Nat.succ m) (some o) (m + 2) lg)) n
def nwQ (o : QB) (S : QS) (c : Nat → QS → Bool) : Bool := eS (nwR o c) S
def newQ (ext : Option Nat) (str : Bool) (vs : List Value) (S : QS) (c : Nat → QS → Bool) : Bool := nwQ (.cells ext str (lenL vs) (fillC vs 0 .leaf)) S c
def ptr0 (c : KV) (b : Nat) (S : QS) : Bool := c (.pointer (some ⟨b, 0, none⟩)) S
def sl0 (c : KV) (n m : Nat) (b : Nat) (S : QS) : Bool := c (.slice (some ⟨b, 0, none⟩) n m) S
def xAlloc (zero : List Value) : SemO := fun _ e S c => newQ none false zero S (ptr0 c)
def xBox (a : Atom) : SemO := fun _ e S c => bB (evA a e) fun v => newQ none false (cellsL v) S (ptr0 c)
def xBsl (len : Nat) (zero : List Value) (parts : List (Nat × Nat × Atom)) : SemO := fun _ e S c => bLB (fillP e parts zero) fun l => newQ none false l S (sl0 c len len)
def aggK (c : KV) (l : List Value) (S : QS) : Bool := c (.agg ⟨l⟩) S
def loadQ (sh : Sh) (S : QS) (c : KV) (p : Addr) : Bool := @Sh.rec (fun _ => Bool) (ld1Q p.block p.off S c) (fun m => ldCQ p.block p.off m S (aggK c)) sh
def xLoad (sh : Sh) (a : Atom) : SemO := fun _ e S c => bB (evA a e) fun x => ptrB x (loadQ sh S c)
def xStore (m : Nat) (a v : Atom) : SemO := fun _ e S c => bB (evA a e) fun x => bB (evA v e) fun y => ptrB x fun p => thenB (lenIs m (cellsL y)) (stCQ p.block p.off (cellsL y) S (c undef))
def repQ (z : List Value) : Nat → List Value := @Nat.rec (fun _ => List Value) [] (fun _ ih => z ++ ih)
def xMks (size bytes : Nat) (zero : List Value) (l cp : Atom) : SemO := fun _ e S c => bB (evA l e) fun l => bB (evA cp e) fun cp => natB l fun l => natB cp fun cp =>
  thenB (Nat.ble l cp) (thenB (Nat.ble (bytes * cp) 281474976710656) (thenB (Nat.blt cp 4611686018427387904) (thenB (lenIs size zero) (newQ none false (repQ zero cp) S (sl0 c l cp)))))
def mkSl (a : Addr) (l h m size : Nat) : Value := .slice (some (@Bool.rec (fun _ => Addr) ⟨a.block, a.off + l * size, none⟩ a (Nat.beq m l))) (h - l) (m - l)
def extOk (size : Nat) (x : Option Nat) : Bool := @Option.rec Nat (fun _ => Bool) true (fun s => Nat.beq s size) x
def noneB (x : Option Nat) : Bool := @Option.rec Nat (fun _ => Bool) true (fun _ => false) x
def b3 (x : Option (Nat × Nat × Nat)) (f : Nat → Nat → Nat → Bool) : Bool := @Option.rec (Nat × Nat × Nat) (fun _ => Bool) false (fun p => f p.1 p.2.1 p.2.2) x
/-- a block looked at -/
def lookR (b : Nat) (f : Option Nat → QS → Bool) (h : HP) (n : Nat) (lg : LG) : Bool := atC h b fun x _ _ _ => f x (.mk h n ((b, false) :: lg))
def lookQ (b : Nat) (S : QS) (f : Option Nat → QS → Bool) : Bool := eS (lookR b f) S
def slcN (e : QE) (lo hi mx : Option Atom) (S : QS) (c : KV) : Bool := b3 (bndsQ e 0 0 lo hi mx) fun _ _ _ => c (.slice none 0 0) S
def slcSome (size : Nat) (e : QE) (lo hi mx : Option Atom) (S : QS) (c : KV) (len cap : Nat) (a : Addr) : Bool := b3 (bndsQ e len cap lo hi mx) fun l h m => lookQ a.block S fun x S => thenB (extOk size x) (thenB (Nat.ble h m) (c (mkSl a l h m size) S))
def xSlc (size : Nat) (x : Atom) (lo hi mx : Option Atom) : SemO := fun _ e S c => bB (evA x e) fun v => eSlB v fun a len cap => @Option.rec Addr (fun _ => Bool) (slcN e lo hi mx S c) (slcSome size e lo hi mx S c len cap) a
def xSlA (n size : Nat) (x : Atom) (lo hi mx : Option Atom) : SemO := fun _ e S c => bB (evA x e) fun v => ptrB v fun a => b3 (bndsQ e n n lo hi mx) fun l h m => lookQ a.block S fun x S => thenB (noneB x) (c (mkSl a l h m size) S)
def u8L : List UInt8 → List Value := @List.rec UInt8 (fun _ => List Value) [] (fun b _ ih => .int .u8 (.ofNat b.toNat) :: ih)
def lenB (v : Value) (k : Nat → Bool) : Bool := match v with | .slice _ n _ => k n | .string s => k s.size | _ => false
def firstQ (size n : Nat) (v : Value) (S : QS) (c : List Value → QS → Bool) : Bool := match v with
  | .slice (some a) _ _ => ldCQ a.block a.off (n * size) S c
  | .slice none _ _ => c [] S
  | .string s => thenB (Nat.beq size 1) (c (u8L (s.data.toList.take n)) S)
  | _ => false
def moveQ (c : KV) (z size : Nat) (str : Bool) (l : List Value) (S : QS) : Bool := newQ (some size) str l S (sl0 c z z)
def grow3 (size sLen n : Nat) (new : List Value) (c : KV) (a : Addr) (str : Bool) (len : Nat) (t : Tr Value) (S' : QS) : Bool :=
  ifB (andB2 (Nat.beq a.off 0) (Nat.beq len (sLen * size))) (nwQ (.cells (some size) str (len + lenL new) (fillC new len t)) S' (sl0 c (sLen + n) (sLen + n)))
    (bLB (takeQ t a.off (sLen * size) new) fun l => moveQ c (sLen + n) size str l S')
def grow2 (size sLen n : Nat) (new : List Value) (c : KV) (a : Addr) (h : HP) (nx : Nat) (lg : LG) : Bool := atC h a.block fun ext str len t => thenB (Nat.ble (a.off + sLen * size) len)
  (@Option.rec Nat (fun _ => Bool) (bLB (takeQ t a.off (sLen * size) new) fun l => moveQ c (sLen + n) size false l (.mk h nx ((a.block, false) :: lg)))
    (fun z => thenB (Nat.beq z size) (grow3 size sLen n new c a str len t (mkS h a.block none nx ((a.block, true) :: (a.block, false) :: lg)))) ext)
def growQ (size bytes : Nat) (base : Option Addr) (sLen sCap n : Nat) (c : KV) (new : List Value) (S : QS) : Bool := thenB (allQ new)
  (@Option.rec Addr (fun _ => Bool) (thenB (Nat.beq sCap 0) (thenB (Nat.beq sLen 0) (newQ (some size) false new S (sl0 c n n)))) (fun a => eS (grow2 size sLen n new c a) S) base)
def growOk (size bytes sLen n : Nat) : Bool := thenB (Nat.ble (2 * ((sLen + n) * bytes)) 281474976710656) (thenB (Nat.blt 0 bytes) (Nat.blt 0 size))
def putQ (size : Nat) (base : Option Addr) (sLen sCap n : Nat) (c : KV) (new : List Value) (S : QS) : Bool := @Option.rec Addr (fun _ => Bool) (thenB (Nat.beq sCap 0) (c (.slice none 0 0) S))
  (fun a => stCQ a.block (a.off + sLen * size) new S (c (.slice (some a) (sLen + n) sCap))) base
def appQ (size bytes : Nat) (base : Option Addr) (sLen sCap n : Nat) (c : KV) (src : (List Value → QS → Bool) → Bool) : Bool := ifB (Nat.ble (sLen + n) sCap) (src (putQ size base sLen sCap n c)) (thenB (growOk size bytes sLen n) (src (growQ size bytes base sLen sCap n c)))
def xApp (size bytes : Nat) (s x : Atom) : SemO := fun _ e S c => bB (evA s e) fun s => bB (evA x e) fun x => eSlB s fun base sLen sCap => lenB x fun n => appQ size bytes base sLen sCap n c (firstQ size n x S)
def xAppZ (size bytes : Nat) (zero : List Value) (s x : Atom) : SemO := fun _ e S c => bB (evA s e) fun s => bB (evA x e) fun x => eSlB s fun base sLen sCap => natB x fun n =>
  thenB (Nat.blt n 281474976710656) (thenB (Nat.ble (n * bytes) 281474976710656) (thenB (lenIs size zero) (appQ size bytes base sLen sCap n c fun k => k (repQ zero n) S)))
def capSome (S : QS) (c : KV) (n : Nat) (p : Addr) : Bool := lookQ p.block S fun x S => thenB (noneB x) (c (.int .i64 (.ofNat n)) S)
def xCap (a : Atom) : SemO := fun _ e S c => bB (evA a e) fun x => eSlB x fun p _ n => @Option.rec Addr (fun _ => Bool) (c (.int .i64 (.ofNat 0)) S) (capSome S c n) p
def cpDone (c : KV) (n : Nat) (S : QS) : Bool := c (.int .i64 (.ofNat n)) S
def copy2 (base : Option Addr) (n : Nat) (c : KV) (cs : List Value) (S : QS) : Bool := @Option.rec Addr (fun _ => Bool) (cpDone c n S) (fun a => stCQ a.block a.off cs S (cpDone c n)) base
def minN (a b : Nat) : Nat := @Bool.rec (fun _ => Nat) b a (Nat.ble a b)
def xCopy (size : Nat) (d s : Atom) : SemO := fun _ e S c => bB (evA d e) fun d => bB (evA s e) fun s => eSlB d fun base dLen _ => lenB s fun sl => firstQ size (minN sl dLen) s S (copy2 base (minN sl dLen) c)
def xClr (zero : List Value) (a : Atom) : SemO := fun _ e S c => bB (evA a e) fun x => eSlB x fun p n _ => @Option.rec Addr (fun _ => Bool) (c (.tuple #[]) S) (fun p => stCQ p.block p.off (repQ zero n) S fun S => c (.tuple #[]) S) p
def xConv (k : CK) (a : Atom) : SemO := match k with
  | .str2b _ => fun _ e S c => bB (evA a e) fun x => eStrB x fun s => newQ (some 1) true (u8L s.data.toList) S (sl0 c s.size s.size)
  | .b2str => fun _ e S c => bB (evA a e) fun x => eSlB x fun p n _ => @Option.rec Addr (fun _ => Bool) (c (.string .empty) S) (fun p => ldCQ p.block p.off n S fun cs S => @Option.rec (List UInt8) (fun _ => Bool) false (fun l => c (.string ⟨l.toArray⟩) S) (bytesOf cs)) p
  | .sameSl => fun _ e S c => bB (evA a e) fun x => eSlB x fun p n m => @Option.rec Addr (fun _ => Bool) false (fun p => eS (fun h nx lg => atC h p.block fun x _ len t => c (.slice (some p) n m) (mkS h p.block (some (.cells x true len t)) nx ((p.block, true) :: (p.block, false) :: lg))) S) p
  | k => pureO (pConv k a)
def tgtQ (call : Call) (l : List Value) (S : QS) (c : KV) (f : Fn) (first captured : Array Value) : Bool := match f with
  | .func f => call (.fn f) (first.toList ++ l ++ captured.toList) S c
  | .yield k => call (.yield k) l S c
  | _ => false
def xCall (f : Atom) (args : List Atom) : SemO := fun call e S c => bB (evA f e) fun g => bLB (evL args e) fun l => eFuncB g (tgtQ call l S c)
def bU (x : Option Unit) (f : Bool) : Bool := @Option.rec Unit (fun _ => Bool) false (fun _ => f) x
def hintQ (e : QE) : Option Atom → Option Unit := @Option.rec Atom (fun _ => Option Unit) (some ()) (fun a => match evA a e with | some (.int _ _) => some () | _ => none)
def map0 (c : KV) (b : Nat) (S : QS) : Bool := c (.map (some b)) S
def xMkm (h : Option Atom) : SemO := fun _ e S c => bU (hintQ e h) (nwQ (.map [] 0) S (map0 c))
def mapB (v : Value) (k : Option Nat → Bool) : Bool := match v with | .map p => k p | _ => false
abbrev OM := Option (Nat × MEnt)
def bR (x : Option OM) (f : OM → Bool) : Bool := @Option.rec OM (fun _ => Bool) false f x
def bM (x : OM) (f : Nat × MEnt → Bool) : Bool := @Option.rec (Nat × MEnt) (fun _ => Bool) false f x
def atM (h : HP) (b : Nat) (f : List MEnt → Nat → Bool) : Bool := bQ (getQ h b) fun o => eMap o f
def ofM : Blk → QB | .map es cl => .map es cl | _ => .map [] 0
def mgetR (kk : Nat) (ok : Bool) (zero y : Value) (c : KV) (b : Nat) (h : HP) (n : Nat) (lg : LG) : Bool := atM h b fun es _ => bR (findK kk y es 0) fun r => c (mres ok zero r) (.mk h n ((b, false) :: lg))
def xMget (kk : Nat) (ok : Bool) (zero : Value) (m k : Atom) : SemO := fun _ e S c => bB (evA m e) fun x => bB (evA k e) fun y => mapB x (@Option.rec Nat (fun _ => Bool) (c (mres ok zero none) S) (fun b => eS (mgetR kk ok zero y c b) S))
def msetR (kk : Nat) (y z : Value) (c : KV) (b : Nat) (h : HP) (n : Nat) (lg : LG) : Bool := atM h b fun es cl => thenB (isKey kk y) (bR (findK kk y es 0) fun r => c undef (mkS h b (some (ofM (mput y z es cl r))) n ((b, true) :: (b, false) :: lg)))
def xMset (kk : Nat) (m k v : Atom) : SemO := fun _ e S c => bB (evA m e) fun x => bB (evA k e) fun y => bB (evA v e) fun z => mapB x (@Option.rec Nat (fun _ => Bool) false (fun b => eS (msetR kk y z c b) S))
def mentR (kk : Nat) (zero y : Value) (c : KV) (b : Nat) (h : HP) (n : Nat) (lg : LG) : Bool := atM h b fun es cl => thenB (isKey kk y) (bR (findK kk y es 0) fun r => c (mstamp zero cl r) (mkS h b (some (ofM (mkeep y zero es cl r))) n ((b, true) :: (b, false) :: lg)))
def xMent (kk : Nat) (zero : Value) (m k : Atom) : SemO := fun _ e S c => bB (evA m e) fun x => bB (evA k e) fun y => mapB x (@Option.rec Nat (fun _ => Bool) false (fun b => eS (mentR kk zero y c b) S))
def mfillR (t : Int) (z : Value) (c : KV) (b : Nat) (h : HP) (n : Nat) (lg : LG) : Bool := atM h b fun es cl => bM (findBorn t es 0) fun r => c undef (mkS h b (some (.map (es.set r.1 ⟨r.2.key, z, r.2.born⟩) cl)) n ((b, true) :: (b, false) :: lg))
def xMfill (m s v : Atom) : SemO := fun _ e S c => bB (evA m e) fun x => bB (evA s e) fun t => eIntB t fun _ t => bB (evA v e) fun z => mapB x (@Option.rec Nat (fun _ => Bool) false (fun b => eS (mfillR t z c b) S))
def mdelR (kk : Nat) (y : Value) (c : KV) (b : Nat) (h : HP) (n : Nat) (lg : LG) : Bool := atM h b fun es cl => bR (findK kk y es 0) fun r => c (.tuple #[]) (mkS h b (some (.map (mcut es r) cl)) n ((b, true) :: (b, false) :: lg))
def xMdel (kk : Nat) (m k : Atom) : SemO := fun _ e S c => bB (evA m e) fun x => bB (evA k e) fun y => mapB x (@Option.rec Nat (fun _ => Bool) (c (.tuple #[]) S) (fun b => eS (mdelR kk y c b) S))
def mlenR (c : KV) (b : Nat) (h : HP) (n : Nat) (lg : LG) : Bool := atM h b fun es _ => c (.int .i64 es.length) (.mk h n ((b, false) :: lg))
def xLenM (a : Atom) : SemO := fun _ e S c => bB (evA a e) fun x => mapB x (@Option.rec Nat (fun _ => Bool) (c (.int .i64 (0 : Nat)) S) (fun b => eS (mlenR c b) S))
def xLen (k : LenK) (a : Atom) : SemO := @LenK.rec (fun _ => SemO) (pureO (pLen .str a)) (pureO (pLen .slice a)) (fun n => pureO (pLen (.arr n) a)) (xLenM a) k
def failO : SemO := fun _ _ _ _ => false
def execQ : AOp → SemO := @AOp.rec (fun _ => SemO)
  (fun a => pureO (pMov a)) (fun c a b => pureO (pPick c a b)) (fun op a b => pureO (pBin op a b)) (fun n k a b => pureO (pEq n k a b)) (fun op a => pureO (pUn op a)) (fun k a => xConv k a)
  (fun _ z => xAlloc z) (fun _ a => xBox a) (fun z p => pureO (pBuild z p)) (fun _ l z p => xBsl l z p) (fun sh a => xLoad sh a) (fun n a v => xStore n a v)
  (fun a => pureO (pNil a)) (fun _ s b z l c => xMks s b z l c) (fun x l h => pureO (pSlS x l h)) (fun s x l h m => xSlc s x l h m) (fun n s x l h m => xSlA n s x l h m)
  (fun o a => pureO (pFldA o a)) (fun sh o a => pureO (pFld sh o a)) (fun s a i => pureO (pIxA s a i)) (fun n s a i => pureO (pIxAA n s a i)) (fun n s sh a i => pureO (pIx n s sh a i)) (fun a i => pureO (pIxS a i))
  (fun f l r => pureO (pMkf f l r)) (fun t a => pureO (pMki t a)) (fun a i => pureO (pExt a i)) (fun f l => xCall f l) (fun s b _ x y => xApp s b x y) (fun s b _ z x y => xAppZ s b z x y)
  (fun k a => xLen k a) (fun a => xCap a) (fun s d x => xCopy s d x) (fun z a => xClr z a) (fun l => pureO (pMax true l)) (fun l => pureO (pMax false l)) (fun h => xMkm h) (fun kk ok z m k => xMget kk ok z m k) (fun kk m k v => xMset kk m k v) (fun kk m k => xMdel kk m k) (fun kk z m k => xMent kk z m k) (fun m s v => xMfill m s v) failO

/-! ## Code -/
def putE : Option Nat → QE → Value → QE := @Option.rec Nat (fun _ => QE → Value → QE) (fun e _ => e) (fun d e v => setE d (some v) e)
def contI (d : Option Nat) (e : QE) (c : KE) (v : Value) (S : QS) : Bool := c (putE d e v) S
abbrev StepI := Option Nat → AOp → SemI
def plainI : StepI := fun d op call e S c => execQ op call e S (contI d e c)
def eqB : Bool → Bool → Bool := @Bool.rec (fun _ => Bool → Bool) (@Bool.rec (fun _ => Bool) true false) (@Bool.rec (fun _ => Bool) false true)
def wantedQ (want : Bool) (v : Value) (yes no : Bool) : Bool := match v with
  | .bool b => ifB (eqB b want) yes no
  | .tuple _ => no
  | _ => false
def guardI (g : Nat × Bool) : StepI := fun d op call e S c => bB (getE g.1 e) fun v => wantedQ g.2 v (execQ op call e S (contI d e c)) (c (putE d e undef) S)
def stepI (d : Option Nat) (g : Option (Nat × Bool)) (op : AOp) : SemI := @Option.rec (Nat × Bool) (fun _ => StepI) plainI guardI g d op
def instrQ : AInstr → SemI := @AInstr.rec (fun _ => SemI) stepI
def consI (i : AInstr) (_ : List AInstr) (ih : SemI) : SemI := fun call e S c => instrQ i call e S fun e S => ih call e S c
def nilI : SemI := fun _ e S c => c e S
def instrsQ : List AInstr → SemI := @List.rec AInstr (fun _ => SemI) nilI consI
abbrev SemD := Nat → List (Nat × Touch) → SemI
def nilD (ms : List Nat) : SemD := fun _ ts _ e S c => thenB (apartAll ms ts) (c e S)
def consD2 (j : Nat) (ts : List (Nat × Touch)) (ih : SemD) (call : Call) (c : KE) (n : Nat) (lg : LG) (e : QE) (S' : QS) : Bool := eS (fun h' n' lg' => ih (j + 1) (keepT j { log := lg', lo := n, hi := n' } ts) call e (.mk h' n' (lg' ++ lg)) c) S'
def consD1 (i : AInstr) (j : Nat) (ts : List (Nat × Touch)) (ih : SemD) (call : Call) (e : QE) (c : KE) (h : HP) (n : Nat) (lg : LG) : Bool := instrQ i call e (.mk h n []) (consD2 j ts ih call c n lg)
def consD (i : AInstr) (_ : List AInstr) (ih : SemD) : SemD := fun j ts call e S c => eS (consD1 i j ts ih call e c) S
def drawnQ (ms : List Nat) : List AInstr → SemD := @List.rec AInstr (fun _ => SemD) (nilD ms) consD
def eExt (k : KX) (yes : QE → QS → Bool) : KX := @Ext.rec (fun _ => QE → QS → Bool) yes (fun i => k (.exit i)) (k .ret)
def iterQ (body : QE → QS → KX → Bool) : Nat → QE → QS → KX → Bool := @Nat.rec (fun _ => QE → QS → KX → Bool) (fun _ _ _ => false) (fun _ ih e S c => body e S (eExt c fun e S => ih e S c))
def sSkip : SemC := fun _ _ e S c => c .normal e S
def sOps (l : List AInstr) : SemC := fun call _ e S c => instrsQ l call e S (c .normal)
def sDrawn (l : List AInstr) (ms : List Nat) : SemC := fun call _ e S c => drawnQ ms l 0 [] call e S (c .normal)
def sSeq (_ _ : ACode) (a b : SemC) : SemC := fun call f e S c => a call f e S (eExt c fun e S => b call f e S c)
def sCond (t : Atom) (_ _ : ACode) (a b : SemC) : SemC := fun call f e S c => bB (evA t e) fun v => eBoolB v fun t => ifB t (a call f e S c) (b call f e S c)
def blockK (id : Nat) (c : KX) : KX := @Ext.rec (fun _ => QE → QS → Bool) (c .normal) (fun i e S => ifB (Nat.beq i id) (c .normal e S) (c (.exit i) e S)) (c .ret)
def sBlock (id : Nat) (_ : ACode) (a : SemC) : SemC := fun call f e S c => a call f e S (blockK id c)
def sLoop (_ : ACode) (a : SemC) : SemC := fun call f e S c => iterQ (a call f) f e S c
def eLoop : QB → (List Nat → ACode → ACode → QE → Option Ext → Bool) → Bool := @QB.rec (fun _ => (List Nat → ACode → ACode → QE → Option Ext → Bool) → Bool) (fun _ _ _ _ _ => false) (fun ps a b e p f => f ps a b e p) (fun _ _ _ => false)
def pendK (c : KX) (e : QE) (S : QS) (p : Option Ext) : Bool := @Option.rec Ext (fun _ => Bool) (c .normal e S) (fun x => c x e S) p
def rangeEnd1 (c : KX) (e : QE) (l : Nat) (h : HP) (n : Nat) (lg : LG) : Bool := bQ (getQ h l) fun o => eLoop o fun _ _ _ _ p => pendK c e (mkS h l none n ((l, true) :: (l, false) :: lg)) p
def rangeEnd (c : KX) (e : QE) (l : Nat) (_ : Value) (S : QS) : Bool := eS (rangeEnd1 c e l) S
def sRange (f : Atom) (ps : List Nat) (as bd : ACode) (_ _ : SemC) : SemC := fun call _ e S c => bB (evA f e) fun g => nwQ (.loop ps as bd e none) S fun l S => eFuncB g (tgtQ call [.func (.yield l) #[] #[]] S (rangeEnd c e l))
def sExit (id : Nat) : SemC := fun _ _ e S c => c (.exit id) e S
def sRet : SemC := fun _ _ e S c => c .ret e S
def runQ : ACode → SemC := @ACode.rec (fun _ => SemC) sSkip sOps sDrawn sSeq sCond sBlock sLoop sRange sExit sRet
def resQ (r : ARes) (e : QE) (S : QS) (c : KV) : Bool := match r with
  | .tmp t => fin S c (getE t e)
  | .cell t sh => bB (getE t e) fun x => ptrB x (loadQ sh S c)
def resAllQ : List ARes → QE → QS → (List Value → QS → Bool) → Bool := @List.rec ARes (fun _ => QE → QS → (List Value → QS → Bool) → Bool) (fun _ S c => c [] S) (fun r _ ih e S c => resQ r e S fun v S => ih e S fun l S => c (v :: l) S)
def argsQ : List Value → Nat → QE → QE := @List.rec Value (fun _ => Nat → QE → QE) (fun _ e => e) (fun v _ ih i e => ih (i + 1) (setE i (some v) e))
def zipQ : List Nat → List Value → QE → Option QE := @List.rec Nat (fun _ => List Value → QE → Option QE) (fun l e => @List.rec Value (fun _ => Option QE) (some e) (fun _ _ _ => none) l)
  (fun p _ ih l e => @List.rec Value (fun _ => Option QE) none (fun v l _ => ih l (setE p (some v) e)) l)
def tupQ (c : KV) (l : List Value) (S : QS) : Bool := match l with | [v] => c v S | l => c (.tuple ⟨l⟩) S
def extQ (k : XK) (args : List Value) (S : QS) (c : KV) : Bool := match k, args with
  | .indexByte, [.string s, .int .u8 b] => c (.int .i64 (findByte (UInt8.ofNat b.toNat) s.data.toList 0)) S
  | .overlaps size, [.slice a la _, .slice b lb _] => match a, b with
    | some a, some b =>
      ifB (Nat.beq la 0) (c (.bool false) S) (ifB (Nat.beq lb 0) (c (.bool false) S) (ifB (Nat.beq size 0) (c (.bool false) S) (eS (fun h n lg => atC h a.block fun _ s _ _ => atC h b.block fun _ s' _ _ => ifB s false (ifB s' false
        (c (.bool (andB2 (Nat.beq a.block b.block) (andB2 (Nat.blt a.off (b.off + lb * size)) (Nat.blt b.off (a.off + la * size))))) (.mk h n ((b.block, false) :: (a.block, false) :: lg))))) S)))
    | _, _ => c (.bool false) S
  | _, _ => false
def endGo (rs : List ARes) (c : KV) : KX := @Ext.rec (fun _ => QE → QS → Bool) (fun e S => resAllQ rs e S (tupQ c)) (fun _ _ _ => false) (fun e S => resAllQ rs e S (tupQ c))
def goQ (ih : Call) (d : Nat) (args : List Value) (S : QS) (c : KV) (af : AFunc) : Bool := thenB (lenIs af.nparams args) (runQ af.body ih d (argsQ args 0 .nil) S (endGo af.results c))
def sumQ (args : List Value) (S : QS) (c : KV) (g : List Value → Option Value) : Bool := fin S c (g args)
def fnQ (F : Nat → Option AFn) (ih : Call) (d : Nat) (f : FuncId) (args : List Value) : SemV := fun S c => @Option.rec AFn (fun _ => Bool) false (@AFn.rec (fun _ => Bool) (goQ ih d args S c) (fun k => extQ k args S c) (sumQ args S c)) (F f)
def endY (l : Nat) (ps : List Nat) (as bd : ACode) (e : QE) (c : KV) (p : Option Ext) (b : Bool) (S : QS) : Bool := eS (fun h n lg => c (.bool b) (mkS h l (some (.loop ps as bd e p)) n ((l, true) :: lg))) S
def bodyY (l : Nat) (ps : List Nat) (as bd : ACode) (e : QE) (c : KV) : KX := @Ext.rec (fun _ => QE → QS → Bool) (fun _ => endY l ps as bd e c none true) (fun i _ => endY l ps as bd e c (some (.exit i)) false) (fun _ => endY l ps as bd e c (some .ret) false)
def assignY (ih : Call) (d : Nat) (l : Nat) (ps : List Nat) (as bd : ACode) (e : QE) (c : KV) : KX := @Ext.rec (fun _ => QE → QS → Bool) (fun e2 S => runQ bd ih d e2 S (bodyY l ps as bd e c)) (fun _ _ _ => false) (fun _ _ => false)
def goY (ih : Call) (d : Nat) (l : Nat) (args : List Value) (c : KV) (h : HP) (n : Nat) (lg : LG) (ps : List Nat) (as bd : ACode) (e : QE) (p : Option Ext) : Bool := @Option.rec Ext (fun _ => Bool)
  (@Option.rec QE (fun _ => Bool) false (fun e2 => runQ as ih d e2 (mkS h l none n ((l, true) :: (l, false) :: lg)) (assignY ih d l ps as bd e c)) (zipQ ps args e)) (fun _ => false) p
def yieldR (ih : Call) (d : Nat) (l : Nat) (args : List Value) (c : KV) (h : HP) (n : Nat) (lg : LG) : Bool := bQ (getQ h l) fun o => eLoop o (goY ih d l args c h n lg)
def yieldQ (ih : Call) (d : Nat) (l : Nat) (args : List Value) : SemV := fun S c => eS (yieldR ih d l args c) S
def callQ (F : Nat → Option AFn) : Nat → Call := @Nat.rec (fun _ => Call) (fun _ _ _ _ => false) (fun d ih => @Tgt.rec (fun _ => List Value → SemV) (fnQ F ih d) (yieldQ ih d))
def isTrue (v : Value) (_ : QS) : Bool := eBoolB v fun b => b
def startQ (m : Nat) : QS := .mk .leaf m []
def runsTrue (F : Nat → Option AFn) (d : Nat) (f : FuncId) (args : List Value) (m : Nat) : Bool := callQ F d (.fn f) args (startQ m) isTrue
end
end Go.Wb.Q
