/- The engine: EngQ2 EngQ3 EngQ4 EngQ5 EngQ6 EngQ7. It proves nothing of the program by itself; it has no conditions. -/
import Derived.Test.YtminohpmjajfgaaGreatDoorEngBA
import Derived.Test.YtminohpmjajfgaaGreatDoorEngC
/- The engine, part Q: a quick evaluator for closed runs, laid for the kernel: small closed bodies. Definitions only. -/
section
set_option linter.unusedVariables false
set_option autoImplicit false
namespace Go.Wb.Q
noncomputable section
inductive D8 | c0 | c1 | c2 | c3 | c4 | c5 | c6 | c7 deriving DecidableEq
inductive Pt | lo (i j : D8) | hi (i j k : D8) | no deriving DecidableEq
def d8 (n : Nat) : D8 := match n with | 0 => .c0 | 1 => .c1 | 2 => .c2 | 3 => .c3 | 4 => .c4 | 5 => .c5 | 6 => .c6 | _ => .c7
def pt (n : Nat) : Pt := match Nat.blt n 64, Nat.blt n 576 with | true, _ => .lo (d8 (n / 8)) (d8 (n % 8)) | false, true => .hi (d8 ((n - 64) / 64)) (d8 ((n - 64) / 8 % 8)) (d8 (n % 8)) | false, false => .no
structure E1 where mk :: (a b c d e f g h : Option Value)
def sel1 : D8 → E1 → Option Value := @D8.rec (fun _ => E1 → Option Value) E1.a E1.b E1.c E1.d E1.e E1.f E1.g E1.h
def k1a (v : Option Value) (a b c d e f g h : Option Value) : E1 := .mk v b c d e f g h
def u1a (v : Option Value) : E1 → E1 := @E1.rec (fun _ => E1) (k1a v)
def k1b (v : Option Value) (a b c d e f g h : Option Value) : E1 := .mk a v c d e f g h
def u1b (v : Option Value) : E1 → E1 := @E1.rec (fun _ => E1) (k1b v)
def k1c (v : Option Value) (a b c d e f g h : Option Value) : E1 := .mk a b v d e f g h
def u1c (v : Option Value) : E1 → E1 := @E1.rec (fun _ => E1) (k1c v)
def k1d (v : Option Value) (a b c d e f g h : Option Value) : E1 := .mk a b c v e f g h
def u1d (v : Option Value) : E1 → E1 := @E1.rec (fun _ => E1) (k1d v)
def k1e (v : Option Value) (a b c d e f g h : Option Value) : E1 := .mk a b c d v f g h
def u1e (v : Option Value) : E1 → E1 := @E1.rec (fun _ => E1) (k1e v)
def k1f (v : Option Value) (a b c d e f g h : Option Value) : E1 := .mk a b c d e v g h
def u1f (v : Option Value) : E1 → E1 := @E1.rec (fun _ => E1) (k1f v)
def k1g (v : Option Value) (a b c d e f g h : Option Value) : E1 := .mk a b c d e f v h
def u1g (v : Option Value) : E1 → E1 := @E1.rec (fun _ => E1) (k1g v)
def k1h (v : Option Value) (a b c d e f g h : Option Value) : E1 := .mk a b c d e f g v
def u1h (v : Option Value) : E1 → E1 := @E1.rec (fun _ => E1) (k1h v)
def upd1 : D8 → Option Value → E1 → E1 := @D8.rec (fun _ => Option Value → E1 → E1) u1a u1b u1c u1d u1e u1f u1g u1h
structure E2 where mk :: (a b c d e f g h : E1)
def sel2 : D8 → E2 → E1 := @D8.rec (fun _ => E2 → E1) E2.a E2.b E2.c E2.d E2.e E2.f E2.g E2.h
def k2a (u : E1 → E1) (a b c d e f g h : E1) : E2 := .mk (u a) b c d e f g h
def u2a (u : E1 → E1) : E2 → E2 := @E2.rec (fun _ => E2) (k2a u)
def k2b (u : E1 → E1) (a b c d e f g h : E1) : E2 := .mk a (u b) c d e f g h
def u2b (u : E1 → E1) : E2 → E2 := @E2.rec (fun _ => E2) (k2b u)
def k2c (u : E1 → E1) (a b c d e f g h : E1) : E2 := .mk a b (u c) d e f g h
def u2c (u : E1 → E1) : E2 → E2 := @E2.rec (fun _ => E2) (k2c u)
def k2d (u : E1 → E1) (a b c d e f g h : E1) : E2 := .mk a b c (u d) e f g h
def u2d (u : E1 → E1) : E2 → E2 := @E2.rec (fun _ => E2) (k2d u)
def k2e (u : E1 → E1) (a b c d e f g h : E1) : E2 := .mk a b c d (u e) f g h
def u2e (u : E1 → E1) : E2 → E2 := @E2.rec (fun _ => E2) (k2e u)
def k2f (u : E1 → E1) (a b c d e f g h : E1) : E2 := .mk a b c d e (u f) g h
def u2f (u : E1 → E1) : E2 → E2 := @E2.rec (fun _ => E2) (k2f u)
def k2g (u : E1 → E1) (a b c d e f g h : E1) : E2 := .mk a b c d e f (u g) h
def u2g (u : E1 → E1) : E2 → E2 := @E2.rec (fun _ => E2) (k2g u)
def k2h (u : E1 → E1) (a b c d e f g h : E1) : E2 := .mk a b c d e f g (u h)
def u2h (u : E1 → E1) : E2 → E2 := @E2.rec (fun _ => E2) (k2h u)
def upd2 : D8 → (E1 → E1) → E2 → E2 := @D8.rec (fun _ => (E1 → E1) → E2 → E2) u2a u2b u2c u2d u2e u2f u2g u2h
structure E3 where mk :: (a b c d e f g h : E2)
def sel3 : D8 → E3 → E2 := @D8.rec (fun _ => E3 → E2) E3.a E3.b E3.c E3.d E3.e E3.f E3.g E3.h
def k3a (u : E2 → E2) (a b c d e f g h : E2) : E3 := .mk (u a) b c d e f g h
def u3a (u : E2 → E2) : E3 → E3 := @E3.rec (fun _ => E3) (k3a u)
def k3b (u : E2 → E2) (a b c d e f g h : E2) : E3 := .mk a (u b) c d e f g h
def u3b (u : E2 → E2) : E3 → E3 := @E3.rec (fun _ => E3) (k3b u)
def k3c (u : E2 → E2) (a b c d e f g h : E2) : E3 := .mk a b (u c) d e f g h
def u3c (u : E2 → E2) : E3 → E3 := @E3.rec (fun _ => E3) (k3c u)
def k3d (u : E2 → E2) (a b c d e f g h : E2) : E3 := .mk a b c (u d) e f g h
def u3d (u : E2 → E2) : E3 → E3 := @E3.rec (fun _ => E3) (k3d u)
def k3e (u : E2 → E2) (a b c d e f g h : E2) : E3 := .mk a b c d (u e) f g h
def u3e (u : E2 → E2) : E3 → E3 := @E3.rec (fun _ => E3) (k3e u)
def k3f (u : E2 → E2) (a b c d e f g h : E2) : E3 := .mk a b c d e (u f) g h
def u3f (u : E2 → E2) : E3 → E3 := @E3.rec (fun _ => E3) (k3f u)
def k3g (u : E2 → E2) (a b c d e f g h : E2) : E3 := .mk a b c d e f (u g) h
def u3g (u : E2 → E2) : E3 → E3 := @E3.rec (fun _ => E3) (k3g u)
def k3h (u : E2 → E2) (a b c d e f g h : E2) : E3 := .mk a b c d e f g (u h)
def u3h (u : E2 → E2) : E3 → E3 := @E3.rec (fun _ => E3) (k3h u)
def upd3 : D8 → (E2 → E2) → E3 → E3 := @D8.rec (fun _ => (E2 → E2) → E3 → E3) u3a u3b u3c u3d u3e u3f u3g u3h
structure QE where mk :: (lo : E2) (hi : E3)
def E1.nil : E1 := ⟨none, none, none, none, none, none, none, none⟩
def E2.nil : E2 := ⟨.nil, .nil, .nil, .nil, .nil, .nil, .nil, .nil⟩
def E3.nil : E3 := ⟨.nil, .nil, .nil, .nil, .nil, .nil, .nil, .nil⟩
def QE.nil : QE := ⟨.nil, .nil⟩
def getLo (i j : D8) (e : QE) : Option Value := sel1 j (sel2 i e.lo)
def getHi (i j k : D8) (e : QE) : Option Value := sel1 k (sel2 j (sel3 i e.hi))
def getNo (_ : QE) : Option Value := none
def getE (t : Nat) : QE → Option Value := @Pt.rec (fun _ => QE → Option Value) getLo getHi getNo (pt t)
def kLo (i j : D8) (v : Option Value) (lo : E2) (hi : E3) : QE := .mk (upd2 i (upd1 j v) lo) hi
def kHi (i j k : D8) (v : Option Value) (lo : E2) (hi : E3) : QE := .mk lo (upd3 i (upd2 j (upd1 k v)) hi)
def setLo (i j : D8) (v : Option Value) : QE → QE := @QE.rec (fun _ => QE) (kLo i j v)
def setHi (i j k : D8) (v : Option Value) : QE → QE := @QE.rec (fun _ => QE) (kHi i j k v)
def setNo (v : Option Value) (e : QE) : QE := e
def setE (t : Nat) : Option Value → QE → QE := @Pt.rec (fun _ => Option Value → QE → QE) setLo setHi setNo (pt t)

/-! ## State -/
inductive QB where
  | cells (ext : Option Nat) (str : Bool) (len : Nat) (c : Tr Value)
  | loop (params : List Nat) (assign body : ACode) (env : QE) (pending : Option Ext)
  | map (es : List MEnt) (cl : Nat)
  | ro (len : Nat) (c : Tr Value)
  | iter (s : ByteArray) (pos : Nat)
structure QS where mk :: (h : Tr QB) (n : Nat) (lg : List (Nat × Bool))
abbrev OV := Option Value
abbrev KV := Value → QS → Bool
abbrev SemV := QS → KV → Bool
abbrev Call := Tgt → List Value → SemV
abbrev SemO := Call → QE → SemV
abbrev KE := QE → QS → Bool
abbrev SemI := Call → QE → QS → KE → Bool
abbrev KX := Ext → QE → QS → Bool
abbrev SemC := Call → Nat → QE → QS → KX → Bool

/-! ## Small parts -/
def bO (x : OV) (f : Value → OV) : OV := @Option.rec Value (fun _ => OV) none f x
def bB (x : OV) (f : Value → Bool) : Bool := @Option.rec Value (fun _ => Bool) false f x
def bL (x : Option (List Value)) (f : List Value → OV) : OV := @Option.rec (List Value) (fun _ => OV) none f x
def bLB (x : Option (List Value)) (f : List Value → Bool) : Bool := @Option.rec (List Value) (fun _ => Bool) false f x
def ifO (b : Bool) (x y : OV) : OV := @Bool.rec (fun _ => OV) y x b
def ifB (b : Bool) (x y : Bool) : Bool := @Bool.rec (fun _ => Bool) y x b
def thenO (b : Bool) (x : OV) : OV := @Bool.rec (fun _ => OV) none x b
def thenB (b : Bool) (x : Bool) : Bool := @Bool.rec (fun _ => Bool) false x b
def andB2 (a b : Bool) : Bool := @Bool.rec (fun _ => Bool) false b a
def evC (v : Value) (_ : QE) : OV := some v
def evA : Atom → QE → OV := @Atom.rec (fun _ => QE → OV) getE evC
def eBoolO : Value → (Bool → OV) → OV := @Value.rec (fun _ => (Bool → OV) → OV) (fun _ => Unit) (fun _ => Unit) (fun x0 f => f x0) (fun _ _ _ => none) (fun _ _ _ => none) (fun _ _ _ _ => none) (fun _ _ => none) (fun _ _ => none) (fun _ _ _ _ => none) (fun _ _ => none) (fun _ _ => none) (fun _ _ _ _ _ _ => none) (fun  _ => none) (fun _ _ _ _ => none) (fun  _ => none) (fun _ _ _ => none) (fun _ _ _ => none) (fun _ _ => ()) () (fun _ _ _ _ => ())
def eIntO : Value → (IntKind → Int → OV) → OV := @Value.rec (fun _ => (IntKind → Int → OV) → OV) (fun _ => Unit) (fun _ => Unit) (fun _ _ => none) (fun x0 x1 f => f x0 x1) (fun _ _ _ => none) (fun _ _ _ _ => none) (fun _ _ => none) (fun _ _ => none) (fun _ _ _ _ => none) (fun _ _ => none) (fun _ _ => none) (fun _ _ _ _ _ _ => none) (fun  _ => none) (fun _ _ _ _ => none) (fun  _ => none) (fun _ _ _ => none) (fun _ _ _ => none) (fun _ _ => ()) () (fun _ _ _ _ => ())
def eStrO : Value → (ByteArray → OV) → OV := @Value.rec (fun _ => (ByteArray → OV) → OV) (fun _ => Unit) (fun _ => Unit) (fun _ _ => none) (fun _ _ _ => none) (fun _ _ _ => none) (fun _ _ _ _ => none) (fun x0 f => f x0) (fun _ _ => none) (fun _ _ _ _ => none) (fun _ _ => none) (fun _ _ => none) (fun _ _ _ _ _ _ => none) (fun  _ => none) (fun _ _ _ _ => none) (fun  _ => none) (fun _ _ _ => none) (fun _ _ _ => none) (fun _ _ => ()) () (fun _ _ _ _ => ())
def ePtrO : Value → (Option Addr → OV) → OV := @Value.rec (fun _ => (Option Addr → OV) → OV) (fun _ => Unit) (fun _ => Unit) (fun _ _ => none) (fun _ _ _ => none) (fun _ _ _ => none) (fun _ _ _ _ => none) (fun _ _ => none) (fun x0 f => f x0) (fun _ _ _ _ => none) (fun _ _ => none) (fun _ _ => none) (fun _ _ _ _ _ _ => none) (fun  _ => none) (fun _ _ _ _ => none) (fun  _ => none) (fun _ _ _ => none) (fun _ _ _ => none) (fun _ _ => ()) () (fun _ _ _ _ => ())
def eSlO : Value → (Option Addr → Nat → Nat → OV) → OV := @Value.rec (fun _ => (Option Addr → Nat → Nat → OV) → OV) (fun _ => Unit) (fun _ => Unit) (fun _ _ => none) (fun _ _ _ => none) (fun _ _ _ => none) (fun _ _ _ _ => none) (fun _ _ => none) (fun _ _ => none) (fun x0 x1 x2 f => f x0 x1 x2) (fun _ _ => none) (fun _ _ => none) (fun _ _ _ _ _ _ => none) (fun  _ => none) (fun _ _ _ _ => none) (fun  _ => none) (fun _ _ _ => none) (fun _ _ _ => none) (fun _ _ => ()) () (fun _ _ _ _ => ())
def eFuncO : Value → (Fn → Array Value → Array Value → OV) → OV := @Value.rec (fun _ => (Fn → Array Value → Array Value → OV) → OV) (fun _ => Unit) (fun _ => Unit) (fun _ _ => none) (fun _ _ _ => none) (fun _ _ _ => none) (fun _ _ _ _ => none) (fun _ _ => none) (fun _ _ => none) (fun _ _ _ _ => none) (fun _ _ => none) (fun _ _ => none) (fun x0 x1 x2 _ _ f => f x0 x1 x2) (fun  _ => none) (fun _ _ _ _ => none) (fun  _ => none) (fun _ _ _ => none) (fun _ _ _ => none) (fun _ _ => ()) () (fun _ _ _ _ => ())
def eAggO : Value → (Array Value → OV) → OV := @Value.rec (fun _ => (Array Value → OV) → OV) (fun _ => Unit) (fun _ => Unit) (fun _ _ => none) (fun _ _ _ => none) (fun _ _ _ => none) (fun _ _ _ _ => none) (fun _ _ => none) (fun _ _ => none) (fun _ _ _ _ => none) (fun _ _ => none) (fun _ _ => none) (fun _ _ _ _ _ _ => none) (fun  _ => none) (fun _ _ _ _ => none) (fun  _ => none) (fun x0 _ f => f x0) (fun _ _ _ => none) (fun _ _ => ()) () (fun _ _ _ _ => ())
def eTupO : Value → (Array Value → OV) → OV := @Value.rec (fun _ => (Array Value → OV) → OV) (fun _ => Unit) (fun _ => Unit) (fun _ _ => none) (fun _ _ _ => none) (fun _ _ _ => none) (fun _ _ _ _ => none) (fun _ _ => none) (fun _ _ => none) (fun _ _ _ _ => none) (fun _ _ => none) (fun _ _ => none) (fun _ _ _ _ _ _ => none) (fun  _ => none) (fun _ _ _ _ => none) (fun  _ => none) (fun _ _ _ => none) (fun x0 _ f => f x0) (fun _ _ => ()) () (fun _ _ _ _ => ())
def eBoolB : Value → (Bool → Bool) → Bool := @Value.rec (fun _ => (Bool → Bool) → Bool) (fun _ => Unit) (fun _ => Unit) (fun x0 f => f x0) (fun _ _ _ => false) (fun _ _ _ => false) (fun _ _ _ _ => false) (fun _ _ => false) (fun _ _ => false) (fun _ _ _ _ => false) (fun _ _ => false) (fun _ _ => false) (fun _ _ _ _ _ _ => false) (fun  _ => false) (fun _ _ _ _ => false) (fun  _ => false) (fun _ _ _ => false) (fun _ _ _ => false) (fun _ _ => ()) () (fun _ _ _ _ => ())
def eIntB : Value → (IntKind → Int → Bool) → Bool := @Value.rec (fun _ => (IntKind → Int → Bool) → Bool) (fun _ => Unit) (fun _ => Unit) (fun _ _ => false) (fun x0 x1 f => f x0 x1) (fun _ _ _ => false) (fun _ _ _ _ => false) (fun _ _ => false) (fun _ _ => false) (fun _ _ _ _ => false) (fun _ _ => false) (fun _ _ => false) (fun _ _ _ _ _ _ => false) (fun  _ => false) (fun _ _ _ _ => false) (fun  _ => false) (fun _ _ _ => false) (fun _ _ _ => false) (fun _ _ => ()) () (fun _ _ _ _ => ())
def eStrB : Value → (ByteArray → Bool) → Bool := @Value.rec (fun _ => (ByteArray → Bool) → Bool) (fun _ => Unit) (fun _ => Unit) (fun _ _ => false) (fun _ _ _ => false) (fun _ _ _ => false) (fun _ _ _ _ => false) (fun x0 f => f x0) (fun _ _ => false) (fun _ _ _ _ => false) (fun _ _ => false) (fun _ _ => false) (fun _ _ _ _ _ _ => false) (fun  _ => false) (fun _ _ _ _ => false) (fun  _ => false) (fun _ _ _ => false) (fun _ _ _ => false) (fun _ _ => ()) () (fun _ _ _ _ => ())
def ePtrB : Value → (Option Addr → Bool) → Bool := @Value.rec (fun _ => (Option Addr → Bool) → Bool) (fun _ => Unit) (fun _ => Unit) (fun _ _ => false) (fun _ _ _ => false) (fun _ _ _ => false) (fun _ _ _ _ => false) (fun _ _ => false) (fun x0 f => f x0) (fun _ _ _ _ => false) (fun _ _ => false) (fun _ _ => false) (fun _ _ _ _ _ _ => false) (fun  _ => false) (fun _ _ _ _ => false) (fun  _ => false) (fun _ _ _ => false) (fun _ _ _ => false) (fun _ _ => ()) () (fun _ _ _ _ => ())
def eSlB : Value → (Option Addr → Nat → Nat → Bool) → Bool := @Value.rec (fun _ => (Option Addr → Nat → Nat → Bool) → Bool) (fun _ => Unit) (fun _ => Unit) (fun _ _ => false) (fun _ _ _ => false) (fun _ _ _ => false) (fun _ _ _ _ => false) (fun _ _ => false) (fun _ _ => false) (fun x0 x1 x2 f => f x0 x1 x2) (fun _ _ => false) (fun _ _ => false) (fun _ _ _ _ _ _ => false) (fun  _ => false) (fun _ _ _ _ => false) (fun  _ => false) (fun _ _ _ => false) (fun _ _ _ => false) (fun _ _ => ()) () (fun _ _ _ _ => ())
def eFuncB : Value → (Fn → Array Value → Array Value → Bool) → Bool := @Value.rec (fun _ => (Fn → Array Value → Array Value → Bool) → Bool) (fun _ => Unit) (fun _ => Unit) (fun _ _ => false) (fun _ _ _ => false) (fun _ _ _ => false) (fun _ _ _ _ => false) (fun _ _ => false) (fun _ _ => false) (fun _ _ _ _ => false) (fun _ _ => false) (fun _ _ => false) (fun x0 x1 x2 _ _ f => f x0 x1 x2) (fun  _ => false) (fun _ _ _ _ => false) (fun  _ => false) (fun _ _ _ => false) (fun _ _ _ => false) (fun _ _ => ()) () (fun _ _ _ _ => ())
def eAggB : Value → (Array Value → Bool) → Bool := @Value.rec (fun _ => (Array Value → Bool) → Bool) (fun _ => Unit) (fun _ => Unit) (fun _ _ => false) (fun _ _ _ => false) (fun _ _ _ => false) (fun _ _ _ _ => false) (fun _ _ => false) (fun _ _ => false) (fun _ _ _ _ => false) (fun _ _ => false) (fun _ _ => false) (fun _ _ _ _ _ _ => false) (fun  _ => false) (fun _ _ _ _ => false) (fun  _ => false) (fun x0 _ f => f x0) (fun _ _ _ => false) (fun _ _ => ()) () (fun _ _ _ _ => ())
def eTupB : Value → (Array Value → Bool) → Bool := @Value.rec (fun _ => (Array Value → Bool) → Bool) (fun _ => Unit) (fun _ => Unit) (fun _ _ => false) (fun _ _ _ => false) (fun _ _ _ => false) (fun _ _ _ _ => false) (fun _ _ => false) (fun _ _ => false) (fun _ _ _ _ => false) (fun _ _ => false) (fun _ _ => false) (fun _ _ _ _ _ _ => false) (fun  _ => false) (fun _ _ _ _ => false) (fun  _ => false) (fun _ _ _ => false) (fun x0 _ f => f x0) (fun _ _ => ()) () (fun _ _ _ _ => ())
def eNatO (k : Nat → OV) : Int → OV := @Int.rec (fun _ => OV) k (fun _ => none)
def eNatB (k : Nat → Bool) : Int → Bool := @Int.rec (fun _ => Bool) k (fun _ => false)
def natO (v : Value) (k : Nat → OV) : OV := eIntO v (fun _ => eNatO k)
def natB (v : Value) (k : Nat → Bool) : Bool := eIntB v (fun _ => eNatB k)
def someB (b : Bool) : OV := some (.bool b)
def someI (k : IntKind) (n : Int) : OV := some (.int k n)
def someN (k : IntKind) (n : Nat) : OV := some (.int k (.ofNat n))
def lim : IntKind → Nat := @IntKind.rec (fun _ => Nat) 128 32768 2147483648 9223372036854775808 256 65536 4294967296 18446744073709551616
def sameK (a b : IntKind) : Bool := Nat.beq (lim a) (lim b)
def wrSlow (k : IntKind) (n : Nat) : OV := someI k (k.wrap (.ofNat n))
def wrN (k : IntKind) (n : Nat) : OV := ifO (Nat.blt n (lim k)) (someN k n) (wrSlow k n)
abbrev N2 := IntKind → Nat → Nat → OV
def slowN (op : BinOp) (k : IntKind) (a b : Nat) : OV := binV op (.int k (.ofNat a)) (.int k (.ofNat b))
def nAdd : N2 := fun k a b => wrN k (a + b)
def nSub : N2 := fun k a b => ifO (Nat.ble b a) (wrN k (a - b)) (slowN .sub k a b)
def nMul : N2 := fun k a b => wrN k (a * b)
def nQuo : N2 := fun k a b => ifO (Nat.beq b 0) none (wrN k (a / b))
def nRem : N2 := fun k a b => ifO (Nat.beq b 0) none (someN k (a % b))
def nEql : N2 := fun _ a b => someB (Nat.beq a b)
def nNeq : N2 := fun _ a b => someB (not (Nat.beq a b))
def nLss : N2 := fun _ a b => someB (Nat.blt a b)
def nLeq : N2 := fun _ a b => someB (Nat.ble a b)
def nGtr : N2 := fun _ a b => someB (Nat.blt b a)
def nGeq : N2 := fun _ a b => someB (Nat.ble b a)
def bitN (f : Nat → Nat → Nat) (op : BinOp) : N2 := fun k a b => ifO (Nat.blt a (lim k)) (ifO (Nat.blt b (lim k)) (someN k (f a b)) (slowN op k a b)) (slowN op k a b)
def binN : BinOp → N2 := @BinOp.rec (fun _ => N2) nAdd nSub nMul nQuo nRem (bitN Nat.land .and) (bitN Nat.lor .or) (bitN Nat.xor .xor) (slowN .shl) (slowN .shr) (slowN .andNot) nEql nNeq nLss nLeq nGtr nGeq
def binI4 (op : BinOp) (k : IntKind) (a : Nat) (b : Int) : OV := @Int.rec (fun _ => OV) (binN op k a) (fun m => binV op (.int k (.ofNat a)) (.int k (.negSucc m))) b
def binI3 (op : BinOp) (k : IntKind) (a b : Int) : OV := @Int.rec (fun _ => OV) (fun m => binI4 op k m b) (fun m => binV op (.int k (.negSucc m)) (.int k b)) a
def binI2 (op : BinOp) (k : IntKind) (a : Int) (k' : IntKind) (b : Int) : OV := ifO (sameK k k') (binI3 op k a b) (binV op (.int k a) (.int k' b))
def binI (op : BinOp) (y : Value) (k : IntKind) (a : Int) : OV := eIntO y (binI2 op k a)
def binS (op : BinOp) (y : Value) (s : ByteArray) : OV := eStrO y (fun s' => binV op (.string s) (.string s'))
/-- by the kind of the first one -/
def binK : Value → BinOp → Value → OV := @Value.rec (fun _ => BinOp → Value → OV) (fun _ => Unit) (fun _ => Unit) (fun _ _ _ => none) (fun k n op y => binI op y k n) (fun _ _ _ _ => none) (fun _ _ _ _ _ => none)
  (fun s op y => binS op y s) (fun _ _ _ => none) (fun _ _ _ _ _ => none) (fun _ _ _ => none) (fun _ _ _ => none) (fun _ _ _ _ _ _ _ => none) (fun _ _ => none) (fun _ _ _ _ _ => none) (fun _ _ => none) (fun _ _ _ _ => none) (fun _ _ _ _ => none)
  (fun _ _ => ()) () (fun _ _ _ _ => ())
def binQ (op : BinOp) (x y : Value) : OV := binK x op y

/-! ## Operations that touch no memory -/
abbrev P := QE → OV
def at2 (f : Value → Value → OV) (y : OV) (x : Value) : OV := bO y (f x)
def on2 (f : Value → Value → OV) (x y : OV) : OV := bO x (at2 f y)
def pMov (a : Atom) : P := evA a
def pPick2 (a b : OV) (t : Value) : OV := eBoolO t (fun t => ifO t a b)
def pPick (c a b : Atom) : P := fun e => bO (evA c e) (pPick2 (evA a e) (evA b e))
def pBin (op : BinOp) (a b : Atom) : P := fun e => on2 (binQ op) (evA a e) (evA b e)
def eqO (neg : Bool) (t : Option Bool) : OV := @Option.rec Bool (fun _ => OV) none (fun t => someB (@Bool.rec (fun _ => Bool) t (not t) neg)) t
def pEq (neg : Bool) (k : EqK) (a b : Atom) : P := fun e => on2 (fun x y => eqO neg (eqV k x y)) (evA a e) (evA b e)
def pUn (op : UnOp) (a : Atom) : P := fun e => bO (evA a e) (unV op)
def cvI (k : IntKind) (n : Int) : OV := @Int.rec (fun _ => OV) (wrN k) (fun m => someI k (k.wrap (.negSucc m))) n
def pConv (k : CK) (a : Atom) : P := fun e => match k with
  | .int k => bO (evA a e) fun x => eIntO x fun _ n => cvI k n
  | .same => bO (evA a e) fun x => eStrO x fun s => some (.string s)
  | _ => none
def setN : Nat → Value → List Value → List Value := @Nat.rec (fun _ => Value → List Value → List Value) (fun v l => @List.rec Value (fun _ => List Value) [] (fun _ r _ => v :: r) l)
  (fun _ ih v l => @List.rec Value (fun _ => List Value) [] (fun a r _ => a :: ih v r) l)
def lenIs : Nat → List Value → Bool := @Nat.rec (fun _ => List Value → Bool) (@List.rec Value (fun _ => Bool) true (fun _ _ _ => false)) (fun _ ih => @List.rec Value (fun _ => Bool) false (fun _ l _ => ih l))
def cellsL (v : Value) : List Value := v.cells.toList
def fillStep (off size : Nat) (l : List Value) (v : Value) (ih : List Value → Option (List Value)) : Option (List Value) :=
  @Bool.rec (fun _ => Option (List Value)) none (@Bool.rec (fun _ => Option (List Value)) none (ih (setAll l off (cellsL v))) (longer (off + size) l)) (lenIs size (cellsL v))
def fillP (e : QE) : List (Nat × Nat × Atom) → List Value → Option (List Value) := @List.rec (Nat × Nat × Atom) (fun _ => List Value → Option (List Value)) some
  (fun p _ ih l => @Option.rec Value (fun _ => Option (List Value)) none (fun v => fillStep p.1 p.2.1 l v ih) (evA p.2.2 e))
def pBuild (zero : List Value) (parts : List (Nat × Nat × Atom)) : P := fun e => bL (fillP e parts zero) fun l => some (.agg ⟨l⟩)
def ptrO (v : Value) (k : Addr → OV) : OV := ePtrO v (@Option.rec Addr (fun _ => OV) none k)
def ptrB (v : Value) (k : Addr → Bool) : Bool := ePtrB v (@Option.rec Addr (fun _ => Bool) false k)
def mkPtr (b o : Nat) : OV := some (.pointer (some ⟨b, o, none⟩))
def pFldA (off : Nat) (a : Atom) : P := fun e => bO (evA a e) fun x => ptrO x fun p => mkPtr p.block (p.off + off)
def partQ (sh : Sh) (cs : List Value) (off : Nat) : OV := @Sh.rec (fun _ => OV) cs[off]? (fun m => thenO (longer (off + m) cs) (some (.agg ⟨(cs.drop off).take m⟩))) sh
def pFld (sh : Sh) (off : Nat) (a : Atom) : P := fun e => bO (evA a e) fun x => eAggO x fun cs => partQ sh cs.toList off
def ixA2 (size i : Nat) (p : Option Addr) (len : Nat) (_ : Nat) : OV := @Option.rec Addr (fun _ => OV) none (fun p => thenO (Nat.blt i len) (mkPtr p.block (p.off + i * size))) p
def pIxA (size : Nat) (a i : Atom) : P := fun e => on2 (fun x i => natO i fun i => eSlO x (ixA2 size i)) (evA a e) (evA i e)
def pIxAA (m size : Nat) (a i : Atom) : P := fun e => on2 (fun x i => natO i fun i => ptrO x fun p => thenO (Nat.blt i m) (mkPtr p.block (p.off + i * size))) (evA a e) (evA i e)
def pIx (m size : Nat) (sh : Sh) (a i : Atom) : P := fun e => on2 (fun x i => natO i fun i => eAggO x fun cs => thenO (Nat.blt i m) (partQ sh cs.toList (i * size))) (evA a e) (evA i e)
def byteO (b : Option UInt8) : OV := @Option.rec UInt8 (fun _ => OV) none (fun b => someN .u8 b.toNat) b
def pIxS (a i : Atom) : P := fun e => on2 (fun x i => natO i fun i => eStrO x fun s => byteO s.data.toList[i]?) (evA a e) (evA i e)
def evL : List Atom → QE → Option (List Value) := @List.rec Atom (fun _ => QE → Option (List Value)) (fun _ => some [])
  (fun a _ ih e => @Option.rec Value (fun _ => Option (List Value)) none (fun v => @Option.rec (List Value) (fun _ => Option (List Value)) none (fun l => some (v :: l)) (ih e)) (evA a e))
def pMkf (fn : FuncId) (first captured : List Atom) : P := fun e => bL (evL first e) fun l => bL (evL captured e) fun r => some (.func (.func fn) ⟨l⟩ ⟨r⟩)
def pMki (t : TypeId) (a : Atom) : P := fun e => bO (evA a e) fun x => some (.iface t x)
def pExt (a : Atom) (i : Nat) : P := fun e => bO (evA a e) fun x => eTupO x fun vs => vs.toList[i]?
def lenO (n : Option Nat) : OV := @Option.rec Nat (fun _ => OV) none (someN .i64) n
def pLen (k : LenK) (a : Atom) : P := fun e => bO (evA a e) fun x => lenO (lenV k x)
def pMax (gt : Bool) (args : List Atom) : P := fun e => bL (evL args e) fun l => match l with | x :: r => maxL gt x r | [] => none
def pNil (a : Atom) : P := fun e => bO (evA a e) fun x => match x with
  | .pointer (some p) => some (.pointer (some p))
  | .func (.func f) first captured => some (.func (.func f) first captured)
  | .func (.yield l) first captured => some (.func (.yield l) first captured)
  | _ => none
def bndQ (e : QE) (x : Option Atom) (d y : Nat) : Option Nat := match x with
  | none => some d
  | some a => match evA a e with
    | some (.int _ (.ofNat i)) => @Bool.rec (fun _ => Option Nat) none (some i) (Nat.ble i y)
    | _ => none
def bndsQ (e : QE) (len cap : Nat) (lo hi mx : Option Atom) : Option (Nat × Nat × Nat) := match bndQ e mx cap cap with
  | none => none
  | some m => match bndQ e hi len m with
    | none => none
    | some h => match bndQ e lo 0 h with
      | none => none
      | some l => some (l, h, m)
def pSlS (x : Atom) (lo hi : Option Atom) : P := fun e => bO (evA x e) fun v => eStrO v fun s => match bndsQ e s.size s.size lo hi none with
  | some (l, h, _) => some (.string (s.extract l h))
  | none => none
def fin (S : QS) (c : KV) (r : OV) : Bool := bB r fun v => c v S
def pureO (p : P) : SemO := fun _ e S c => fin S c (p e)

/-! ## Memory -/
def getQ : Tr QB → Nat → Option QB := @Tr.rec QB (fun _ => Nat → Option QB) (fun _ => none)
  (fun v _ _ il ir k => @Nat.rec (fun _ => Option QB) v (fun m _ => @Nat.rec (fun _ => Option QB) (il (m / 2)) (fun _ _ => ir (m / 2)) (m % 2)) k)
def getV : Tr Value → Nat → OV := @Tr.rec Value (fun _ => Nat → OV) (fun _ => none)
  (fun v _ _ il ir k => @Nat.rec (fun _ => OV) v (fun m _ => @Nat.rec (fun _ => OV) (il (m / 2)) (fun _ _ => ir (m / 2)) (m % 2)) k)
def nodesQ (w : Option QB) (l r : Tr QB) (ih : Tr QB → Nat → Option QB → Tr QB) (m : Nat) (v : Option QB) : Tr QB := @Nat.rec (fun _ => Tr QB) (.node w (ih l (m / 2) v) r) (fun _ _ => .node w l (ih r (m / 2) v)) (m % 2)
def set1Q (ih : Tr QB → Nat → Option QB → Tr QB) (m : Nat) (v : Option QB) : Tr QB → Tr QB := @Tr.rec QB (fun _ => Tr QB) (nodesQ none .leaf .leaf ih m v) (fun w l r _ _ => nodesQ w l r ih m v)
def set0Q (v : Option QB) : Tr QB → Tr QB := @Tr.rec QB (fun _ => Tr QB) (.node v .leaf .leaf) (fun _ l r _ _ => .node v l r)
def setQ : Nat → Tr QB → Nat → Option QB → Tr QB := @Nat.rec (fun _ => Tr QB → Nat → Option QB → Tr QB) (fun t _ _ => t)
  (fun _ ih t k v => @Nat.rec (fun _ => Tr QB) (set0Q v t) (fun m _ => set1Q ih m v t) k)
def nodesV (w : Option Value) (l r : Tr Value) (ih : Tr Value → Nat → Option Value → Tr Value) (m : Nat) (v : Option Value) : Tr Value := @Nat.rec (fun _ => Tr Value) (.node w (ih l (m / 2) v) r) (fun _ _ => .node w l (ih r (m / 2) v)) (m % 2)
def set1V (ih : Tr Value → Nat → Option Value → Tr Value) (m : Nat) (v : Option Value) : Tr Value → Tr Value := @Tr.rec Value (fun _ => Tr Value) (nodesV none .leaf .leaf ih m v) (fun w l r _ _ => nodesV w l r ih m v)
def set0V (v : Option Value) : Tr Value → Tr Value := @Tr.rec Value (fun _ => Tr Value) (.node v .leaf .leaf) (fun _ l r _ _ => .node v l r)
def setV : Nat → Tr Value → Nat → Option Value → Tr Value := @Nat.rec (fun _ => Tr Value → Nat → Option Value → Tr Value) (fun t _ _ => t)
  (fun _ ih t k v => @Nat.rec (fun _ => Tr Value) (set0V v t) (fun m _ => set1V ih m v t) k)
abbrev LG := List (Nat × Bool)
abbrev HP := Tr QB
def bQ (x : Option QB) (f : QB → Bool) : Bool := @Option.rec QB (fun _ => Bool) false f x
abbrev KC := Option Nat → Bool → Nat → Tr Value → Bool
def eCells : QB → KC → Bool := @QB.rec (fun _ => KC → Bool) (fun x s n t f => f x s n t) (fun _ _ _ _ _ _ => false) (fun _ _ _ => false) (fun _ _ _ => false) (fun _ _ _ => false)
def eRd : QB → (Nat → Tr Value → Bool) → Bool := @QB.rec (fun _ => (Nat → Tr Value → Bool) → Bool) (fun _ _ n t f => f n t) (fun _ _ _ _ _ _ => false) (fun _ _ _ => false) (fun n t f => f n t) (fun _ _ _ => false)
def eMap : QB → (List MEnt → Nat → Bool) → Bool := @QB.rec (fun _ => (List MEnt → Nat → Bool) → Bool) (fun _ _ _ _ _ => false) (fun _ _ _ _ _ _ => false) (fun es cl f => f es cl) (fun _ _ _ => false) (fun _ _ _ => false)
def eS (f : HP → Nat → LG → Bool) (S : QS) : Bool := @QS.rec (fun _ => Bool) f S
def atC (h : HP) (b : Nat) (f : KC) : Bool := bQ (getQ h b) fun o => eCells o f
def atR (h : HP) (b : Nat) (f : Nat → Tr Value → Bool) : Bool := bQ (getQ h b) fun o => eRd o f
def mkS (h : HP) (b : Nat) (o : Option QB) (n : Nat) (lg : LG) : QS := .mk (setQ (Nat.succ b) h b o) n lg
/-- so many cells from a place on, ahead of others -/
def takeQ (t : Tr Value) (off : Nat) : Nat → List Value → Option (List Value) := @Nat.rec (fun _ => List Value → Option (List Value)) some
  (fun m ih acc => @Option.rec Value (fun _ => Option (List Value)) none (fun v => ih (v :: acc)) (getV t (off + m)))
def fillC : List Value → Nat → Tr Value → Tr Value := @List.rec Value (fun _ => Nat → Tr Value → Tr Value) (fun _ t => t) (fun v _ ih i t => ih (i + 1) (setV (Nat.succ i) t i (some v)))
def lenL : List Value → Nat := @List.rec Value (fun _ => Nat) 0 (fun _ _ ih => Nat.succ ih)
def ld1R (b off : Nat) (c : KV) (h : HP) (n : Nat) (lg : LG) : Bool := atR h b fun len t => thenB (Nat.blt off len) (fin (.mk h n ((b, false) :: lg)) c (getV t off))
def ld1Q (b off : Nat) (S : QS) (c : KV) : Bool := eS (ld1R b off c) S
def ldCR (b off m : Nat) (c : List Value → QS → Bool) (h : HP) (n : Nat) (lg : LG) : Bool := atR h b fun len t => thenB (Nat.ble (off + m) len) (bLB (takeQ t off m []) fun l => c l (.mk h n ((b, false) :: lg)))
def ldCQ (b off m : Nat) (S : QS) (c : List Value → QS → Bool) : Bool := eS (ldCR b off m c) S
def oneC : Value → Bool := @Value.rec (fun _ => Bool) (fun _ => Unit) (fun _ => Unit) (fun _ => true) (fun _ _ => true) (fun _ _ => true) (fun _ _ _ => true) (fun _ => true) (fun _ => true) (fun _ _ _ => true) (fun _ => true) (fun _ => true) (fun _ _ _ _ _ => true) true (fun _ _ _ => true) true (fun _ _ => false) (fun _ _ => false)
  (fun _ _ => ()) () (fun _ _ _ _ => ())
def allQ : List Value → Bool := @List.rec Value (fun _ => Bool) true (fun v _ ih => thenB (oneC v) ih)
def stCR (b off : Nat) (vs : List Value) (c : QS → Bool) (h : HP) (n : Nat) (lg : LG) : Bool := atC h b fun x s len t => thenB (Nat.ble (off + lenL vs) len) (thenB (allQ vs) (c (mkS h b (some (.cells x s len (fillC vs off t))) n ((b, true) :: (b, false) :: lg))))
def stCQ (b off : Nat) (vs : List Value) (S : QS) (c : QS → Bool) : Bool := eS (stCR b off vs c) S
def nwR (o : QB) (c : Nat → QS → Bool) (h : HP) (n : Nat) (lg : LG) : Bool := @Nat.rec (fun _ => Bool) (c 0 (mkS h 0 (some o) 1 lg)) (fun m _ => c (Nat.succ m) (mkS h (Nat.succ m) (some o) (m + 2) lg)) n
def nwQ (o : QB) (S : QS) (c : Nat → QS → Bool) : Bool := eS (nwR o c) S
def newQ (ext : Option Nat) (str : Bool) (vs : List Value) (S : QS) (c : Nat → QS → Bool) : Bool := nwQ (.cells ext str (lenL vs) (fillC vs 0 .leaf)) S c
def ptr0 (c : KV) (b : Nat) (S : QS) : Bool := c (.pointer (some ⟨b, 0, none⟩)) S
def sl0 (c : KV) (n m : Nat) (b : Nat) (S : QS) : Bool := c (.slice (some ⟨b, 0, none⟩) n m) S
def xAlloc (zero : List Value) : SemO := fun _ e S c => newQ none false zero S (ptr0 c)
def xBox (a : Atom) : SemO := fun _ e S c => bB (evA a e) fun v => newQ none false (cellsL v) S (ptr0 c)
def xBsl (len : Nat) (zero : List Value) (parts : List (Nat × Nat × Atom)) : SemO := fun _ e S c => bLB (fillP e parts zero) fun l => newQ none false l S (sl0 c len len)
def aggK (c : KV) (l : List Value) (S : QS) : Bool := c (.agg ⟨l⟩) S
def loadQ (sh : Sh) (S : QS) (c : KV) (p : Addr) : Bool := @Sh.rec (fun _ => Bool) (ld1Q p.block p.off S c) (fun m => ldCQ p.block p.off m S (aggK c)) sh
def xLoad (sh : Sh) (a : Atom) : SemO := fun _ e S c => bB (evA a e) fun x => ptrB x (loadQ sh S c)
def xStore (m : Nat) (a v : Atom) : SemO := fun _ e S c => bB (evA a e) fun x => bB (evA v e) fun y => ptrB x fun p => thenB (lenIs m (cellsL y)) (stCQ p.block p.off (cellsL y) S (c undef))
def repQ (z : List Value) : Nat → List Value := @Nat.rec (fun _ => List Value) [] (fun _ ih => z ++ ih)
def xMks (size bytes : Nat) (zero : List Value) (l cp : Atom) : SemO := fun _ e S c => bB (evA l e) fun l => bB (evA cp e) fun cp => natB l fun l => natB cp fun cp =>
  thenB (Nat.ble l cp) (thenB (Nat.ble (bytes * cp) 281474976710656) (thenB (Nat.blt cp 4611686018427387904) (thenB (lenIs size zero) (newQ none false (repQ zero cp) S (sl0 c l cp)))))
def mkSl (a : Addr) (l h m size : Nat) : Value := .slice (some (@Bool.rec (fun _ => Addr) ⟨a.block, a.off + l * size, none⟩ a (Nat.beq m l))) (h - l) (m - l)
def extOk (size : Nat) (x : Option Nat) : Bool := @Option.rec Nat (fun _ => Bool) true (fun s => Nat.beq s size) x
def noneB (x : Option Nat) : Bool := @Option.rec Nat (fun _ => Bool) true (fun _ => false) x
def b3 (x : Option (Nat × Nat × Nat)) (f : Nat → Nat → Nat → Bool) : Bool := @Option.rec (Nat × Nat × Nat) (fun _ => Bool) false (fun p => f p.1 p.2.1 p.2.2) x
/-- a block looked at -/
def lookR (b : Nat) (f : Option Nat → QS → Bool) (h : HP) (n : Nat) (lg : LG) : Bool := atC h b fun x _ _ _ => f x (.mk h n ((b, false) :: lg))
def lookQ (b : Nat) (S : QS) (f : Option Nat → QS → Bool) : Bool := eS (lookR b f) S
def slcN (e : QE) (lo hi mx : Option Atom) (S : QS) (c : KV) : Bool := b3 (bndsQ e 0 0 lo hi mx) fun _ _ _ => c (.slice none 0 0) S
def hasB {α : Type} (x : Option α) : Bool := @Option.rec α (fun _ => Bool) false (fun _ => true) x
def tokIf (x : Option Nat) (mx : Option Atom) (l m : Nat) (v : Value) : Value := @Bool.rec (fun _ => Value) v (.chan none) (andB2 (hasB x) (andB2 (hasB mx) (Nat.beq m l)))
def isTok (v : Value) : Bool := match v with | .chan none => true | _ => false
def tokN (e : QE) (lo hi mx : Option Atom) (S : QS) (c : KV) : Bool := b3 (bndsQ e 0 0 lo hi mx) fun _ _ _ => c (.chan none) S
def slcSome (size : Nat) (e : QE) (lo hi mx : Option Atom) (S : QS) (c : KV) (len cap : Nat) (a : Addr) : Bool := b3 (bndsQ e len cap lo hi mx) fun l h m => lookQ a.block S fun x S => thenB (extOk size x) (thenB (Nat.ble h m) (c (tokIf x mx l m (mkSl a l h m size)) S))
def xSlc (size : Nat) (x : Atom) (lo hi mx : Option Atom) : SemO := fun _ e S c => bB (evA x e) fun v => ifB (isTok v) (tokN e lo hi mx S c) (eSlB v fun a len cap => @Option.rec Addr (fun _ => Bool) (slcN e lo hi mx S c) (slcSome size e lo hi mx S c len cap) a)
def xSlA (n size : Nat) (x : Atom) (lo hi mx : Option Atom) : SemO := fun _ e S c => bB (evA x e) fun v => ptrB v fun a => b3 (bndsQ e n n lo hi mx) fun l h m => lookQ a.block S fun x S => thenB (noneB x) (c (mkSl a l h m size) S)
def u8L : List UInt8 → List Value := @List.rec UInt8 (fun _ => List Value) [] (fun b _ ih => .int .u8 (.ofNat b.toNat) :: ih)
def lenB (v : Value) (k : Nat → Bool) : Bool := match v with | .slice _ n _ => k n | .string s => k s.size | .chan none => k 0 | _ => false
def firstQ (size n : Nat) (v : Value) (S : QS) (c : List Value → QS → Bool) : Bool := match v with
  | .slice (some a) _ _ => ldCQ a.block a.off (n * size) S c
  | .slice none _ _ => c [] S
  | .string s => thenB (Nat.beq size 1) (c (u8L (s.data.toList.take n)) S)
  | .chan none => thenB (Nat.beq n 0) (c [] S)
  | _ => false
def moveQ (c : KV) (z size : Nat) (str : Bool) (l : List Value) (S : QS) : Bool := newQ (some size) str l S (sl0 c z z)
def grow3 (size sLen n : Nat) (new : List Value) (c : KV) (a : Addr) (str : Bool) (len : Nat) (t : Tr Value) (S' : QS) : Bool :=
  ifB (andB2 (Nat.beq a.off 0) (Nat.beq len (sLen * size))) (nwQ (.cells (some size) str (len + lenL new) (fillC new len t)) S' (sl0 c (sLen + n) (sLen + n)))
    (bLB (takeQ t a.off (sLen * size) new) fun l => moveQ c (sLen + n) size str l S')
def grow2 (size sLen n : Nat) (new : List Value) (c : KV) (a : Addr) (h : HP) (nx : Nat) (lg : LG) : Bool := atC h a.block fun ext str len t => thenB (Nat.ble (a.off + sLen * size) len)
  (@Option.rec Nat (fun _ => Bool) (bLB (takeQ t a.off (sLen * size) new) fun l => moveQ c (sLen + n) size false l (.mk h nx ((a.block, false) :: lg)))
    (fun z => thenB (andB2 (Nat.beq z size) (Nat.ble len (a.off + (sLen + n) * size))) (grow3 size sLen n new c a str len t (mkS h a.block none nx ((a.block, true) :: (a.block, false) :: lg)))) ext)
def growQ (size bytes : Nat) (base : Option Addr) (sLen sCap n : Nat) (c : KV) (new : List Value) (S : QS) : Bool := thenB (allQ new)
  (@Option.rec Addr (fun _ => Bool) (thenB (Nat.beq sCap 0) (thenB (Nat.beq sLen 0) (newQ (some size) false new S (sl0 c n n)))) (fun a => eS (grow2 size sLen n new c a) S) base)
def growOk (size bytes sLen n : Nat) : Bool := thenB (Nat.ble (2 * ((sLen + n) * bytes)) 281474976710656) (thenB (Nat.blt 0 bytes) (Nat.blt 0 size))
def putQ (size : Nat) (base : Option Addr) (sLen sCap n : Nat) (c : KV) (new : List Value) (S : QS) : Bool := @Option.rec Addr (fun _ => Bool) (thenB (Nat.beq sCap 0) (c (.slice none 0 0) S))
  (fun a => stCQ a.block (a.off + sLen * size) new S (c (.slice (some a) (sLen + n) sCap))) base
def appQ (size bytes : Nat) (base : Option Addr) (sLen sCap n : Nat) (c : KV) (src : (List Value → QS → Bool) → Bool) : Bool := ifB (Nat.ble (sLen + n) sCap) (src (putQ size base sLen sCap n c)) (thenB (growOk size bytes sLen n) (src (growQ size bytes base sLen sCap n c)))
def tokApp (size bytes : Nat) (x : Value) (S : QS) (c : KV) : Bool := lenB x fun n => ifB (Nat.beq n 0) (firstQ size 0 x S fun _ S => c (.chan none) S) (thenB (growOk size bytes 0 n) (firstQ size n x S (growQ size bytes none 0 0 n c)))
def xApp (size bytes : Nat) (s x : Atom) : SemO := fun _ e S c => bB (evA s e) fun s => bB (evA x e) fun x => ifB (isTok s) (tokApp size bytes x S c) (eSlB s fun base sLen sCap => lenB x fun n => appQ size bytes base sLen sCap n c (firstQ size n x S))
def xAppZ (size bytes : Nat) (zero : List Value) (s x : Atom) : SemO := fun _ e S c => bB (evA s e) fun s => bB (evA x e) fun x => eSlB s fun base sLen sCap => natB x fun n =>
  thenB (Nat.blt n 281474976710656) (thenB (Nat.ble (n * bytes) 281474976710656) (thenB (lenIs size zero) (appQ size bytes base sLen sCap n c fun k => k (repQ zero n) S)))
def capSome (S : QS) (c : KV) (n : Nat) (p : Addr) : Bool := lookQ p.block S fun x S => thenB (noneB x) (c (.int .i64 (.ofNat n)) S)
def xCap (a : Atom) : SemO := fun _ e S c => bB (evA a e) fun x => eSlB x fun p _ n => @Option.rec Addr (fun _ => Bool) (c (.int .i64 (.ofNat 0)) S) (capSome S c n) p
def cpDone (c : KV) (n : Nat) (S : QS) : Bool := c (.int .i64 (.ofNat n)) S
def copy2 (base : Option Addr) (n : Nat) (c : KV) (cs : List Value) (S : QS) : Bool := @Option.rec Addr (fun _ => Bool) (cpDone c n S) (fun a => stCQ a.block a.off cs S (cpDone c n)) base
def minN (a b : Nat) : Nat := @Bool.rec (fun _ => Nat) b a (Nat.ble a b)
def xCopy (size : Nat) (d s : Atom) : SemO := fun _ e S c => bB (evA d e) fun d => bB (evA s e) fun s => eSlB d fun base dLen _ => lenB s fun sl => firstQ size (minN sl dLen) s S (copy2 base (minN sl dLen) c)
def xClr (zero : List Value) (a : Atom) : SemO := fun _ e S c => bB (evA a e) fun x => eSlB x fun p n _ => @Option.rec Addr (fun _ => Bool) (c (.tuple #[]) S) (fun p => stCQ p.block p.off (repQ zero n) S fun S => c (.tuple #[]) S) p
def xConv (k : CK) (a : Atom) : SemO := match k with
  | .str2b _ => fun _ e S c => bB (evA a e) fun x => eStrB x fun s => newQ (some 1) true (u8L s.data.toList) S (sl0 c s.size s.size)
  | .b2str => fun _ e S c => bB (evA a e) fun x => eSlB x fun p n _ => @Option.rec Addr (fun _ => Bool) (c (.string .empty) S) (fun p => ldCQ p.block p.off n S fun cs S => @Option.rec (List UInt8) (fun _ => Bool) false (fun l => c (.string ⟨l.toArray⟩) S) (bytesOf cs)) p
  | .sameSl => fun _ e S c => bB (evA a e) fun x => eSlB x fun p n m => @Option.rec Addr (fun _ => Bool) false (fun p => eS (fun h nx lg => atC h p.block fun x _ len t => c (.slice (some p) n m) (mkS h p.block (some (.cells x true len t)) nx ((p.block, true) :: (p.block, false) :: lg))) S) p
  | k => pureO (pConv k a)
def tgtQ (call : Call) (l : List Value) (S : QS) (c : KV) (f : Fn) (first captured : Array Value) : Bool := match f with
  | .func f => call (.fn f) (first.toList ++ l ++ captured.toList) S c
  | .yield k => call (.yield k) l S c
  | _ => false
def xCall (f : Atom) (args : List Atom) : SemO := fun call e S c => bB (evA f e) fun g => bLB (evL args e) fun l => eFuncB g (tgtQ call l S c)
def bU (x : Option Unit) (f : Bool) : Bool := @Option.rec Unit (fun _ => Bool) false (fun _ => f) x
def hintQ (e : QE) : Option Atom → Option Unit := @Option.rec Atom (fun _ => Option Unit) (some ()) (fun a => match evA a e with | some (.int _ _) => some () | _ => none)
def map0 (c : KV) (b : Nat) (S : QS) : Bool := c (.map (some b)) S
def xMkm (h : Option Atom) : SemO := fun _ e S c => bU (hintQ e h) (nwQ (.map [] 0) S (map0 c))
def mapB (v : Value) (k : Option Nat → Bool) : Bool := match v with | .map p => k p | _ => false
abbrev OM := Option (Nat × MEnt)
def bR (x : Option OM) (f : OM → Bool) : Bool := @Option.rec OM (fun _ => Bool) false f x
def bM (x : OM) (f : Nat × MEnt → Bool) : Bool := @Option.rec (Nat × MEnt) (fun _ => Bool) false f x
def atM (h : HP) (b : Nat) (f : List MEnt → Nat → Bool) : Bool := bQ (getQ h b) fun o => eMap o f
def ofM : Blk → QB | .map es cl => .map es cl | _ => .map [] 0
def mgetR (kk : KK) (ok : Bool) (zero y : Value) (c : KV) (b : Nat) (h : HP) (n : Nat) (lg : LG) : Bool := atM h b fun es _ => bR (findK kk y es 0) fun r => c (mres ok zero r) (.mk h n ((b, false) :: lg))
def xMget (kk : KK) (ok : Bool) (zero : Value) (m k : Atom) : SemO := fun _ e S c => bB (evA m e) fun x => bB (bO (evA k e) (chkKey kk)) fun y => mapB x (@Option.rec Nat (fun _ => Bool) (c (mres ok zero none) S) (fun b => eS (mgetR kk ok zero y c b) S))
def msetR (kk : KK) (y z : Value) (c : KV) (b : Nat) (h : HP) (n : Nat) (lg : LG) : Bool := atM h b fun es cl => thenB (isKey kk y) (bR (findK kk y es 0) fun r => c undef (mkS h b (some (ofM (mput y z es cl r))) n ((b, true) :: (b, false) :: lg)))
def xMset (kk : KK) (m k v : Atom) : SemO := fun _ e S c => bB (evA m e) fun x => bB (evA k e) fun y => bB (evA v e) fun z => mapB x (@Option.rec Nat (fun _ => Bool) false (fun b => eS (msetR kk y z c b) S))
def mentR (kk : KK) (zero y : Value) (c : KV) (b : Nat) (h : HP) (n : Nat) (lg : LG) : Bool := atM h b fun es cl => thenB (isKey kk y) (bR (findK kk y es 0) fun r => c (mstamp zero cl r) (mkS h b (some (ofM (mkeep y zero es cl r))) n ((b, true) :: (b, false) :: lg)))
def xMent (kk : KK) (zero : Value) (m k : Atom) : SemO := fun _ e S c => bB (evA m e) fun x => bB (evA k e) fun y => mapB x (@Option.rec Nat (fun _ => Bool) false (fun b => eS (mentR kk zero y c b) S))
def mfillR (t : Int) (z : Value) (c : KV) (b : Nat) (h : HP) (n : Nat) (lg : LG) : Bool := atM h b fun es cl => bM (findBorn t es 0) fun r => c undef (mkS h b (some (.map (es.set r.1 ⟨r.2.key, z, r.2.born⟩) cl)) n ((b, true) :: (b, false) :: lg))
def xMfill (m s v : Atom) : SemO := fun _ e S c => bB (evA m e) fun x => bB (evA s e) fun t => eIntB t fun _ t => bB (evA v e) fun z => mapB x (@Option.rec Nat (fun _ => Bool) false (fun b => eS (mfillR t z c b) S))
def mdelR (kk : KK) (y : Value) (c : KV) (b : Nat) (h : HP) (n : Nat) (lg : LG) : Bool := atM h b fun es cl => bR (findK kk y es 0) fun r => c (.tuple #[]) (mkS h b (some (.map (mcut es r) cl)) n ((b, true) :: (b, false) :: lg))
def xMdel (kk : KK) (m k : Atom) : SemO := fun _ e S c => bB (evA m e) fun x => bB (bO (evA k e) (chkKey kk)) fun y => mapB x (@Option.rec Nat (fun _ => Bool) (c (.tuple #[]) S) (fun b => eS (mdelR kk y c b) S))
def mlenR (c : KV) (b : Nat) (h : HP) (n : Nat) (lg : LG) : Bool := atM h b fun es _ => c (.int .i64 es.length) (.mk h n ((b, false) :: lg))
def xLenM (a : Atom) : SemO := fun _ e S c => bB (evA a e) fun x => mapB x (@Option.rec Nat (fun _ => Bool) (c (.int .i64 (0 : Nat)) S) (fun b => eS (mlenR c b) S))
def xLen (k : LenK) (a : Atom) : SemO := @LenK.rec (fun _ => SemO) (pureO (pLen .str a)) (pureO (pLen .slice a)) (fun n => pureO (pLen (.arr n) a)) (xLenM a) k
def eIter : QB → (ByteArray → Nat → Bool) → Bool := @QB.rec (fun _ => (ByteArray → Nat → Bool) → Bool) (fun _ _ _ _ _ => false) (fun _ _ _ _ _ _ => false) (fun _ _ _ => false) (fun _ _ _ => false) (fun s p f => f s p)
def xSrg (a : Atom) : SemO := fun _ e S c => bB (evA a e) fun x => eStrB x fun s => nwQ (.iter s 0) S (ptr0 c)
def forceN (k : Nat → Bool) (n : Nat) : Bool := @Nat.rec (fun _ => Bool) (k 0) (fun m _ => k (Nat.succ m)) n
def snext2 (s : ByteArray) (pos : Nat) (c : KV) (b : Nat) (h : HP) (n : Nat) (lg : LG) : Bool := forceN (fun w => forceN (fun r => c (.tuple #[.bool true, .int .i64 (.ofNat pos), .int .i32 (.ofNat r)]) (mkS h b (some (.iter s w)) n ((b, true) :: (b, false) :: lg))) (decA s pos).1) (pos + (decA s pos).2)
def snextR (off : Nat) (c : KV) (b : Nat) (h : HP) (n : Nat) (lg : LG) : Bool := bQ (getQ h b) fun o => eIter o fun s pos => thenB (Nat.beq off 0) (ifB (Nat.blt pos s.data.toList.length) (snext2 s pos c b h n lg) (c (.tuple #[.bool false]) (.mk h n ((b, false) :: lg))))
def xSnx (a : Atom) : SemO := fun _ e S c => bB (evA a e) fun x => ptrB x fun p => eS (snextR p.off c p.block) S
def failO : SemO := fun _ _ _ _ => false
def execQ : AOp → SemO := @AOp.rec (fun _ => SemO)
  (fun a => pureO (pMov a)) (fun c a b => pureO (pPick c a b)) (fun op a b => pureO (pBin op a b)) (fun n k a b => pureO (pEq n k a b)) (fun op a => pureO (pUn op a)) (fun k a => xConv k a)
  (fun _ z => xAlloc z) (fun _ a => xBox a) (fun z p => pureO (pBuild z p)) (fun _ l z p => xBsl l z p) (fun sh a => xLoad sh a) (fun n a v => xStore n a v)
  (fun a => pureO (pNil a)) (fun _ s b z l c => xMks s b z l c) (fun x l h => pureO (pSlS x l h)) (fun s x l h m => xSlc s x l h m) (fun n s x l h m => xSlA n s x l h m)
  (fun o a => pureO (pFldA o a)) (fun sh o a => pureO (pFld sh o a)) (fun s a i => pureO (pIxA s a i)) (fun n s a i => pureO (pIxAA n s a i)) (fun n s sh a i => pureO (pIx n s sh a i)) (fun a i => pureO (pIxS a i))
  (fun f l r => pureO (pMkf f l r)) (fun t a => pureO (pMki t a)) (fun a i => pureO (pExt a i)) (fun f l => xCall f l) (fun s b _ x y => xApp s b x y) (fun s b _ z x y => xAppZ s b z x y)
  (fun k a => xLen k a) (fun a => xCap a) (fun s d x => xCopy s d x) (fun z a => xClr z a) (fun l => pureO (pMax true l)) (fun l => pureO (pMax false l)) (fun h => xMkm h) (fun kk ok z m k => xMget kk ok z m k) (fun kk m k v => xMset kk m k v) (fun kk m k => xMdel kk m k) (fun kk z m k => xMent kk z m k) (fun m s v => xMfill m s v) (fun a => xSrg a) (fun a => xSnx a) failO

/-! ## Code -/
def putE : Option Nat → QE → Value → QE := @Option.rec Nat (fun _ => QE → Value → QE) (fun e _ => e) (fun d e v => setE d (some v) e)
def contI (d : Option Nat) (e : QE) (c : KE) (v : Value) (S : QS) : Bool := c (putE d e v) S
abbrev StepI := Option Nat → AOp → SemI
def plainI : StepI := fun d op call e S c => execQ op call e S (contI d e c)
def eqB : Bool → Bool → Bool := @Bool.rec (fun _ => Bool → Bool) (@Bool.rec (fun _ => Bool) true false) (@Bool.rec (fun _ => Bool) false true)
def wantedQ (want : Bool) (v : Value) (yes no : Bool) : Bool := match v with
  | .bool b => ifB (eqB b want) yes no
  | .tuple _ => no
  | _ => false
def guardI (g : Nat × Bool) : StepI := fun d op call e S c => bB (getE g.1 e) fun v => wantedQ g.2 v (execQ op call e S (contI d e c)) (c (putE d e undef) S)
def stepI (d : Option Nat) (g : Option (Nat × Bool)) (op : AOp) : SemI := @Option.rec (Nat × Bool) (fun _ => StepI) plainI guardI g d op
def instrQ : AInstr → SemI := @AInstr.rec (fun _ => SemI) stepI
def consI (i : AInstr) (_ : List AInstr) (ih : SemI) : SemI := fun call e S c => instrQ i call e S fun e S => ih call e S c
def nilI : SemI := fun _ e S c => c e S
def instrsQ : List AInstr → SemI := @List.rec AInstr (fun _ => SemI) nilI consI
abbrev SemD := Nat → List (Nat × Touch) → SemI
def nilD (ms : List Nat) : SemD := fun _ ts _ e S c => thenB (apartAll ms ts) (c e S)
def consD2 (j : Nat) (ts : List (Nat × Touch)) (ih : SemD) (call : Call) (c : KE) (n : Nat) (lg : LG) (e : QE) (S' : QS) : Bool := eS (fun h' n' lg' => ih (j + 1) (keepT j { log := lg', lo := n, hi := n' } ts) call e (.mk h' n' (lg' ++ lg)) c) S'
def consD1 (i : AInstr) (j : Nat) (ts : List (Nat × Touch)) (ih : SemD) (call : Call) (e : QE) (c : KE) (h : HP) (n : Nat) (lg : LG) : Bool := instrQ i call e (.mk h n []) (consD2 j ts ih call c n lg)
def consD (i : AInstr) (_ : List AInstr) (ih : SemD) : SemD := fun j ts call e S c => eS (consD1 i j ts ih call e c) S
def drawnQ (ms : List Nat) : List AInstr → SemD := @List.rec AInstr (fun _ => SemD) (nilD ms) consD
def eExt (k : KX) (yes : QE → QS → Bool) : KX := @Ext.rec (fun _ => QE → QS → Bool) yes (fun i => k (.exit i)) (k .ret)
def iterQ (body : QE → QS → KX → Bool) : Nat → QE → QS → KX → Bool := @Nat.rec (fun _ => QE → QS → KX → Bool) (fun _ _ _ => false) (fun _ ih e S c => body e S (eExt c fun e S => ih e S c))
def sSkip : SemC := fun _ _ e S c => c .normal e S
def sOps (l : List AInstr) : SemC := fun call _ e S c => instrsQ l call e S (c .normal)
def sDrawn (l : List AInstr) (ms : List Nat) : SemC := fun call _ e S c => drawnQ ms l 0 [] call e S (c .normal)
def sSeq (_ _ : ACode) (a b : SemC) : SemC := fun call f e S c => a call f e S (eExt c fun e S => b call f e S c)
def sCond (t : Atom) (_ _ : ACode) (a b : SemC) : SemC := fun call f e S c => bB (evA t e) fun v => eBoolB v fun t => ifB t (a call f e S c) (b call f e S c)
def blockK (id : Nat) (c : KX) : KX := @Ext.rec (fun _ => QE → QS → Bool) (c .normal) (fun i e S => ifB (Nat.beq i id) (c .normal e S) (c (.exit i) e S)) (c .ret)
def sBlock (id : Nat) (_ : ACode) (a : SemC) : SemC := fun call f e S c => a call f e S (blockK id c)
def sLoop (_ : ACode) (a : SemC) : SemC := fun call f e S c => iterQ (a call f) f e S c
def eLoop : QB → (List Nat → ACode → ACode → QE → Option Ext → Bool) → Bool := @QB.rec (fun _ => (List Nat → ACode → ACode → QE → Option Ext → Bool) → Bool) (fun _ _ _ _ _ => false) (fun ps a b e p f => f ps a b e p) (fun _ _ _ => false) (fun _ _ _ => false) (fun _ _ _ => false)
def pendK (c : KX) (e : QE) (S : QS) (p : Option Ext) : Bool := @Option.rec Ext (fun _ => Bool) (c .normal e S) (fun x => c x e S) p
def rangeEnd1 (c : KX) (e : QE) (l : Nat) (h : HP) (n : Nat) (lg : LG) : Bool := bQ (getQ h l) fun o => eLoop o fun _ _ _ _ p => pendK c e (mkS h l none n ((l, true) :: (l, false) :: lg)) p
def rangeEnd (c : KX) (e : QE) (l : Nat) (_ : Value) (S : QS) : Bool := eS (rangeEnd1 c e l) S
def sRange (f : Atom) (ps : List Nat) (as bd : ACode) (_ _ : SemC) : SemC := fun call _ e S c => bB (evA f e) fun g => nwQ (.loop ps as bd e none) S fun l S => eFuncB g (tgtQ call [.func (.yield l) #[] #[]] S (rangeEnd c e l))
def sExit (id : Nat) : SemC := fun _ _ e S c => c (.exit id) e S
def sRet : SemC := fun _ _ e S c => c .ret e S
def runQ : ACode → SemC := @ACode.rec (fun _ => SemC) sSkip sOps sDrawn sSeq sCond sBlock sLoop sRange sExit sRet
def resQ (r : ARes) (e : QE) (S : QS) (c : KV) : Bool := match r with
  | .tmp t => fin S c (getE t e)
  | .cell t sh => bB (getE t e) fun x => ptrB x (loadQ sh S c)
def resAllQ : List ARes → QE → QS → (List Value → QS → Bool) → Bool := @List.rec ARes (fun _ => QE → QS → (List Value → QS → Bool) → Bool) (fun _ S c => c [] S) (fun r _ ih e S c => resQ r e S fun v S => ih e S fun l S => c (v :: l) S)
def argsQ : List Value → Nat → QE → QE := @List.rec Value (fun _ => Nat → QE → QE) (fun _ e => e) (fun v _ ih i e => ih (i + 1) (setE i (some v) e))
def zipQ : List Nat → List Value → QE → Option QE := @List.rec Nat (fun _ => List Value → QE → Option QE) (fun l e => @List.rec Value (fun _ => Option QE) (some e) (fun _ _ _ => none) l)
  (fun p _ ih l e => @List.rec Value (fun _ => Option QE) none (fun v l _ => ih l (setE p (some v) e)) l)
def tupQ (c : KV) (l : List Value) (S : QS) : Bool := match l with | [v] => c v S | l => c (.tuple ⟨l⟩) S
def ownB (own : Bool) (x : Option Nat) : Bool := @Option.rec Nat (fun _ => Bool) (ifB own false true) (fun _ => true) x
def chkQ (own : Bool) (b : Nat) (S : QS) (c : QS → Bool) : Bool := eS (fun h n lg => atC h b fun x s _ _ => ifB s false (thenB (ownB own x) (c (.mk h n ((b, false) :: lg))))) S
def chkCQ (size : Nat) (base : Option Addr) (S : QS) (c : QS → Bool) : Bool := @Option.rec Addr (fun _ => Bool) (c S) (fun a => eS (fun h n lg => atC h a.block fun x _ _ _ => thenB (extOk size x) (c (.mk h n ((a.block, false) :: lg)))) S) base
def ins3 (size bytes n cap i : Nat) (a b : Addr) (c : KV) (S : QS) : Bool := thenB (andB2 (Nat.beq a.off 0) (andB2 (Nat.blt 0 size) (Nat.blt (n + 1) 4611686018427387904)))
  (appQ size bytes (some a) i cap (n + 1 - i) c fun k => ldCQ b.block b.off size S fun l S => ldCQ a.block (a.off + i * size) ((n - i) * size) S fun r S => k (l ++ r) S)
def insQ (size bytes : Nat) (base : Option Addr) (n cap i : Nat) (xb : Option Addr) (xc : Nat) (S : QS) (c : KV) : Bool := thenB (Nat.ble n cap)
  (ifB (Nat.beq i n) (chkCQ size base S fun S => appQ size bytes base n cap 1 c (firstQ size 1 (.slice xb 1 xc) S)) (thenB (Nat.ble i n) (match base, xb with
    | some a, some b => ifB (Nat.beq a.block b.block) false (chkQ false b.block S fun S => chkQ true a.block S fun S => ins3 size bytes n cap i a b c S)
    | _, _ => false)))
def extQ (k : XK) (args : List Value) (S : QS) (c : KV) : Bool := match k, args with
  | .indexByte, [.string s, .int .u8 b] => c (.int .i64 (findByte (UInt8.ofNat b.toNat) s.data.toList 0)) S
  | .countByte, [.string s, .int .u8 b] => forceN (fun n => c (.int .i64 (.ofNat n)) S) (countB (UInt8.ofNat b.toNat) s.data.toList 0)
  | .cmpStr, [.string s, .string t] => c (.int .i64 (cmpB s.data.toList t.data.toList)) S
  | .join, [.slice (some a) n cp, .string sep] => ifB (Nat.blt cp n) false <| ifB (Nat.blt 140737488355328 n) false <| ldCQ a.block a.off n S fun cs S => @Option.rec (List ByteArray) (fun _ => Bool) false (fun l => ifB (Nat.blt 140737488355328 (joinB sep l).data.toList.length) false (c (.string (joinB sep l)) S)) (strsOf cs)
  | .sw off k1 k2 v1 v2, [.pointer (some p), .string s] => stCQ p.block (p.off + off) [.int .u32 (swV k1 k2 v1 v2 s)] S fun S => lookQ p.block S fun _ S => ifB (decide (swV k1 k2 v1 v2 s > 0)) (c (.bool true) S) (c (.bool false) S)
  | .overlaps size, [.slice a la _, .slice b lb _] => match a, b with
    | some a, some b =>
      ifB (Nat.beq la 0) (c (.bool false) S) (ifB (Nat.beq lb 0) (c (.bool false) S) (ifB (Nat.beq size 0) (c (.bool false) S) (eS (fun h n lg => atC h a.block fun _ s _ _ => atC h b.block fun _ s' _ _ => ifB s false (ifB s' false
        (c (.bool (andB2 (Nat.beq a.block b.block) (andB2 (Nat.blt a.off (b.off + lb * size)) (Nat.blt b.off (a.off + la * size))))) (.mk h n ((b.block, false) :: (a.block, false) :: lg))))) S)))
    | _, _ => c (.bool false) S
  | .insert size bytes, [s, .int .i64 (.ofNat i), .slice xb 1 xc] => ifB (isTok s) (thenB (Nat.beq i 0) (tokApp size bytes (.slice xb 1 xc) S c)) (eSlB s fun base n cap => insQ size bytes base n cap i xb xc S c)
  | _, _ => false
def endGo (rs : List ARes) (c : KV) : KX := @Ext.rec (fun _ => QE → QS → Bool) (fun e S => resAllQ rs e S (tupQ c)) (fun _ _ _ => false) (fun e S => resAllQ rs e S (tupQ c))
def goQ (ih : Call) (d : Nat) (args : List Value) (S : QS) (c : KV) (af : AFunc) : Bool := thenB (lenIs af.nparams args) (runQ af.body ih d (argsQ args 0 .nil) S (endGo af.results c))
def sumQ (args : List Value) (S : QS) (c : KV) (g : List Value → Option Value) : Bool := fin S c (g args)
def fnQ (F : Nat → Option AFn) (ih : Call) (d : Nat) (f : FuncId) (args : List Value) : SemV := fun S c => @Option.rec AFn (fun _ => Bool) false (@AFn.rec (fun _ => Bool) (goQ ih d args S c) (fun k => extQ k args S c) (sumQ args S c)) (F f)
def endY (l : Nat) (ps : List Nat) (as bd : ACode) (e : QE) (c : KV) (p : Option Ext) (b : Bool) (S : QS) : Bool := eS (fun h n lg => c (.bool b) (mkS h l (some (.loop ps as bd e p)) n ((l, true) :: lg))) S
def bodyY (l : Nat) (ps : List Nat) (as bd : ACode) (e : QE) (c : KV) : KX := @Ext.rec (fun _ => QE → QS → Bool) (fun _ => endY l ps as bd e c none true) (fun i _ => endY l ps as bd e c (some (.exit i)) false) (fun _ => endY l ps as bd e c (some .ret) false)
def assignY (ih : Call) (d : Nat) (l : Nat) (ps : List Nat) (as bd : ACode) (e : QE) (c : KV) : KX := @Ext.rec (fun _ => QE → QS → Bool) (fun e2 S => runQ bd ih d e2 S (bodyY l ps as bd e c)) (fun _ _ _ => false) (fun _ _ => false)
def goY (ih : Call) (d : Nat) (l : Nat) (args : List Value) (c : KV) (h : HP) (n : Nat) (lg : LG) (ps : List Nat) (as bd : ACode) (e : QE) (p : Option Ext) : Bool := @Option.rec Ext (fun _ => Bool)
  (@Option.rec QE (fun _ => Bool) false (fun e2 => runQ as ih d e2 (mkS h l none n ((l, true) :: (l, false) :: lg)) (assignY ih d l ps as bd e c)) (zipQ ps args e)) (fun _ => false) p
def yieldR (ih : Call) (d : Nat) (l : Nat) (args : List Value) (c : KV) (h : HP) (n : Nat) (lg : LG) : Bool := bQ (getQ h l) fun o => eLoop o (goY ih d l args c h n lg)
def yieldQ (ih : Call) (d : Nat) (l : Nat) (args : List Value) : SemV := fun S c => eS (yieldR ih d l args c) S
def callQ (F : Nat → Option AFn) : Nat → Call := @Nat.rec (fun _ => Call) (fun _ _ _ _ => false) (fun d ih => @Tgt.rec (fun _ => List Value → SemV) (fnQ F ih d) (yieldQ ih d))
def isTrue (v : Value) (_ : QS) : Bool := eBoolB v fun b => b
def startQ (m : Nat) : QS := .mk .leaf m []
def runsTrue (F : Nat → Option AFn) (d : Nat) (f : FuncId) (args : List Value) (m : Nat) : Bool := callQ F d (.fn f) args (startQ m) isTrue
end
end Go.Wb.Q
end
/- The engine, part Q3: the quick evaluator does what the evaluator does: environments, memory. -/
section
set_option linter.unusedSimpArgs false
set_option linter.unusedVariables false
set_option autoImplicit false
namespace Go.Wb.Q

/-! ## Environments -/
def und8 : D8 → Nat | .c0 => 0 | .c1 => 1 | .c2 => 2 | .c3 => 3 | .c4 => 4 | .c5 => 5 | .c6 => 6 | .c7 => 7
theorem und8_d8 : ∀ n, n < 8 → und8 (d8 n) = n
  | 0, _ => rfl | 1, _ => rfl | 2, _ => rfl | 3, _ => rfl | 4, _ => rfl | 5, _ => rfl | 6, _ => rfl | 7, _ => rfl
  | n + 8, h => by omega
def unpt : Pt → Nat | .lo i j => 8 * und8 i + und8 j | .hi i j k => 64 + 64 * und8 i + 8 * und8 j + und8 k | .no => 0
theorem pt_lo {n : Nat} (h : n < 64) : pt n = .lo (d8 (n / 8)) (d8 (n % 8)) := by
  have : Nat.blt n 64 = true := by simpa [Nat.blt_eq] using h
  simp [pt, this]
theorem pt_hi {n : Nat} (h : 64 ≤ n) (h2 : n < 576) : pt n = .hi (d8 ((n - 64) / 64)) (d8 ((n - 64) / 8 % 8)) (d8 (n % 8)) := by
  have a : Nat.blt n 64 = false := by
    rw [Bool.eq_false_iff]; intro k; rw [Nat.blt_eq] at k; omega
  have b : Nat.blt n 576 = true := by simpa [Nat.blt_eq] using h2
  simp [pt, a, b]
theorem pt_no {n : Nat} (h : 576 ≤ n) : pt n = .no := by
  have a : Nat.blt n 64 = false := by
    rw [Bool.eq_false_iff]; intro k; rw [Nat.blt_eq] at k; omega
  have b : Nat.blt n 576 = false := by
    rw [Bool.eq_false_iff]; intro k; rw [Nat.blt_eq] at k; omega
  simp [pt, a, b]
theorem unpt_pt {n : Nat} (h : n < 576) : unpt (pt n) = n := by
  by_cases h1 : n < 64
  · rw [pt_lo h1]
    simp only [unpt]
    rw [und8_d8 _ (by omega), und8_d8 _ (by omega)]
    omega
  · rw [pt_hi (by omega) h]
    simp only [unpt]
    rw [und8_d8 _ (by omega), und8_d8 _ (by omega), und8_d8 _ (by omega)]
    omega

theorem sel1_upd1 (i j : D8) (v : Option Value) (e : E1) : sel1 i (upd1 j v e) = if i = j then v else sel1 i e := by
  cases e; cases i <;> cases j <;> rfl
theorem sel2_upd2 (i j : D8) (u : E1 → E1) (e : E2) : sel2 i (upd2 j u e) = if i = j then u (sel2 i e) else sel2 i e := by
  cases e; cases i <;> cases j <;> rfl
theorem sel3_upd3 (i j : D8) (u : E2 → E2) (e : E3) : sel3 i (upd3 j u e) = if i = j then u (sel3 i e) else sel3 i e := by
  cases e; cases i <;> cases j <;> rfl

noncomputable def ptGet (p : Pt) (e : QE) : Option Value := match p with | .lo i j => getLo i j e | .hi i j k => getHi i j k e | .no => none
noncomputable def ptSet (p : Pt) (v : Option Value) (e : QE) : QE := match p with | .lo i j => setLo i j v e | .hi i j k => setHi i j k v e | .no => e
theorem getE_eq (t : Nat) (e : QE) : getE t e = ptGet (pt t) e := by unfold getE; cases pt t <;> rfl
theorem setE_eq (t : Nat) (v : Option Value) (e : QE) : setE t v e = ptSet (pt t) v e := by unfold setE; cases pt t <;> rfl
theorem ptGet_set (p q : Pt) (v : Option Value) (e : QE) (hq : q ≠ .no) : ptGet p (ptSet q v e) = if p = q then v else ptGet p e := by
  obtain ⟨lo, hi⟩ := e
  cases p with
  | no => cases q with
    | no => exact absurd rfl hq
    | _ => simp [ptGet]
  | lo i j =>
    cases q with
    | no => exact absurd rfl hq
    | hi a b c => simp [ptGet, ptSet, getLo, setHi, kHi]
    | lo a b =>
      simp only [ptGet, ptSet, getLo, setLo, kLo, sel2_upd2]
      by_cases h : i = a
      · subst h
        simp only [if_true, sel1_upd1, Pt.lo.injEq, true_and]
      · simp [h]
  | hi i j k =>
    cases q with
    | no => exact absurd rfl hq
    | lo a b => simp [ptGet, ptSet, getHi, setLo, kLo]
    | hi a b c =>
      simp only [ptGet, ptSet, getHi, setHi, kHi, sel3_upd3]
      by_cases h : i = a
      · subst h
        simp only [if_true, sel2_upd2]
        by_cases h2 : j = b
        · subst h2
          simp only [if_true, sel1_upd1, Pt.hi.injEq, true_and]
        · simp [h2]
      · simp [h]
theorem getE_setE {t t' : Nat} {v : Option Value} {e : QE} {w : Value} (h : getE t (setE t' v e) = some w) : (t = t' ∧ v = some w) ∨ (t ≠ t' ∧ getE t e = some w) := by
  rw [getE_eq, setE_eq] at h
  by_cases h1 : t' < 576
  · have hn : pt t' ≠ .no := by
      by_cases h2 : t' < 64
      · rw [pt_lo h2]; simp
      · rw [pt_hi (by omega) h1]; simp
    rw [ptGet_set _ _ _ _ hn] at h
    by_cases h3 : t = t'
    · subst h3; left; simpa using h
    · right
      refine ⟨h3, ?_⟩
      by_cases h4 : t < 576
      · have : pt t ≠ pt t' := by
          intro e
          have := congrArg unpt e
          rw [unpt_pt h4, unpt_pt h1] at this
          exact h3 this
        rw [if_neg this] at h
        rw [getE_eq]; exact h
      · rw [pt_no (by omega), if_neg (Ne.symm hn)] at h
        simp [ptGet] at h
  · have e1 : ptSet (pt t') v e = e := by rw [pt_no (by omega)]; rfl
    rw [e1] at h
    right
    refine ⟨?_, by rw [getE_eq]; exact h⟩
    rintro rfl
    rw [pt_no (by omega)] at h
    simp [ptGet] at h
theorem getE_nil (t : Nat) : getE t QE.nil = none := by
  rw [getE_eq]
  cases pt t with
  | lo i j => cases i <;> cases j <;> rfl
  | hi i j k => cases i <;> cases j <;> cases k <;> rfl
  | no => rfl

/-- what the quick environment tells, the environment tells -/
def ERel (q : QE) (e : Env) : Prop := ∀ t v, getE t q = some v → e.get t = some v
theorem ERel.nil (e : Env) : ERel .nil e := by intro t v h; rw [getE_nil] at h; cases h
theorem ERel.set {q : QE} {e : Env} (h : ERel q e) (t : Nat) (v : Value) : ERel (setE t (some v) q) (e.set t (some v)) := by
  intro t' w hw
  rcases getE_setE hw with ⟨rfl, h1⟩ | ⟨h1, h2⟩
  · rw [Tr.get_set_same]; exact h1
  · rw [Tr.get_set_ne _ _ h1]; exact h _ _ h2
theorem ERel.putD {q : QE} {e : Env} (h : ERel q e) (d : Option Nat) (v : Value) : ERel (putE d q v) (putD e d v) := by
  cases d with
  | none => exact h
  | some d => exact h.set d v
theorem evA_ok {q : QE} {e : Env} (h : ERel q e) {a : Atom} {v : Value} (k : evA a q = some v) : a.ev e = some v := by
  cases a with
  | tmp t => exact h t v k
  | const w => exact k

/-! ## Tries by numbers -/
theorem getQ_eq (t : Tr QB) : ∀ k, getQ t k = t.get k := by
  induction t with
  | leaf => intro k; cases k <;> rfl
  | node v l r ihl ihr =>
    intro k
    cases k with
    | zero => rfl
    | succ m =>
      show (@Nat.rec (fun _ => Option QB) (getQ l (m / 2)) (fun _ _ => getQ r (m / 2)) (m % 2)) = _
      rw [ihl, ihr]
      simp only [Tr.get]
      cases m % 2 <;> rfl
theorem getV_eq (t : Tr Value) : ∀ k, getV t k = t.get k := by
  induction t with
  | leaf => intro k; cases k <;> rfl
  | node v l r ihl ihr =>
    intro k
    cases k with
    | zero => rfl
    | succ m =>
      show (@Nat.rec (fun _ => Option Value) (getV l (m / 2)) (fun _ _ => getV r (m / 2)) (m % 2)) = _
      rw [ihl, ihr]
      simp only [Tr.get]
      cases m % 2 <;> rfl
theorem pow_half {f k : Nat} (h : k + 1 < 2 ^ (f + 1)) : k / 2 < 2 ^ f := by
  rw [Nat.pow_succ] at h; omega
theorem setQ_zero (f : Nat) (t : Tr QB) (v : Option QB) : setQ (f + 1) t 0 v = .node v t.left t.right := by cases t <;> rfl
theorem setQ_succ (f : Nat) (t : Tr QB) (m : Nat) (v : Option QB) : setQ (f + 1) t (m + 1) v = match m % 2 with
    | 0 => .node t.val (setQ f t.left (m / 2) v) t.right
    | _ + 1 => .node t.val t.left (setQ f t.right (m / 2) v) := by
  cases t with
  | leaf => show nodesQ none .leaf .leaf (setQ f) m v = _; unfold nodesQ; cases m % 2 <;> rfl
  | node w l r => show nodesQ w l r (setQ f) m v = _; unfold nodesQ; cases m % 2 <;> rfl
theorem setV_zero (f : Nat) (t : Tr Value) (v : Option Value) : setV (f + 1) t 0 v = .node v t.left t.right := by cases t <;> rfl
theorem setV_succ (f : Nat) (t : Tr Value) (m : Nat) (v : Option Value) : setV (f + 1) t (m + 1) v = match m % 2 with
    | 0 => .node t.val (setV f t.left (m / 2) v) t.right
    | _ + 1 => .node t.val t.left (setV f t.right (m / 2) v) := by
  cases t with
  | leaf => show nodesV none .leaf .leaf (setV f) m v = _; unfold nodesV; cases m % 2 <;> rfl
  | node w l r => show nodesV w l r (setV f) m v = _; unfold nodesV; cases m % 2 <;> rfl
theorem setQ_eq : ∀ (f : Nat) (t : Tr QB) (k : Nat) (v : Option QB), k < 2 ^ f → ∀ j, (setQ (f + 1) t k v).get j = if j = k then v else t.get j := by
  intro f
  induction f with
  | zero =>
    intro t k v h j
    obtain rfl : k = 0 := by simpa using h
    rw [setQ_zero]
    cases j with
    | zero => rfl
    | succ j => rw [Tr.get_succ, if_neg (by omega), Tr.get_succ]; rfl
  | succ f ih =>
    intro t k v h j
    cases k with
    | zero =>
      rw [setQ_zero]
      cases j with
      | zero => rfl
      | succ j => rw [Tr.get_succ, if_neg (by omega), Tr.get_succ]; rfl
    | succ k =>
      have hk : k / 2 < 2 ^ f := pow_half h
      rw [setQ_succ]
      cases j with
      | zero => rw [if_neg (by omega)]; split <;> simp [Tr.get_zero, Tr.val]
      | succ j =>
        split
        · rename_i h0
          simp only [Tr.get_succ, Tr.left, Tr.right]
          split
          · rename_i h1
            rw [ih _ _ _ hk]
            by_cases e : j = k
            · subst e; simp
            · rw [if_neg (by omega), if_neg (by omega)]
          · rename_i m h1
            have : j ≠ k := by intro e; subst e; omega
            rw [if_neg (by omega)]
        · rename_i m h0
          simp only [Tr.get_succ, Tr.left, Tr.right]
          split
          · rename_i h1
            have : j ≠ k := by intro e; subst e; omega
            rw [if_neg (by omega)]
          · rename_i n h1
            rw [ih _ _ _ hk]
            by_cases e : j = k
            · subst e; simp
            · rw [if_neg (by omega), if_neg (by omega)]
theorem setV_eq : ∀ (f : Nat) (t : Tr Value) (k : Nat) (v : Option Value), k < 2 ^ f → ∀ j, (setV (f + 1) t k v).get j = if j = k then v else t.get j := by
  intro f
  induction f with
  | zero =>
    intro t k v h j
    obtain rfl : k = 0 := by simpa using h
    rw [setV_zero]
    cases j with
    | zero => rfl
    | succ j => rw [Tr.get_succ, if_neg (by omega), Tr.get_succ]; rfl
  | succ f ih =>
    intro t k v h j
    cases k with
    | zero =>
      rw [setV_zero]
      cases j with
      | zero => rfl
      | succ j => rw [Tr.get_succ, if_neg (by omega), Tr.get_succ]; rfl
    | succ k =>
      have hk : k / 2 < 2 ^ f := pow_half h
      rw [setV_succ]
      cases j with
      | zero => rw [if_neg (by omega)]; split <;> simp [Tr.get_zero, Tr.val]
      | succ j =>
        split
        · rename_i h0
          simp only [Tr.get_succ, Tr.left, Tr.right]
          split
          · rename_i h1
            rw [ih _ _ _ hk]
            by_cases e : j = k
            · subst e; simp
            · rw [if_neg (by omega), if_neg (by omega)]
          · rename_i m h1
            have : j ≠ k := by intro e; subst e; omega
            rw [if_neg (by omega)]
        · rename_i m h0
          simp only [Tr.get_succ, Tr.left, Tr.right]
          split
          · rename_i h1
            have : j ≠ k := by intro e; subst e; omega
            rw [if_neg (by omega)]
          · rename_i n h1
            rw [ih _ _ _ hk]
            by_cases e : j = k
            · subst e; simp
            · rw [if_neg (by omega), if_neg (by omega)]
end Go.Wb.Q
end
/- The engine, part Q4: the quick evaluator's memory. -/
section
set_option linter.unusedSimpArgs false
set_option linter.unusedVariables false
set_option autoImplicit false
namespace Go.Wb.Q

/-! ## What stands for what -/
inductive BRel : QB → Blk → Prop
  | cells {x : Option Nat} {s : Bool} {len : Nat} {t : Tr Value} {c : List Value} : len = c.length → (∀ i, i < len → t.get i = c[i]?) → BRel (.cells x s len t) (.cells x s c)
  | loop {ps : List Nat} {as bd : ACode} {e : QE} {e' : Env} {p : Option Ext} : ERel e e' → BRel (.loop ps as bd e p) (.loop ps as bd e' p)
  | map {es : List MEnt} {cl : Nat} : BRel (.map es cl) (.map es cl)
  | ro {len : Nat} {t : Tr Value} {c : List Value} : len = c.length → (∀ i, i < len → t.get i = c[i]?) → BRel (.ro len t) (.ro c)
  | iter {s : ByteArray} {p : Nat} : BRel (.iter s p) (.iter s p)
structure SRel (q : QS) (S : St) : Prop where
  heap : ∀ b o, q.h.get b = some o → ∃ o', S.heap.get b = some o' ∧ BRel o o'
  next : q.n = S.next
  log : q.lg = S.log
/-- a computation with what comes behind: if it comes to true, so the evaluator's one succeeds -/
def Ok {α : Type} (q : (α → QS → Bool) → Bool) (m : M α) (S : St) : Prop := ∀ c, q c = true → ∃ a S' S2, m S = some (a, S') ∧ SRel S2 S' ∧ c a S2 = true

theorem Ok.bind {α β : Type} {q : (α → QS → Bool) → Bool} {m : M α} {S : St} {f : α → M β} {g : α → QS → (β → QS → Bool) → Bool} (h : Ok q m S) (k : ∀ a S1 S2, m S = some (a, S1) → SRel S2 S1 → Ok (g a S2) (f a) S1) :
    Ok (fun c => q fun a S2 => g a S2 c) (m.bind f) S := by
  intro c hc
  obtain ⟨a, S1, S2, h1, h2, h3⟩ := h _ hc
  obtain ⟨b, S3, S4, k1, k2, k3⟩ := k a S1 S2 h1 h2 c h3
  exact ⟨b, S3, S4, by simp [M.bind, h1, k1], k2, k3⟩
theorem Ok.mono {α : Type} {q q' : (α → QS → Bool) → Bool} {m : M α} {S : St} (h : Ok q m S) (k : ∀ c, q' c = true → q c = true) : Ok q' m S := fun c hc => h c (k c hc)
theorem Ok.val {α : Type} {m : M α} {S S' : St} {S2 : QS} {a : α} {q : (α → QS → Bool) → Bool} (h : m S = some (a, S')) (hr : SRel S2 S') (hq : ∀ c, q c = true → c a S2 = true) : Ok q m S := fun c hc => ⟨a, S', S2, h, hr, hq c hc⟩

/-! ## The small parts -/
theorem bB_true {x : OV} {f : Value → Bool} : bB x f = true ↔ ∃ v, x = some v ∧ f v = true := by cases x <;> simp [bB]
theorem bLB_true {x : Option (List Value)} {f : List Value → Bool} : bLB x f = true ↔ ∃ v, x = some v ∧ f v = true := by cases x <;> simp [bLB]
theorem bQ_true {x : Option QB} {f : QB → Bool} : bQ x f = true ↔ ∃ v, x = some v ∧ f v = true := by cases x <;> simp [bQ]
theorem bO_some {x : OV} {f : Value → OV} {w : Value} : bO x f = some w ↔ ∃ v, x = some v ∧ f v = some w := by cases x <;> simp [bO]
theorem bL_some {x : Option (List Value)} {f : List Value → OV} {w : Value} : bL x f = some w ↔ ∃ v, x = some v ∧ f v = some w := by cases x <;> simp [bL]
theorem thenB_true {b x : Bool} : thenB b x = true ↔ b = true ∧ x = true := by cases b <;> simp [thenB]
theorem thenO_some {b : Bool} {x : OV} {v : Value} : thenO b x = some v ↔ b = true ∧ x = some v := by cases b <;> simp [thenO]
theorem ifB_eq (b x y : Bool) : ifB b x y = if b then x else y := by cases b <;> rfl
theorem ifO_eq (b : Bool) (x y : OV) : ifO b x y = if b then x else y := by cases b <;> rfl
theorem fin_true {S : QS} {c : KV} {r : OV} : fin S c r = true ↔ ∃ v, r = some v ∧ c v S = true := by unfold fin; exact bB_true
theorem eS_eq (f : HP → Nat → LG → Bool) (S : QS) : eS f S = f S.h S.n S.lg := by cases S; rfl
theorem eCells_true {o : QB} {f : KC} : eCells o f = true ↔ ∃ x s n t, o = .cells x s n t ∧ f x s n t = true := by
  cases o with
  | cells x s n t => exact ⟨fun h => ⟨x, s, n, t, rfl, h⟩, fun ⟨_, _, _, _, e, h⟩ => by cases e; exact h⟩
  | loop => exact ⟨fun h => (by cases h), fun ⟨_, _, _, _, e, _⟩ => by cases e⟩
  | map => exact ⟨fun h => (by cases h), fun ⟨_, _, _, _, e, _⟩ => by cases e⟩
  | ro => exact ⟨fun h => (by cases h), fun ⟨_, _, _, _, e, _⟩ => by cases e⟩
  | iter => exact ⟨fun h => (by cases h), fun ⟨_, _, _, _, e, _⟩ => by cases e⟩
theorem atR_true {h : HP} {b : Nat} {f : Nat → Tr Value → Bool} (k : atR h b f = true) : ∃ o n t, h.get b = some o ∧ ((∃ x s, o = .cells x s n t) ∨ o = .ro n t) ∧ f n t = true := by
  unfold atR at k
  rw [bQ_true, getQ_eq] at k
  obtain ⟨o, h1, h2⟩ := k
  cases o with
  | cells x s n t => exact ⟨_, n, t, h1, .inl ⟨x, s, rfl⟩, h2⟩
  | loop => cases h2
  | map => cases h2
  | iter => cases h2
  | ro n t => exact ⟨_, n, t, h1, .inr rfl, h2⟩
theorem atC_true {h : HP} {b : Nat} {f : KC} : atC h b f = true ↔ ∃ x s n t, h.get b = some (.cells x s n t) ∧ f x s n t = true := by
  unfold atC
  rw [bQ_true, getQ_eq]
  constructor
  · rintro ⟨o, h1, h2⟩
    obtain ⟨x, s, n, t, rfl, h3⟩ := eCells_true.1 h2
    exact ⟨x, s, n, t, h1, h3⟩
  · rintro ⟨x, s, n, t, h1, h3⟩
    exact ⟨_, h1, h3⟩
theorem eBoolB_true {v : Value} {f : Bool → Bool} : eBoolB v f = true ↔ ∃ b, v = .bool b ∧ f b = true := by cases v <;> simp [eBoolB]
theorem eStrB_true {v : Value} {f : ByteArray → Bool} : eStrB v f = true ↔ ∃ b, v = .string b ∧ f b = true := by cases v <;> simp [eStrB]
theorem eIntB_true {v : Value} {f : IntKind → Int → Bool} : eIntB v f = true ↔ ∃ k n, v = .int k n ∧ f k n = true := by
  cases v with
  | int x0 x1 => exact ⟨fun h => ⟨x0, x1, rfl, h⟩, fun ⟨_, _, e, h⟩ => by cases e; exact h⟩
  | _ => exact ⟨fun h => (by cases h), fun ⟨_, _, e, _⟩ => by cases e⟩
theorem eSlB_true {v : Value} {f : Option Addr → Nat → Nat → Bool} : eSlB v f = true ↔ ∃ a l c, v = .slice a l c ∧ f a l c = true := by
  cases v with
  | slice x0 x1 x2 => exact ⟨fun h => ⟨x0, x1, x2, rfl, h⟩, fun ⟨_, _, _, e, h⟩ => by cases e; exact h⟩
  | _ => exact ⟨fun h => (by cases h), fun ⟨_, _, _, e, _⟩ => by cases e⟩
theorem eFuncB_true {v : Value} {f : Fn → Array Value → Array Value → Bool} : eFuncB v f = true ↔ ∃ a l c, v = .func a l c ∧ f a l c = true := by
  cases v with
  | func x0 x1 x2 => exact ⟨fun h => ⟨x0, x1, x2, rfl, h⟩, fun ⟨_, _, _, e, h⟩ => by cases e; exact h⟩
  | _ => exact ⟨fun h => (by cases h), fun ⟨_, _, _, e, _⟩ => by cases e⟩
theorem ePtrB_true {v : Value} {f : Option Addr → Bool} : ePtrB v f = true ↔ ∃ a, v = .pointer a ∧ f a = true := by cases v <;> simp [ePtrB]
theorem ptrB_true {v : Value} {f : Addr → Bool} : ptrB v f = true ↔ ∃ a, v = .pointer (some a) ∧ f a = true := by
  unfold ptrB
  rw [ePtrB_true]
  constructor
  · rintro ⟨a, rfl, h⟩
    cases a with
    | none => cases h
    | some a => exact ⟨a, rfl, h⟩
  · rintro ⟨a, rfl, h⟩; exact ⟨_, rfl, h⟩
theorem natB_true {v : Value} {f : Nat → Bool} : natB v f = true ↔ ∃ k n, v = .int k (.ofNat n) ∧ f n = true := by
  unfold natB
  rw [eIntB_true]
  constructor
  · rintro ⟨k, n, rfl, h⟩
    cases n with
    | ofNat n => exact ⟨k, n, rfl, h⟩
    | negSucc n => cases h
  · rintro ⟨k, n, rfl, h⟩; exact ⟨_, _, rfl, h⟩
theorem eBoolO_some {v w : Value} {f : Bool → OV} : eBoolO v f = some w ↔ ∃ b, v = .bool b ∧ f b = some w := by cases v <;> simp [eBoolO]
theorem eIntO_some {v w : Value} {f : IntKind → Int → OV} : eIntO v f = some w ↔ ∃ k n, v = .int k n ∧ f k n = some w := by
  cases v with
  | int x0 x1 => exact ⟨fun h => ⟨x0, x1, rfl, h⟩, fun ⟨_, _, e, h⟩ => by cases e; exact h⟩
  | _ => exact ⟨fun h => (by cases h), fun ⟨_, _, e, _⟩ => by cases e⟩
theorem eStrO_some {v w : Value} {f : ByteArray → OV} : eStrO v f = some w ↔ ∃ b, v = .string b ∧ f b = some w := by cases v <;> simp [eStrO]
theorem eAggO_some {v w : Value} {f : Array Value → OV} : eAggO v f = some w ↔ ∃ b, v = .agg b ∧ f b = some w := by cases v <;> simp [eAggO]
theorem eTupO_some {v w : Value} {f : Array Value → OV} : eTupO v f = some w ↔ ∃ b, v = .tuple b ∧ f b = some w := by cases v <;> simp [eTupO]
theorem eSlO_some {v w : Value} {f : Option Addr → Nat → Nat → OV} : eSlO v f = some w ↔ ∃ a l c, v = .slice a l c ∧ f a l c = some w := by
  cases v with
  | slice x0 x1 x2 => exact ⟨fun h => ⟨x0, x1, x2, rfl, h⟩, fun ⟨_, _, _, e, h⟩ => by cases e; exact h⟩
  | _ => exact ⟨fun h => (by cases h), fun ⟨_, _, _, e, _⟩ => by cases e⟩
theorem ePtrO_some {v w : Value} {f : Option Addr → OV} : ePtrO v f = some w ↔ ∃ b, v = .pointer b ∧ f b = some w := by cases v <;> simp [ePtrO]
theorem ptrO_some {v w : Value} {f : Addr → OV} : ptrO v f = some w ↔ ∃ a, v = .pointer (some a) ∧ f a = some w := by
  unfold ptrO
  rw [ePtrO_some]
  constructor
  · rintro ⟨a, rfl, h⟩
    cases a with
    | none => cases h
    | some a => exact ⟨a, rfl, h⟩
  · rintro ⟨a, rfl, h⟩; exact ⟨_, rfl, h⟩
theorem natO_some {v w : Value} {f : Nat → OV} : natO v f = some w ↔ ∃ k n, v = .int k (.ofNat n) ∧ f n = some w := by
  unfold natO
  rw [eIntO_some]
  constructor
  · rintro ⟨k, n, rfl, h⟩
    cases n with
    | ofNat n => exact ⟨k, n, rfl, h⟩
    | negSucc n => cases h
  · rintro ⟨k, n, rfl, h⟩; exact ⟨_, _, rfl, h⟩
theorem lenL_eq (l : List Value) : lenL l = l.length := by
  induction l with
  | nil => rfl
  | cons a l ih => show Nat.succ (lenL l) = _; rw [ih]; rfl
theorem lenIs_true : ∀ (n : Nat) (l : List Value), lenIs n l = true ↔ l.length = n
  | 0, [] => ⟨fun _ => rfl, fun _ => rfl⟩
  | 0, a :: l => ⟨fun h => (by cases h), fun h => (by cases h)⟩
  | n + 1, [] => ⟨fun h => (by cases h), fun h => (by cases h)⟩
  | n + 1, a :: l => by
    show lenIs n l = true ↔ _
    rw [lenIs_true n l]; simp
theorem allQ_eq (l : List Value) : allQ l = l.all (·.oneCell') := by
  induction l with
  | nil => rfl
  | cons a l ih =>
    show thenB (oneC a) (allQ l) = _
    rw [ih, List.all_cons]
    cases a <;> rfl
theorem repQ_eq (z : List Value) : ∀ n, repQ z n = rep n z
  | 0 => rfl
  | n + 1 => by show z ++ repQ z n = _; rw [repQ_eq z n]; rfl
theorem u8L_eq (l : List UInt8) : u8L l = l.map fun b => .int .u8 b.toNat := by
  induction l with
  | nil => rfl
  | cons a l ih => show _ :: u8L l = _; rw [ih]; rfl

/-! ## Cells -/
theorem fillC_get : ∀ (vs : List Value) (i : Nat) (t : Tr Value) (j : Nat), (fillC vs i t).get j = if i ≤ j ∧ j < i + vs.length then vs[j - i]? else t.get j
  | [], i, t, j => by
    show t.get j = _
    rw [if_neg (by simp)]
  | v :: vs, i, t, j => by
    show (fillC vs (i + 1) (setV (Nat.succ i) t i (some v))).get j = _
    rw [fillC_get vs, setV_eq _ _ _ _ Nat.lt_two_pow_self]
    simp only [List.length_cons]
    by_cases h1 : i + 1 ≤ j ∧ j < i + 1 + vs.length
    · rw [if_pos h1, if_pos (by omega)]
      obtain ⟨k, hk⟩ : ∃ k, j - i = k + 1 := ⟨j - i - 1, by omega⟩
      rw [hk, List.getElem?_cons_succ]
      congr 1; omega
    · rw [if_neg h1]
      by_cases h2 : j = i
      · subst h2; simp
      · rw [if_neg h2, if_neg (by omega)]
theorem setAll_get : ∀ (vs c : List Value) (off j : Nat), off + vs.length ≤ c.length → (setAll c off vs)[j]? = if off ≤ j ∧ j < off + vs.length then vs[j - off]? else c[j]?
  | [], c, off, j, _ => by rw [if_neg (by simp)]; rfl
  | v :: vs, c, off, j, h => by
    simp only [List.length_cons] at h ⊢
    simp only [setAll]
    rw [setAll_get vs _ _ _ (by simp; omega), List.getElem?_set]
    by_cases h1 : off + 1 ≤ j ∧ j < off + 1 + vs.length
    · rw [if_pos h1, if_pos (by omega)]
      obtain ⟨k, hk⟩ : ∃ k, j - off = k + 1 := ⟨j - off - 1, by omega⟩
      rw [hk, List.getElem?_cons_succ]
      congr 1; omega
    · rw [if_neg h1]
      by_cases h2 : off = j
      · subst h2; simp; omega
      · rw [if_neg h2, if_neg (by omega)]
theorem setAll_len : ∀ (vs c : List Value) (off : Nat), (setAll c off vs).length = c.length
  | [], c, off => rfl
  | v :: vs, c, off => by simp only [setAll]; rw [setAll_len vs]; simp
theorem takeQ_ok (t : Tr Value) (c : List Value) (off : Nat) : ∀ (n : Nat) (acc l : List Value), (∀ i, i < n → t.get (off + i) = c[off + i]?) → takeQ t off n acc = some l → l = (c.drop off).take n ++ acc
  | 0, acc, l, _, h => by
    simp only [List.take_zero, List.nil_append]
    have h : some acc = some l := h
    cases h; rfl
  | n + 1, acc, l, hc, h => by
    have h : (@Option.rec Value (fun _ => Option (List Value)) none (fun v => takeQ t off n (v :: acc)) (getV t (off + n))) = some l := h
    rw [getV_eq, hc n (by omega)] at h
    cases hv : c[off + n]? with
    | none => rw [hv] at h; cases h
    | some v =>
      rw [hv] at h
      have h2 := takeQ_ok t c off n (v :: acc) l (fun i hi => hc i (by omega)) h
      rw [h2, List.take_add_one]
      simp [hv]
theorem BRel.store {x : Option Nat} {s : Bool} {len : Nat} {t : Tr Value} {c vs : List Value} {off : Nat} (h : BRel (.cells x s len t) (.cells x s c)) (hl : off + vs.length ≤ c.length) : BRel (.cells x s len (fillC vs off t)) (.cells x s (splice c off vs)) := by
  cases h with
  | cells h1 h2 =>
    rw [splice_eq _ _ _ hl]
    refine .cells (by rw [setAll_len]; exact h1) fun i hi => ?_
    rw [fillC_get, setAll_get _ _ _ _ hl, h2 i hi]
theorem BRel.new (x : Option Nat) (s : Bool) (vs : List Value) : BRel (.cells x s (lenL vs) (fillC vs 0 .leaf)) (.cells x s vs) := by
  refine .cells (lenL_eq _) fun i hi => ?_
  rw [lenL_eq] at hi
  rw [fillC_get, if_pos (by omega)]
  rfl
theorem BRel.grow {x y : Option Nat} {s s' : Bool} {len : Nat} {t : Tr Value} {c : List Value} (vs : List Value) (h : BRel (.cells x s len t) (.cells x s c)) : BRel (.cells y s' (len + lenL vs) (fillC vs len t)) (.cells y s' (c ++ vs)) := by
  cases h with
  | cells h1 h2 =>
    refine .cells (by rw [lenL_eq, List.length_append, h1]) fun i hi => ?_
    rw [lenL_eq] at hi
    rw [fillC_get]
    by_cases h3 : len ≤ i
    · rw [if_pos (by omega), List.getElem?_append_right (by omega), h1]
    · rw [if_neg (by omega), List.getElem?_append_left (by omega), h2 i (by omega)]

/-! ## The state -/
variable {q : QS} {S : St}
theorem SRel.cells (h : SRel q S) {b : Nat} {x : Option Nat} {s : Bool} {n : Nat} {t : Tr Value} (k : q.h.get b = some (.cells x s n t)) : ∃ c, S.heap.get b = some (.cells x s c) ∧ BRel (.cells x s n t) (.cells x s c) := by
  obtain ⟨o', h1, h2⟩ := h.heap _ _ k
  cases h2 with
  | cells e1 e2 => exact ⟨_, h1, .cells e1 e2⟩
theorem SRel.rd (h : SRel q S) {b : Nat} {o : QB} {n : Nat} {t : Tr Value} (k : q.h.get b = some o) (ho : (∃ x s, o = .cells x s n t) ∨ o = .ro n t) : ∃ c, ((∃ x s, S.heap.get b = some (.cells x s c)) ∨ S.heap.get b = some (.ro c)) ∧ n = c.length ∧ ∀ i, i < n → t.get i = c[i]? := by
  obtain ⟨o', h1, h2⟩ := h.heap _ _ k
  rcases ho with ⟨x, s, rfl⟩ | rfl
  · cases h2 with
    | cells e1 e2 => exact ⟨_, .inl ⟨_, _, h1⟩, e1, e2⟩
  · cases h2 with
    | ro e1 e2 => exact ⟨_, .inr h1, e1, e2⟩
theorem SRel.saw (h : SRel q S) (b : Nat) : SRel (.mk q.h q.n ((b, false) :: q.lg)) { heap := S.heap, next := S.next, log := (b, false) :: S.log } :=
  ⟨h.heap, h.next, by simp only [h.log]⟩
theorem heap_set {hp : HP} {Sh : Tr Blk} (h : ∀ b o, hp.get b = some o → ∃ o', Sh.get b = some o' ∧ BRel o o') {b : Nat} {o : Option QB} {o' : Option Blk} (ho : ∀ x, o = some x → ∃ x', o' = some x' ∧ BRel x x') :
    ∀ b1 o1, (setQ (Nat.succ b) hp b o).get b1 = some o1 → ∃ o2, (Sh.set b o').get b1 = some o2 ∧ BRel o1 o2 := by
  intro b1 o1 h1
  rw [setQ_eq _ _ _ _ Nat.lt_two_pow_self] at h1
  rw [Tr.get_set]
  by_cases e : b1 = b
  · rw [if_pos e] at h1 ⊢; exact ho _ h1
  · rw [if_neg e] at h1 ⊢; exact h _ _ h1
theorem SRel.set (h : SRel q S) {b : Nat} {o : Option QB} {o' : Option Blk} (ho : ∀ x, o = some x → ∃ x', o' = some x' ∧ BRel x x') {lg : LG} {log : List (Nat × Bool)} (hl : lg = log) :
    SRel (mkS q.h b o q.n lg) { heap := S.heap.set b o', next := S.next, log := log } :=
  ⟨heap_set h.heap ho, h.next, hl⟩
theorem SRel.put (h : SRel q S) {b : Nat} {o : QB} {o' : Blk} (ho : BRel o o') {lg : LG} {log : List (Nat × Bool)} (hl : lg = log) :
    SRel (mkS q.h b (some o) q.n lg) { heap := S.heap.set b (some o'), next := S.next, log := log } :=
  h.set (fun x hx => ⟨o', rfl, by cases hx; exact ho⟩) hl
theorem SRel.kill (h : SRel q S) {b : Nat} {lg : LG} {log : List (Nat × Bool)} (hl : lg = log) :
    SRel (mkS q.h b none q.n lg) { heap := S.heap.set b none, next := S.next, log := log } :=
  h.set (fun x hx => by cases hx) hl

theorem ld1Q_ok (h : SRel q S) (b off : Nat) : Ok (ld1Q b off q) (ld1 b off) S := by
  intro c hc
  unfold ld1Q at hc
  rw [eS_eq] at hc
  unfold ld1R at hc
  obtain ⟨o, n, t, h1, ho, h2⟩ := atR_true hc
  obtain ⟨h3, h4⟩ := thenB_true.1 h2
  obtain ⟨v, h5, h6⟩ := fin_true.1 h4
  obtain ⟨cs, k1, e1, e2⟩ := h.rd h1 ho
  have hlt : off < n := by simpa [Nat.blt_eq] using h3
  rw [getV_eq, e2 _ hlt] at h5
  refine ⟨v, _, _, ?_, h.saw b, h6⟩
  rcases k1 with ⟨x, s, k1⟩ | k1
  · simp [ld1, M.bind, Wb.rd, k1, M.lift, h5]
  · simp [ld1, M.bind, Wb.rd, k1, M.lift, h5]
theorem ldCQ_ok (h : SRel q S) (b off m : Nat) : Ok (ldCQ b off m q) (ldCells b off m) S := by
  intro c hc
  unfold ldCQ at hc
  rw [eS_eq] at hc
  unfold ldCR at hc
  obtain ⟨o, n, t, h1, ho, h2⟩ := atR_true hc
  obtain ⟨h3, h4⟩ := thenB_true.1 h2
  obtain ⟨l, h5, h6⟩ := bLB_true.1 h4
  obtain ⟨cs, k1, e1, e2⟩ := h.rd h1 ho
  have hle : off + m ≤ n := Nat.le_of_ble_eq_true h3
  have := takeQ_ok t cs off m [] l (fun i hi => e2 _ (by omega)) h5
  subst this
  rw [List.append_nil] at h6
  refine ⟨_, _, _, ?_, h.saw b, h6⟩
  rcases k1 with ⟨x, s, k1⟩ | k1
  · simp [ldCells, M.bind, Wb.rd, k1, M.pure, show off + m ≤ cs.length by omega]
  · simp [ldCells, M.bind, Wb.rd, k1, M.pure, show off + m ≤ cs.length by omega]
theorem stCQ_ok (h : SRel q S) (b off : Nat) (vs : List Value) : Ok (fun c => stCQ b off vs q (c ())) (stCells b off vs) S := by
  intro c hc
  simp only [stCQ, eS_eq, stCR] at hc
  obtain ⟨x, s, n, t, h1, h2⟩ := atC_true.1 hc
  obtain ⟨h3, h4⟩ := thenB_true.1 h2
  obtain ⟨h5, h6⟩ := thenB_true.1 h4
  obtain ⟨cs, k1, k2⟩ := h.cells h1
  have hlen : off + vs.length ≤ cs.length := by
    cases k2 with
    | cells e1 e2 =>
      have := Nat.le_of_ble_eq_true h3
      rw [lenL_eq] at this
      omega
  rw [allQ_eq] at h5
  refine ⟨(), _, _, ?_, h.put (b := b) (k2.store hlen) (log := (b, true) :: (b, false) :: S.log) (by rw [h.log]), h6⟩
  simp [stCells, M.bind, rd, k1, wr, hlen, h5]
theorem nwQ_ok (h : SRel q S) {o : QB} {o' : Blk} (ho : BRel o o') : Ok (nwQ o q) (nw o') S := by
  intro c hc
  simp only [nwQ, eS_eq] at hc
  have key : c q.n (mkS q.h q.n (some o) (q.n + 1) q.lg) = true := by
    unfold nwR at hc
    cases hn : q.n with
    | zero => rw [hn] at hc; exact hc
    | succ m => rw [hn] at hc; exact hc
  have e : nw o' S = some (q.n, { heap := S.heap.set q.n (some o'), next := q.n + 1, log := S.log }) := by rw [h.next]; rfl
  refine ⟨q.n, _, _, e, ?_, key⟩
  · exact ⟨heap_set h.heap (fun x hx => ⟨o', rfl, by cases hx; exact ho⟩), rfl, h.log⟩
theorem newQ_ok (h : SRel q S) (x : Option Nat) (s : Bool) (vs : List Value) : Ok (newQ x s vs q) (nw (.cells x s vs)) S := nwQ_ok h (BRel.new x s vs)
theorem lookQ_ok (h : SRel q S) (b : Nat) {c : Option Nat → QS → Bool} (hc : lookQ b q c = true) : ∃ x s cs, S.heap.get b = some (.cells x s cs) ∧ c x (.mk q.h q.n ((b, false) :: q.lg)) = true := by
  simp only [lookQ, eS_eq, lookR] at hc
  obtain ⟨x, s, n, t, h1, h2⟩ := atC_true.1 hc
  obtain ⟨cs, k1, k2⟩ := h.cells h1
  exact ⟨x, s, cs, k1, h2⟩
end Go.Wb.Q
end
/- The engine, part Q5: the quick evaluator's operations that touch no memory. -/
section
set_option linter.unusedSimpArgs false
set_option linter.unusedVariables false
set_option autoImplicit false
namespace Go.Wb.Q

/-! ## Numbers -/
theorem lim_inj {a b : IntKind} (h : sameK a b = true) : a = b := by
  cases a <;> cases b <;> first | rfl | (exact absurd h (by decide))
theorem wrap_nat {k : IntKind} {n : Nat} (h : n < lim k) : k.wrap (n : Int) = n := by
  cases k <;> simp [lim] at h <;> simp [IntKind.wrap, IntKind.bits, IntKind.signed] <;> omega
theorem wrN_eq (k : IntKind) (n : Nat) : wrN k n = some (.int k (k.wrap (n : Int))) := by
  unfold wrN
  rw [ifO_eq]
  by_cases h : Nat.blt n (lim k) = true
  · rw [if_pos h]
    have : n < lim k := by simpa [Nat.blt_eq] using h
    rw [wrap_nat this]; rfl
  · rw [if_neg h]; rfl
theorem lim_pow (k : IntKind) : ∃ m, lim k = 2 ^ m ∧ m ≤ k.bits := by
  cases k
  · exact ⟨7, rfl, by decide⟩
  · exact ⟨15, rfl, by decide⟩
  · exact ⟨31, rfl, by decide⟩
  · exact ⟨63, rfl, by decide⟩
  · exact ⟨8, rfl, by decide⟩
  · exact ⟨16, rfl, by decide⟩
  · exact ⟨32, rfl, by decide⟩
  · exact ⟨64, rfl, by decide⟩
theorem toNat_ofInt {w a : Nat} (h : a < 2 ^ w) : (BitVec.ofInt w (a : Int)).toNat = a := by
  rw [BitVec.ofInt_natCast, BitVec.toNat_ofNat, Nat.mod_eq_of_lt h]
theorem bit_ok {k : IntKind} {a b : Nat} (ha : a < lim k) (hb : b < lim k) {f : Nat → Nat → Nat} {g : BitVec k.bits → BitVec k.bits → BitVec k.bits} (hg : ∀ x y, (g x y).toNat = f x.toNat y.toNat)
    (hf : ∀ m, a < 2 ^ m → b < 2 ^ m → f a b < 2 ^ m) : k.wrap ((g (BitVec.ofInt k.bits (a : Int)) (BitVec.ofInt k.bits (b : Int))).toNat : Int) = (f a b : Nat) := by
  obtain ⟨m, hm, hle⟩ := lim_pow k
  have h2 : (2 : Nat) ^ m ≤ 2 ^ k.bits := Nat.pow_le_pow_right (by decide) hle
  rw [hg, toNat_ofInt (by omega), toNat_ofInt (by omega), wrap_nat]
  rw [hm] at ha hb ⊢
  exact hf m ha hb
theorem beq_nat (a b : Nat) : ((a : Int) == (b : Int)) = Nat.beq a b := by
  rw [Bool.eq_iff_iff, Nat.beq_eq]
  simp only [beq_iff_eq]
  omega
theorem binN_ok (op : BinOp) (k : IntKind) (a b : Nat) {v : Value} (h : binN op k a b = some v) : binV op (.int k (a : Int)) (.int k (b : Int)) = some v := by
  cases op
  case add => exact (wrN_eq k (a + b)).symm.trans h |> fun e => by simpa [binV] using e
  case sub =>
    have h : ifO (Nat.ble b a) (wrN k (a - b)) (slowN .sub k a b) = some v := h
    rw [ifO_eq] at h
    by_cases hb : Nat.ble b a = true
    · rw [if_pos hb, wrN_eq] at h
      have : b ≤ a := Nat.le_of_ble_eq_true hb
      simp only [binV, ne_eq, not_true_eq_false, if_false]
      rw [← h, show ((a - b : Nat) : Int) = (a : Int) - b by omega]
    · rw [if_neg hb] at h; exact h
  case mul => exact (wrN_eq k (a * b)).symm.trans h |> fun e => by simpa [binV] using e
  case quo =>
    have h : ifO (Nat.beq b 0) none (wrN k (a / b)) = some v := h
    rw [ifO_eq] at h
    by_cases hb : Nat.beq b 0 = true
    · rw [if_pos hb] at h; cases h
    · rw [if_neg hb, wrN_eq] at h
      have hz : b ≠ 0 := by intro e; subst e; exact hb rfl
      simp only [binV, ne_eq, not_true_eq_false, if_false]
      rw [if_neg (by omega), ← h]
      rfl
  case rem =>
    have h : ifO (Nat.beq b 0) none (someN k (a % b)) = some v := h
    rw [ifO_eq] at h
    by_cases hb : Nat.beq b 0 = true
    · rw [if_pos hb] at h; cases h
    · rw [if_neg hb] at h
      have hz : b ≠ 0 := by intro e; subst e; exact hb rfl
      simp only [binV, ne_eq, not_true_eq_false, if_false]
      rw [if_neg (by omega), ← h]
      rfl
  case and =>
    have h : bitN Nat.land .and k a b = some v := h
    unfold bitN at h
    rw [ifO_eq, ifO_eq] at h
    by_cases h1 : Nat.blt a (lim k) = true
    · by_cases h2 : Nat.blt b (lim k) = true
      · rw [if_pos h1, if_pos h2] at h
        simp only [binV, ne_eq, not_true_eq_false, if_false]
        rw [← h, bit_ok (f := Nat.land) (g := (· &&& ·)) (by simpa [Nat.blt_eq] using h1) (by simpa [Nat.blt_eq] using h2) (fun x y => BitVec.toNat_and x y) (fun m ha hb => Nat.and_lt_two_pow a hb)]
        rfl
      · rw [if_pos h1, if_neg h2] at h; exact h
    · rw [if_neg h1] at h; exact h
  case or =>
    have h : bitN Nat.lor .or k a b = some v := h
    unfold bitN at h
    rw [ifO_eq, ifO_eq] at h
    by_cases h1 : Nat.blt a (lim k) = true
    · by_cases h2 : Nat.blt b (lim k) = true
      · rw [if_pos h1, if_pos h2] at h
        simp only [binV, ne_eq, not_true_eq_false, if_false]
        rw [← h, bit_ok (f := Nat.lor) (g := (· ||| ·)) (by simpa [Nat.blt_eq] using h1) (by simpa [Nat.blt_eq] using h2) (fun x y => BitVec.toNat_or x y) (fun m ha hb => Nat.or_lt_two_pow ha hb)]
        rfl
      · rw [if_pos h1, if_neg h2] at h; exact h
    · rw [if_neg h1] at h; exact h
  case xor =>
    have h : bitN Nat.xor .xor k a b = some v := h
    unfold bitN at h
    rw [ifO_eq, ifO_eq] at h
    by_cases h1 : Nat.blt a (lim k) = true
    · by_cases h2 : Nat.blt b (lim k) = true
      · rw [if_pos h1, if_pos h2] at h
        simp only [binV, ne_eq, not_true_eq_false, if_false]
        rw [← h, bit_ok (f := Nat.xor) (g := (· ^^^ ·)) (by simpa [Nat.blt_eq] using h1) (by simpa [Nat.blt_eq] using h2) (fun x y => BitVec.toNat_xor x y) (fun m ha hb => Nat.xor_lt_two_pow ha hb)]
        rfl
      · rw [if_pos h1, if_neg h2] at h; exact h
    · rw [if_neg h1] at h; exact h
  case shl => exact h
  case shr => exact h
  case andNot => exact h
  case eql =>
    have h : someB (Nat.beq a b) = some v := h
    simp only [binV, ne_eq, not_true_eq_false, if_false]
    rw [← h]; congr 2
    exact beq_nat a b
  case neq =>
    have h : someB (not (Nat.beq a b)) = some v := h
    simp only [binV, ne_eq, not_true_eq_false, if_false]
    rw [← h]
    simp only [bne, beq_nat]
    rfl
  case lss =>
    have h : someB (Nat.blt a b) = some v := h
    simp only [binV, ne_eq, not_true_eq_false, if_false]
    rw [← h]; congr 2
    rw [Bool.eq_iff_iff, Nat.blt_eq]; simp
  case leq =>
    have h : someB (Nat.ble a b) = some v := h
    simp only [binV, ne_eq, not_true_eq_false, if_false]
    rw [← h]; congr 2
    rw [Bool.eq_iff_iff, Nat.ble_eq]; simp
  case gtr =>
    have h : someB (Nat.blt b a) = some v := h
    simp only [binV, ne_eq, not_true_eq_false, if_false]
    rw [← h]; congr 2
    rw [Bool.eq_iff_iff, Nat.blt_eq]; simp
  case geq =>
    have h : someB (Nat.ble b a) = some v := h
    simp only [binV, ne_eq, not_true_eq_false, if_false]
    rw [← h]; congr 2
    rw [Bool.eq_iff_iff, Nat.ble_eq]; simp
theorem binI2_ok {op : BinOp} {k k' : IntKind} {a b : Int} {v : Value} (h : binI2 op k a k' b = some v) : binV op (.int k a) (.int k' b) = some v := by
  unfold binI2 at h
  rw [ifO_eq] at h
  by_cases hk : sameK k k' = true
  · rw [if_pos hk] at h
    obtain rfl := lim_inj hk
    cases a with
    | negSucc m => exact h
    | ofNat m =>
      cases b with
      | negSucc n => exact h
      | ofNat n => exact binN_ok op k m n h
  · rw [if_neg hk] at h; exact h
theorem binQ_ok {op : BinOp} {x y v : Value} (h : binQ op x y = some v) : binV op x y = some v := by
  cases x
  case int k a =>
    have h : eIntO y (binI2 op k a) = some v := h
    obtain ⟨k', b, rfl, h0⟩ := eIntO_some.1 h
    exact binI2_ok h0
  case string s =>
    have h : eStrO y (fun s' => binV op (.string s) (.string s')) = some v := h
    obtain ⟨s', rfl, h⟩ := eStrO_some.1 h
    exact h
  all_goals cases h

/-! ## Several atoms -/
variable {qe : QE} {e : Env}
theorem evL_ok (he : ERel qe e) : ∀ {l : List Atom} {vs : List Value}, evL l qe = some vs → evs e l = some vs
  | [], vs, h => h
  | a :: l, vs, h => by
    have h : (@Option.rec Value (fun _ => Option (List Value)) none (fun v => @Option.rec (List Value) (fun _ => Option (List Value)) none (fun l => some (v :: l)) (evL l qe)) (evA a qe)) = some vs := h
    cases ha : evA a qe with
    | none => rw [ha] at h; cases h
    | some v =>
      rw [ha] at h
      cases hl : evL l qe with
      | none => rw [hl] at h; cases h
      | some r =>
        rw [hl] at h
        simp only [evs, evA_ok he ha, evL_ok he hl]
        exact h
theorem fillP_ok (he : ERel qe e) : ∀ {l : List (Nat × Nat × Atom)} {c vs : List Value}, fillP qe l c = some vs → fillA e l c = some vs
  | [], c, vs, h => h
  | (off, size, a) :: l, c, vs, h => by
    have h : (@Option.rec Value (fun _ => Option (List Value)) none (fun v => fillStep off size c v (fillP qe l)) (evA a qe)) = some vs := h
    cases ha : evA a qe with
    | none => rw [ha] at h; cases h
    | some v =>
      rw [ha] at h
      have h : fillStep off size c v (fillP qe l) = some vs := h
      unfold fillStep at h
      cases h1 : lenIs size (cellsL v) with
      | false => rw [h1] at h; cases h
      | true =>
        rw [h1] at h
        cases h2 : longer (off + size) c with
        | false => rw [h2] at h; cases h
        | true =>
          rw [h2] at h
          have h : fillP qe l (setAll c off (cellsL v)) = some vs := h
          have k1 : v.cells.size = size := by
            have := (lenIs_true _ _).1 h1
            simpa [cellsL] using this
          simp only [fillA, evA_ok he ha]
          rw [if_pos ⟨k1, (longer_iff _ _).1 h2⟩]
          exact fillP_ok he h
theorem bndQ_ok (he : ERel qe e) {x : Option Atom} {d y n : Nat} (h : bndQ qe x d y = some n) : bnd e x d y = some n := by
  cases x with
  | none => exact h
  | some a =>
    simp only [bndQ] at h
    split at h
    · rename_i k i ha
      simp only [bnd, evA_ok he ha, Option.bind_some, asInt]
      cases hb : Nat.ble i y with
      | false => rw [hb] at h; cases h
      | true =>
        rw [hb] at h
        have := Nat.le_of_ble_eq_true hb
        cases h
        have h2 : (0 : Int) ≤ Int.ofNat n ∧ Int.ofNat n ≤ (y : Int) := ⟨by simp, by simpa using this⟩
        rw [if_pos h2]; rfl
    · cases h
theorem bndsQ_ok (he : ERel qe e) {lo hi mx : Option Atom} {len cap : Nat} {r : Nat × Nat × Nat} (h : bndsQ qe len cap lo hi mx = some r) : bnds e len cap lo hi mx = some r := by
  unfold bndsQ at h
  unfold bnds
  split at h
  · cases h
  · rename_i m h1
    rw [bndQ_ok he h1]
    simp only
    split at h
    · cases h
    · rename_i hh h2
      rw [bndQ_ok he h2]
      simp only
      split at h
      · cases h
      · rename_i l h3
        rw [bndQ_ok he h3]
        exact h
theorem partQ_ok {sh : Sh} {cs : List Value} {off : Nat} {v : Value} (h : partQ sh cs off = some v) : partOf sh cs off = some v := by
  cases sh with
  | one => exact h
  | agg n =>
    obtain ⟨h1, h2⟩ := thenO_some.1 h
    simp only [partOf]
    rw [if_pos ((longer_iff _ _).1 h1)]
    exact h2
theorem ptr_some {b o : Nat} {v : Value} (h : mkPtr b o = some v) : v = .pointer (some ⟨b, o, none⟩) := by cases h; rfl

/-! ## Operations -/
variable {call : Tgt → List Value → M Value} {cq : Call} {q : QS} {S : St}
theorem pureOk {p : P} {op : AOp} (hr : SRel q S) (h : ∀ v, p qe = some v → exec call e op S = some (v, S)) : Ok (pureO p cq qe q) (exec call e op) S := by
  intro c hc
  obtain ⟨v, h1, h2⟩ := fin_true.1 hc
  exact ⟨v, S, q, h v h1, hr, h2⟩
theorem on2_some {f : Value → Value → OV} {x y : OV} {w : Value} (h : on2 f x y = some w) : ∃ a b, x = some a ∧ y = some b ∧ f a b = some w := by
  unfold on2 at h
  obtain ⟨a, h1, h2⟩ := bO_some.1 h
  unfold at2 at h2
  obtain ⟨b, h3, h4⟩ := bO_some.1 h2
  exact ⟨a, b, h1, h3, h4⟩

theorem mov_ok (he : ERel qe e) (hr : SRel q S) (a : Atom) : Ok (execQ (.mov a) cq qe q) (exec call e (.mov a)) S :=
  pureOk (cq := cq) hr fun v h => by simp [exec, M.bind, M.lift, M.pure, evA_ok he h]
theorem pick_ok (he : ERel qe e) (hr : SRel q S) (t a b : Atom) : Ok (execQ (.pick t a b) cq qe q) (exec call e (.pick t a b)) S :=
  pureOk (cq := cq) hr fun v h => by
    obtain ⟨x, h1, h2⟩ := bO_some.1 h
    obtain ⟨y, rfl, h3⟩ := eBoolO_some.1 h2
    rw [ifO_eq] at h3
    cases y
    · simp at h3; simp [exec, M.bind, M.lift, M.pure, evA_ok he h1, asBool, evA_ok he h3]
    · simp at h3; simp [exec, M.bind, M.lift, M.pure, evA_ok he h1, asBool, evA_ok he h3]
theorem bin_ok (he : ERel qe e) (hr : SRel q S) (op : BinOp) (a b : Atom) : Ok (execQ (.bin op a b) cq qe q) (exec call e (.bin op a b)) S :=
  pureOk (cq := cq) hr fun v h => by
    obtain ⟨x, y, h1, h2, h3⟩ := on2_some h
    simp [exec, M.bind, M.lift, M.pure, evA_ok he h1, evA_ok he h2, binQ_ok h3]
theorem eq_ok (he : ERel qe e) (hr : SRel q S) (n : Bool) (k : EqK) (a b : Atom) : Ok (execQ (.eq n k a b) cq qe q) (exec call e (.eq n k a b)) S :=
  pureOk (cq := cq) hr fun v h => by
    obtain ⟨x, y, h1, h2, h3⟩ := on2_some h
    cases ht : eqV k x y with
    | none => rw [ht] at h3; cases h3
    | some t =>
      rw [ht] at h3
      simp only [exec, M.bind, M.lift, M.pure, evA_ok he h1, evA_ok he h2, ht]
      cases h3
      cases n <;> rfl
theorem un_ok (he : ERel qe e) (hr : SRel q S) (op : UnOp) (a : Atom) : Ok (execQ (.un op a) cq qe q) (exec call e (.un op a)) S :=
  pureOk (cq := cq) hr fun v h => by
    obtain ⟨x, h1, h2⟩ := bO_some.1 h
    simp [exec, M.bind, M.lift, M.pure, evA_ok he h1, h2]
theorem build_ok (he : ERel qe e) (hr : SRel q S) (z : List Value) (p : List (Nat × Nat × Atom)) : Ok (execQ (.build z p) cq qe q) (exec call e (.build z p)) S :=
  pureOk (cq := cq) hr fun v h => by
    obtain ⟨l, h1, h2⟩ := bL_some.1 h
    cases h2
    simp [exec, M.bind, M.lift, M.pure, fillP_ok he h1]
theorem nil_ok (he : ERel qe e) (hr : SRel q S) (a : Atom) : Ok (execQ (.nilchk a) cq qe q) (exec call e (.nilchk a)) S :=
  pureOk (cq := cq) hr fun v h => by
    obtain ⟨x, h1, h2⟩ := bO_some.1 h
    simp only [exec, M.bind, M.lift, evA_ok he h1]
    split at h2 <;> first | (cases h2; done) | (cases h2; rfl)
theorem slS_ok (he : ERel qe e) (hr : SRel q S) (x : Atom) (lo hi : Option Atom) : Ok (execQ (.slcS x lo hi) cq qe q) (exec call e (.slcS x lo hi)) S :=
  pureOk (cq := cq) hr fun v h => by
    obtain ⟨x, h1, h2⟩ := bO_some.1 h
    obtain ⟨s, rfl, h3⟩ := eStrO_some.1 h2
    simp only [exec, M.bind, M.lift, evA_ok he h1]
    split at h3
    · rename_i l hh m hb
      cases h3
      rw [bndsQ_ok he hb]
      rfl
    · cases h3
theorem fldA_ok (he : ERel qe e) (hr : SRel q S) (o : Nat) (a : Atom) : Ok (execQ (.fldA o a) cq qe q) (exec call e (.fldA o a)) S :=
  pureOk (cq := cq) hr fun v h => by
    obtain ⟨x, h1, h2⟩ := bO_some.1 h
    obtain ⟨p, rfl, h3⟩ := ptrO_some.1 h2
    cases h3
    simp [exec, M.bind, M.lift, M.pure, evA_ok he h1]
theorem fld_ok (he : ERel qe e) (hr : SRel q S) (sh : Sh) (o : Nat) (a : Atom) : Ok (execQ (.fld sh o a) cq qe q) (exec call e (.fld sh o a)) S :=
  pureOk (cq := cq) hr fun v h => by
    obtain ⟨x, h1, h2⟩ := bO_some.1 h
    obtain ⟨p, rfl, h3⟩ := eAggO_some.1 h2
    simp [exec, M.bind, M.lift, M.pure, evA_ok he h1, partQ_ok h3]
theorem ixA_ok (he : ERel qe e) (hr : SRel q S) (s : Nat) (a i : Atom) : Ok (execQ (.ixA s a i) cq qe q) (exec call e (.ixA s a i)) S :=
  pureOk (cq := cq) hr fun v h => by
    obtain ⟨x, y, h1, h2, h3⟩ := on2_some h
    obtain ⟨k, n, rfl, h4⟩ := natO_some.1 h3
    obtain ⟨p, len, cp, rfl, h5⟩ := eSlO_some.1 h4
    cases p with
    | none => cases h5
    | some p =>
      obtain ⟨h6, h7⟩ := thenO_some.1 h5
      cases h7
      have : n < len := by simpa [Nat.blt_eq] using h6
      simp [exec, M.bind, M.lift, M.pure, evA_ok he h1, evA_ok he h2, asInt, this]
theorem ixAA_ok (he : ERel qe e) (hr : SRel q S) (m s : Nat) (a i : Atom) : Ok (execQ (.ixAA m s a i) cq qe q) (exec call e (.ixAA m s a i)) S :=
  pureOk (cq := cq) hr fun v h => by
    obtain ⟨x, y, h1, h2, h3⟩ := on2_some h
    obtain ⟨k, n, rfl, h4⟩ := natO_some.1 h3
    obtain ⟨p, rfl, h5⟩ := ptrO_some.1 h4
    obtain ⟨h6, h7⟩ := thenO_some.1 h5
    cases h7
    have : n < m := by simpa [Nat.blt_eq] using h6
    simp [exec, M.bind, M.lift, M.pure, evA_ok he h1, evA_ok he h2, asInt, this]
theorem ix_ok (he : ERel qe e) (hr : SRel q S) (m s : Nat) (sh : Sh) (a i : Atom) : Ok (execQ (.ix m s sh a i) cq qe q) (exec call e (.ix m s sh a i)) S :=
  pureOk (cq := cq) hr fun v h => by
    obtain ⟨x, y, h1, h2, h3⟩ := on2_some h
    obtain ⟨k, n, rfl, h4⟩ := natO_some.1 h3
    obtain ⟨p, rfl, h5⟩ := eAggO_some.1 h4
    obtain ⟨h6, h7⟩ := thenO_some.1 h5
    have : n < m := by simpa [Nat.blt_eq] using h6
    simp [exec, M.bind, M.lift, M.pure, evA_ok he h1, evA_ok he h2, asInt, this, partQ_ok h7]
theorem ixS_ok (he : ERel qe e) (hr : SRel q S) (a i : Atom) : Ok (execQ (.ixS a i) cq qe q) (exec call e (.ixS a i)) S :=
  pureOk (cq := cq) hr fun v h => by
    obtain ⟨x, y, h1, h2, h3⟩ := on2_some h
    obtain ⟨k, n, rfl, h4⟩ := natO_some.1 h3
    obtain ⟨s, rfl, h5⟩ := eStrO_some.1 h4
    cases hb : s.data.toList[n]? with
    | none => rw [hb] at h5; cases h5
    | some b =>
      rw [hb] at h5
      cases h5
      simp only [exec, M.bind, M.lift, M.pure, evA_ok he h1, evA_ok he h2, asInt, Option.bind_some]
      rw [if_pos (by simp)]
      show (M.lift s.data.toList[n]?).bind (fun b => M.pure (Value.int .u8 (b.toNat : Int))) S = _
      rw [hb]; rfl
theorem mkf_ok (he : ERel qe e) (hr : SRel q S) (f : FuncId) (l r : List Atom) : Ok (execQ (.mkfn f l r) cq qe q) (exec call e (.mkfn f l r)) S :=
  pureOk (cq := cq) hr fun v h => by
    obtain ⟨x, h1, h2⟩ := bL_some.1 h
    obtain ⟨y, h3, h4⟩ := bL_some.1 h2
    cases h4
    simp [exec, M.bind, M.lift, M.pure, evL_ok he h1, evL_ok he h3]
theorem mki_ok (he : ERel qe e) (hr : SRel q S) (t : TypeId) (a : Atom) : Ok (execQ (.mkif t a) cq qe q) (exec call e (.mkif t a)) S :=
  pureOk (cq := cq) hr fun v h => by
    obtain ⟨x, h1, h2⟩ := bO_some.1 h
    cases h2
    simp [exec, M.bind, M.lift, M.pure, evA_ok he h1]
theorem ext_ok (he : ERel qe e) (hr : SRel q S) (a : Atom) (i : Nat) : Ok (execQ (.ext a i) cq qe q) (exec call e (.ext a i)) S :=
  pureOk (cq := cq) hr fun v h => by
    obtain ⟨x, h1, h2⟩ := bO_some.1 h
    obtain ⟨vs, rfl, h3⟩ := eTupO_some.1 h2
    simp [exec, M.bind, M.lift, M.pure, evA_ok he h1]
    simp at h3
    rw [h3]
theorem lenP_ok (he : ERel qe e) (hr : SRel q S) (k : LenK) (a : Atom) (hk : k ≠ .map) : Ok (pureO (pLen k a) cq qe q) (exec call e (.len k a)) S :=
  pureOk (cq := cq) hr fun v h => by
    obtain ⟨x, h1, h2⟩ := bO_some.1 h
    cases hn : lenV k x with
    | none => rw [hn] at h2; cases h2
    | some n =>
      rw [hn] at h2
      cases h2
      have e1 : exec call e (.len k a) = ((M.lift (a.ev e)).bind fun x => (M.lift (lenV k x)).bind fun n => M.pure (.int .i64 n)) := by
        cases k <;> first | rfl | exact absurd rfl hk
      rw [e1]
      simp [M.bind, M.lift, M.pure, evA_ok he h1, hn]
theorem max_ok (he : ERel qe e) (hr : SRel q S) (l : List Atom) : Ok (execQ (.max l) cq qe q) (exec call e (.max l)) S :=
  pureOk (cq := cq) hr fun v h => by
    obtain ⟨x, h1, h2⟩ := bL_some.1 h
    simp only [exec, M.bind, M.lift, evL_ok he h1]
    cases x with
    | nil => cases h2
    | cons x r => simp only [M.bind, M.lift] at h2 ⊢; rw [h2]; rfl
theorem min_ok (he : ERel qe e) (hr : SRel q S) (l : List Atom) : Ok (execQ (.min l) cq qe q) (exec call e (.min l)) S :=
  pureOk (cq := cq) hr fun v h => by
    obtain ⟨x, h1, h2⟩ := bL_some.1 h
    simp only [exec, M.bind, M.lift, evL_ok he h1]
    cases x with
    | nil => cases h2
    | cons x r => simp only [M.bind, M.lift] at h2 ⊢; rw [h2]; rfl
theorem cvI_eq (k : IntKind) (n : Int) : cvI k n = some (.int k (k.wrap n)) := by
  cases n with
  | ofNat n => exact wrN_eq k n
  | negSucc n => rfl
end Go.Wb.Q
end
/- The engine, part Q6: the quick evaluator's operations on memory; each operation. -/
section
set_option linter.unusedSimpArgs false
set_option linter.unusedVariables false
set_option autoImplicit false
namespace Go.Wb.Q
variable {qe : QE} {e : Env} {call : Tgt → List Value → M Value} {cq : Call} {q : QS} {S : St}

theorem blt_lt {a b : Nat} (h : Nat.blt a b = true) : a < b := Nat.le_of_ble_eq_true h
theorem mul_lim {a b c : Nat} (h : a * b ≤ c) : (a : Int) * (b : Int) ≤ (c : Int) := by
  rw [← Int.natCast_mul]; exact Int.ofNat_le.2 h
theorem lift_bind {α β : Type} (a : α) (f : α → M β) : (M.lift (some a)).bind f = f a := rfl
theorem alloc_ok (hr : SRel q S) (t : TypeId) (z : List Value) : Ok (execQ (.alloc t z) cq qe q) (exec call e (.alloc t z)) S := by
  intro c hc
  obtain ⟨b, S1, S2, h1, h2, h3⟩ := newQ_ok hr none false z (ptr0 c) hc
  exact ⟨_, S1, S2, by simp only [exec, M.bind, h1]; rfl, h2, h3⟩
theorem box_ok (he : ERel qe e) (hr : SRel q S) (t : TypeId) (a : Atom) : Ok (execQ (.box t a) cq qe q) (exec call e (.box t a)) S := by
  intro c hc
  obtain ⟨v, hv, hc1⟩ := bB_true.1 hc
  obtain ⟨b, S1, S2, h1, h2, h3⟩ := newQ_ok hr none false (cellsL v) (ptr0 c) hc1
  refine ⟨_, S1, S2, ?_, h2, h3⟩
  simp only [cellsL] at h1
  simp only [exec, M.bind, M.lift, evA_ok he hv, h1]
  rfl
theorem bsl_ok (he : ERel qe e) (hr : SRel q S) (t : TypeId) (n : Nat) (z : List Value) (p : List (Nat × Nat × Atom)) : Ok (execQ (.bslice t n z p) cq qe q) (exec call e (.bslice t n z p)) S := by
  intro c hc
  obtain ⟨l, hl, hc1⟩ := bLB_true.1 hc
  obtain ⟨b, S1, S2, h1, h2, h3⟩ := newQ_ok hr none false l (sl0 c n n) hc1
  refine ⟨_, S1, S2, ?_, h2, h3⟩
  simp only [exec, M.bind, M.lift, fillP_ok he hl, h1]
  rfl
theorem loadSh_ok (hr : SRel q S) (sh : Sh) (p : Addr) : Ok (fun c => loadQ sh q c p) (match sh with
      | .one => (ld1 p.block p.off).bind fun v => M.pure v
      | .agg n => (ldCells p.block p.off n).bind fun c => M.pure (.agg c.toArray)) S := by
  intro c hc
  cases sh with
  | one =>
    obtain ⟨v, S1, S2, h1, h2, h3⟩ := ld1Q_ok hr p.block p.off c hc
    exact ⟨v, S1, S2, by simp only [M.bind, h1]; rfl, h2, h3⟩
  | agg n =>
    obtain ⟨v, S1, S2, h1, h2, h3⟩ := ldCQ_ok hr p.block p.off n (aggK c) hc
    exact ⟨_, S1, S2, by simp only [M.bind, h1]; rfl, h2, h3⟩
theorem load_ok (he : ERel qe e) (hr : SRel q S) (sh : Sh) (a : Atom) : Ok (execQ (.load sh a) cq qe q) (exec call e (.load sh a)) S := by
  intro c hc
  obtain ⟨v, hv, hc1⟩ := bB_true.1 hc
  obtain ⟨p, rfl, hc2⟩ := ptrB_true.1 hc1
  obtain ⟨v, S1, S2, h1, h2, h3⟩ := loadSh_ok hr sh p c hc2
  refine ⟨v, S1, S2, ?_, h2, h3⟩
  simp only [exec, M.bind, M.lift, evA_ok he hv]
  exact h1
theorem store_ok (he : ERel qe e) (hr : SRel q S) (m : Nat) (a v : Atom) : Ok (execQ (.store m a v) cq qe q) (exec call e (.store m a v)) S := by
  intro c hc
  obtain ⟨x, hx, hc1⟩ := bB_true.1 hc
  obtain ⟨y, hy, hc2⟩ := bB_true.1 hc1
  obtain ⟨p, rfl, hc3⟩ := ptrB_true.1 hc2
  obtain ⟨hl, hc4⟩ := thenB_true.1 hc3
  obtain ⟨u, S1, S2, h1, h2, h3⟩ := stCQ_ok hr p.block p.off (cellsL y) (fun _ => c undef) hc4
  refine ⟨undef, S1, S2, ?_, h2, h3⟩
  have hl := (lenIs_true _ _).1 hl
  have hl : y.cells.size = m := by simpa [cellsL] using hl
  simp only [cellsL] at h1
  simp only [exec, M.bind, M.lift, evA_ok he hx, evA_ok he hy, hl, if_true, h1]
  rfl
theorem mks_ok (he : ERel qe e) (hr : SRel q S) (t : TypeId) (s b : Nat) (z : List Value) (l cp : Atom) : Ok (execQ (.mkslice t s b z l cp) cq qe q) (exec call e (.mkslice t s b z l cp)) S := by
  intro c hc
  obtain ⟨x, hx, hc1⟩ := bB_true.1 hc
  obtain ⟨y, hy, hc2⟩ := bB_true.1 hc1
  obtain ⟨k, n, rfl, hc3⟩ := natB_true.1 hc2
  obtain ⟨k', m, rfl, hc4⟩ := natB_true.1 hc3
  obtain ⟨h1, hc5⟩ := thenB_true.1 hc4
  obtain ⟨h2, hc6⟩ := thenB_true.1 hc5
  obtain ⟨h3, hc7⟩ := thenB_true.1 hc6
  obtain ⟨h4, hc8⟩ := thenB_true.1 hc7
  obtain ⟨nb, S1, S2, k1, k2, k3⟩ := newQ_ok hr none false (repQ z m) (sl0 c n m) hc8
  have h1 : n ≤ m := Nat.le_of_ble_eq_true h1
  have h2 : b * m ≤ 281474976710656 := Nat.le_of_ble_eq_true h2
  have h3 : m < 4611686018427387904 := blt_lt h3
  have h4 : z.length = s := (lenIs_true _ _).1 h4
  refine ⟨_, S1, S2, ?_, k2, k3⟩
  rw [repQ_eq] at k1
  have hcond : (0 : Int) ≤ (n : Int) ∧ (n : Int) ≤ (m : Int) ∧ (b : Int) * (m : Int) ≤ 281474976710656 ∧ (m : Int) < 4611686018427387904 ∧ z.length = s := by
    refine ⟨by omega, by omega, mul_lim (c := 281474976710656) h2, by omega, h4⟩
  simp only [exec, M.bind, M.lift, evA_ok he hx, evA_ok he hy, Option.bind_some, asInt, Int.ofNat_eq_natCast, if_pos hcond, Int.toNat_natCast, k1]
  rfl
theorem mkSl_eq (a : Addr) (l h m size : Nat) : mkSl a l h m size = .slice (some (if m = l then a else ⟨a.block, a.off + l * size, none⟩)) (h - l) (m - l) := by
  unfold mkSl
  by_cases e : m = l
  · subst e; simp
  · have : Nat.beq m l = false := by rw [Bool.eq_false_iff]; intro k; exact e (Nat.eq_of_beq_eq_true k)
    rw [this, if_neg e]
theorem b3_true {x : Option (Nat × Nat × Nat)} {f : Nat → Nat → Nat → Bool} : b3 x f = true ↔ ∃ a b c, x = some (a, b, c) ∧ f a b c = true := by
  cases x with
  | none => exact ⟨fun h => (by cases h), fun ⟨_, _, _, e, _⟩ => (by cases e)⟩
  | some p => exact ⟨fun h => ⟨p.1, p.2.1, p.2.2, rfl, h⟩, fun ⟨_, _, _, e, h⟩ => by cases e; exact h⟩
theorem extOk_true {size : Nat} {x : Option Nat} : extOk size x = true → x = none ∨ x = some size := by
  cases x with
  | none => exact fun _ => .inl rfl
  | some s => exact fun h => .inr (congrArg some (Nat.eq_of_beq_eq_true h))
theorem noneB_true {x : Option Nat} : noneB x = true → x = none := by
  cases x with
  | none => exact fun _ => rfl
  | some s => exact fun h => by cases h
theorem isTok_true {v : Value} (h : isTok v = true) : v = .chan none := by
  unfold isTok at h
  split at h
  · rfl
  · cases h
theorem tokIf_eq (x : Option Nat) (mx : Option Atom) (l m : Nat) (v : Value) : tokIf x mx l m v = if x.isSome = true ∧ mx.isSome = true ∧ m = l then .chan none else v := by
  by_cases h : m = l
  · subst h
    cases x <;> cases mx <;> simp [tokIf, hasB, andB2]
  · have : Nat.beq m l = false := by
      cases hb : Nat.beq m l with
      | false => rfl
      | true => exact absurd (Nat.eq_of_beq_eq_true hb) h
    rw [if_neg (fun hh => h hh.2.2)]
    cases x <;> cases mx <;> simp [tokIf, hasB, andB2, this]
theorem slc_ok (he : ERel qe e) (hr : SRel q S) (s : Nat) (x : Atom) (lo hi mx : Option Atom) : Ok (execQ (.slc s x lo hi mx) cq qe q) (exec call e (.slc s x lo hi mx)) S := by
  intro c hc
  obtain ⟨v, hv, hc1⟩ := bB_true.1 hc
  rw [ifB_eq] at hc1
  split at hc1
  · rename_i ht
    have ht := isTok_true ht
    subst ht
    obtain ⟨l, h, m, hb, hc3⟩ := b3_true.1 hc1
    exact ⟨_, S, q, by simp only [exec, M.bind, M.lift, evA_ok he hv, bndsQ_ok he hb]; rfl, hr, hc3⟩
  obtain ⟨a, len, cap, rfl, hc2⟩ := eSlB_true.1 hc1
  cases a with
  | none =>
    obtain ⟨l, h, m, hb, hc3⟩ := b3_true.1 hc2
    exact ⟨_, S, q, by simp only [exec, M.bind, M.lift, evA_ok he hv, bndsQ_ok he hb]; rfl, hr, hc3⟩
  | some a =>
    obtain ⟨l, h, m, hb, hc3⟩ := b3_true.1 hc2
    obtain ⟨x, s', cs, k1, hc4⟩ := lookQ_ok hr a.block hc3
    obtain ⟨k2, hc5⟩ := thenB_true.1 hc4
    obtain ⟨k3, hc6⟩ := thenB_true.1 hc5
    refine ⟨_, _, _, ?_, hr.saw a.block, hc6⟩
    have k3 : h ≤ m := Nat.le_of_ble_eq_true k3
    simp only [exec, M.bind, M.lift, evA_ok he hv, bndsQ_ok he hb, rd, k1, extOk_true k2, k3, and_self, if_true, mkSl_eq, tokIf_eq]
    rfl
theorem slA_ok (he : ERel qe e) (hr : SRel q S) (n s : Nat) (x : Atom) (lo hi mx : Option Atom) : Ok (execQ (.slcA n s x lo hi mx) cq qe q) (exec call e (.slcA n s x lo hi mx)) S := by
  intro c hc
  obtain ⟨v, hv, hc1⟩ := bB_true.1 hc
  obtain ⟨a, rfl, hc2⟩ := ptrB_true.1 hc1
  obtain ⟨l, h, m, hb, hc3⟩ := b3_true.1 hc2
  obtain ⟨x, s', cs, k1, hc4⟩ := lookQ_ok hr a.block hc3
  obtain ⟨k2, hc5⟩ := thenB_true.1 hc4
  refine ⟨_, _, _, ?_, hr.saw a.block, hc5⟩
  obtain rfl := noneB_true k2
  simp only [exec, M.bind, M.lift, evA_ok he hv, bndsQ_ok he hb, rd, k1, mkSl_eq]
  rfl
theorem lenB_true {v : Value} {k : Nat → Bool} (h : lenB v k = true) : ∃ n, lenOf v = some n ∧ k n = true := by
  unfold lenB at h
  split at h <;> first | exact ⟨_, rfl, h⟩ | cases h
theorem firstQ_ok (hr : SRel q S) (s n : Nat) (v : Value) : Ok (firstQ s n v q) (firstN s n v) S := by
  intro c hc
  unfold firstQ at hc
  split at hc
  · exact ldCQ_ok hr _ _ _ c hc
  · exact ⟨_, S, q, rfl, hr, hc⟩
  · rename_i s'
    obtain ⟨h1, h2⟩ := thenB_true.1 hc
    have h1 := Nat.eq_of_beq_eq_true h1
    rw [u8L_eq] at h2
    exact ⟨_, S, q, by simp only [firstN, h1, if_true]; rfl, hr, h2⟩
  · obtain ⟨h1, h2⟩ := thenB_true.1 hc
    have h1 := Nat.eq_of_beq_eq_true h1
    exact ⟨_, S, q, by simp only [firstN, h1, if_true]; rfl, hr, h2⟩
  · cases hc
theorem growOk_true {size bytes sLen n : Nat} (h : growOk size bytes sLen n = true) : 2 * ((sLen + n) * bytes) ≤ 281474976710656 ∧ bytes ≠ 0 ∧ size ≠ 0 := by
  obtain ⟨h1, h2⟩ := thenB_true.1 h
  obtain ⟨h2, h3⟩ := thenB_true.1 h2
  have h2 : 0 < bytes := blt_lt h2
  have h3 : 0 < size := blt_lt h3
  exact ⟨Nat.le_of_ble_eq_true h1, by omega, by omega⟩
theorem put_ok {size sLen sCap n : Nat} {base : Option Addr} {src : (List Value → QS → Bool) → Bool} {news : M (List Value)} (hs : Ok src news S) :
    Ok (fun c => src (putQ size base sLen sCap n c)) (putA size base sLen sCap n news) S := by
  intro c hc
  obtain ⟨new, S1, S2, h1, h2, h3⟩ := hs _ hc
  cases base with
  | none =>
    obtain ⟨k1, k2⟩ := thenB_true.1 h3
    have k1 := Nat.eq_of_beq_eq_true k1
    exact ⟨_, S1, S2, by simp only [putA, M.bind, h1, k1, if_true]; rfl, h2, k2⟩
  | some a =>
    obtain ⟨u, S3, S4, k1, k2, k3⟩ := stCQ_ok h2 a.block (a.off + sLen * size) new (fun _ => c (.slice (some a) (sLen + n) sCap)) h3
    exact ⟨_, S3, S4, by simp only [putA, M.bind, h1, k1]; rfl, k2, k3⟩
theorem grow_ok {size bytes sLen sCap n : Nat} {base : Option Addr} {src : (List Value → QS → Bool) → Bool} {news : M (List Value)} (hs : Ok src news S) (hg : growOk size bytes sLen n = true) :
    Ok (fun c => src (growQ size bytes base sLen sCap n c)) (growA size bytes base sLen sCap n news) S := by
  intro c hc
  obtain ⟨new, S1, S2, h1, h2, h3⟩ := hs _ hc
  have hg := growOk_true hg
  obtain ⟨ha, h3⟩ := thenB_true.1 h3
  rw [allQ_eq] at ha
  cases base with
  | none =>
    obtain ⟨k1, h3⟩ := thenB_true.1 h3
    obtain ⟨k2, h3⟩ := thenB_true.1 h3
    have k1 := Nat.eq_of_beq_eq_true k1
    have k2 := Nat.eq_of_beq_eq_true k2
    obtain ⟨nb, S3, S4, m1, m2, m3⟩ := newQ_ok h2 (some size) false new (sl0 c n n) h3
    refine ⟨_, S3, S4, ?_, m2, m3⟩
    rw [growA, if_pos hg]
    simp only [M.bind, h1, ha, if_true, k1, k2, and_self, m1]
    rfl
  | some a =>
    simp only [eS_eq] at h3
    obtain ⟨x, s, len, t, g1, h3⟩ := atC_true.1 h3
    obtain ⟨g2, h3⟩ := thenB_true.1 h3
    have g2 : a.off + sLen * size ≤ len := Nat.le_of_ble_eq_true g2
    obtain ⟨cs, g3, g4⟩ := h2.cells g1
    have hlen : len = cs.length := by cases g4 with | cells e1 e2 => exact e1
    have hget : ∀ i, i < sLen * size → t.get (a.off + i) = cs[a.off + i]? := by
      cases g4 with
      | cells e1 e2 => exact fun i hi => e2 _ (by omega)
    cases x with
    | none =>
      obtain ⟨l, g5, g6⟩ := bLB_true.1 h3
      have := takeQ_ok t cs a.off _ new l hget g5
      subst this
      obtain ⟨nb, S3, S4, m1, m2, m3⟩ := newQ_ok (h2.saw a.block) (some size) false _ (sl0 c (sLen + n) (sLen + n)) g6
      refine ⟨_, S3, S4, ?_, m2, m3⟩
      rw [growA, if_pos hg]
      simp only [M.bind, h1, ha, if_true, rd, g3, show a.off + sLen * size ≤ cs.length by omega, m1]
      rfl
    | some z =>
      obtain ⟨g5, g6⟩ := thenB_true.1 h3
      have hand : ∀ x y : Bool, andB2 x y = true → x = true ∧ y = true := by intro x y h; cases x <;> cases y <;> first | exact ⟨rfl, rfl⟩ | cases h
      obtain ⟨g5, g5w⟩ := hand _ _ g5
      obtain rfl := Nat.eq_of_beq_eq_true g5
      have hwi : withinL cs (a.off + (sLen + n) * z) = true := (withinL_iff _ _).2 (by rw [← hlen]; exact Nat.le_of_ble_eq_true g5w)
      have hk : SRel (mkS S2.h a.block none S2.n ((a.block, true) :: (a.block, false) :: S2.lg)) { heap := S1.heap.set a.block none, next := S1.next, log := (a.block, true) :: (a.block, false) :: S1.log } := h2.kill (by rw [h2.log])
      have key : ∀ {S3 : St} {S4 : QS} {b : Nat}, nw (.cells (some z) s ((cs.drop a.off).take (sLen * z) ++ new)) { heap := S1.heap.set a.block none, next := S1.next, log := (a.block, true) :: (a.block, false) :: S1.log } = some (b, S3) →
          growA z bytes (some a) sLen sCap n news S = some (.slice (some ⟨b, 0, none⟩) (sLen + n) (sLen + n), S3) := by
        intro S3 S4 b m1
        rw [growA, if_pos hg]
        simp only [M.bind, h1, ha, if_true, rd, g3, show a.off + sLen * z ≤ cs.length by omega, hwi, and_self, wr, m1]
        rfl
      unfold grow3 at g6
      rw [ifB_eq] at g6
      split at g6
      · rename_i hcond
        have hc2 : Nat.beq a.off 0 = true ∧ Nat.beq len (sLen * z) = true := by
          cases hx : Nat.beq a.off 0
          · rw [hx] at hcond; cases hcond
          · rw [hx] at hcond; exact ⟨rfl, hcond⟩
        have c1 := Nat.eq_of_beq_eq_true hc2.1
        have c2 := Nat.eq_of_beq_eq_true hc2.2
        have hall : (cs.drop a.off).take (sLen * z) = cs := by rw [c1, List.drop_zero, List.take_of_length_le (by omega)]
        obtain ⟨nb, S3, S4, m1, m2, m3⟩ := nwQ_ok hk (g4.grow (y := some z) (s' := s) new) (sl0 c (sLen + n) (sLen + n)) g6
        rw [← hall] at m1
        exact ⟨_, S3, S4, key (S4 := S4) m1, m2, m3⟩
      · obtain ⟨l, g7, g8⟩ := bLB_true.1 g6
        have := takeQ_ok t cs a.off _ new l hget g7
        subst this
        obtain ⟨nb, S3, S4, m1, m2, m3⟩ := newQ_ok hk (some z) s _ (sl0 c (sLen + n) (sLen + n)) g8
        exact ⟨_, S3, S4, key (S4 := S4) m1, m2, m3⟩
theorem appQ_ok {size bytes sLen sCap n : Nat} {base : Option Addr} {src : (List Value → QS → Bool) → Bool} {news : M (List Value)} (hs : Ok src news S) :
    Ok (fun c => appQ size bytes base sLen sCap n c src) (if sLen + n ≤ sCap then putA size base sLen sCap n news else growA size bytes base sLen sCap n news) S := by
  intro c hc
  simp only [appQ, ifB_eq] at hc
  by_cases h : sLen + n ≤ sCap
  · rw [if_pos h]
    rw [if_pos (by simpa [Nat.ble_eq] using h)] at hc
    exact put_ok hs c hc
  · rw [if_neg h]
    rw [if_neg (by simpa [Nat.ble_eq] using h)] at hc
    obtain ⟨h1, h2⟩ := thenB_true.1 hc
    exact grow_ok hs h1 c h2
theorem tokApp_ok (hr : SRel q S) (size bytes : Nat) (x : Value) : Ok (tokApp size bytes x q) (appendA size bytes (.chan none) x) S := by
  intro c hc
  obtain ⟨n, hn, hc1⟩ := lenB_true hc
  rw [ifB_eq] at hc1
  by_cases h0 : n = 0
  · subst h0
    rw [if_pos (by simp)] at hc1
    obtain ⟨l, S1, q1, h1, h2, h3⟩ := firstQ_ok hr size 0 x _ hc1
    exact ⟨_, S1, q1, by simp only [appendA, hn, M.bind, M.lift, if_true, h1]; rfl, h2, h3⟩
  · rw [if_neg (by intro k; exact h0 (Nat.eq_of_beq_eq_true k))] at hc1
    obtain ⟨hg, hc2⟩ := thenB_true.1 hc1
    obtain ⟨v, S', q', j1, j2, j3⟩ := grow_ok (sCap := 0) (base := none) (firstQ_ok hr size n x) hg c hc2
    exact ⟨v, S', q', by simp only [appendA, hn, M.bind, M.lift, if_neg h0]; exact j1, j2, j3⟩
theorem app_ok (he : ERel qe e) (hr : SRel q S) (s b : Nat) (t : TypeId) (x y : Atom) : Ok (execQ (.app s b t x y) cq qe q) (exec call e (.app s b t x y)) S := by
  intro c hc
  obtain ⟨v, hv, hc1⟩ := bB_true.1 hc
  obtain ⟨w, hw, hc2⟩ := bB_true.1 hc1
  rw [ifB_eq] at hc2
  split at hc2
  · rename_i ht
    have ht := isTok_true ht
    subst ht
    obtain ⟨r, S1, S2, h1, h2, h3⟩ := tokApp_ok hr s b w c hc2
    refine ⟨r, S1, S2, ?_, h2, h3⟩
    simp only [exec, M.bind, M.lift, evA_ok he hv, evA_ok he hw, h1]
    rfl
  obtain ⟨base, len, cap, rfl, hc3⟩ := eSlB_true.1 hc2
  obtain ⟨n, hn, hc4⟩ := lenB_true hc3
  obtain ⟨r, S1, S2, h1, h2, h3⟩ := appQ_ok (bytes := b) (base := base) (sLen := len) (sCap := cap) (n := n) (firstQ_ok hr s n w) c hc4
  refine ⟨r, S1, S2, ?_, h2, h3⟩
  simp only [exec, M.bind, M.lift, evA_ok he hv, evA_ok he hw, appendA, hn, h1]
  rfl
theorem appZ_ok (he : ERel qe e) (hr : SRel q S) (s b : Nat) (t : TypeId) (z : List Value) (x y : Atom) : Ok (execQ (.appZ s b t z x y) cq qe q) (exec call e (.appZ s b t z x y)) S := by
  intro c hc
  obtain ⟨v, hv, hc1⟩ := bB_true.1 hc
  obtain ⟨w, hw, hc2⟩ := bB_true.1 hc1
  obtain ⟨base, len, cap, rfl, hc3⟩ := eSlB_true.1 hc2
  obtain ⟨k, n, rfl, hc4⟩ := natB_true.1 hc3
  obtain ⟨a1, hc5⟩ := thenB_true.1 hc4
  obtain ⟨a2, hc6⟩ := thenB_true.1 hc5
  obtain ⟨a3, hc7⟩ := thenB_true.1 hc6
  have a1 : n < 281474976710656 := blt_lt a1
  have a2 : n * b ≤ 281474976710656 := Nat.le_of_ble_eq_true a2
  have a3 := (lenIs_true _ _).1 a3
  obtain ⟨r, S1, S2, h1, h2, h3⟩ := appQ_ok (size := s) (bytes := b) (base := base) (sLen := len) (sCap := cap) (n := n) (src := fun k => k (repQ z n) q) (news := M.pure (rep n z)) (S := S)
    (fun c hc => ⟨_, S, q, rfl, hr, by rw [repQ_eq] at hc; exact hc⟩) c hc7
  refine ⟨r, S1, S2, ?_, h2, h3⟩
  have e1 : exec call e (.appZ s b t z x y) S = (appendZ s b z (.slice base len cap) (.int k (n : Int))).bind (fun v => M.pure v) S := by
    have e0 : exec call e (.appZ s b t z x y) = (M.lift (x.ev e)).bind fun s' => (M.lift (y.ev e)).bind fun x' => (appendZ s b z s' x').bind fun v => M.pure v := rfl
    rw [e0, evA_ok he hv, evA_ok he hw, lift_bind, lift_bind, Int.ofNat_eq_natCast]
  rw [e1]
  have hb : (n : Int) * (b : Int) ≤ 281474976710656 := mul_lim (c := 281474976710656) a2
  have e2 : appendZ s b z (.slice base len cap) (.int k (n : Int)) = (if len + n ≤ cap then putA s base len cap n (M.pure (rep n z)) else growA s b base len cap n (M.pure (rep n z))) := by
    simp only [appendZ, Int.toNat_natCast]
    rw [if_pos ⟨by omega, by omega, hb, a3⟩]
  rw [e2]
  simp only [M.bind, h1]
  rfl
theorem cap_ok (he : ERel qe e) (hr : SRel q S) (a : Atom) : Ok (execQ (.cap a) cq qe q) (exec call e (.cap a)) S := by
  intro c hc
  obtain ⟨v, hv, hc1⟩ := bB_true.1 hc
  obtain ⟨p, len, n, rfl, hc2⟩ := eSlB_true.1 hc1
  cases p with
  | none => exact ⟨_, S, q, by simp only [exec, M.bind, M.lift, evA_ok he hv]; rfl, hr, hc2⟩
  | some p =>
    obtain ⟨x, s', cs, k1, hc3⟩ := lookQ_ok hr p.block hc2
    obtain ⟨k2, hc4⟩ := thenB_true.1 hc3
    obtain rfl := noneB_true k2
    exact ⟨_, _, _, by simp only [exec, M.bind, M.lift, evA_ok he hv, rd, k1]; rfl, hr.saw p.block, hc4⟩
theorem minN_eq (a b : Nat) : minN a b = Min.min a b := by
  unfold minN
  by_cases h : a ≤ b
  · have : Nat.ble a b = true := by simpa using h
    rw [this, Nat.min_eq_left h]
  · have : Nat.ble a b = false := by rw [Bool.eq_false_iff]; intro k; exact h (Nat.le_of_ble_eq_true k)
    rw [this, Nat.min_eq_right (by omega)]
theorem copy_ok (he : ERel qe e) (hr : SRel q S) (s : Nat) (x y : Atom) : Ok (execQ (.copy s x y) cq qe q) (exec call e (.copy s x y)) S := by
  intro c hc
  obtain ⟨v, hv, hc1⟩ := bB_true.1 hc
  obtain ⟨w, hw, hc2⟩ := bB_true.1 hc1
  obtain ⟨base, len, cap, rfl, hc3⟩ := eSlB_true.1 hc2
  obtain ⟨n, hn, hc4⟩ := lenB_true hc3
  rw [minN_eq] at hc4
  obtain ⟨cs, S1, S2, h1, h2, h3⟩ := firstQ_ok hr s _ w _ hc4
  cases base with
  | none =>
    refine ⟨_, S1, S2, ?_, h2, h3⟩
    simp only [exec, M.bind, M.lift, evA_ok he hv, evA_ok he hw, hn, h1]
    rfl
  | some a =>
    obtain ⟨u, S3, S4, k1, k2, k3⟩ := stCQ_ok h2 a.block a.off cs (fun _ => cpDone c (Min.min n len)) h3
    refine ⟨_, S3, S4, ?_, k2, k3⟩
    simp only [exec, M.bind, M.lift, evA_ok he hv, evA_ok he hw, hn, h1, k1]
    rfl
theorem clr_ok (he : ERel qe e) (hr : SRel q S) (z : List Value) (a : Atom) : Ok (execQ (.clear z a) cq qe q) (exec call e (.clear z a)) S := by
  intro c hc
  obtain ⟨v, hv, hc1⟩ := bB_true.1 hc
  obtain ⟨p, n, cap, rfl, hc2⟩ := eSlB_true.1 hc1
  cases p with
  | none => exact ⟨_, S, q, by simp only [exec, M.bind, M.lift, evA_ok he hv]; rfl, hr, hc2⟩
  | some p =>
    obtain ⟨u, S3, S4, k1, k2, k3⟩ := stCQ_ok hr p.block p.off (repQ z n) (fun _ => c (.tuple #[])) hc2
    rw [repQ_eq] at k1
    refine ⟨_, S3, S4, ?_, k2, k3⟩
    simp only [exec, M.bind, M.lift, evA_ok he hv, k1]
    rfl
theorem conv_ok (he : ERel qe e) (hr : SRel q S) (k : CK) (a : Atom) : Ok (execQ (.conv k a) cq qe q) (exec call e (.conv k a)) S := by
  cases k with
  | int k =>
    refine pureOk (cq := cq) (p := pConv (.int k) a) hr ?_
    intro v h
    · obtain ⟨x, h1, h2⟩ := bO_some.1 h
      obtain ⟨k', n, rfl, h3⟩ := eIntO_some.1 h2
      rw [cvI_eq] at h3
      cases h3
      simp only [exec, M.bind, M.lift, evA_ok he h1]
      rfl
  | same =>
    refine pureOk (cq := cq) (p := pConv .same a) hr ?_
    intro v h
    · obtain ⟨x, h1, h2⟩ := bO_some.1 h
      obtain ⟨s, rfl, h3⟩ := eStrO_some.1 h2
      cases h3
      simp only [exec, M.bind, M.lift, evA_ok he h1]
      rfl
  | str2b t =>
    intro c hc
    obtain ⟨v, hv, hc1⟩ := bB_true.1 hc
    obtain ⟨s, rfl, hc2⟩ := eStrB_true.1 hc1
    obtain ⟨b, S1, S2, h1, h2, h3⟩ := newQ_ok hr (some 1) true (u8L s.data.toList) (sl0 c s.size s.size) hc2
    rw [u8L_eq] at h1
    refine ⟨_, S1, S2, ?_, h2, h3⟩
    simp only [exec, M.bind, M.lift, evA_ok he hv, h1]
    rfl
  | b2str =>
    intro c hc
    obtain ⟨v, hv, hc1⟩ := bB_true.1 hc
    obtain ⟨p, n, cap, rfl, hc2⟩ := eSlB_true.1 hc1
    cases p with
    | none => exact ⟨_, S, q, by simp only [exec, M.bind, M.lift, evA_ok he hv]; rfl, hr, hc2⟩
    | some p =>
      obtain ⟨cs, S1, S2, h1, h2, h3⟩ := ldCQ_ok hr p.block p.off n _ hc2
      cases hb : bytesOf cs with
      | none => rw [hb] at h3; cases h3
      | some l =>
        rw [hb] at h3
        refine ⟨_, S1, S2, ?_, h2, h3⟩
        simp only [exec, M.bind, M.lift, evA_ok he hv, h1, hb]
        rfl
  | sameSl =>
    intro c hc
    obtain ⟨v, hv, hc1⟩ := bB_true.1 hc
    obtain ⟨p, n, cap, rfl, hc2⟩ := eSlB_true.1 hc1
    cases p with
    | none => cases hc2
    | some p =>
      simp only [eS_eq] at hc2
      obtain ⟨x, s, len, t, g1, h3⟩ := atC_true.1 hc2
      obtain ⟨cs, g3, g4⟩ := hr.cells g1
      have g5 : BRel (.cells x true len t) (.cells x true cs) := by cases g4 with | cells e1 e2 => exact .cells e1 e2
      refine ⟨_, _, _, ?_, hr.put (b := p.block) g5 (log := (p.block, true) :: (p.block, false) :: S.log) (by rw [hr.log]), h3⟩
      simp only [exec, M.bind, M.lift, evA_ok he hv, rd, g3, wr]
      rfl

/-! ## Maps -/
theorem mapB_true {v : Value} {k : Option Nat → Bool} (h : mapB v k = true) : ∃ p, v = .map p ∧ k p = true := by
  cases v <;> first | exact ⟨_, rfl, h⟩ | cases h
theorem bR_true {x : Option OM} {f : OM → Bool} (h : bR x f = true) : ∃ r, x = some r ∧ f r = true := by
  cases x with
  | none => cases h
  | some r => exact ⟨r, rfl, h⟩
theorem atM_true (hr : SRel q S) {b : Nat} {f : List MEnt → Nat → Bool} (h : atM q.h b f = true) : ∃ es cl, S.heap.get b = some (.map es cl) ∧ f es cl = true := by
  unfold atM at h
  rw [bQ_true, getQ_eq] at h
  obtain ⟨o, h1, h2⟩ := h
  cases o with
  | cells => cases h2
  | loop => cases h2
  | ro => cases h2
  | iter => cases h2
  | map es cl =>
    obtain ⟨o', h3, h4⟩ := hr.heap _ _ h1
    cases h4
    exact ⟨es, cl, h3, h2⟩
theorem mkm_ok (he : ERel qe e) (hr : SRel q S) (h : Option Atom) : Ok (execQ (.mkmap h) cq qe q) (exec call e (.mkmap h)) S := by
  intro c hc
  have hc : bU (hintQ qe h) (nwQ (.map [] 0) q (map0 c)) = true := hc
  have hh : hintOk e h = some () ∧ nwQ (.map [] 0) q (map0 c) = true := by
    cases h with
    | none => exact ⟨rfl, hc⟩
    | some a =>
      unfold hintQ at hc
      simp only at hc
      split at hc
      · rename_i k n hv
        exact ⟨by simp [hintOk, evA_ok he hv, asInt], hc⟩
      · cases hc
  obtain ⟨b, S1, S2, h1, h2, h3⟩ := nwQ_ok hr BRel.map (map0 c) hh.2
  refine ⟨_, S1, S2, ?_, h2, h3⟩
  simp only [exec, M.bind, M.lift, hh.1, h1]
  rfl
theorem mget_ok (he : ERel qe e) (hr : SRel q S) (kk : KK) (ok : Bool) (z : Value) (m k : Atom) : Ok (execQ (.mget kk ok z m k) cq qe q) (exec call e (.mget kk ok z m k)) S := by
  intro c hc
  obtain ⟨x, hx, hc1⟩ := bB_true.1 hc
  obtain ⟨y, hy0, hc2⟩ := bB_true.1 hc1
  obtain ⟨y0, hy1, hy2⟩ := bO_some.1 hy0
  have hy : (k.ev e).bind (chkKey kk) = some y := by rw [evA_ok he hy1]; exact hy2
  obtain ⟨p, rfl, hc3⟩ := mapB_true hc2
  cases p with
  | none => exact ⟨_, S, q, by simp only [exec, M.bind, M.lift, evA_ok he hx, hy]; rfl, hr, hc3⟩
  | some b =>
    simp only [eS_eq, mgetR] at hc3
    obtain ⟨es, cl, h1, h2⟩ := atM_true hr hc3
    obtain ⟨r, h3, h4⟩ := bR_true h2
    exact ⟨_, _, _, by simp only [exec, M.bind, M.lift, evA_ok he hx, hy, rd, h1, h3]; rfl, hr.saw b, h4⟩
theorem ofM_put (y z : Value) (es : List MEnt) (cl : Nat) (r : OM) : BRel (ofM (mput y z es cl r)) (mput y z es cl r) := by cases r <;> exact BRel.map
theorem ofM_keep (y z : Value) (es : List MEnt) (cl : Nat) (r : OM) : BRel (ofM (mkeep y z es cl r)) (mkeep y z es cl r) := by cases r <;> exact BRel.map
theorem mset_ok (he : ERel qe e) (hr : SRel q S) (kk : KK) (m k v : Atom) : Ok (execQ (.mset kk m k v) cq qe q) (exec call e (.mset kk m k v)) S := by
  intro c hc
  obtain ⟨x, hx, hc1⟩ := bB_true.1 hc
  obtain ⟨y, hy, hc2⟩ := bB_true.1 hc1
  obtain ⟨z, hz, hc3⟩ := bB_true.1 hc2
  obtain ⟨p, rfl, hc4⟩ := mapB_true hc3
  cases p with
  | none => cases hc4
  | some b =>
    simp only [eS_eq, msetR] at hc4
    obtain ⟨es, cl, h1, h2⟩ := atM_true hr hc4
    obtain ⟨hk, h2⟩ := thenB_true.1 h2
    obtain ⟨r, h3, h4⟩ := bR_true h2
    refine ⟨undef, _, _, ?_, hr.put (b := b) (ofM_put y z es cl r) (log := (b, true) :: (b, false) :: S.log) (by rw [hr.log]), h4⟩
    simp only [exec, M.bind, M.lift, evA_ok he hx, evA_ok he hy, evA_ok he hz, rd, h1, hk, if_true, h3, wr]
    rfl
theorem ment_ok (he : ERel qe e) (hr : SRel q S) (kk : KK) (z : Value) (m k : Atom) : Ok (execQ (.ment kk z m k) cq qe q) (exec call e (.ment kk z m k)) S := by
  intro c hc
  obtain ⟨x, hx, hc1⟩ := bB_true.1 hc
  obtain ⟨y, hy, hc2⟩ := bB_true.1 hc1
  obtain ⟨p, rfl, hc4⟩ := mapB_true hc2
  cases p with
  | none => cases hc4
  | some b =>
    simp only [eS_eq, mentR] at hc4
    obtain ⟨es, cl, h1, h2⟩ := atM_true hr hc4
    obtain ⟨hk, h2⟩ := thenB_true.1 h2
    obtain ⟨r, h3, h4⟩ := bR_true h2
    refine ⟨_, _, _, ?_, hr.put (b := b) (ofM_keep y z es cl r) (log := (b, true) :: (b, false) :: S.log) (by rw [hr.log]), h4⟩
    simp only [exec, M.bind, M.lift, evA_ok he hx, evA_ok he hy, rd, h1, hk, if_true, h3, wr]
    rfl
theorem mfill_ok (he : ERel qe e) (hr : SRel q S) (m s v : Atom) : Ok (execQ (.mfill m s v) cq qe q) (exec call e (.mfill m s v)) S := by
  intro c hc
  obtain ⟨x, hx, hc1⟩ := bB_true.1 hc
  obtain ⟨t, ht, hc2⟩ := bB_true.1 hc1
  obtain ⟨k, n, rfl, hc3⟩ := eIntB_true.1 hc2
  obtain ⟨z, hz, hc4⟩ := bB_true.1 hc3
  obtain ⟨p, rfl, hc5⟩ := mapB_true hc4
  cases p with
  | none => cases hc5
  | some b =>
    simp only [eS_eq, mfillR] at hc5
    obtain ⟨es, cl, h1, h2⟩ := atM_true hr hc5
    have hb : ∃ r, findBorn n es 0 = some r ∧ c undef (mkS q.h b (some (.map (es.set r.1 ⟨r.2.key, z, r.2.born⟩) cl)) q.n ((b, true) :: (b, false) :: q.lg)) = true := by
      cases hf : findBorn n es 0 with
      | none => rw [hf] at h2; cases h2
      | some r => rw [hf] at h2; exact ⟨r, rfl, h2⟩
    obtain ⟨r, h3, h4⟩ := hb
    refine ⟨undef, _, _, ?_, hr.put (b := b) (BRel.map (es := es.set r.1 ⟨r.2.key, z, r.2.born⟩) (cl := cl)) (log := (b, true) :: (b, false) :: S.log) (by rw [hr.log]), h4⟩
    simp only [exec, M.bind, M.lift, evA_ok he hx, evA_ok he ht, Option.bind_some, asInt, evA_ok he hz, rd, h1, h3, wr]
    rfl
theorem mdel_ok (he : ERel qe e) (hr : SRel q S) (kk : KK) (m k : Atom) : Ok (execQ (.mdel kk m k) cq qe q) (exec call e (.mdel kk m k)) S := by
  intro c hc
  obtain ⟨x, hx, hc1⟩ := bB_true.1 hc
  obtain ⟨y, hy0, hc2⟩ := bB_true.1 hc1
  obtain ⟨y0, hy1, hy2⟩ := bO_some.1 hy0
  have hy : (k.ev e).bind (chkKey kk) = some y := by rw [evA_ok he hy1]; exact hy2
  obtain ⟨p, rfl, hc3⟩ := mapB_true hc2
  cases p with
  | none => exact ⟨_, S, q, by simp only [exec, M.bind, M.lift, evA_ok he hx, hy]; rfl, hr, hc3⟩
  | some b =>
    simp only [eS_eq, mdelR] at hc3
    obtain ⟨es, cl, h1, h2⟩ := atM_true hr hc3
    obtain ⟨r, h3, h4⟩ := bR_true h2
    refine ⟨.tuple #[], _, _, ?_, hr.put (b := b) (BRel.map (es := mcut es r) (cl := cl)) (log := (b, true) :: (b, false) :: S.log) (by rw [hr.log]), h4⟩
    simp only [exec, M.bind, M.lift, evA_ok he hx, hy, rd, h1, h3, wr]
    rfl
theorem len_ok (he : ERel qe e) (hr : SRel q S) (k : LenK) (a : Atom) : Ok (execQ (.len k a) cq qe q) (exec call e (.len k a)) S := by
  cases k with
  | str => exact lenP_ok (cq := cq) he hr .str a (by simp)
  | slice => exact lenP_ok (cq := cq) he hr .slice a (by simp)
  | arr n => exact lenP_ok (cq := cq) he hr (.arr n) a (by simp)
  | map =>
    intro c hc
    obtain ⟨x, hx, hc1⟩ := bB_true.1 hc
    obtain ⟨p, rfl, hc2⟩ := mapB_true hc1
    cases p with
    | none => exact ⟨_, S, q, by simp only [exec, M.bind, M.lift, evA_ok he hx]; rfl, hr, hc2⟩
    | some b =>
      simp only [eS_eq, mlenR] at hc2
      obtain ⟨es, cl, h1, h2⟩ := atM_true hr hc2
      exact ⟨_, _, _, by simp only [exec, M.bind, M.lift, evA_ok he hx, rd, h1]; rfl, hr.saw b, h2⟩

theorem forceN_eq (k : Nat → Bool) (n : Nat) : forceN k n = k n := by cases n <;> rfl
theorem srg_ok (he : ERel qe e) (hr : SRel q S) (a : Atom) : Ok (execQ (.srange a) cq qe q) (exec call e (.srange a)) S := by
  intro c hc
  obtain ⟨v, hv, hc1⟩ := bB_true.1 hc
  obtain ⟨s, rfl, hc2⟩ := eStrB_true.1 hc1
  obtain ⟨b, S1, S2, h1, h2, h3⟩ := nwQ_ok hr (BRel.iter (s := s) (p := 0)) (ptr0 c) hc2
  refine ⟨_, S1, S2, ?_, h2, h3⟩
  simp only [exec, M.bind, M.lift, evA_ok he hv, h1]
  rfl
theorem snx_ok (he : ERel qe e) (hr : SRel q S) (a : Atom) : Ok (execQ (.snext a) cq qe q) (exec call e (.snext a)) S := by
  intro c hc
  obtain ⟨v, hv, hc1⟩ := bB_true.1 hc
  obtain ⟨p, rfl, hc2⟩ := ptrB_true.1 hc1
  rw [eS_eq] at hc2
  unfold snextR at hc2
  rw [bQ_true, getQ_eq] at hc2
  obtain ⟨o, h1, h2⟩ := hc2
  cases o with
  | cells => cases h2
  | loop => cases h2
  | ro => cases h2
  | map => cases h2
  | iter s pos =>
    obtain ⟨o', h3, h4⟩ := hr.heap _ _ h1
    cases h4
    have h2 : thenB (Nat.beq p.off 0) (ifB (Nat.blt pos s.data.toList.length) (snext2 s pos c p.block q.h q.n q.lg) (c (.tuple #[.bool false]) (.mk q.h q.n ((p.block, false) :: q.lg)))) = true := h2
    obtain ⟨g1, g2⟩ := thenB_true.1 h2
    rw [ifB_eq] at g2
    cases hl : Nat.blt pos s.data.toList.length with
    | true =>
      rw [hl, if_pos rfl] at g2
      unfold snext2 at g2
      rw [forceN_eq, forceN_eq] at g2
      refine ⟨_, _, _, ?_, hr.put (b := p.block) (BRel.iter (s := s) (p := pos + (decA s pos).2)) (log := (p.block, true) :: (p.block, false) :: S.log) (by rw [hr.log]), g2⟩
      simp only [exec, M.bind, M.lift, evA_ok he hv, rd, h3, g1, hl, wr]
      rfl
    | false =>
      rw [hl, if_neg (by simp)] at g2
      refine ⟨_, _, _, ?_, hr.saw p.block, g2⟩
      simp only [exec, M.bind, M.lift, evA_ok he hv, rd, h3, g1, hl]
      rfl

/-! ## Calls -/
def CallOkQ (cq : Call) (call : Tgt → List Value → M Value) : Prop := ∀ t args q S, SRel q S → Ok (cq t args q) (call t args) S
theorem tgt_ok (hcall : CallOkQ cq call) (hr : SRel q S) {l : List Value} {f : Fn} {first captured : Array Value} : ∀ c, tgtQ cq l q c f first captured = true → ∃ t, target (.func f first captured) l = some t ∧ ∃ v S' S2, call t.1 t.2 S = some (v, S') ∧ SRel S2 S' ∧ c v S2 = true := by
  intro c hc
  unfold tgtQ at hc
  split at hc
  · exact ⟨_, rfl, hcall _ _ _ _ hr _ hc⟩
  · exact ⟨_, rfl, hcall _ _ _ _ hr _ hc⟩
  · cases hc
theorem call_ok (hcall : CallOkQ cq call) (he : ERel qe e) (hr : SRel q S) (f : Atom) (args : List Atom) : Ok (execQ (.call f args) cq qe q) (exec call e (.call f args)) S := by
  intro c hc
  obtain ⟨g, hg, hc1⟩ := bB_true.1 hc
  obtain ⟨l, hl, hc2⟩ := bLB_true.1 hc1
  obtain ⟨f, a, b, rfl, hc3⟩ := eFuncB_true.1 hc2
  obtain ⟨t, h1, v, S1, S2, h2, h3, h4⟩ := tgt_ok hcall hr _ hc3
  refine ⟨v, S1, S2, ?_, h3, h4⟩
  simp only [exec, M.bind, M.lift, evA_ok he hg, evL_ok he hl, h1, h2]
  rfl
theorem exec_ok (hcall : CallOkQ cq call) (he : ERel qe e) (hr : SRel q S) (op : AOp) : Ok (execQ op cq qe q) (exec call e op) S := by
  cases op with
  | mov a => exact mov_ok he hr a
  | pick c a b => exact pick_ok he hr c a b
  | bin op a b => exact bin_ok he hr op a b
  | eq n k a b => exact eq_ok he hr n k a b
  | un op a => exact un_ok he hr op a
  | conv k a => exact conv_ok he hr k a
  | alloc t z => exact alloc_ok hr t z
  | box t a => exact box_ok he hr t a
  | build z p => exact build_ok he hr z p
  | bslice t n z p => exact bsl_ok he hr t n z p
  | load sh a => exact load_ok he hr sh a
  | store n a v => exact store_ok he hr n a v
  | nilchk a => exact nil_ok he hr a
  | mkslice t s b z l c => exact mks_ok he hr t s b z l c
  | slcS x l h => exact slS_ok he hr x l h
  | slc s x l h m => exact slc_ok he hr s x l h m
  | slcA n s x l h m => exact slA_ok he hr n s x l h m
  | fldA o a => exact fldA_ok he hr o a
  | fld sh o a => exact fld_ok he hr sh o a
  | ixA s a i => exact ixA_ok he hr s a i
  | ixAA n s a i => exact ixAA_ok he hr n s a i
  | ix n s sh a i => exact ix_ok he hr n s sh a i
  | ixS a i => exact ixS_ok he hr a i
  | mkfn f l r => exact mkf_ok he hr f l r
  | mkif t a => exact mki_ok he hr t a
  | ext a i => exact ext_ok he hr a i
  | call f args => exact call_ok hcall he hr f args
  | app s b t x y => exact app_ok he hr s b t x y
  | appZ s b t z x y => exact appZ_ok he hr s b t z x y
  | len k a => exact len_ok he hr k a
  | mkmap h => exact mkm_ok he hr h
  | mget kk ok z m k => exact mget_ok he hr kk ok z m k
  | mset kk m k v => exact mset_ok he hr kk m k v
  | mdel kk m k => exact mdel_ok he hr kk m k
  | ment kk z m k => exact ment_ok he hr kk z m k
  | mfill m s v => exact mfill_ok he hr m s v
  | srange a => exact srg_ok he hr a
  | snext a => exact snx_ok he hr a
  | cap a => exact cap_ok he hr a
  | copy s d x => exact copy_ok he hr s d x
  | clear z a => exact clr_ok he hr z a
  | max l => exact max_ok he hr l
  | min l => exact min_ok he hr l
  | panic => intro c hc; cases hc
end Go.Wb.Q
end
/- The engine, part Q7: the quick evaluator's code and calls: what it finds true is so. -/
section
set_option linter.unusedSimpArgs false
set_option linter.unusedVariables false
set_option autoImplicit false
namespace Go.Wb.Q
variable {qe : QE} {e : Env} {call : Tgt → List Value → M Value} {cq : Call} {q : QS} {S : St}

/-- as Ok, of environments -/
def OkE (f : KE → Bool) (m : M Env) (S : St) : Prop := ∀ c, f c = true → ∃ e' S' qe' S2, m S = some (e', S') ∧ SRel S2 S' ∧ ERel qe' e' ∧ c qe' S2 = true
/-- as Ok, of code -/
def OkX (f : KX → Bool) (m : M (Ext × Env)) (S : St) : Prop := ∀ c, f c = true → ∃ x e' S' qe' S2, m S = some ((x, e'), S') ∧ SRel S2 S' ∧ ERel qe' e' ∧ c x qe' S2 = true

theorem wantedQ_true {want : Bool} {v : Value} {yes no : Bool} (h : wantedQ want v yes no = true) : ∃ b, wanted want v = some b ∧ (if b then yes else no) = true := by
  unfold wantedQ at h
  split at h
  · rename_i b
    rw [ifB_eq] at h
    refine ⟨b == want, rfl, ?_⟩
    have : eqB b want = (b == want) := by cases b <;> cases want <;> rfl
    rw [← this]; exact h
  · exact ⟨false, rfl, h⟩
  · cases h
theorem instr_ok (hcall : CallOkQ cq call) (he : ERel qe e) (hr : SRel q S) (i : AInstr) : OkE (instrQ i cq qe q) (instr call i e) S := by
  intro c hc
  obtain ⟨d, g, op⟩ := i
  have plain : ∀ {c : KE}, execQ op cq qe q (contI d qe c) = true → ∃ e' S' qe' S2, (M.bind (exec call e op) fun v => M.pure (putD e d v)) S = some (e', S') ∧ SRel S2 S' ∧ ERel qe' e' ∧ c qe' S2 = true := by
    intro c h
    obtain ⟨v, S1, S2, h1, h2, h3⟩ := exec_ok hcall he hr op _ h
    exact ⟨putD e d v, S1, putE d qe v, S2, by simp only [M.bind, h1]; rfl, h2, he.putD d v, h3⟩
  cases g with
  | none => exact plain hc
  | some g =>
    obtain ⟨t, want⟩ := g
    obtain ⟨v, hv, hc1⟩ := bB_true.1 hc
    obtain ⟨b, h1, h2⟩ := wantedQ_true hc1
    have hv : e.get t = some v := he _ _ hv
    cases b with
    | true =>
      obtain ⟨e', S1, qe', S2, k1, k2⟩ := plain h2
      refine ⟨e', S1, qe', S2, ?_, k2⟩
      simp only [instr, M.bind, M.lift, hv, Option.bind_some, h1, if_true] at k1 ⊢
      exact k1
    | false =>
      refine ⟨putD e d undef, S, putE d qe undef, q, ?_, hr, he.putD d undef, h2⟩
      simp only [instr, M.bind, M.lift, hv, Option.bind_some, h1]
      rfl
theorem instrs_ok (hcall : CallOkQ cq call) : ∀ (l : List AInstr) {qe : QE} {e : Env} {q : QS} {S : St}, ERel qe e → SRel q S → OkE (instrsQ l cq qe q) (instrs call l e) S
  | [], qe, e, q, S, he, hr => fun c hc => ⟨e, S, qe, q, rfl, hr, he, hc⟩
  | i :: l, qe, e, q, S, he, hr => fun c hc => by
    obtain ⟨e1, S1, qe1, q1, h1, h2, h3, h4⟩ := instr_ok hcall he hr i _ hc
    obtain ⟨e2, S2, qe2, q2, k1, k2, k3, k4⟩ := instrs_ok hcall l h3 h2 c h4
    exact ⟨e2, S2, qe2, q2, by simp only [instrs, M.bind, h1, k1], k2, k3, k4⟩
theorem drawnGo_ok (hcall : CallOkQ cq call) (ms : List Nat) : ∀ (l : List AInstr) (j : Nat) (ts : List (Nat × Touch)) {qe : QE} {e : Env} {q : QS} {S : St}, ERel qe e → SRel q S →
    OkE (drawnQ ms l j ts cq qe q) ((drawnGo call l j e ts).bind fun r => if apartAll ms r.2 then M.pure r.1 else M.fail) S
  | [], j, ts, qe, e, q, S, he, hr => fun c hc => by
    obtain ⟨h1, h2⟩ := thenB_true.1 hc
    exact ⟨e, S, qe, q, by simp only [drawnGo, M.bind, M.pure, h1, if_true], hr, he, h2⟩
  | i :: l, j, ts, qe, e, q, S, he, hr => fun c hc => by
    have hc : eS (consD1 i j ts (drawnQ ms l) cq qe c) q = true := hc
    rw [eS_eq] at hc
    have hr0 : SRel (.mk q.h q.n []) { heap := S.heap, next := S.next, log := [] } := ⟨hr.heap, hr.next, rfl⟩
    obtain ⟨e1, S1, qe1, q1, h1, h2, h3, h4⟩ := instr_ok hcall he hr0 i _ hc
    simp only [consD2, eS_eq] at h4
    have hr1 : SRel (.mk q1.h q1.n (q1.lg ++ q.lg)) { heap := S1.heap, next := S1.next, log := S1.log ++ S.log } := ⟨h2.heap, h2.next, by simp only [h2.log, hr.log]⟩
    obtain ⟨e2, S2, qe2, q2, k1, k2, k3, k4⟩ := drawnGo_ok hcall ms l (j + 1) _ h3 hr1 c h4
    refine ⟨e2, S2, qe2, q2, ?_, k2, k3, k4⟩
    rw [h2.log, h2.next, hr.next] at k1
    simp only [drawnGo, M.bind, h1] at k1 ⊢
    exact k1
theorem eExt_ok {k : KX} {yes : QE → QS → Bool} {x : Ext} : eExt k yes x = match x with | .normal => yes | x => k x := by cases x <;> rfl
theorem blockK_ok {id : Nat} {c : KX} {x : Ext} {qe : QE} {q : QS} (h : blockK id c x qe q = true) : (match x with
    | .exit i => if i = id then c .normal qe q else c (.exit i) qe q
    | x => c x qe q) = true := by
  cases x with
  | normal => exact h
  | ret => exact h
  | exit i =>
    have h : ifB (Nat.beq i id) (c .normal qe q) (c (.exit i) qe q) = true := h
    rw [ifB_eq] at h
    simp only
    by_cases e : i = id
    · subst e; simpa using h
    · rw [if_neg e]
      rw [if_neg (by intro k; exact e (Nat.eq_of_beq_eq_true k))] at h
      exact h
theorem iter_ok {body : QE → QS → KX → Bool} {m : Env → M (Ext × Env)} (hb : ∀ {qe : QE} {e : Env} {q : QS} {S : St}, ERel qe e → SRel q S → OkX (body qe q) (m e) S) :
    ∀ (n : Nat) {qe : QE} {e : Env} {q : QS} {S : St}, ERel qe e → SRel q S → OkX (iterQ body n qe q) (iter m n e) S
  | 0, qe, e, q, S, he, hr => fun c hc => by cases hc
  | n + 1, qe, e, q, S, he, hr => fun c hc => by
    obtain ⟨x, e1, S1, qe1, q1, h1, h2, h3, h4⟩ := hb he hr _ hc
    rw [eExt_ok] at h4
    cases x with
    | normal =>
      obtain ⟨x2, e2, S2, qe2, q2, k1, k2, k3, k4⟩ := iter_ok hb n h3 h2 c h4
      exact ⟨x2, e2, S2, qe2, q2, by simp only [iter, M.bind, h1]; exact k1, k2, k3, k4⟩
    | exit i => exact ⟨_, e1, S1, qe1, q1, by simp only [iter, M.bind, h1]; rfl, h2, h3, h4⟩
    | ret => exact ⟨_, e1, S1, qe1, q1, by simp only [iter, M.bind, h1]; rfl, h2, h3, h4⟩
theorem eLoop_true {o : QB} {f : List Nat → ACode → ACode → QE → Option Ext → Bool} (h : eLoop o f = true) : ∃ ps as bd e p, o = .loop ps as bd e p ∧ f ps as bd e p = true := by
  cases o with
  | cells => cases h
  | map => cases h
  | ro => cases h
  | iter => cases h
  | loop ps as bd e p => exact ⟨_, _, _, _, _, rfl, h⟩
theorem SRel.loop (h : SRel q S) {b : Nat} {ps : List Nat} {as bd : ACode} {qe : QE} {p : Option Ext} (k : q.h.get b = some (.loop ps as bd qe p)) : ∃ e, S.heap.get b = some (.loop ps as bd e p) ∧ ERel qe e := by
  obtain ⟨o', h1, h2⟩ := h.heap _ _ k
  cases h2 with
  | loop he => exact ⟨_, h1, he⟩
theorem run_ok (hcall : CallOkQ cq call) (fuel : Nat) : ∀ (code : ACode) {qe : QE} {e : Env} {q : QS} {S : St}, ERel qe e → SRel q S → OkX (runQ code cq fuel qe q) (run call fuel code e) S
  | .skip, qe, e, q, S, he, hr => fun c hc => ⟨_, e, S, qe, q, rfl, hr, he, hc⟩
  | .exit id, qe, e, q, S, he, hr => fun c hc => ⟨_, e, S, qe, q, rfl, hr, he, hc⟩
  | .ret, qe, e, q, S, he, hr => fun c hc => ⟨_, e, S, qe, q, rfl, hr, he, hc⟩
  | .ops l, qe, e, q, S, he, hr => fun c hc => by
    obtain ⟨e1, S1, qe1, q1, h1, h2, h3, h4⟩ := instrs_ok hcall l he hr _ hc
    exact ⟨_, e1, S1, qe1, q1, by simp only [run, M.bind, h1]; rfl, h2, h3, h4⟩
  | .drawn l ms, qe, e, q, S, he, hr => fun c hc => by
    obtain ⟨e1, S1, qe1, q1, h1, h2, h3, h4⟩ := drawnGo_ok hcall ms l 0 [] he hr _ hc
    refine ⟨_, e1, S1, qe1, q1, ?_, h2, h3, h4⟩
    have h1 : drawnA call l ms e S = some (e1, S1) := h1
    simp only [run, M.bind, h1]; rfl
  | .seq a b, qe, e, q, S, he, hr => fun c hc => by
    obtain ⟨x, e1, S1, qe1, q1, h1, h2, h3, h4⟩ := run_ok hcall fuel a he hr _ hc
    rw [eExt_ok] at h4
    cases x with
    | normal =>
      obtain ⟨x2, e2, S2, qe2, q2, k1, k2, k3, k4⟩ := run_ok hcall fuel b h3 h2 c h4
      exact ⟨x2, e2, S2, qe2, q2, by simp only [run, M.bind, h1]; exact k1, k2, k3, k4⟩
    | exit i => exact ⟨_, e1, S1, qe1, q1, by simp only [run, M.bind, h1]; rfl, h2, h3, h4⟩
    | ret => exact ⟨_, e1, S1, qe1, q1, by simp only [run, M.bind, h1]; rfl, h2, h3, h4⟩
  | .cond t a b, qe, e, q, S, he, hr => fun c hc => by
    obtain ⟨v, hv, hc1⟩ := bB_true.1 hc
    obtain ⟨y, rfl, hc2⟩ := eBoolB_true.1 hc1
    rw [ifB_eq] at hc2
    cases y with
    | true =>
      obtain ⟨x, e1, S1, qe1, q1, h1, h2, h3, h4⟩ := run_ok hcall fuel a he hr c hc2
      exact ⟨x, e1, S1, qe1, q1, by simp only [run, M.bind, M.lift, evA_ok he hv, Option.bind_some, asBool]; exact h1, h2, h3, h4⟩
    | false =>
      obtain ⟨x, e1, S1, qe1, q1, h1, h2, h3, h4⟩ := run_ok hcall fuel b he hr c hc2
      exact ⟨x, e1, S1, qe1, q1, by simp only [run, M.bind, M.lift, evA_ok he hv, Option.bind_some, asBool]; exact h1, h2, h3, h4⟩
  | .block id a, qe, e, q, S, he, hr => fun c hc => by
    obtain ⟨x, e1, S1, qe1, q1, h1, h2, h3, h4⟩ := run_ok hcall fuel a he hr _ hc
    have h4 := blockK_ok h4
    cases x with
    | normal => exact ⟨_, e1, S1, qe1, q1, by simp only [run, M.bind, h1]; rfl, h2, h3, h4⟩
    | ret => exact ⟨_, e1, S1, qe1, q1, by simp only [run, M.bind, h1]; rfl, h2, h3, h4⟩
    | exit i =>
      simp only at h4
      by_cases hi : i = id
      · rw [if_pos hi] at h4
        exact ⟨_, e1, S1, qe1, q1, by simp only [run, M.bind, h1, if_pos hi]; rfl, h2, h3, h4⟩
      · rw [if_neg hi] at h4
        exact ⟨_, e1, S1, qe1, q1, by simp only [run, M.bind, h1, if_neg hi]; rfl, h2, h3, h4⟩
  | .loop a, qe, e, q, S, he, hr => iter_ok (body := runQ a cq fuel) (m := run call fuel a) (fun he hr => run_ok hcall fuel a he hr) fuel he hr
  | .range f ps as bd, qe, e, q, S, he, hr => fun c hc => by
    obtain ⟨g, hg, hc1⟩ := bB_true.1 hc
    obtain ⟨l, S1, q1, h1, h2, h3⟩ := nwQ_ok hr (BRel.loop (ps := ps) (as := as) (bd := bd) (p := none) he) _ hc1
    obtain ⟨f', a', b', rfl, h4⟩ := eFuncB_true.1 h3
    obtain ⟨t, k1, v, S2, q2, k2, k3, k4⟩ := tgt_ok hcall h2 _ h4
    simp only [rangeEnd, eS_eq, rangeEnd1] at k4
    obtain ⟨o, m1, m2⟩ := bQ_true.1 k4
    rw [getQ_eq] at m1
    obtain ⟨ps', as', bd', qe', p', rfl, m3⟩ := eLoop_true m2
    obtain ⟨e', m4, m5⟩ := k3.loop m1
    have m6 : SRel (mkS q2.h l none q2.n ((l, true) :: (l, false) :: q2.lg)) { heap := S2.heap.set l none, next := S2.next, log := (l, true) :: (l, false) :: S2.log } := k3.kill (by rw [k3.log])
    cases p' with
    | none => exact ⟨_, e, _, qe, _, by simp only [run, M.bind, M.lift, evA_ok he hg, h1, k1, k2, rd, m4, wr]; rfl, m6, he, m3⟩
    | some x => exact ⟨x, e, _, qe, _, by simp only [run, M.bind, M.lift, evA_ok he hg, h1, k1, k2, rd, m4, wr]; rfl, m6, he, m3⟩

/-! ## Results and arguments -/
theorem res_ok (he : ERel qe e) (hr : SRel q S) (r : ARes) : Ok (resQ r qe q) (resV e r) S := by
  intro c hc
  cases r with
  | tmp t =>
    obtain ⟨v, h1, h2⟩ := fin_true.1 hc
    exact ⟨v, S, q, by simp only [resV, M.lift, he _ _ h1], hr, h2⟩
  | cell t sh =>
    obtain ⟨v, hv, hc1⟩ := bB_true.1 hc
    obtain ⟨p, rfl, hc2⟩ := ptrB_true.1 hc1
    cases sh with
    | one =>
      obtain ⟨w, S1, S2, h1, h2, h3⟩ := ld1Q_ok hr p.block p.off c hc2
      exact ⟨w, S1, S2, by simp only [resV, M.bind, M.lift, he _ _ hv, h1], h2, h3⟩
    | agg n =>
      obtain ⟨w, S1, S2, h1, h2, h3⟩ := ldCQ_ok hr p.block p.off n (aggK c) hc2
      exact ⟨_, S1, S2, by simp only [resV, M.bind, M.lift, he _ _ hv, h1]; rfl, h2, h3⟩
theorem resAll_ok (he : ERel qe e) : ∀ (rs : List ARes) {q : QS} {S : St}, SRel q S → Ok (resAllQ rs qe q) (resAll e rs) S
  | [], q, S, hr => fun c hc => ⟨[], S, q, rfl, hr, hc⟩
  | r :: rs, q, S, hr => fun c hc => by
    obtain ⟨v, S1, q1, h1, h2, h3⟩ := res_ok he hr r _ hc
    obtain ⟨l, S2, q2, k1, k2, k3⟩ := resAll_ok he rs h2 _ h3
    exact ⟨v :: l, S2, q2, by simp only [resAll, M.bind, h1, k1]; rfl, k2, k3⟩
theorem args_ok : ∀ (l : List Value) (i : Nat) {qe : QE} {e : Env}, ERel qe e → ERel (argsQ l i qe) (argsEnv l i e)
  | [], i, qe, e, h => h
  | v :: l, i, qe, e, h => args_ok l (i + 1) (h.set i v)
theorem zip_ok : ∀ (ps : List Nat) (l : List Value) {qe qe' : QE} {e : Env}, ERel qe e → zipQ ps l qe = some qe' → l.length = ps.length ∧ ERel qe' (zipSet ps l e)
  | [], [], qe, qe', e, h, k => by cases k; exact ⟨rfl, h⟩
  | [], v :: l, qe, qe', e, h, k => by cases k
  | p :: ps, [], qe, qe', e, h, k => by cases k
  | p :: ps, v :: l, qe, qe', e, h, k => by
    obtain ⟨h1, h2⟩ := zip_ok ps l (h.set p v) k
    exact ⟨by simp [h1], h2⟩
theorem tup_ok {c : KV} {l : List Value} (h : tupQ c l q = true) : ∃ v, (match l with | [v] => M.pure v | vs => M.pure (.tuple vs.toArray) : M Value) S = some (v, S) ∧ c v q = true := by
  cases l with
  | nil => exact ⟨_, rfl, h⟩
  | cons a r => cases r with
    | nil => exact ⟨_, rfl, h⟩
    | cons b r => exact ⟨_, rfl, h⟩
theorem chk_ok (hr : SRel q S) (own : Bool) (b : Nat) {c : QS → Bool} (h : chkQ own b q c = true) : ∃ S' q', chkS own b S = some ((), S') ∧ SRel q' S' ∧ c q' = true := by
  unfold chkQ at h
  rw [eS_eq] at h
  obtain ⟨x, s, n, t, g1, h2⟩ := atC_true.1 h
  rw [ifB_eq] at h2
  cases s with
  | true => cases h2
  | false =>
    obtain ⟨h3, h4⟩ := thenB_true.1 h2
    obtain ⟨cs, k1, _⟩ := hr.cells g1
    refine ⟨_, _, ?_, (⟨hr.heap, hr.next, by simp only [hr.log]⟩ : SRel (.mk q.h q.n ((b, false) :: q.lg)) { heap := S.heap, next := S.next, log := (b, false) :: S.log }), h4⟩
    cases x with
    | some z => simp only [chkS, M.bind, rd, k1]; rfl
    | none =>
      cases own with
      | true => cases h3
      | false => simp only [chkS, M.bind, rd, k1]; rfl
theorem chkC_ok (hr : SRel q S) (size : Nat) (base : Option Addr) {c : QS → Bool} (h : chkCQ size base q c = true) : ∃ S' q', chkC size base S = some ((), S') ∧ SRel q' S' ∧ c q' = true := by
  cases base with
  | none => exact ⟨S, q, rfl, hr, h⟩
  | some a =>
    unfold chkCQ at h
    dsimp only at h
    rw [eS_eq] at h
    obtain ⟨x, s, n, t, g1, h2⟩ := atC_true.1 h
    obtain ⟨h3, h4⟩ := thenB_true.1 h2
    have h3 := extOk_true h3
    obtain ⟨cs, k1, _⟩ := hr.cells g1
    refine ⟨_, _, ?_, (⟨hr.heap, hr.next, by simp only [hr.log]⟩ : SRel (.mk q.h q.n ((a.block, false) :: q.lg)) { heap := S.heap, next := S.next, log := (a.block, false) :: S.log }), h4⟩
    simp only [chkC, M.bind, rd, k1, if_pos h3]
    rfl
theorem ins_ok (hr : SRel q S) (size bytes : Nat) (base : Option Addr) (n cap i : Nat) (xb : Option Addr) (xc : Nat) : Ok (insQ size bytes base n cap i xb xc q) (insA size bytes base n cap i xb xc) S := by
  intro c hc
  unfold insQ at hc
  obtain ⟨h1, hc2⟩ := thenB_true.1 hc
  clear hc
  have h1 : n ≤ cap := Nat.le_of_ble_eq_true h1
  rw [ifB_eq] at hc2
  by_cases hi : i = n
  · subst hi
    rw [if_pos (by simp)] at hc2
    obtain ⟨S1, q1, j1, j2, hc3⟩ := chkC_ok hr size base hc2
    obtain ⟨v, S', q', k1, k2, k3⟩ := appQ_ok (firstQ_ok j2 size 1 (.slice xb 1 xc)) c hc3
    refine ⟨v, S', q', ?_, k2, k3⟩
    have hcond : ((0 : Int) ≤ (i : Nat) ∧ ((i : Nat) : Int) ≤ (i : Nat) ∧ i ≤ cap) := ⟨by omega, by omega, h1⟩
    have hm : lenOf (.slice xb 1 xc) = some 1 := rfl
    unfold insA
    rw [if_pos hcond, if_pos rfl]
    simp only [M.bind, j1]
    simp only [appendA, hm, lift_bind]
    exact k1
  · rw [if_neg (by intro k; exact hi (Nat.eq_of_beq_eq_true k))] at hc2
    obtain ⟨h2, hc3⟩ := thenB_true.1 hc2
    clear hc2
    have h2 : i ≤ n := Nat.le_of_ble_eq_true h2
    have hcond : ((0 : Int) ≤ (i : Nat) ∧ ((i : Nat) : Int) ≤ (n : Nat) ∧ n ≤ cap) := ⟨by omega, by omega, h1⟩
    have hne : ¬ ((i : Nat) : Int) = (n : Nat) := by omega
    split at hc3
    · rename_i a b
      rw [ifB_eq] at hc3
      by_cases hab : a.block = b.block
      · rw [if_pos (by simp [hab])] at hc3; cases hc3
      · rw [if_neg (by intro k; exact hab (Nat.eq_of_beq_eq_true k))] at hc3
        obtain ⟨S1, q1, k1, k2, hc4⟩ := chk_ok hr false b.block hc3
        obtain ⟨S2, q2, k3, k4, hc5⟩ := chk_ok k2 true a.block hc4
        unfold ins3 at hc5
        obtain ⟨hg, hc6⟩ := thenB_true.1 hc5
        have hand : ∀ x y : Bool, andB2 x y = true → x = true ∧ y = true := by intro x y h; cases x <;> cases y <;> first | exact ⟨rfl, rfl⟩ | cases h
        obtain ⟨g1, g2⟩ := hand _ _ hg
        obtain ⟨g2, g3⟩ := hand _ _ g2
        have g1 := Nat.eq_of_beq_eq_true g1
        have g2 := blt_lt g2
        have g3 := blt_lt g3
        have hs : Ok (fun k => ldCQ b.block b.off size q2 fun l S => ldCQ a.block (a.off + i * size) ((n - i) * size) S fun r S => k (l ++ r) S)
            ((ldCells b.block b.off size).bind fun l => (ldCells a.block (a.off + i * size) ((n - i) * size)).bind fun r => M.pure (l ++ r)) S2 := by
          intro k hk
          obtain ⟨l, S3, q3, m1, m2, m3⟩ := ldCQ_ok k4 _ _ _ _ hk
          obtain ⟨r, S4, q4, m4, m5, m6⟩ := ldCQ_ok m2 _ _ _ _ m3
          exact ⟨l ++ r, S4, q4, by simp only [M.bind, m1, m4]; rfl, m5, m6⟩
        obtain ⟨v, S', q', j1, j2, j3⟩ := appQ_ok (bytes := bytes) (sLen := i) (sCap := cap) (n := n + 1 - i) (size := size) (base := some a) hs c hc6
        refine ⟨v, S', q', ?_, j2, j3⟩
        have hcnd : a.off = 0 ∧ size ≠ 0 ∧ n + 1 < 4611686018427387904 := ⟨g1, by omega, g3⟩
        unfold insA
        rw [if_pos hcond, if_neg hne]
        dsimp only
        rw [if_pos hab]
        simp only [M.bind, k1, k3, Int.toNat_natCast]
        unfold insG
        rw [if_pos hcnd]
        exact j1
    · cases hc3
theorem extA_ok (hr : SRel q S) (k : XK) (args : List Value) : Ok (extQ k args q) (extA k args) S := by
  intro c hc
  unfold extQ at hc
  split at hc
  · exact ⟨_, S, q, rfl, hr, hc⟩
  · rw [forceN_eq] at hc
    exact ⟨_, S, q, rfl, hr, hc⟩
  · exact ⟨_, S, q, rfl, hr, hc⟩
  · rename_i a n cp sep
    rw [ifB_eq, ifB_eq] at hc
    cases hb1 : Nat.blt cp n with
    | true => rw [hb1, if_pos rfl] at hc; cases hc
    | false =>
      cases hb2 : Nat.blt 140737488355328 n with
      | true => rw [hb1, hb2, if_neg (by simp), if_pos rfl] at hc; cases hc
      | false =>
        rw [hb1, hb2, if_neg (by simp), if_neg (by simp)] at hc
        have hn0 : ¬ (cp < n ∨ 140737488355328 < n) := by
          rintro (k | k)
          · rw [← Nat.blt_eq, hb1] at k; cases k
          · rw [← Nat.blt_eq, hb2] at k; cases k
        obtain ⟨cs, S1, q1, k1, k2, k3⟩ := ldCQ_ok hr a.block a.off n _ hc
        cases hl : strsOf cs with
        | none => rw [hl] at k3; cases k3
        | some l =>
          rw [hl] at k3
          have k3 : ifB (Nat.blt 140737488355328 (joinB sep l).data.toList.length) false (c (.string (joinB sep l)) q1) = true := k3
          rw [ifB_eq] at k3
          cases hb : Nat.blt 140737488355328 (joinB sep l).data.toList.length with
          | true => rw [hb, if_pos rfl] at k3; cases k3
          | false =>
            rw [hb, if_neg (by simp)] at k3
            have hn : ¬ 140737488355328 < (joinB sep l).data.toList.length := by
              intro k; rw [← Nat.blt_eq, hb] at k; cases k
            refine ⟨_, S1, q1, ?_, k2, k3⟩
            simp only [extA, if_neg hn0, M.bind, M.lift, k1, hl, if_neg hn]
            rfl
  · rename_i off k1 k2 v1 v2 p s
    obtain ⟨u, S1, q1, k1', k2', k3⟩ := stCQ_ok hr p.block (p.off + off) [.int .u32 (swV k1 k2 v1 v2 s)] (fun _ S => lookQ p.block S fun _ S => ifB (decide (swV k1 k2 v1 v2 s > 0)) (c (.bool true) S) (c (.bool false) S)) hc
    obtain ⟨x, s', cs, g1, g2⟩ := lookQ_ok k2' p.block k3
    rw [ifB_eq] at g2
    refine ⟨.bool (decide (swV k1 k2 v1 v2 s > 0)), _, _, ?_, k2'.saw p.block, ?_⟩
    · simp only [extA, M.bind, k1', rd, g1]
      rfl
    · cases hd : decide (swV k1 k2 v1 v2 s > 0) with
      | true => rw [hd, if_pos rfl] at g2; exact g2
      | false => rw [hd, if_neg (by simp)] at g2; exact g2
  · rename_i size a la ca b lb cb
    split at hc
    · rename_i a b
      rw [ifB_eq] at hc
      by_cases h1 : la = 0
      · rw [if_pos (by simp [h1])] at hc
        exact ⟨_, S, q, by simp only [extA, h1, true_or, if_true]; rfl, hr, hc⟩
      rw [if_neg (by intro k; exact h1 (Nat.eq_of_beq_eq_true k)), ifB_eq] at hc
      by_cases h2 : lb = 0
      · rw [if_pos (by simp [h2])] at hc
        exact ⟨_, S, q, by simp only [extA, h2, true_or, or_true, if_true]; rfl, hr, hc⟩
      rw [if_neg (by intro k; exact h2 (Nat.eq_of_beq_eq_true k)), ifB_eq] at hc
      by_cases h3 : size = 0
      · rw [if_pos (by simp [h3])] at hc
        exact ⟨_, S, q, by simp only [extA, h3, or_true, if_true]; rfl, hr, hc⟩
      rw [if_neg (by intro k; exact h3 (Nat.eq_of_beq_eq_true k)), eS_eq] at hc
      obtain ⟨x, s, n, t, g1, hc2⟩ := atC_true.1 hc
      obtain ⟨x', s', n', t', g2, hc3⟩ := atC_true.1 hc2
      rw [ifB_eq, ifB_eq] at hc3
      cases s with
      | true => cases hc3
      | false =>
        cases s' with
        | true => cases hc3
        | false =>
          obtain ⟨cs, k1, _⟩ := hr.cells g1
          obtain ⟨cs', k2, _⟩ := hr.cells g2
          refine ⟨_, _, _, ?_, (⟨hr.heap, hr.next, by simp only [hr.log]⟩ : SRel (.mk q.h q.n ((b.block, false) :: (a.block, false) :: q.lg)) { heap := S.heap, next := S.next, log := (b.block, false) :: (a.block, false) :: S.log }), hc3⟩
          have hb : ∀ x y : Bool, andB2 x y = (x && y) := by intro x y; cases x <;> rfl
          have hl : ∀ x y : Nat, Nat.blt x y = decide (x < y) := by intro x y; rw [Bool.eq_iff_iff, Nat.blt_eq, decide_eq_true_iff]
          have he : ∀ x y : Nat, Nat.beq x y = (x == y) := by intro x y; rw [Bool.eq_iff_iff, Nat.beq_eq, beq_iff_eq]
          simp only [extA, h1, h2, h3, or_self, if_false, M.bind, rd, k1, k2, hb, hl, he, Bool.and_assoc]
          rfl
    · rename_i hne
      refine ⟨_, S, q, ?_, hr, hc⟩
      cases a with
      | none => rfl
      | some a =>
        cases b with
        | none => rfl
        | some b => exact absurd rfl (hne a b rfl)
  · rename_i size bytes s i xb xc
    rw [ifB_eq] at hc
    split at hc
    · rename_i ht
      have ht := isTok_true ht
      subst ht
      obtain ⟨h1, h2⟩ := thenB_true.1 hc
      obtain rfl := Nat.eq_of_beq_eq_true h1
      exact tokApp_ok hr size bytes (.slice xb 1 xc) c h2
    · obtain ⟨base, n, cap, rfl, h2⟩ := eSlB_true.1 hc
      exact ins_ok hr size bytes base n cap i xb xc c h2
  · cases hc
theorem endGo_ok {rs : List ARes} {c : KV} {x : Ext} (he : ERel qe e) (hr : SRel q S) (h : endGo rs c x qe q = true) : ∃ v S' q', (match x with
          | .exit _ => M.fail
          | _ => (resAll e rs).bind fun vs => match vs with
            | [v] => M.pure v
            | vs => M.pure (.tuple vs.toArray) : M Value) S = some (v, S') ∧ SRel q' S' ∧ c v q' = true := by
  cases x with
  | exit i => cases h
  | normal =>
    obtain ⟨l, S1, q1, h1, h2, h3⟩ := resAll_ok he rs hr _ h
    obtain ⟨v, k1, k2⟩ := tup_ok (S := S1) h3
    exact ⟨v, S1, q1, by simp only [M.bind, h1]; exact k1, h2, k2⟩
  | ret =>
    obtain ⟨l, S1, q1, h1, h2, h3⟩ := resAll_ok he rs hr _ h
    obtain ⟨v, k1, k2⟩ := tup_ok (S := S1) h3
    exact ⟨v, S1, q1, by simp only [M.bind, h1]; exact k1, h2, k2⟩
theorem callQ_ok (F : Nat → Option AFn) : ∀ d, CallOkQ (callQ F d) (callN F d) := by
  intro d
  induction d with
  | zero => intro t args q S hr c hc; cases hc
  | succ d ih =>
    intro t args q S hr c hc
    cases t with
    | fn f =>
      have hc : @Option.rec AFn (fun _ => Bool) false (@AFn.rec (fun _ => Bool) (goQ (callQ F d) d args q c) (fun k => extQ k args q c) (sumQ args q c)) (F f) = true := hc
      rcases hF : F f with _ | af | k | g
      · rw [hF] at hc; cases hc
      · rw [hF] at hc
        have hc : goQ (callQ F d) d args q c af = true := hc
        obtain ⟨h1, h2⟩ := thenB_true.1 hc
        have h1 := (lenIs_true _ _).1 h1
        obtain ⟨x, e1, S1, qe1, q1, k1, k2, k3, k4⟩ := run_ok ih d af.body (args_ok args 0 (ERel.nil .leaf)) hr _ h2
        obtain ⟨v, S2, q2, m1, m2, m3⟩ := endGo_ok k3 k2 k4
        exact ⟨v, S2, q2, by simp only [callN, hF, h1, if_true, M.bind, k1]; exact m1, m2, m3⟩
      · rw [hF] at hc
        obtain ⟨v, S1, q1, h1, h2, h3⟩ := extA_ok hr k args c hc
        exact ⟨v, S1, q1, by simp only [callN, hF]; exact h1, h2, h3⟩
      · rw [hF] at hc
        obtain ⟨v, h1, h2⟩ := fin_true.1 hc
        exact ⟨v, S, q, by simp only [callN, hF, M.lift, h1], hr, h2⟩
    | yield l =>
      have hc : eS (yieldR (callQ F d) d l args c) q = true := hc
      simp only [eS_eq, yieldR] at hc
      obtain ⟨o, h1, hc1⟩ := bQ_true.1 hc
      rw [getQ_eq] at h1
      obtain ⟨ps, as, bd, qe, p, rfl, hc2⟩ := eLoop_true hc1
      obtain ⟨e, k1, k2⟩ := hr.loop h1
      cases p with
      | some x => cases hc2
      | none =>
        have hc2 : (@Option.rec QE (fun _ => Bool) false (fun e2 => runQ as (callQ F d) d e2 (mkS q.h l none q.n ((l, true) :: (l, false) :: q.lg)) (assignY (callQ F d) d l ps as bd qe c)) (zipQ ps args qe)) = true := hc2
        cases hz : zipQ ps args qe with
        | none => rw [hz] at hc2; cases hc2
        | some qe2 =>
          rw [hz] at hc2
          obtain ⟨z1, z2⟩ := zip_ok ps args k2 hz
          have hk : SRel (mkS q.h l none q.n ((l, true) :: (l, false) :: q.lg)) { heap := S.heap.set l none, next := S.next, log := (l, true) :: (l, false) :: S.log } := hr.kill (by rw [hr.log])
          obtain ⟨x, e1, S1, qe1, q1, m1, m2, m3, m4⟩ := run_ok ih d as z2 hk _ hc2
          cases x with
          | exit i => cases m4
          | ret => cases m4
          | normal =>
            have m4 : runQ bd (callQ F d) d qe1 q1 (bodyY l ps as bd qe c) = true := m4
            obtain ⟨x2, e2, S2, qe2', q2, n1, n2, n3, n4⟩ := run_ok ih d bd m3 m2 _ m4
            have fini : ∀ (p : Option Ext) (b : Bool), endY l ps as bd qe c p b q2 = true → SRel (mkS q2.h l (some (.loop ps as bd qe p)) q2.n ((l, true) :: q2.lg)) { heap := S2.heap.set l (some (.loop ps as bd e p)), next := S2.next, log := (l, true) :: S2.log } ∧ c (.bool b) (mkS q2.h l (some (.loop ps as bd qe p)) q2.n ((l, true) :: q2.lg)) = true := by
              intro p b h
              simp only [endY, eS_eq] at h
              exact ⟨n2.put (BRel.loop k2) (by rw [n2.log]), h⟩
            cases x2 with
            | normal =>
              obtain ⟨f1, f2⟩ := fini none true n4
              exact ⟨_, _, _, by simp only [callN, M.bind, rd, k1, z1, if_true, wr, m1, n1]; rfl, f1, f2⟩
            | exit i =>
              obtain ⟨f1, f2⟩ := fini (some (.exit i)) false n4
              exact ⟨_, _, _, by simp only [callN, M.bind, rd, k1, z1, if_true, wr, m1, n1]; rfl, f1, f2⟩
            | ret =>
              obtain ⟨f1, f2⟩ := fini (some .ret) false n4
              exact ⟨_, _, _, by simp only [callN, M.bind, rd, k1, z1, if_true, wr, m1, n1]; rfl, f1, f2⟩

/-- what the quick evaluator finds true, the evaluator finds true -/
theorem runsTrue_callN {F : Nat → Option AFn} {d : Nat} {f : FuncId} {args : List Value} {m : Nat} (h : runsTrue F d f args m = true) : (callN F d (.fn f) args { heap := .leaf, next := m, log := [] }).map (·.1) = some (.bool true) := by
  have hr : SRel (startQ m) { heap := .leaf, next := m, log := [] } := ⟨fun b o h => by simp [startQ, Tr.get_leaf] at h, rfl, rfl⟩
  obtain ⟨v, S', q', h1, h2, h3⟩ := callQ_ok F d (.fn f) args _ _ hr _ h
  obtain ⟨b, rfl, h4⟩ := eBoolB_true.1 h3
  cases b with
  | false => cases h4
  | true => simp only [h1, Option.map_some]
end Go.Wb.Q
end
