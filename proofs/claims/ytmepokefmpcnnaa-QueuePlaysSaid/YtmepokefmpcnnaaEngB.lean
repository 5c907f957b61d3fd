/- The engine, part B: from the model's code to the code that is run. Definitions only. -/
import Derived.Test.YtmepokefmpcnnaaEngA
namespace Go.Wb

def plainF : Nat → Value → Bool
  | 0, _ => false
  | n + 1, v => match v with
    | .bool _ | .int _ _ | .string _ | .nilFunc | .nilIface | .pointer none | .map none => true
    | .slice none 0 0 => true
    | .func (.func _) f c => f.toList.all (plainF n) && c.toList.all (plainF n)
    | .agg cs => cs.toList.all (plainF n)
    | .tuple cs => cs.toList.all (plainF n)
    | .iface _ v => plainF n v
    | _ => false
def plain (v : Value) : Bool := plainF 6 v

def atom : Operand → Option Atom
  | .tmp t => some (.tmp t)
  | .const v => if plain v then some (.const v) else none
  | .func f => some (.const (.func (.func f) #[] #[]))
  | .global _ => none
def atoms : List Operand → Option (List Atom)
  | [] => some []
  | a :: r => match atom a, atoms r with | some x, some l => some (x :: l) | _, _ => none
def atomO : Option Operand → Option (Option Atom)
  | none => some none
  | some a => (atom a).map some

section
variable (P : Program)
def sizeT (t : TypeId) : Option Nat := (P.info? t).map (·.size)
def bytesT (t : TypeId) : Option Nat := (P.info? t).map (·.bytes)
def zeroT (t : TypeId) : Option (List Value) := match P.info? t with
  | some i => match i.zero with
    | some v => if plain v then some v.cells.toList else none
    | none => none
  | none => none
def shOf (t : TypeId) : Option Sh := match P.underlying t with
  | some (.struct _) | some (.array _ _) => (sizeT P t).map Sh.agg
  | some _ => some .one
  | none => none
/-- the offsets and kinds of the cells that '==' compares -/
def eqFieldsO (rec : TypeId → Nat → Option (List (Nat × Nat))) (sz off : Nat) : List Field → Option (List (Nat × Nat))
  | [] => some []
  | f :: fs => if f.name = "_" then none else match sizeT P f.type, rec f.type (off + f.offset), eqFieldsO rec sz off fs with
    | some s, some a, some l => if f.offset + max s 1 ≤ sz then some (a ++ l) else none
    | _, _, _ => none
def eqItemsO (rec : Nat → Option (List (Nat × Nat))) (s sz off : Nat) : List Nat → Option (List (Nat × Nat))
  | [] => some []
  | i :: is => match rec (off + i * s), eqItemsO rec s sz off is with
    | some a, some l => if i * s + max s 1 ≤ sz then some (a ++ l) else none
    | _, _ => none
def eqOffs : Nat → TypeId → Nat → Option (List (Nat × Nat))
  | 0, _, _ => none
  | d + 1, t, off => match P.underlying t with
    | some .bool => some [(off, 0)]
    | some (.int _) => some [(off, 1)]
    | some .string => some [(off, 2)]
    | some (.struct fs) => if P.stoodInHeld t then none else match sizeT P t with
      | some sz => eqFieldsO P (eqOffs d) sz off fs.toList
      | none => none
    | some (.array n e) => match sizeT P e, sizeT P t with
      | some s, some sz => eqItemsO (eqOffs d e) s sz off (List.range n)
      | _, _ => none
    | _ => none
def eqAgg (t : TypeId) : Option EqK := if P.eqGuardType P.depth t then none else match sizeT P t, eqOffs P 8 t 0 with
  | some n, some offs => some (.cells n offs)
  | _, _ => none
def eqKind (t : TypeId) : Option EqK := match P.underlying t with
  | some .bool => some .bool
  | some (.pointer _) => some (.nil .ptr)
  | some (.slice _) => some (.nil .slice)
  | some (.map _ _) => some (.nil .map)
  | some (.func _ _ _) => some (.nil .func)
  | some (.struct _) => eqAgg P t
  | some (.array _ _) => eqAgg P t
  | _ => none
/-- a map's keys: bools, numbers, strings -/
def keyKind (t : TypeId) : Option Nat := match P.underlying t with
  | some .bool => some 0
  | some (.int _) => some 1
  | some .string => some 2
  | _ => none
def zeroV (t : TypeId) : Option Value := match P.info? t with
  | some i => match i.zero with
    | some v => if plain v then some v else none
    | none => none
  | none => none
def place1 (fs : Array Field) (i : Nat) : Option (Nat × Nat) := match fs[i]? with
  | some f => (sizeT P f.type).map fun s => (f.offset, s)
  | none => none
def partsS (place : Nat → Option (Nat × Nat)) : List (Nat × Operand) → Option (List (Nat × Nat × Atom))
  | [] => some []
  | (i, x) :: r => match place i, atom x, partsS place r with
    | some (o, s), some a, some l => some ((o, s, a) :: l)
    | _, _, _ => none

def compBuiltin (b : Builtin) (argTypes : Array TypeId) (args : Array Operand) : Option AOp := do
  match b with
  | .len =>
    let a ← atom (← args[0]?)
    match ← P.underlying (← argTypes[0]?) with
    | .string => some (.len .str a)
    | .slice _ => some (.len .slice a)
    | .array n _ => some (.len (.arr n) a)
    | .pointer arr => match ← P.underlying arr with
      | .array n _ => some (.len (.arr n) a)
      | _ => none
    | .map _ _ => some (.len .map a)
    | _ => none
  | .cap =>
    let a ← atom (← args[0]?)
    match ← P.underlying (← argTypes[0]?) with
    | .slice _ => some (.cap a)
    | _ => none
  | .append =>
    let s ← atom (← args[0]?)
    let x ← atom (← args[1]?)
    match ← P.underlying (← argTypes[0]?), ← P.underlying (← argTypes[1]?) with
    | .slice e, .slice _ => if (zeroT P e).map (·.length) = sizeT P e then some (.app (← sizeT P e) (← bytesT P e) e s x) else none
    | .slice e, .string => if (zeroT P e).map (·.length) = sizeT P e then some (.app (← sizeT P e) (← bytesT P e) e s x) else none
    | .slice e, .int _ => some (.appZ (← sizeT P e) (← bytesT P e) e (← zeroT P e) s x)
    | _, _ => none
  | .copy =>
    let d ← atom (← args[0]?)
    let s ← atom (← args[1]?)
    match ← P.underlying (← argTypes[0]?) with
    | .slice e => some (.copy (← sizeT P e) d s)
    | _ => none
  | .clear =>
    let a ← atom (← args[0]?)
    match ← P.underlying (← argTypes[0]?) with
    | .slice e => some (.clear (← zeroT P e) a)
    | _ => none
  | .delete =>
    let m ← atom (← args[0]?)
    let k ← atom (← args[1]?)
    match ← P.underlying (← argTypes[0]?) with
    | .map kt _ => some (.mdel (← keyKind P kt) m k)
    | _ => none
  | .max => some (.max (← atoms args.toList))
  | .min => some (.min (← atoms args.toList))
  | _ => none

def compOp0 (o : Op) : Option AOp := do
  match o with
  | .move x | .assign x => some (.mov (← atom x))
  | .pick c a b => some (.pick (← atom c) (← atom a) (← atom b))
  | .alloc t => some (.alloc t (← zeroT P t))
  | .box t x => some (.box t (← atom x))
  | .build t parts => match ← P.underlying t with
    | .struct fs => if fs.toList.all (fun f => (sizeT P f.type).isSome) then some (.build (← zeroT P t) (← partsS (place1 P fs) parts.toList)) else none
    | .array _ e =>
      let s ← sizeT P e
      some (.build (← zeroT P t) (← partsS (fun i => some (i * s, s)) parts.toList))
    | _ => none
  | .buildSlice t len parts => match ← P.underlying t with
    | .slice e =>
      let s ← sizeT P e
      let z ← zeroT P e
      if z.length = s ∧ len * s ≤ 65536 then some (.bslice e len (rep len z) (← partsS (fun i => some (i * s, s)) parts.toList)) else none
    | _ => none
  | .load t a => some (.load (← shOf P t) (← atom a))
  | .store t a v => some (.store (← sizeT P t) (← atom a) (← atom v))
  | .nilCheck x => some (.nilchk (← atom x))
  | .binOp op xt x y _ =>
    match op, ← P.underlying xt with
    | op, .int _ | op, .string => some (.bin op (← atom x) (← atom y))
    | .eql, _ => some (.eq false (← eqKind P xt) (← atom x) (← atom y))
    | .neq, _ => some (.eq true (← eqKind P xt) (← atom x) (← atom y))
    | _, _ => none
  | .unOp op _ x => some (.un op (← atom x))
  | .convert src dst x =>
    let a ← atom x
    match ← P.underlying src, ← P.underlying dst with
    | .int _, .int k => some (.conv (.int k) a)
    | .string, .string => some (.conv .same a)
    | .slice _, .slice e =>
      match ← P.underlying e, decide (src = dst) with
      | .int .u8, true => some (.conv .sameSl a)
      | _, _ => none
    | .string, .slice e => match ← P.underlying e with
      | .int .u8 => some (.conv (.str2b e) a)
      | _ => none
    | .slice e, .string => match ← P.underlying e with
      | .int .u8 => some (.conv .b2str a)
      | _ => none
    | _, _ => none
  | .makeInterface t x => match ← P.underlying t with
    | .interface _ => none
    | _ => some (.mkif t (← atom x))
  | .makeFunc (.func f) first captured => some (.mkfn f (← atoms first.toList) (← atoms captured.toList))
  | .makeSlice t l c => match ← P.underlying t with
    | .slice e => some (.mkslice e (← sizeT P e) (← bytesT P e) (← zeroT P e) (← atom l) (← atom c))
    | _ => none
  | .slice t x lo hi mx =>
    let a ← atom x
    let l ← atomO lo
    let h ← atomO hi
    let m ← atomO mx
    if mx.isSome && hi.isNone then none else
    match ← P.underlying t with
    | .array n e => some (.slcA n (← sizeT P e) a l h m)
    | .string => match mx with
      | none => some (.slcS a l h)
      | _ => none
    | .slice e => some (.slc (← sizeT P e) a l h m)
    | .pointer arr => match ← P.underlying arr with
      | .array n e => some (.slcA n (← sizeT P e) a l h m)
      | _ => none
    | _ => none
  | .fieldAddr s x f => match ← P.underlying s with
    | .struct fs =>
      let fd ← fs[f]?
      let sz ← sizeT P fd.type
      if sz = 0 then none else some (.fldA fd.offset (← atom x))
    | _ => none
  | .field s x f => match ← P.underlying s with
    | .struct fs =>
      let fd ← fs[f]?
      some (.fld (← shOf P fd.type) fd.offset (← atom x))
    | _ => none
  | .indexAddr t x i => match ← P.underlying t with
    | .slice e => some (.ixA (← sizeT P e) (← atom x) (← atom i))
    | .array n e => some (.ixAA n (← sizeT P e) (← atom x) (← atom i))
    | _ => none
  | .index t x i => match ← P.underlying t with
    | .array n e => some (.ix n (← sizeT P e) (← shOf P e) (← atom x) (← atom i))
    | .string => some (.ixS (← atom x) (← atom i))
    | _ => none
  | .makeMap t h => match ← P.underlying t with
    | .map _ _ => some (.mkmap (← atomO h))
    | _ => none
  | .lookup t x i ok => match ← P.underlying t with
    | .map kt e => some (.mget (← keyKind P kt) ok (← zeroV P e) (← atom x) (← atom i))
    | _ => none
  | .mapUpdate t m k v => match ← P.underlying t with
    | .map kt _ => some (.mset (← keyKind P kt) (← atom m) (← atom k) (← atom v))
    | _ => none
  | .mapEntry t m k => match ← P.underlying t with
    | .map kt e => some (.ment (← keyKind P kt) (← zeroV P e) (← atom m) (← atom k))
    | _ => none
  | .entryStore _ m s v => some (.mfill (← atom m) (← atom s) (← atom v))
  | .extract x i => some (.ext (← atom x) i)
  | .panic _ => some .panic
  | .call c => match c.callee with
    | .value f => some (.call (← atom f) (← atoms c.args.toList))
    | .builtin b => compBuiltin P b c.argTypes c.args
    | _ => none
  | _ => none

def isDefer : Op → Bool | .defer _ => true | _ => false
/-- what is not run here: the run ends there -/
def compOp (o : Op) : Option AOp := if isDefer o then none else some ((compOp0 P o).getD .panic)
def guardOf (ops : Array Oper) : Option (Nat × Bool) → Option (Option (Nat × Bool))
  | none => some none
  | some (j, want) => match ops[j]? with
    | some oj => match oj.dst with
      | some d => some (some (d, want))
      | none => none
    | none => none
def compInstr (n : Nat) (ops : Array Oper) (o : Oper) : Option AInstr := match guardOf ops o.guard, compOp P o.op with
  | some g, some a => if o.dst.all (· < n) then some { dst := o.dst, guard := g, op := a } else none
  | _, _ => none
def compInstrs (n : Nat) (ops : Array Oper) : List Oper → Option (List AInstr)
  | [] => some []
  | o :: r => match compInstr P n ops o, compInstrs n ops r with
    | some a, some l => some (a :: l)
    | _, _ => none

def namesOf (ops : Array Oper) (o : Oper) : List Nat :=
  (o.op.operands.toList.filterMap fun | .tmp t => some t | _ => none) ++
  (match o.guard with | some (j, _) => ((ops[j]?).bind (·.dst)).toList | none => [])
/-- edges point back; 'before' is what it is; operations that no edge orders share no temporary that one of them writes -/
def orderOk (ops : Array Oper) : Bool :=
  let b := Region.before ops
  (List.range ops.size).all fun j => match ops[j]? with
    | none => false
    | some oj => oj.after.toList.all (fun e => !Region.binds .any e || Nat.blt e.on j) &&
      Nat.beq (b.getD j 0) (oj.after.toList.foldl (fun s e => if Region.binds .any e then s ||| 2 ^ e.on ||| b.getD e.on 0 else s) 0) &&
      (List.range j).all fun i => (b.getD j 0).testBit i || match ops[i]? with
        | none => false
        | some oi => (match oi.dst with | some d => !(namesOf ops oj).contains d && oj.dst != some d | none => true) &&
            (match oj.dst with | some d => !(namesOf ops oi).contains d | none => true)

def compCode (n : Nat) : Code → Option ACode
  | .skip => some .skip
  | .label _ => some .skip
  | .region _ ops draw => match compInstrs P n ops ops.toList with
    | none => none
    | some l => if draw then if orderOk ops then some (.drawn l (Region.before ops).toList) else none else some (.ops l)
  | .seq a b => match compCode n a, compCode n b with
    | some x, some y => some (.seq x y)
    | _, _ => none
  | .cond c a b => match atom c, compCode n a, compCode n b with
    | some c, some x, some y => some (.cond c x y)
    | _, _, _ => none
  | .block id a => match compCode n a with
    | some x => some (.block id x)
    | none => none
  | .loop a => match compCode n a with
    | some x => some (.loop x)
    | none => none
  | .rangeFunc f ps assign body => match atom f, compCode n assign, compCode n body with
    | some f, some x, some y => if ps.toList.all (· < n) then some (.range f ps.toList x y) else none
    | _, _, _ => none
  | .scope a => compCode n a
  | .exit id => some (.exit id)
  | .ret => some .ret
  | _ => none

def compRes : List ResultVar → Option (List ARes)
  | [] => some []
  | .tmp t :: r => match compRes r with | some l => some (.tmp t :: l) | none => none
  | .cell a t :: r => match shOf P t, compRes r with | some sh, some l => some (.cell a sh :: l) | _, _ => none
def noRow (n : String) : Bool := n != "runtime.NumGoroutine" && (Extern.allNextRows.lookup n).isNone && (Extern.allGenericRows.lookup n).isNone && (Extern.allTypedRows.lookup n).isNone && (Extern.allRows.lookup n).isNone
def compFunc (fn : Func) : Option AFn := match fn.body with
  | none => if fn.name = "internal/bytealg.IndexByteString" ∧ fn.origin = "" then some (.ext .indexByte)
    else if fn.origin = "slices.overlaps" ∧ noRow fn.name = true then match fn.params[0]? with
      | none => none
      | some t => match P.underlying t with
        | some (.slice e) => (sizeT P e).map fun s => .ext (.overlaps s)
        | _ => none
    else none
  | some c => if fn.name = "runtime.NumGoroutine" then none else
    match compCode P fn.ntmps c, compRes P fn.results.toList with
    | some a, some rs => some (.go { nparams := fn.params.size + fn.nfree, results := rs, body := a })
    | _, _ => none
end
end Go.Wb
