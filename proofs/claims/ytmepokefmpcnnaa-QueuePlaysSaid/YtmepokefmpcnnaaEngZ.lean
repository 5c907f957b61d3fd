/- The engine, part Z: what a run brings, as a proposition: a function's code as a text of propositions; loops by an invariant over the values that live. -/
import Derived.Test.YtmepokefmpcnnaaEngW
import Derived.Test.YtmepokefmpcnnaaEngLg
set_option linter.unusedSimpArgs false
set_option linter.unusedVariables false
namespace Go.Wb
variable {α β : Type}

/-- a run ends, and brings this -/
def wpA (m : M α) (Φ : α → St → Prop) (S : St) : Prop := ∃ a S', m S = some (a, S') ∧ Φ a S'
theorem wpA_mono {m : M α} {Φ Ψ : α → St → Prop} {S : St} (h : wpA m Φ S) (k : ∀ a S', Φ a S' → Ψ a S') : wpA m Ψ S := by
  obtain ⟨a, S', h1, h2⟩ := h
  exact ⟨a, S', h1, k _ _ h2⟩
theorem wpA_pure (a : α) (Φ : α → St → Prop) (S : St) : wpA (M.pure a) Φ S = Φ a S := by
  apply propext
  constructor
  · rintro ⟨b, S', h, k⟩; cases h; exact k
  · intro h; exact ⟨a, S, rfl, h⟩
theorem wpA_lift (a : α) (Φ : α → St → Prop) (S : St) : wpA (M.lift (some a)) Φ S = Φ a S := wpA_pure a Φ S
theorem wpA_bind (m : M α) (f : α → M β) (Φ : β → St → Prop) (S : St) : wpA (m.bind f) Φ S = wpA m (fun a S => wpA (f a) Φ S) S := by
  apply propext
  constructor
  · rintro ⟨b, S', h, k⟩
    simp only [M.bind] at h
    cases hm : m S with
    | none => rw [hm] at h; cases h
    | some p => rw [hm] at h; exact ⟨p.1, p.2, hm, b, S', h, k⟩
  · rintro ⟨a, S1, h1, b, S', h, k⟩
    exact ⟨b, S', by simp only [M.bind, h1]; exact h, k⟩
theorem wpA_nw (o : Blk) (Φ : Nat → St → Prop) (S : St) : wpA (nw o) Φ S = Φ S.next (S.add o) := by
  apply propext
  constructor
  · rintro ⟨b, S', h, k⟩; cases h; exact k
  · intro h; exact ⟨_, _, rfl, h⟩
theorem wpA_rd {b : Nat} {o : Blk} {S : St} (h : S.heap.get b = some o) (Φ : Blk → St → Prop) : wpA (rd b) Φ S = Φ o (S.saw b) := by
  have e : rd b S = some (o, S.saw b) := by simp only [rd, h]; rfl
  apply propext
  constructor
  · rintro ⟨b', S', h', k⟩; rw [e] at h'; cases h'; exact k
  · intro h; exact ⟨_, _, e, h⟩
theorem wpA_wr (b : Nat) (o : Option Blk) (Φ : Unit → St → Prop) (S : St) : wpA (wr b o) Φ S = Φ () (S.put b o) := by
  apply propext
  constructor
  · rintro ⟨b', S', h', k⟩; cases h'; exact k
  · intro h; exact ⟨_, _, rfl, h⟩
theorem wpA_of_run {m : M α} {a : α} {S S' : St} (h : m S = some (a, S')) (Φ : α → St → Prop) (k : Φ a S') : wpA m Φ S := ⟨a, S', h, k⟩

/-! ## Heaps without logs -/
/-- wl: what has been written, the last one first -/
structure Hp where
  heap : Tr Blk
  next : Nat
  wl : List Nat
def wrs : List (Nat × Bool) → List Nat
  | [] => []
  | (b, true) :: l => b :: wrs l
  | (_, false) :: l => wrs l
theorem wrs_append : ∀ (a b : List (Nat × Bool)), wrs (a ++ b) = wrs a ++ wrs b
  | [], b => rfl
  | (x, true) :: a, b => by simp only [List.cons_append, wrs, wrs_append a b]
  | (x, false) :: a, b => by simp only [List.cons_append, wrs, wrs_append a b]
theorem wrs_mem : ∀ {a : List (Nat × Bool)} {b : Nat}, (b, true) ∈ a → b ∈ wrs a
  | (x, c) :: a, b, h => by
    rcases List.mem_cons.1 h with h' | h'
    · cases h'; exact List.mem_cons_self ..
    · cases c
      · exact wrs_mem (a := a) h'
      · exact List.mem_cons_of_mem _ (wrs_mem (a := a) h')
def Hp.st (S : Hp) : St := { heap := S.heap, next := S.next, log := [] }
def Hp.full (S : Hp) : St := { heap := S.heap, next := S.next, log := S.wl.map fun b => (b, true) }
def St.over (s : St) (w : List Nat) : Hp := { heap := s.heap, next := s.next, wl := wrs s.log ++ w }
def St.h (S : St) : Hp := { heap := S.heap, next := S.next, wl := wrs S.log }
theorem wrs_full : ∀ l : List Nat, wrs (l.map fun b => (b, true)) = l
  | [] => rfl
  | b :: l => by simp only [List.map_cons, wrs, wrs_full l]
theorem full_h (S : Hp) : S.full.h = S := by
  simp only [Hp.full, St.h, wrs_full]
def Hp.put (S : Hp) (b : Nat) (o : Option Blk) : Hp := { heap := S.heap.set b o, next := S.next, wl := b :: S.wl }
def Hp.add (S : Hp) (o : Blk) : Hp := { heap := S.heap.set S.next (some o), next := S.next + 1, wl := S.wl }
/-- a run from a heap ends, and brings this -/
def wp (m : M α) (Φ : α → Hp → Prop) (S : Hp) : Prop := ∃ a S', m S.st = some (a, S') ∧ Φ a (S'.over S.wl)
theorem wp_raw {m : M α} (hm : Lg m) {Φ : α → Hp → Prop} {S : St} (h : wp m Φ S.h) : wpA m (fun a S' => Φ a S'.h) S := by
  obtain ⟨a, S', h1, h2⟩ := h
  obtain ⟨D, h3, h4⟩ := hm _ _ _ h1
  refine ⟨a, _, h4 S.log, ?_⟩
  have e : S'.over S.h.wl = ({ heap := S'.heap, next := S'.next, log := D ++ S.log } : St).h := by
    have h3' : S'.log = D := by rw [h3]; exact List.append_nil D
    simp only [St.over, St.h, h3', wrs_append]
  show Φ a _
  rw [← e]; exact h2
theorem wp_of_wpA {m : M α} (hm : Lg m) {Φ : α → Hp → Prop} {S : Hp} (h : wpA m (fun a S' => Φ a S'.h) S.full) : wp m Φ S := by
  obtain ⟨a, S', h1, h2⟩ := h
  obtain ⟨D, h3, h4⟩ := hm _ _ _ h1
  refine ⟨a, _, h4 [], ?_⟩
  have e : S'.h = ({ heap := S'.heap, next := S'.next, log := D ++ [] } : St).over S.wl := by
    have h3' : S'.log = D ++ S.wl.map fun b => (b, true) := h3
    simp only [St.over, St.h, h3', wrs_append, wrs_full, List.append_nil, wrs]
  have h2' : Φ a S'.h := h2
  rw [e] at h2'; exact h2'

/-! ## A code's proposition -/
def dstepP (j : Nat) (ts : List (Nat × Touch)) (m : M Value) (Φ : Value → List (Nat × Touch) → Hp → Prop) (S : Hp) : Prop :=
  ∃ v s', m S.st = some (v, s') ∧ Φ v (keepT j { log := s'.log, lo := S.next, hi := s'.next } ts) (s'.over S.wl)
def ifP (b : Option Bool) (x y : Hp → Prop) (S : Hp) : Prop := match b with
  | none => False
  | some true => x S
  | some false => y S
def contP (kb : Env → Hp → Prop) (k : Ext → Env → Hp → Prop) (x : Ext) (e : Env) (S : Hp) : Prop := match x with
  | .normal => kb e S
  | x => k x e S
def blockP (id : Nat) (k : Ext → Env → Hp → Prop) (x : Ext) (e : Env) (S : Hp) : Prop := match x with
  | .exit i => (match Nat.beq i id with
    | true => k .normal e S
    | false => k (.exit i) e S)
  | x => k x e S
def okP (b : Bool) (x : Hp → Prop) (S : Hp) : Prop := match b with
  | true => x S
  | false => False
/-- an invariant of so many values -/
def InvT : Nat → Type
  | 0 => Hp → Prop
  | n + 1 => Value → InvT n
def appI : (n : Nat) → InvT n → List Value → Hp → Prop
  | 0, I, [], S => I S
  | n + 1, I, v :: l, S => appI n (I v) l S
  | _, _, _, _ => False
def allV : Nat → (List Value → Prop) → Prop
  | 0, P => P []
  | n + 1, P => ∀ v, allV n fun l => P (v :: l)
def readL (e : Env) : List Nat → Option (List Value)
  | [] => some []
  | t :: l => match e.get t, readL e l with | some v, some r => some (v :: r) | _, _ => none
def invP (L : List Nat) (I : InvT L.length) (e : Env) (S : Hp) : Prop := match readL e L with
  | some vs => appI L.length I vs S
  | none => False
def loopP (fuel : Nat) (L : List Nat) (body : Env → (Ext → Env → Hp → Prop) → Hp → Prop) (e : Env) (Φ : Ext → Env → Hp → Prop) (S : Hp) : Prop :=
  ∃ I : Nat → InvT L.length, (∃ m, m < fuel ∧ invP L (I m) e S) ∧ ∀ (m : Nat) (S : Hp), allV L.length fun vs => appI L.length (I m) vs S → body (zipSet L vs .leaf) (fun x e' S' => contP (fun e' S' => ∃ j, j < m ∧ invP L (I j) e' S') Φ x e' S') S
/-- it touches no memory -/
def pureOp : AOp → Bool
  | .mov _ | .pick .. | .bin .. | .eq .. | .un .. | .build .. | .nilchk _ | .slcS .. | .fldA .. | .fld .. | .ixA .. | .ixAA .. | .ix .. | .ixS .. | .mkfn .. | .mkif .. | .ext .. | .max _ | .min _ => true
  | .len .map _ => false
  | .len _ _ => true
  | .conv (.int _) _ => true
  | _ => false
/-- it reads at most -/
def roOp : AOp → Bool
  | .load .. | .slc .. | .slcA .. | .cap _ | .mget .. | .len .. | .conv .b2str _ => true
  | o => pureOp o
def pMask : List AInstr → Nat → Nat
  | [], _ => 0
  | i :: l, j => match pureOp i.op with | true => Nat.lor (2 ^ j) (pMask l (j + 1)) | false => pMask l (j + 1)
def rMask : List AInstr → Nat → Nat
  | [], _ => 0
  | i :: l, j => match roOp i.op with | true => Nat.lor (2 ^ j) (rMask l (j + 1)) | false => rMask l (j + 1)
def okNgo (pm rm nm : Nat) (ms : List Nat) : List AInstr → Nat → Bool
  | [], _ => true
  | _ :: l, j => (pm.testBit j || Nat.beq (Nat.land (2 ^ j - 1) (Nat.lor (Nat.lor (ms.getD j 0) pm) (Nat.lor (match nm.testBit j with | true => nm | false => 0) (match rm.testBit j with | true => rm | false => 0)))) (2 ^ j - 1)) && okNgo pm rm nm ms l (j + 1)
def okN (l : List AInstr) (ms : List Nat) (nm : Nat) : Bool := okNgo (pMask l 0) (rMask l 0) nm ms l 0
def allRo : List AInstr → Bool
  | [] => true
  | i :: l => roOp i.op && allRo l
section
variable (call : Tgt → List Value → M Value)
/-- a short circuit: the rest of it is looked at if b is w -/
def andP (w : Bool) (b : Value) (sub : (Value → Hp → Prop) → Hp → Prop) (Φ : Value → Hp → Prop) (S : Hp) : Prop := match b with
  | .bool c => (match c, w with
    | true, true => sub Φ S
    | false, false => sub Φ S
    | true, false => Φ (.bool true) S
    | false, true => Φ (.bool false) S)
  | _ => False
def evK (o : Option Value) (K : Value → Hp → Prop) (S : Hp) : Prop := match o with
  | none => False
  | some v => K v S
/-- the pick that ends a short circuit -/
def pickOf (t : Nat) (w : Bool) (i : AInstr) : Option (Nat × Atom) := match i.dst, i.guard, i.op with
  | some d, none, .pick (.tmp t') a b => (match Nat.beq t' t, w, a, b with
    | true, true, a, .const (.bool false) => some (d, a)
    | true, false, .const (.bool true), b => some (d, b)
    | _, _, _, _ => none)
  | _, _, _ => none
def stripG (t : Nat) (w : Bool) (i : AInstr) : AInstr := match i.guard with
  | some (t', w') => (match Nat.beq t' t, w, w' with
    | true, true, true => { i with guard := none }
    | true, false, false => { i with guard := none }
    | _, _, _ => i)
  | none => i
/-- is it within the short circuit: guarded by it, or by what is within -/
def within (t : Nat) (w : Bool) (ds : List Nat) (i : AInstr) : Option Nat := match i.guard, i.dst with
  | some (t', w'), some d => (match Nat.beq d t with
    | true => none
    | false => (match Nat.beq t' t, w, w' with
      | true, true, true => some d
      | true, false, false => some d
      | true, _, _ => none
      | false, _, _ => (match ds.contains t' with | true => some d | false => none)))
  | _, _ => none
/-- what is within, what it sets, the pick, the rest -/
def splitG (t : Nat) (w : Bool) : List Nat → List AInstr → Option (List AInstr × List Nat × Nat × Atom × List AInstr)
  | _, [] => none
  | ds, i :: r => match pickOf t w i with
    | some (d, a) => some ([], ds, d, a, r)
    | none => match within t w ds i with
      | some d => (match splitG t w (d :: ds) r with
        | some (blk, q) => some (stripG t w i :: blk, q)
        | none => none)
      | none => none
def dropAll : List Nat → Env → Env
  | [], e => e
  | d :: ds, e => dropAll ds (e.set d none)
def instrsP : Nat → List AInstr → Env → (Env → Hp → Prop) → Hp → Prop
  | _, [], e, k, S => k e S
  | 0, _ :: _, _, _, _ => False
  | f + 1, i :: r, e, k, S => match movOf i with
    | some (d, a) => (match a.ev e with
      | none => False
      | some v => instrsP f r (e.set d (some v)) k S)
    | none => match i.guard with
      | none => wp (valM call i e) (fun v S => instrsP f r (putD e i.dst v) k S) S
      | some (t, w) => match splitG t w [] (i :: r) with
        | none => wp (valM call i e) (fun v S => instrsP f r (putD e i.dst v) k S) S
        | some (blk, ds, d, a, rest) => match e.get t with
          | none => False
          | some b => andP w b (fun K S => instrsP f blk e (fun e' S => evK (a.ev e') K S) S) (fun v S => instrsP f rest ((dropAll ds e).set d (some v)) k S) S
/-- nm: those whose touches are kept -/
def drawnP (ms : List Nat) (nm : Nat) : List AInstr → Nat → Env → List (Nat × Touch) → (Env → Hp → Prop) → Hp → Prop
  | [], _, e, ts, k, S => okP (apartAll ms ts) (fun S => k e S) S
  | i :: r, j, e, ts, k, S => match nm.testBit j with
    | true => dstepP j ts (valM call i e) (fun v ts S => drawnP ms nm r (j + 1) (putD e i.dst v) ts k S) S
    | false => match movOf i with
      | some (d, a) => (match a.ev e with
        | none => False
        | some v => drawnP ms nm r (j + 1) (e.set d (some v)) ts k S)
      | none => wp (valM call i e) (fun v S => drawnP ms nm r (j + 1) (putD e i.dst v) ts k S) S
/-- a range over a function: its rounds are called back -/
def rangeP (ps : List Nat) (as bd : ACode) (g : Option Value) (e : Env) (kN : Hp → Prop) (kX : Ext → Hp → Prop) (S : Hp) : Prop := match g with
  | none => False
  | some g => (match target g [.func (.yield S.next) #[] #[]] with
    | none => False
    | some t => ∀ e', Le e e' → wp (call t.1 t.2) (fun _ S2 => ∃ ps' as' bd' e2 p, S2.heap.get S.next = some (.loop ps' as' bd' e2 p) ∧ (match p with | none => kN (S2.put S.next none) | some x => kX x (S2.put S.next none))) (S.add (.loop ps as bd e' none)))
/-- A: which temporaries live at a loop, by its number -/
def codeP (A : List (Nat × List Nat)) (fuel : Nat) : Nat → ACode → Env → (Ext → Env → Hp → Prop) → Hp → Prop
  | _, .skip, e, k, S => k .normal e S
  | _, .ops l, e, k, S => instrsP call l.length l e (fun e S => k .normal e S) S
  | p, .drawn l ms, e, k, S => match allRo l with
    | true => instrsP call l.length l e (fun e S => k .normal e S) S
    | false => match okN l ms (((A.lookup p).getD []).headD 0) with
      | true => drawnP call ms (((A.lookup p).getD []).headD 0) l 0 e [] (fun e S => k .normal e S) S
      | false => False
  | p, .seq a b, e, k, S => codeP A fuel (2 * p) a e (contP (fun e S => codeP A fuel (2 * p + 1) b e k S) k) S
  | p, .cond c a b, e, k, S => ifP ((c.ev e).bind asBool) (fun S => codeP A fuel (2 * p) a e k S) (fun S => codeP A fuel (2 * p + 1) b e k S) S
  | p, .block id a, e, k, S => codeP A fuel (2 * p) a e (blockP id k) S
  | p, .loop a, e, k, S => loopP fuel ((A.lookup p).getD []) (fun e k S => codeP A fuel (2 * p) a e k S) e k S
  | _, .range f ps as bd, e, k, S => rangeP call ps as bd (f.ev e) e (fun S => k .normal e S) (fun x S => k x e S) S
  | _, .exit id, e, k, S => k (.exit id) e S
  | _, .ret, e, k, S => k .ret e S
end
def tupP (vs : List Value) : Value := match vs with
  | [v] => v
  | vs => .tuple vs.toArray
def cellV (x : Value) (sh : Sh) : M Value := match x with
  | .pointer (some p) => (match sh with
    | .one => ld1 p.block p.off
    | .agg n => (ldCells p.block p.off n).bind fun c => M.pure (.agg c.toArray))
  | _ => M.fail
def resP (e : Env) : List ARes → (List Value → Hp → Prop) → Hp → Prop
  | [], k, S => k [] S
  | .tmp t :: rs, k, S => (match e.get t with
    | none => False
    | some v => resP e rs (fun vs S => k (v :: vs) S) S)
  | .cell t sh :: rs, k, S => (match e.get t with
    | none => False
    | some x => wp (cellV x sh) (fun v S => resP e rs (fun vs S => k (v :: vs) S) S) S)
def endP (rs : List ARes) (Φ : Value → Hp → Prop) (x : Ext) (e : Env) (S : Hp) : Prop := match x with
  | .exit _ => False
  | _ => resP e rs (fun vs S => Φ (tupP vs) S) S
/-- where ways meet -/
def jn {γ : Type} (r : γ) (f : γ → Prop) : Prop := f r
theorem jn_intro {γ : Type} {r : γ} {f : γ → Prop} (h : ∀ J, J = r → f J) : jn r f := h r rfl

/-! ## It is right -/
variable {call : Tgt → List Value → M Value}
theorem valM_mono {i : AInstr} {e e' : Env} {S : St} {r : Value × St} (hl : Le e e') (h : valM call i e S = some r) : valM call i e' S = some r := by
  unfold valM at h ⊢
  cases hg : i.guard with
  | none => rw [hg] at h; exact exec_mono hl call i.op h
  | some g =>
    obtain ⟨t, w⟩ := g
    rw [hg] at h
    simp only at h ⊢
    cases hv : e.get t with
    | none => rw [hv] at h; cases h
    | some v =>
      rw [hv] at h
      rw [hl _ _ hv]
      simp only [Option.bind_some] at h ⊢
      cases hw : wanted w v with
      | none => rw [hw] at h; cases h
      | some b =>
        rw [hw] at h
        cases b with
        | false => exact h
        | true => exact exec_mono hl call i.op h
theorem movOf_some {i : AInstr} {d : Nat} {a : Atom} (h : movOf i = some (d, a)) : i = ⟨some d, none, .mov a⟩ := by
  unfold movOf at h
  split at h
  · rename_i d' a' h1 h2 h3
    simp only [Option.some.injEq, Prod.mk.injEq] at h
    obtain ⟨rfl, rfl⟩ := h
    obtain ⟨x, y, z⟩ := i
    simp only at h1 h2 h3
    subst h1; subst h2; subst h3
    rfl
  · cases h
theorem pickOf_some {t d : Nat} {w : Bool} {i : AInstr} {a : Atom} (h : pickOf t w i = some (d, a)) :
    (w = true ∧ i = ⟨some d, none, .pick (.tmp t) a (.const (.bool false))⟩) ∨ (w = false ∧ i = ⟨some d, none, .pick (.tmp t) (.const (.bool true)) a⟩) := by
  unfold pickOf at h
  split at h
  · rename_i d' t' x y h1 h2 h3
    obtain ⟨i1, i2, i3⟩ := i
    simp only at h1 h2 h3
    subst h1; subst h2; subst h3
    split at h
    · rename_i _ q1
      cases h
      have := Nat.eq_of_beq_eq_true q1
      subst this
      exact .inl ⟨rfl, rfl⟩
    · rename_i _ q1
      cases h
      have := Nat.eq_of_beq_eq_true q1
      subst this
      exact .inr ⟨rfl, rfl⟩
    · cases h
  · cases h
theorem Le.drop {e e' : Env} (h : Le e e') (d : Nat) (v : Value) : Le (e.set d none) (e'.set d (some v)) := by
  intro t x hx
  rw [Tr.get_set] at hx ⊢
  split at hx
  · cases hx
  · rename_i hn; rw [if_neg hn]; exact h t x hx
/-- what an instruction sets -/
theorem instr_le {i : AInstr} {e e0 : Env} {v : Value} {d : Nat} (hd : i.dst = some d) (h : Le e0 e) : Le (e0.set d none) (putD e i.dst v) := by
  rw [hd]; exact h.drop d v
theorem within_some {t d : Nat} {w : Bool} {ds : List Nat} {i : AInstr} (h : within t w ds i = some d) :
    i.dst = some d ∧ d ≠ t ∧ ∃ t' w', i.guard = some (t', w') ∧ ((t' = t ∧ w' = w) ∨ (t' ≠ t ∧ t' ∈ ds)) := by
  unfold within at h
  split at h
  · rename_i t' w' d' h1 h2
    split at h
    · cases h
    · rename_i hdt
      have hdt : d' ≠ t := by intro c; subst c; simp at hdt
      split at h
      · rename_i q; cases h; exact ⟨h2, hdt, _, _, h1, .inl ⟨Nat.eq_of_beq_eq_true q, rfl⟩⟩
      · rename_i q; cases h; exact ⟨h2, hdt, _, _, h1, .inl ⟨Nat.eq_of_beq_eq_true q, rfl⟩⟩
      · cases h
      · rename_i q
        have hne : t' ≠ t := by intro c; subst c; simp at q
        split at h
        · rename_i hc; cases h; exact ⟨h2, hdt, _, _, h1, .inr ⟨hne, by simpa using hc⟩⟩
        · cases h
  · cases h
theorem stripG_dst (t : Nat) (w : Bool) (i : AInstr) : (stripG t w i).dst = i.dst ∧ (stripG t w i).op = i.op := by
  unfold stripG
  split
  · split <;> exact ⟨rfl, rfl⟩
  · exact ⟨rfl, rfl⟩
/-- it is looked at: as if it had no guard -/
theorem strip_on {t d : Nat} {w : Bool} {ds : List Nat} {i : AInstr} (h : within t w ds i = some d) {e : Env} (he : e.get t = some (.bool w)) : valM call (stripG t w i) e = valM call i e := by
  obtain ⟨_, _, t', w', hg, hc⟩ := within_some h
  rcases hc with ⟨rfl, rfl⟩ | ⟨hne, _⟩
  · have e1 : stripG t' w' i = { i with guard := none } := by unfold stripG; rw [hg]; cases w' <;> simp
    rw [e1]
    unfold valM
    rw [hg]
    simp only [he, Option.bind_some, wanted, beq_self_eq_true, G]
  · have e1 : stripG t w i = i := by
      unfold stripG; rw [hg]
      have : Nat.beq t' t = false := by rw [Bool.eq_false_iff]; intro c; exact hne (Nat.eq_of_beq_eq_true c)
      simp only [this]
    rw [e1]
/-- it is not looked at -/
theorem strip_off {t d : Nat} {w : Bool} {ds : List Nat} {i : AInstr} (h : within t w ds i = some d) {e : Env} (he : e.get t = some (.bool (!w))) (hds : ∀ x ∈ ds, e.get x = some undef) : valM call i e = M.pure undef := by
  obtain ⟨_, _, t', w', hg, hc⟩ := within_some h
  unfold valM
  rw [hg]
  rcases hc with ⟨rfl, rfl⟩ | ⟨hne, hm⟩
  · simp only [he, Option.bind_some, wanted]
    cases w' <;> rfl
  · simp only [hds _ hm, Option.bind_some]; rfl
theorem dropAll_get : ∀ (ds : List Nat) (e : Env) (x : Nat), (dropAll ds e).get x = if x ∈ ds then none else e.get x
  | [], e, x => by simp [dropAll]
  | d :: ds, e, x => by
    simp only [dropAll, dropAll_get ds, Tr.get_set, List.mem_cons]
    by_cases h1 : x ∈ ds
    · simp [h1]
    · by_cases h2 : x = d
      · simp [h2]
      · simp [h1, h2]
theorem dropAll_le {ds : List Nat} {e0 e : Env} (h : ∀ x v, x ∉ ds → e0.get x = some v → e.get x = some v) : Le (dropAll ds e0) e := by
  intro x v hx
  rw [dropAll_get] at hx
  split at hx
  · cases hx
  · rename_i hn; exact h x v hn hx
theorem instr_wp (i : AInstr) (e : Env) (Φ : Env → St → Prop) (S : St) : wpA (instr call i e) Φ S = wpA (valM call i e) (fun v S => Φ (putD e i.dst v) S) S := by
  rw [instr_valM, wpA_bind]
  simp only [wpA_pure]
theorem instrs_cons_wp (i : AInstr) (r : List AInstr) (e : Env) (Φ : Env → St → Prop) (S : St) : wpA (instrs call (i :: r) e) Φ S = wpA (valM call i e) (fun v S => wpA (instrs call r (putD e i.dst v)) Φ S) S := by
  simp only [instrs]
  rw [wpA_bind, instr_wp]
theorem splitG_mem {t : Nat} {w : Bool} : ∀ {l : List AInstr} {ds ds' : List Nat} {blk : List AInstr} {d : Nat} {a : Atom} {r : List AInstr}, splitG t w ds l = some (blk, ds', d, a, r) → ∀ x ∈ ds, x ∈ ds'
  | [], ds, ds', blk, d, a, r, h, x, hx => by cases h
  | i :: l, ds, ds', blk, d, a, r, h, x, hx => by
    simp only [splitG] at h
    split at h
    · cases h; exact hx
    · split at h
      · split at h
        · rename_i q1 q2 q3 q4 q5 q6; cases h; exact splitG_mem q6 x (List.mem_cons_of_mem _ hx)
        · cases h
      · cases h
/-- a short circuit that is looked at -/
theorem group_on {t : Nat} {w : Bool} : ∀ {l : List AInstr} {ds ds' : List Nat} {blk : List AInstr} {d : Nat} {a : Atom} {r : List AInstr}, splitG t w ds l = some (blk, ds', d, a, r) →
    ∀ {e : Env} {Φ : Env → St → Prop} {S : St}, e.get t = some (.bool w) → wpA (instrs call blk e) (fun e2 S2 => Le (dropAll ds' e) e2 → ∃ v, a.ev e2 = some v ∧ wpA (instrs call r (e2.set d (some v))) Φ S2) S →
    wpA (instrs call l e) Φ S
  | [], ds, ds', blk, d, a, r, h, e, Φ, S, he, hw => by cases h
  | i :: l, ds, ds', blk, d, a, r, h, e, Φ, S, he, hw => by
    simp only [splitG] at h
    split at h
    · rename_i d' a' hp
      cases h
      obtain ⟨e2, S2, h1, h2⟩ := hw
      cases h1
      obtain ⟨v, h3, h4⟩ := h2 (dropAll_le fun x v _ h => h)
      rw [instrs_cons_wp]
      have : valM call i e S = some (v, S) ∧ i.dst = some d := by
        rcases pickOf_some hp with ⟨rfl, rfl⟩ | ⟨rfl, rfl⟩
        · refine ⟨?_, rfl⟩
          simp only [valM, exec, M.bind, M.lift, show (Atom.tmp t).ev e = some (.bool true) from he, Option.bind_some, asBool, if_true, h3]; rfl
        · refine ⟨?_, rfl⟩
          simp only [valM, exec, M.bind, M.lift, show (Atom.tmp t).ev e = some (.bool false) from he, Option.bind_some, asBool, Bool.false_eq_true, if_false, h3]; rfl
      refine wpA_of_run this.1 _ ?_
      rw [this.2]
      exact h4
    · rename_i hp
      split at h
      · rename_i d1 hd1
        split at h
        · rename_i blk' q hq
          simp only [Option.some.injEq, Prod.mk.injEq] at h
          obtain ⟨rfl, rfl⟩ := h
          rw [instrs_cons_wp] at hw ⊢
          rw [strip_on hd1 he] at hw
          refine wpA_mono hw fun v S1 hw => ?_
          rw [(stripG_dst t w i).1] at hw
          obtain ⟨w1, w2, w3⟩ := within_some hd1
          refine group_on hq (by rw [w1]; simp only [putD]; rw [Tr.get_set_ne _ _ (Ne.symm w2)]; exact he) (wpA_mono hw fun e2 S2 k hl => k ?_)
          refine dropAll_le fun x v hx h => ?_
          have := hl x v (by rw [dropAll_get, if_neg hx, w1]; simp only [putD]; rw [Tr.get_set_ne _ _ (by intro c; subst c; exact hx (splitG_mem hq _ (List.mem_cons_self ..)))]; exact h)
          exact this
        · cases h
      · cases h
/-- a short circuit that is not looked at -/
theorem group_off {t : Nat} {w : Bool} : ∀ {l : List AInstr} {ds ds' : List Nat} {blk : List AInstr} {d : Nat} {a : Atom} {r : List AInstr}, splitG t w ds l = some (blk, ds', d, a, r) →
    ∀ {e : Env} {Φ : Env → St → Prop} {S : St}, e.get t = some (.bool (!w)) → (∀ x ∈ ds, e.get x = some undef) → (∀ e2, Le (dropAll ds' e) e2 → wpA (instrs call r (e2.set d (some (.bool (!w))))) Φ S) →
    wpA (instrs call l e) Φ S
  | [], ds, ds', blk, d, a, r, h, e, Φ, S, he, hds, hw => by cases h
  | i :: l, ds, ds', blk, d, a, r, h, e, Φ, S, he, hds, hw => by
    simp only [splitG] at h
    split at h
    · rename_i d' a' hp
      cases h
      have h4 := hw e (dropAll_le fun x v _ h => h)
      rw [instrs_cons_wp]
      have : valM call i e S = some (.bool (!w), S) ∧ i.dst = some d := by
        rcases pickOf_some hp with ⟨rfl, rfl⟩ | ⟨rfl, rfl⟩
        · refine ⟨?_, rfl⟩
          simp only [valM, exec, M.bind, M.lift, Atom.ev, he, Option.bind_some, asBool]; rfl
        · refine ⟨?_, rfl⟩
          simp only [valM, exec, M.bind, M.lift, Atom.ev, he, Option.bind_some, asBool]; rfl
      refine wpA_of_run this.1 _ ?_
      rw [this.2]
      exact h4
    · rename_i hp
      split at h
      · rename_i d1 hd1
        split at h
        · rename_i blk' q hq
          simp only [Option.some.injEq, Prod.mk.injEq] at h
          obtain ⟨rfl, rfl⟩ := h
          obtain ⟨w1, w2, w3⟩ := within_some hd1
          rw [instrs_cons_wp, strip_off hd1 he hds, wpA_pure, w1]
          simp only [putD]
          refine group_off hq (by rw [Tr.get_set_ne _ _ (Ne.symm w2)]; exact he) ?_ ?_
          · intro x hx
            rw [Tr.get_set]
            split
            · rfl
            · rename_i hne
              rcases List.mem_cons.1 hx with rfl | hx
              · exact absurd rfl hne
              · exact hds x hx
          · intro e2 hl
            refine hw e2 (dropAll_le fun x v hx h => hl x v ?_)
            rw [dropAll_get, if_neg hx, Tr.get_set_ne _ _ (by intro c; subst c; exact hx (splitG_mem hq _ (List.mem_cons_self ..)))]
            exact h
        · cases h
      · cases h
theorem valM_lg (hcall : ∀ t args, Lg (call t args)) (i : AInstr) (e : Env) : Lg (valM call i e) := by
  unfold valM G
  split
  · exact Lg.exec hcall _ _
  · split
    · exact Lg.fail
    · exact Lg.exec hcall _ _
    · exact Lg.pure _
theorem instrsP_ok (hcall : ∀ t args, Lg (call t args)) : ∀ (f : Nat) (l : List AInstr) (e0 e : Env) (k : Env → Hp → Prop) (S : St), instrsP call f l e0 k S.h → Le e0 e → wpA (instrs call l e) (fun e' S' => ∃ e1, Le e1 e' ∧ k e1 S'.h) S
  | f, [], e0, e, k, S, h, hl => by
    have : k e0 S.h := by cases f <;> exact h
    exact ⟨e, S, rfl, e0, hl, this⟩
  | 0, i :: r, e0, e, k, S, h, hl => h.elim
  | f + 1, i :: r, e0, e, k, S, h, hl => by
    have plain : wp (valM call i e0) (fun v S => instrsP call f r (putD e0 i.dst v) k S) S.h → wpA (instrs call (i :: r) e) (fun e' S' => ∃ e1, Le e1 e' ∧ k e1 S'.h) S := by
      intro hw
      obtain ⟨v, S1, h1, h2⟩ := wp_raw (valM_lg hcall i e0) hw
      rw [instrs_cons_wp]
      exact wpA_of_run (valM_mono hl h1) _ (instrsP_ok hcall f r _ _ k S1 h2 (hl.putD _ _))
    simp only [instrsP] at h
    split at h
    · rename_i d a hm
      split at h
      · exact h.elim
      · rename_i v ha
        obtain rfl := movOf_some hm
        rw [instrs_cons_wp]
        have : valM call (⟨some d, none, .mov a⟩ : AInstr) e S = some (v, S) := by
          simp only [valM, exec, M.bind, M.lift, ev_mono hl ha]; rfl
        exact wpA_of_run this _ (instrsP_ok hcall f r _ _ k S h (hl.set d v))
    · split at h
      · exact plain h
      · rename_i t w hg
        split at h
        · exact plain h
        · rename_i blk ds d a rest hs
          split at h
          · exact h.elim
          · rename_i b hb
            have hb' := hl _ _ hb
            have drop_mono : ∀ {e2 : Env}, Le (dropAll ds e) e2 → Le (dropAll ds e0) e2 := fun h2 x v hx => h2 x v (by
              rw [dropAll_get] at hx ⊢
              split at hx
              · cases hx
              · rename_i hn; rw [if_neg hn]; exact hl x v hx)
            have on : b = .bool w → instrsP call f blk e0 (fun e' S => evK (a.ev e') (fun v S => instrsP call f rest ((dropAll ds e0).set d (some v)) k S) S) S.h → wpA (instrs call (i :: r) e) (fun e' S' => ∃ e1, Le e1 e' ∧ k e1 S'.h) S := by
              intro hbw hq
              subst hbw
              refine group_on hs hb' (wpA_mono (instrsP_ok hcall f blk e0 e _ S hq hl) fun e2 S2 h hd => ?_)
              obtain ⟨e1, h1, h2⟩ := h
              unfold evK at h2
              split at h2
              · exact h2.elim
              · rename_i v hv
                exact ⟨v, ev_mono h1 hv, instrsP_ok hcall f rest _ _ k S2 h2 ((drop_mono hd).set d v)⟩
            have off : b = .bool (!w) → instrsP call f rest ((dropAll ds e0).set d (some (.bool (!w)))) k S.h → wpA (instrs call (i :: r) e) (fun e' S' => ∃ e1, Le e1 e' ∧ k e1 S'.h) S := by
              intro hbw hq
              subst hbw
              exact group_off hs hb' (fun x hx => absurd hx List.not_mem_nil) fun e2 hd => instrsP_ok hcall f rest _ _ k S hq ((drop_mono hd).set d _)
            cases b with
            | bool c =>
              cases c <;> cases w
              · exact on rfl h
              · exact off rfl h
              · exact off rfl h
              · exact on rfl h
            | _ => exact h.elim
def Qt {α : Type} (m : M α) : Prop := ∀ S a S', m S = some (a, S') → ∃ D : List (Nat × Bool), (∀ x ∈ D, x.2 = false) ∧ S' = { heap := S.heap, next := S.next, log := D ++ S.log } ∧ ∀ L, m { heap := S.heap, next := S.next, log := L } = some (a, { heap := S.heap, next := S.next, log := D ++ L })
def Pu {α : Type} (m : M α) : Prop := ∀ S a S', m S = some (a, S') → S' = S ∧ ∀ L, m { heap := S.heap, next := S.next, log := L } = some (a, { heap := S.heap, next := S.next, log := L })
theorem Pu.qt {m : M α} (h : Pu m) : Qt m := by
  intro S a S' k
  obtain ⟨rfl, h2⟩ := h S a S' k
  exact ⟨[], by simp, rfl, h2⟩
theorem Pu.pure (a : α) : Pu (M.pure a) := by intro S b S' h; cases h; exact ⟨rfl, fun L => rfl⟩
theorem Pu.fail : Pu (M.fail : M α) := by intro S b S' h; cases h
theorem Pu.lift (o : Option α) : Pu (M.lift o) := by cases o with | none => exact Pu.fail | some a => exact Pu.pure a
theorem Pu.bind {m : M α} {f : α → M β} (hm : Pu m) (hf : ∀ a, Pu (f a)) : Pu (m.bind f) := by
  intro S b S' h
  simp only [M.bind] at h
  cases hx : m S with
  | none => rw [hx] at h; cases h
  | some p =>
    obtain ⟨a, S1⟩ := p
    rw [hx] at h
    obtain ⟨rfl, h1⟩ := hm S a S1 hx
    obtain ⟨rfl, h2⟩ := hf a _ b S' h
    exact ⟨rfl, fun L => by simp only [M.bind, h1 L]; exact h2 L⟩
theorem Qt.bind {m : M α} {f : α → M β} (hm : Qt m) (hf : ∀ a, Qt (f a)) : Qt (m.bind f) := by
  intro S b S' h
  simp only [M.bind] at h
  cases hx : m S with
  | none => rw [hx] at h; cases h
  | some p =>
    obtain ⟨a, S1⟩ := p
    rw [hx] at h
    obtain ⟨D1, q1, rfl, h1⟩ := hm S a S1 hx
    obtain ⟨D2, q2, rfl, h2⟩ := hf a _ b S' h
    refine ⟨D2 ++ D1, ?_, by simp, fun L => ?_⟩
    · intro x hx
      rcases List.mem_append.1 hx with hx | hx
      · exact q2 x hx
      · exact q1 x hx
    · simp only [M.bind, h1 L]
      rw [h2 (D1 ++ L)]
      simp
theorem Qt.pure (a : α) : Qt (M.pure a) := (Pu.pure a).qt
theorem Qt.fail : Qt (M.fail : M α) := Pu.fail.qt
theorem Qt.lift (o : Option α) : Qt (M.lift o) := (Pu.lift o).qt
theorem Qt.rd (b : Nat) : Qt (rd b) := by
  intro S o S' h
  unfold Wb.rd at h
  cases hb : S.heap.get b with
  | none => rw [hb] at h; cases h
  | some p =>
    rw [hb] at h
    cases h
    exact ⟨[(b, false)], by simp, rfl, fun L => by simp only [Wb.rd, hb]; rfl⟩
theorem Qt.ld1 (b o : Nat) : Qt (ld1 b o) := Qt.bind (Qt.rd b) fun x => by cases x <;> first | exact Qt.lift _ | exact Qt.fail
theorem Qt.ldCells (b o n : Nat) : Qt (ldCells b o n) := Qt.bind (Qt.rd b) fun x => by
  cases x
  · dsimp only; split
    · exact Qt.pure _
    · exact Qt.fail
  · exact Qt.fail
  · exact Qt.fail
  · dsimp only; split
    · exact Qt.pure _
    · exact Qt.fail
theorem exec_pure (e : Env) : ∀ (op : AOp), pureOp op = true → Pu (exec call e op) := by
  intro op h
  cases op <;> first | cases h | skip
  all_goals unfold exec
  case len k a =>
    refine Pu.bind (Pu.lift _) fun x => ?_
    cases k <;> first | exact absurd h Bool.false_ne_true | exact Pu.bind (Pu.lift _) fun _ => Pu.pure _
  case conv k a =>
    cases k <;> first | exact absurd h Bool.false_ne_true | skip
    refine Pu.bind (Pu.lift _) fun x => ?_
    cases x <;> first | exact Pu.pure _ | exact Pu.fail
  all_goals repeat' (first | exact Pu.pure _ | exact Pu.fail | exact Pu.lift _ | refine Pu.bind ?_ (fun _ => ?_) | split)
theorem exec_ro (e : Env) : ∀ (op : AOp), roOp op = true → Qt (exec call e op) := by
  intro op h
  by_cases hp : pureOp op = true
  · exact (exec_pure e op hp).qt
  · cases op <;> first | (exact absurd h hp) | skip
    all_goals unfold exec
    case conv k a =>
      cases k <;> first | exact absurd h Bool.false_ne_true | exact absurd rfl hp | skip
      refine Qt.bind (Qt.lift _) fun x => ?_
      cases x <;> first | exact Qt.fail | skip
      rename_i p n c
      cases p with
      | none => exact Qt.pure _
      | some p => exact Qt.bind (Qt.ldCells _ _ _) fun _ => Qt.bind (Qt.lift _) fun _ => Qt.pure _
    all_goals repeat' (first | exact Qt.pure _ | exact Qt.fail | exact Qt.lift _ | exact Qt.rd _ | exact Qt.ld1 _ _ | exact Qt.ldCells _ _ _ | refine Qt.bind ?_ (fun _ => ?_) | split)
theorem valM_pure {i : AInstr} (e : Env) (h : pureOp i.op = true) : Pu (valM call i e) := by
  unfold valM G
  split
  · exact exec_pure e _ h
  · split
    · exact Pu.fail
    · exact exec_pure e _ h
    · exact Pu.pure _
theorem valM_ro {i : AInstr} (e : Env) (h : roOp i.op = true) : Qt (valM call i e) := by
  unfold valM G
  split
  · exact exec_ro e _ h
  · split
    · exact Qt.fail
    · exact exec_ro e _ h
    · exact Qt.pure _
def quietT (t : Touch) : Prop := t.lo = t.hi ∧ ∀ x ∈ t.log, x.2 = false
theorem hits_quiet {a b : Touch} (ha : quietT a) (hb : quietT b) : hits a b = false := by
  unfold hits
  rw [List.any_eq_false]
  intro x hx
  have h1 : (Nat.ble b.lo x.1 && Nat.blt x.1 b.hi) = false := by
    rw [← hb.1]
    cases h : Nat.ble b.lo x.1 with
    | false => rfl
    | true =>
      cases h2 : Nat.blt x.1 b.lo with
      | false => rfl
      | true =>
        have e1 := Nat.le_of_ble_eq_true h
        have e2 : x.1 + 1 ≤ b.lo := Nat.le_of_ble_eq_true h2
        omega
  rw [h1]
  simp only [Bool.false_or, Bool.not_eq_true]
  rw [List.any_eq_false]
  intro y hy
  simp [ha.2 x hx, hb.2 y hy]
def apartR (ms : List Nat) (a b : Nat × Touch) : Prop := (ms.getD a.1 0).testBit b.1 = true ∨ (hits a.2 b.2 = false ∧ hits b.2 a.2 = false)
theorem apartOne_iff (ms : List Nat) (j : Nat) (t : Touch) : ∀ (ts : List (Nat × Touch)), apartOne (ms.getD j 0) t ts = true ↔ ∀ x ∈ ts, apartR ms (j, t) x
  | [] => by simp [apartOne]
  | (i, u) :: r => by
    simp only [apartOne, Bool.and_eq_true, Bool.or_eq_true, Bool.not_eq_true', apartOne_iff ms j t r, List.mem_cons, forall_eq_or_imp, apartR]
theorem apartAll_iff (ms : List Nat) : ∀ (ts : List (Nat × Touch)), apartAll ms ts = true ↔ ts.Pairwise (apartR ms)
  | [] => by simp [apartAll]
  | (j, t) :: r => by simp only [apartAll, Bool.and_eq_true, apartOne_iff, apartAll_iff ms r, List.pairwise_cons]
theorem pMask_bit : ∀ (l : List AInstr) (j k : Nat), (pMask l j).testBit k = true → ∃ i, l[k - j]? = some i ∧ j ≤ k ∧ pureOp i.op = true
  | [], j, k, h => by simp [pMask] at h
  | i :: l, j, k, h => by
    simp only [pMask] at h
    have rest : (pMask l (j + 1)).testBit k = true → ∃ i', (i :: l)[k - j]? = some i' ∧ j ≤ k ∧ pureOp i'.op = true := fun h => by
      obtain ⟨i', h1, h2, h3⟩ := pMask_bit l (j + 1) k h
      refine ⟨i', ?_, by omega, h3⟩
      rw [show k - j = (k - (j + 1)) + 1 by omega, List.getElem?_cons_succ]
      exact h1
    split at h
    · rename_i hp
      have h' : (2 ^ j ||| pMask l (j + 1)).testBit k = true := h
      rw [Nat.testBit_or, Bool.or_eq_true, Nat.testBit_two_pow] at h'
      rcases h' with h' | h'
      · have : j = k := by simpa using h'
        subst this
        exact ⟨i, by simp, Nat.le_refl _, hp⟩
      · exact rest h'
    · exact rest h
theorem rMask_bit : ∀ (l : List AInstr) (j k : Nat), (rMask l j).testBit k = true → ∃ i, l[k - j]? = some i ∧ j ≤ k ∧ roOp i.op = true
  | [], j, k, h => by simp [rMask] at h
  | i :: l, j, k, h => by
    simp only [rMask] at h
    have rest : (rMask l (j + 1)).testBit k = true → ∃ i', (i :: l)[k - j]? = some i' ∧ j ≤ k ∧ roOp i'.op = true := fun h => by
      obtain ⟨i', h1, h2, h3⟩ := rMask_bit l (j + 1) k h
      refine ⟨i', ?_, by omega, h3⟩
      rw [show k - j = (k - (j + 1)) + 1 by omega, List.getElem?_cons_succ]
      exact h1
    split at h
    · rename_i hp
      have h' : (2 ^ j ||| rMask l (j + 1)).testBit k = true := h
      rw [Nat.testBit_or, Bool.or_eq_true, Nat.testBit_two_pow] at h'
      rcases h' with h' | h'
      · have : j = k := by simpa using h'
        subst this
        exact ⟨i, by simp, Nat.le_refl _, hp⟩
      · exact rest h'
    · exact rest h
theorem okNgo_bit {pm rm nm : Nat} {ms : List Nat} : ∀ (l : List AInstr) (j0 : Nat), okNgo pm rm nm ms l j0 = true → ∀ (j i : Nat), j0 ≤ j → j < j0 + l.length → i < j →
    pm.testBit j = true ∨ (ms.getD j 0).testBit i = true ∨ pm.testBit i = true ∨ (nm.testBit j = true ∧ nm.testBit i = true) ∨ (rm.testBit j = true ∧ rm.testBit i = true)
  | [], j0, h, j, i, h1, h2, h3 => by simp at h2; omega
  | a :: l, j0, h, j, i, h1, h2, h3 => by
    simp only [okNgo, Bool.and_eq_true, Bool.or_eq_true] at h
    by_cases hj : j = j0
    · subst hj
      rcases h.1 with h4 | h4
      · exact .inl h4
      · have h5 := Nat.eq_of_beq_eq_true h4
        have h6 := congrArg (fun x => x.testBit i) h5
        have e1 : (2 ^ j - 1).testBit i = true := by rw [Nat.testBit_two_pow_sub_one]; simpa using h3
        change ((2 ^ j - 1) &&& (((ms.getD j 0) ||| pm) ||| ((match nm.testBit j with | true => nm | false => 0) ||| (match rm.testBit j with | true => rm | false => 0)))).testBit i = _ at h6
        simp only [Nat.testBit_and, Nat.testBit_or, e1, Bool.true_and, Bool.or_eq_true] at h6
        rcases h6 with (h6 | h6) | h6 | h6
        · exact .inr (.inl h6)
        · exact .inr (.inr (.inl h6))
        · split at h6
          · rename_i q; exact .inr (.inr (.inr (.inl ⟨q, h6⟩)))
          · simp at h6
        · split at h6
          · rename_i q; exact .inr (.inr (.inr (.inr ⟨q, h6⟩)))
          · simp at h6
    · exact okNgo_bit l (j0 + 1) h.2 j i (by omega) (by simp at h2; omega) h3
/-- what an instruction of a region touches -/
structure Seen (l0 : List AInstr) (ms : List Nat) (nm : Nat) (j : Nat) (tsF ts : List (Nat × Touch)) : Prop where
  keep : tsF.filter (fun x => nm.testBit x.1) = ts
  below : ∀ x ∈ tsF, x.1 < j ∧ (pMask l0 0).testBit x.1 = false ∧ ((rMask l0 0).testBit x.1 = true → quietT x.2)
  apart : tsF.Pairwise fun a b => ¬ (nm.testBit a.1 = true ∧ nm.testBit b.1 = true) → apartR ms a b
theorem keepT_or {j : Nat} {t : Touch} {ts : List (Nat × Touch)} : keepT j t ts = (j, t) :: ts ∨ (keepT j t ts = ts ∧ t.log = [] ∧ t.lo = t.hi) := by
  unfold keepT
  split
  · rename_i h1 h2; exact .inr ⟨rfl, h1, Nat.eq_of_beq_eq_true h2⟩
  · exact .inl rfl
theorem Seen.step {l0 : List AInstr} {ms : List Nat} {nm j : Nat} {tsF ts : List (Nat × Touch)} (h : Seen l0 ms nm j tsF ts) (ho : okN l0 ms nm = true) (hj : j < l0.length) {t : Touch}
    (hp : (pMask l0 0).testBit j = true → t.log = [] ∧ t.lo = t.hi) (hr : (rMask l0 0).testBit j = true → quietT t) :
    Seen l0 ms nm (j + 1) (keepT j t tsF) (match nm.testBit j with | true => keepT j t ts | false => ts) := by
  rcases keepT_or (j := j) (t := t) (ts := tsF) with h1 | ⟨h1, h2, h3⟩
  · have h1' : keepT j t ts = (j, t) :: ts := by
      rcases keepT_or (j := j) (t := t) (ts := ts) with h4 | ⟨h4, h5, h6⟩
      · exact h4
      · have : keepT j t tsF = tsF := by unfold keepT; rw [h5, h6]; simp
        rw [h1] at this
        have := congrArg List.length this
        simp at this
    have hnp : (pMask l0 0).testBit j = false := by
      rw [Bool.eq_false_iff]; intro c
      obtain ⟨h5, h6⟩ := hp c
      have : keepT j t tsF = tsF := by unfold keepT; rw [h5, h6]; simp
      rw [h1] at this
      have := congrArg List.length this
      simp at this
    rw [h1]
    refine ⟨?_, ?_, ?_⟩
    · simp only [List.filter_cons]
      cases hn : nm.testBit j with
      | true => simp only [if_true, h1', h.keep]
      | false => simp only [Bool.false_eq_true, if_false, h.keep]
    · intro x hx
      rcases List.mem_cons.1 hx with rfl | hx
      · exact ⟨Nat.lt_succ_self _, hnp, hr⟩
      · exact ⟨Nat.lt_succ_of_lt (h.below x hx).1, (h.below x hx).2⟩
    · refine List.pairwise_cons.2 ⟨fun x hx hn => ?_, h.apart⟩
      obtain ⟨b1, b2, b3⟩ := h.below x hx
      rcases okNgo_bit l0 0 ho j x.1 (Nat.zero_le _) (by omega) b1 with c | c | c | c | c
      · rw [c] at hnp; cases hnp
      · exact .inl c
      · rw [c] at b2; cases b2
      · exact absurd c hn
      · exact .inr ⟨hits_quiet (hr c.1) (b3 c.2), hits_quiet (b3 c.2) (hr c.1)⟩
  · have h1' : keepT j t ts = ts := by unfold keepT; rw [h2, h3]; simp
    have : (match nm.testBit j with | true => keepT j t ts | false => ts) = ts := by rw [h1']; split <;> rfl
    rw [h1, this]
    exact ⟨h.keep, fun x hx => ⟨Nat.lt_succ_of_lt (h.below x hx).1, (h.below x hx).2⟩, h.apart⟩
theorem touch_pure {i : AInstr} {e : Env} {S S1 : St} {v : Value} (hi : pureOp i.op = true) (h : valM call i e { heap := S.heap, next := S.next, log := [] } = some (v, S1)) : S1.log = [] ∧ S.next = S1.next := by
  obtain ⟨rfl, _⟩ := valM_pure e hi _ _ _ h
  exact ⟨rfl, rfl⟩
theorem touch_ro {i : AInstr} {e : Env} {S S1 : St} {v : Value} (hi : roOp i.op = true) (h : valM call i e { heap := S.heap, next := S.next, log := [] } = some (v, S1)) : quietT ⟨S1.log, S.next, S1.next⟩ := by
  obtain ⟨D, h1, rfl, _⟩ := valM_ro e hi _ _ _ h
  exact ⟨rfl, by simpa using h1⟩
theorem drawnP_ok (hcall : ∀ t args, Lg (call t args)) {l0 : List AInstr} {ms : List Nat} {nm : Nat} (ho : okN l0 ms nm = true) : ∀ (l : List AInstr) (j : Nat) (e0 e : Env) (tsF ts : List (Nat × Touch)) (k : Env → Hp → Prop) (S : St), l0.drop j = l → Seen l0 ms nm j tsF ts →
    drawnP call ms nm l j e0 ts k S.h → Le e0 e →
    wpA (drawnGo call l j e tsF) (fun r S' => apartAll ms r.2 = true ∧ ∃ e1, Le e1 r.1 ∧ k e1 S'.h) S
  | [], j, e0, e, tsF, ts, k, S, hd, hs, h, hl => by
    simp only [drawnP, okP] at h
    cases hb : apartAll ms ts with
    | false => rw [hb] at h; exact h.elim
    | true =>
      rw [hb] at h
      refine ⟨(e, tsF), S, rfl, ?_, e0, hl, h⟩
      rw [apartAll_iff] at hb ⊢
      rw [← hs.keep, List.pairwise_filter] at hb
      refine hb.imp₂ (fun {a b} (h1 : nm.testBit a.1 = true → nm.testBit b.1 = true → apartR ms a b) (h2 : ¬ (nm.testBit a.1 = true ∧ nm.testBit b.1 = true) → apartR ms a b) => ?_) hs.apart
      by_cases hc : nm.testBit a.1 = true ∧ nm.testBit b.1 = true
      · exact h1 hc.1 hc.2
      · exact h2 hc
  | i :: r, j, e0, e, tsF, ts, k, S, hd, hs, h, hl => by
    have hj : j < l0.length := by
      have := congrArg List.length hd
      simp at this; omega
    have hi : l0[j]? = some i := by
      have := congrArg List.head? hd
      simpa using this
    have hr : l0.drop (j + 1) = r := by
      have := congrArg List.tail hd
      simpa using this
    have gp : (pMask l0 0).testBit j = true → pureOp i.op = true := fun c => by
      obtain ⟨i', h1, _, h3⟩ := pMask_bit l0 0 j c
      rw [Nat.sub_zero, hi] at h1; cases h1; exact h3
    have gr : (rMask l0 0).testBit j = true → roOp i.op = true := fun c => by
      obtain ⟨i', h1, _, h3⟩ := rMask_bit l0 0 j c
      rw [Nat.sub_zero, hi] at h1; cases h1; exact h3
    have go : ∀ {v : Value} {S1 : St} {tsx : List (Nat × Touch)}, valM call i e0 S.h.st = some (v, S1) →
        (match nm.testBit j with | true => keepT j { log := S1.log, lo := S.next, hi := S1.next } ts | false => ts) = tsx →
        drawnP call ms nm r (j + 1) (putD e0 i.dst v) tsx k (S1.over S.h.wl) →
        wpA (drawnGo call (i :: r) j e tsF) (fun r S' => apartAll ms r.2 = true ∧ ∃ e1, Le e1 r.1 ∧ k e1 S'.h) S := by
      intro v S1 tsx h1 htx h2
      have h3 := valM_mono hl h1
      have hst := hs.step ho hj (t := { log := S1.log, lo := S.next, hi := S1.next }) (fun c => touch_pure (gp c) h1) (fun c => touch_ro (gr c) h1)
      rw [htx] at hst
      have eo : S1.over S.h.wl = ({ heap := S1.heap, next := S1.next, log := S1.log ++ S.log } : St).h := by simp only [St.over, St.h, wrs_append]
      rw [eo] at h2
      obtain ⟨q, S2, h4, h5⟩ := drawnP_ok hcall ho r _ _ _ _ _ k ({ heap := S1.heap, next := S1.next, log := S1.log ++ S.log } : St) hr hst h2 (hl.putD i.dst v)
      refine ⟨q, S2, ?_, h5⟩
      have h3' : valM call i e { heap := S.heap, next := S.next, log := [] } = some (v, S1) := h3
      simp only [drawnGo, instr_valM, M.bind, h3', M.pure]
      exact h4
    simp only [drawnP] at h
    split at h
    · rename_i hn
      simp only [dstepP] at h
      obtain ⟨v, S1, h1, h2⟩ := h
      exact go h1 (by rw [hn]; rfl) h2
    · rename_i hn
      split at h
      · rename_i d a hm
        split at h
        · exact h.elim
        · rename_i v ha
          obtain rfl := movOf_some hm
          have : valM call (⟨some d, none, .mov a⟩ : AInstr) e0 S.h.st = some (v, S.h.st) := by
            simp only [valM, exec, M.bind, M.lift, ha]; rfl
          exact go this (by rw [hn]) h
      · obtain ⟨v, S1, h1, h2⟩ := h
        exact go h1 (by rw [hn]) h2
theorem drawn_ro (ms : List Nat) : ∀ (l : List AInstr) (j : Nat) (e : Env) (ts : List (Nat × Touch)) (e' : Env) (S S' : St), allRo l = true → instrs call l e S = some (e', S') → (∀ x ∈ ts, quietT x.2) →
    ∃ ts', drawnGo call l j e ts S = some ((e', ts'), S') ∧ ∀ x ∈ ts', quietT x.2
  | [], j, e, ts, e', S, S', ha, h, hq => by cases h; exact ⟨ts, rfl, hq⟩
  | i :: l, j, e, ts, e', S, S', ha, h, hq => by
    simp only [allRo, Bool.and_eq_true] at ha
    simp only [instrs, instr_valM, M.bind] at h
    cases hx : valM call i e S with
    | none => rw [hx] at h; cases h
    | some p =>
      obtain ⟨v, S1⟩ := p
      rw [hx] at h
      obtain ⟨D, h3, rfl, h4⟩ := valM_ro e ha.1 _ _ _ hx
      have hq' : ∀ x ∈ keepT j { log := D, lo := S.next, hi := S.next } ts, quietT x.2 := by
        intro x hx
        rcases keepT_or (j := j) (t := { log := D, lo := S.next, hi := S.next }) (ts := ts) with h5 | ⟨h5, _⟩
        · rw [h5] at hx
          rcases List.mem_cons.1 hx with rfl | hx
          · exact ⟨rfl, h3⟩
          · exact hq x hx
        · rw [h5] at hx; exact hq x hx
      obtain ⟨ts', h6, h7⟩ := drawn_ro ms l (j + 1) (putD e i.dst v) _ e' _ S' ha.2 h hq'
      refine ⟨ts', ?_, h7⟩
      simp only [drawnGo, instr_valM, M.bind, h4 [], M.pure, List.append_nil]
      exact h6
theorem apart_quiet {ms : List Nat} : ∀ {ts : List (Nat × Touch)}, (∀ x ∈ ts, quietT x.2) → apartAll ms ts = true
  | [], h => rfl
  | (j, t) :: r, h => by
    rw [apartAll_iff]
    refine List.pairwise_cons.2 ⟨fun x hx => .inr ⟨hits_quiet (h _ (List.mem_cons_self ..)) (h x (List.mem_cons_of_mem _ hx)), hits_quiet (h x (List.mem_cons_of_mem _ hx)) (h _ (List.mem_cons_self ..))⟩, ?_⟩
    rw [← apartAll_iff]
    exact apart_quiet fun x hx => h x (List.mem_cons_of_mem _ hx)
theorem readL_mono {e e' : Env} (hl : Le e e') : ∀ {L : List Nat} {vs : List Value}, readL e L = some vs → readL e' L = some vs
  | [], vs, h => h
  | t :: L, vs, h => by
    simp only [readL] at h ⊢
    cases h1 : e.get t with
    | none => rw [h1] at h; cases h
    | some v =>
      rw [h1] at h
      rw [hl _ _ h1]
      cases h2 : readL e L with
      | none => rw [h2] at h; cases h
      | some r => rw [h2] at h; rw [readL_mono hl h2]; exact h
theorem invP_mono {L : List Nat} {I : InvT L.length} {e e' : Env} {S : Hp} (hl : Le e e') (h : invP L I e S) : invP L I e' S := by
  unfold invP at h ⊢
  cases h1 : readL e L with
  | none => rw [h1] at h; exact h.elim
  | some vs => rw [h1] at h; rw [readL_mono hl h1]; exact h
theorem readL_len {e : Env} : ∀ {L : List Nat} {vs : List Value}, readL e L = some vs → vs.length = L.length
  | [], vs, h => by cases h; rfl
  | t :: L, vs, h => by
    simp only [readL] at h
    split at h
    · rename_i v r h1 h2; cases h; simp [readL_len h2]
    · cases h
theorem allV_all : ∀ {n : Nat} {P : List Value → Prop}, allV n P → ∀ vs : List Value, vs.length = n → P vs
  | 0, P, h, vs, hv => by obtain rfl := List.length_eq_zero_iff.1 hv; exact h
  | n + 1, P, h, [], hv => by simp at hv
  | n + 1, P, h, v :: vs, hv => allV_all (h v) vs (by simpa using hv)
theorem zipSet_le {e : Env} : ∀ {L : List Nat} {vs : List Value} {e0 : Env}, readL e L = some vs → Le e0 e → Le (zipSet L vs e0) e
  | [], vs, e0, h, hl => by cases h; exact hl
  | t :: L, vs, e0, h, hl => by
    simp only [readL] at h
    split at h
    · rename_i v r h1 h2
      cases h
      exact zipSet_le (L := L) h2 (hl.of_set h1)
    · cases h
theorem codeP_ok (hcall : ∀ t args, Lg (call t args)) (A : List (Nat × List Nat)) (fuel : Nat) : ∀ (c : ACode) (p : Nat) (e0 e : Env) (k : Ext → Env → Hp → Prop) (S : St), codeP call A fuel p c e0 k S.h → Le e0 e →
    wpA (run call fuel c e) (fun r S' => ∃ e1, Le e1 r.2 ∧ k r.1 e1 S'.h) S
  | .skip, p, e0, e, k, S, h, hl => ⟨_, _, rfl, e0, hl, h⟩
  | .exit id, p, e0, e, k, S, h, hl => ⟨_, _, rfl, e0, hl, h⟩
  | .ret, p, e0, e, k, S, h, hl => ⟨_, _, rfl, e0, hl, h⟩
  | .range f ps as bd, p, e0, e, k, S, h, hl => by
    simp only [codeP, rangeP] at h
    simp only [run, wpA_bind]
    cases hf : f.ev e0 with
    | none => rw [hf] at h; exact h.elim
    | some g =>
      rw [hf] at h
      simp only at h
      rw [ev_mono hl hf, wpA_lift, wpA_nw]
      cases ht : target g [.func (.yield S.next) #[] #[]] with
      | none =>
        have ht' : target g [.func (.yield S.h.next) #[] #[]] = none := ht
        rw [ht'] at h; exact h.elim
      | some t =>
        have ht' : target g [.func (.yield S.h.next) #[] #[]] = some t := ht
        rw [ht'] at h
        simp only at h
        rw [wpA_lift]
        have hw := wp_raw (hcall t.1 t.2) (S := S.add (.loop ps as bd e none)) (h e hl)
        refine wpA_mono hw fun _ S2 h => ?_
        obtain ⟨ps', as', bd', e2, p, h1, h2⟩ := h
        have h1' : S2.heap.get S.next = some (.loop ps' as' bd' e2 p) := h1
        rw [wpA_rd h1']
        simp only [wpA_bind, wpA_wr]
        cases p with
        | none => simp only [wpA_pure]; exact ⟨e0, hl, h2⟩
        | some x => simp only [wpA_pure]; exact ⟨e0, hl, h2⟩
  | .ops l, p, e0, e, k, S, h, hl => by
    simp only [run, wpA_bind]
    refine wpA_mono (instrsP_ok hcall l.length l e0 e _ S h hl) fun e' S' h => ?_
    rw [wpA_pure]
    exact h
  | .drawn l ms, p, e0, e, k, S, h, hl => by
    simp only [run, drawnA, wpA_bind]
    simp only [codeP] at h
    split at h
    · rename_i ha
      obtain ⟨e', S', h1, h2⟩ := instrsP_ok hcall l.length l e0 e _ S h hl
      obtain ⟨ts', h3, h4⟩ := drawn_ro ms l 0 e [] e' S S' ha h1 (by simp)
      refine wpA_of_run h3 _ ?_
      rw [apart_quiet h4]
      simp only [if_true, wpA_pure]
      exact h2
    · split at h
      · rename_i ho
        refine wpA_mono (drawnP_ok hcall ho l 0 e0 e [] [] _ S rfl ⟨rfl, by simp, List.Pairwise.nil⟩ h hl) fun r S' h => ?_
        rw [h.1]
        simp only [if_true, wpA_pure]
        exact h.2
      · exact h.elim
  | .seq a b, p, e0, e, k, S, h, hl => by
    simp only [run, wpA_bind]
    refine wpA_mono (codeP_ok hcall A fuel a _ e0 e _ S h hl) fun r S' h => ?_
    obtain ⟨x, e'⟩ := r
    obtain ⟨e1, h1, h2⟩ := h
    cases x with
    | normal => exact codeP_ok hcall A fuel b _ e1 e' _ S' h2 h1
    | exit id => simp only [wpA_pure]; exact ⟨e1, h1, h2⟩
    | ret => simp only [wpA_pure]; exact ⟨e1, h1, h2⟩
  | .cond c a b, p, e0, e, k, S, h, hl => by
    simp only [codeP, ifP] at h
    simp only [run, wpA_bind]
    cases hc : (c.ev e0).bind asBool with
    | none => rw [hc] at h; exact h.elim
    | some t =>
      rw [hc] at h
      rw [evB_mono hl hc, wpA_lift]
      cases t with
      | true => exact codeP_ok hcall A fuel a _ e0 e _ S h hl
      | false => exact codeP_ok hcall A fuel b _ e0 e _ S h hl
  | .block id a, p, e0, e, k, S, h, hl => by
    simp only [run, wpA_bind]
    refine wpA_mono (codeP_ok hcall A fuel a _ e0 e _ S h hl) fun r S' h => ?_
    obtain ⟨x, e'⟩ := r
    obtain ⟨e1, h1, h2⟩ := h
    cases x with
    | normal => simp only [wpA_pure]; exact ⟨e1, h1, h2⟩
    | ret => simp only [wpA_pure]; exact ⟨e1, h1, h2⟩
    | exit i =>
      simp only [blockP] at h2
      by_cases hi : i = id
      · subst hi
        have : Nat.beq i i = true := by simp
        rw [this] at h2
        simp only [if_true, wpA_pure]
        exact ⟨e1, h1, h2⟩
      · have : Nat.beq i id = false := by rw [Bool.eq_false_iff]; intro c; exact hi (Nat.eq_of_beq_eq_true c)
        rw [this] at h2
        simp only [if_neg hi, wpA_pure]
        exact ⟨e1, h1, h2⟩
  | .loop a, p, e0, e, k, S, h, hl => by
    simp only [codeP, loopP] at h
    obtain ⟨I, ⟨m0, hm0, h0⟩, hs⟩ := h
    simp only [run]
    have key : ∀ (n m : Nat) (e : Env) (S : St), m < n → invP _ (I m) e S.h → wpA (iter (run call fuel a) n e) (fun r S' => ∃ e1, Le e1 r.2 ∧ k r.1 e1 S'.h) S := by
      intro n
      induction n with
      | zero => intro m e S hm h; omega
      | succ n ih =>
        intro m e S hm h
        simp only [iter, wpA_bind]
        unfold invP at h
        split at h
        · rename_i vs hv
          have h1 := allV_all (hs m S.h) vs (readL_len hv) h
          refine wpA_mono (codeP_ok hcall A fuel a _ _ e _ S h1 (zipSet_le hv (Le.leaf e))) fun r S' h => ?_
          obtain ⟨x, e'⟩ := r
          obtain ⟨e1, h2, h3⟩ := h
          cases x with
          | normal =>
            obtain ⟨j, hj, h4⟩ := h3
            exact ih j e' S' (by omega) (invP_mono h2 h4)
          | exit i => simp only [wpA_pure]; exact ⟨e1, h2, h3⟩
          | ret => simp only [wpA_pure]; exact ⟨e1, h2, h3⟩
        · exact h.elim
    exact key fuel m0 e S hm0 (invP_mono hl h0)
theorem cellV_lg (x : Value) (sh : Sh) : Lg (cellV x sh) := by
  unfold cellV
  split
  · split
    · exact Lg.ld1 _ _
    · exact Lg.bind (Lg.ldCells _ _ _) fun _ => Lg.pure _
  · exact Lg.fail
theorem resP_ok {e1 e : Env} (hl : Le e1 e) : ∀ (rs : List ARes) (k : List Value → Hp → Prop) (S : St), resP e1 rs k S.h → wpA (resAll e rs) (fun vs S' => k vs S'.h) S
  | [], k, S, h => ⟨[], S, rfl, h⟩
  | .tmp t :: rs, k, S, h => by
    simp only [resP] at h
    simp only [resAll, wpA_bind, resV]
    cases ht : e1.get t with
    | none => rw [ht] at h; exact h.elim
    | some v =>
      rw [ht] at h
      rw [hl _ _ ht, wpA_lift]
      refine wpA_mono (resP_ok hl rs _ S h) fun vs S' h => ?_
      rw [wpA_pure]; exact h
  | .cell t sh :: rs, k, S, h => by
    simp only [resP] at h
    simp only [resAll, wpA_bind, resV]
    cases ht : e1.get t with
    | none => rw [ht] at h; exact h.elim
    | some x =>
      rw [ht] at h
      rw [hl _ _ ht, wpA_lift]
      refine wpA_mono (wp_raw (cellV_lg x sh) h) fun v S' h => ?_
      refine wpA_mono (resP_ok hl rs _ S' h) fun vs S' h => ?_
      rw [wpA_pure]; exact h
/-- a call -/
theorem callP {F : Nat → Option AFn} {n : Nat} {f : FuncId} {af : AFunc} {args : List Value} {A : List (Nat × List Nat)} {Φ : Value → Hp → Prop} {S : Hp} (hF : F f = some (.go af)) (hl : args.length = af.nparams)
    (h : codeP (callN F n) A n 1 af.body (argsEnv args 0 .leaf) (endP af.results Φ) S) : wp (callN F (n + 1) (.fn f) args) Φ S := by
  refine wp_of_wpA (Lg.callN F (n + 1) (.fn f) args) ?_
  rw [← full_h S] at h
  simp only [callN, hF, hl, if_true, wpA_bind]
  refine wpA_mono (codeP_ok (Lg.callN F n) A n af.body 1 _ _ _ S.full h (Le.refl _)) fun r S' h => ?_
  obtain ⟨x, e'⟩ := r
  obtain ⟨e1, h1, h2⟩ := h
  have key : resP e1 af.results (fun vs S => Φ (tupP vs) S) S'.h → wpA (M.bind (resAll e' af.results) fun vs => match vs with | [v] => M.pure v | vs => M.pure (.tuple vs.toArray)) (fun a S' => Φ a S'.h) S' := by
    intro h
    rw [wpA_bind]
    refine wpA_mono (resP_ok h1 af.results _ S' h) fun vs S' h => ?_
    unfold tupP at h
    split
    · simp only [wpA_pure]; exact h
    · rename_i hx
      rw [wpA_pure]
      split at h
      · rename_i v; exact absurd rfl (hx v)
      · exact h
  cases x with
  | exit id => exact h2.elim
  | normal => exact key h2
  | ret => exact key h2
/-- a call back -/
theorem yieldP {F : Nat → Option AFn} {n l : Nat} {args : List Value} {ps : List Nat} {as bd : ACode} {e e0 : Env} {A B : List (Nat × List Nat)} {Φ : Value → Hp → Prop} {S : Hp}
    (hS : S.heap.get l = some (.loop ps as bd e none)) (hl : args.length = ps.length) (he : Le (zipSet ps args e0) (zipSet ps args e))
    (h : codeP (callN F n) A n 1 as (zipSet ps args e0) (contP (fun e1 S1 => codeP (callN F n) B n 1 bd e1 (contP (fun _ S2 => Φ (.bool true) (S2.put l (some (.loop ps as bd e none)))) (fun x _ S2 => Φ (.bool false) (S2.put l (some (.loop ps as bd e (some x)))))) S1) (fun _ _ _ => False)) (S.put l none)) :
    wp (callN F (n + 1) (.yield l) args) Φ S := by
  refine wp_of_wpA (Lg.callN F (n + 1) (.yield l) args) ?_
  have hS' : S.full.heap.get l = some (.loop ps as bd e none) := hS
  have e1 : S.put l none = ((S.full.saw l).put l none).h := by
    simp only [Hp.put, St.h, St.put, St.saw, Hp.full, wrs, wrs_full]
  rw [e1] at h
  simp only [callN, wpA_bind, wpA_rd hS', if_pos hl, wpA_wr]
  refine wpA_mono (codeP_ok (Lg.callN F n) A n as 1 _ _ _ _ h he) fun r S1 h => ?_
  obtain ⟨x, e'⟩ := r
  obtain ⟨e1, h1, h2⟩ := h
  cases x with
  | exit id => exact h2.elim
  | ret => exact h2.elim
  | normal =>
    simp only [wpA_bind]
    refine wpA_mono (codeP_ok (Lg.callN F n) B n bd 1 _ _ _ _ h2 h1) fun r S2 h => ?_
    obtain ⟨x, e''⟩ := r
    obtain ⟨e2, h3, h4⟩ := h
    cases x with
    | normal => simp only [wpA_bind, wpA_wr, wpA_pure]; exact h4
    | exit id => simp only [wpA_bind, wpA_wr, wpA_pure]; exact h4
    | ret => simp only [wpA_bind, wpA_wr, wpA_pure]; exact h4
theorem zipSet_mono : ∀ {ps : List Nat} {args : List Value} {e0 e : Env}, Le e0 e → Le (zipSet ps args e0) (zipSet ps args e)
  | [], _, _, _, h => h
  | _ :: _, [], _, _, h => h
  | p :: ps, v :: vs, e0, e, h => zipSet_mono (ps := ps) (args := vs) (h.set p v)
end Go.Wb
