/- The engine: EngL EngO EngK EngK2 EngS. It proves nothing of the program by itself; it has no conditions. -/
import Derived.Test.YtmepokefmpcnnaaEngM
import Derived.KernelRfl
import Derived.ProofKit
import Derived.OpenShut
import Derived.WideKeyArgs
/- The engine, part L: from a run to a law. -/
section
set_option linter.unusedSimpArgs false
set_option linter.unusedVariables false
namespace Go.Wb
open Go.RowKit Go.ChangeShapes
variable {P : Program} {w : World}

def tabOf (P : Program) (f : Nat) : Option AFn := match P.funcs[f]? with | some fn => compFunc P fn | none => none
theorem tabOk (P : Program) : TabOk P (tabOf P) := by
  intro f af h
  unfold tabOf at h
  split at h
  · rename_i fn hfn; exact .inl ⟨fn, hfn, h⟩
  · simp at h
def isGo : Option AFn → Bool
  | some (.go _) => true
  | _ => false

/-- the start: m abstract blocks that are but names -/
def names (m : Nat) : St := { heap := .leaf, next := m, log := [] }

theorem start_rel {r : Ren} (m : Nat) : Rel P r (names m) w :=
  ⟨fun id b h => by simp [names, Tr.get_leaf] at h, fun i j bi bj h => by simp [names, Tr.get_leaf] at h⟩
theorem start_dead {r : Ren} {m k : Nat} : ¬ Live r (names m) k := by
  rintro ⟨id, b, h, _⟩
  simp [names, Tr.get_leaf] at h

/-- a run that comes to true: so does the call, whatever the arguments lead to, and what was there stays -/
theorem run_calls (hm : P.follows .mixedOrders = true) {F : Nat → Option AFn} (hF : TabOk P F) {n m : Nat} {f : FuncId} {args : List Value} (h : (callN F n (.fn f) args (names m)).map (·.1) = some (.bool true)) (hg : isGo (F f) = true)
    {r : Ren} (hd : ∀ id, r.dom id → id < m) {args' : Array Value} (ha : LRel r args args'.toList) :
    Calls P f args' w fun e w' => e = .returned (.bool true) ∧ Below w.heap.size w w' := by
  cases hc : callN F n (.fn f) args (names m) with
  | none => rw [hc] at h; simp at h
  | some vs =>
    obtain ⟨v, S'⟩ := vs
    rw [hc] at h
    obtain rfl : v = .bool true := by simpa using h
    have hgo : ∀ k, F f ≠ some (.ext k) := by
      intro k hk
      rw [hk] at hg
      simp [isGo] at hg
    obtain ⟨D, r', w', v', hs, hv, hst⟩ := callN_calls hm hF hc (start_rel (P := P) (w := w) m) (fun id h1 h2 h3 => by
      have := hd id h3
      simp only [names] at h1
      omega) ha hgo (by
      intro k hk
      rw [hk] at hg
      simp [isGo] at hg)
    obtain rfl := hv.bool_inv
    intro cs
    obtain ⟨fr, k1, k2, k3⟩ := hst cs
    exact ⟨.returned (.bool true), w', fr, ⟨rfl, hs.os, hs.tape, hs.output, hs.size, fun k hk => hs.frame k hk start_dead⟩, k1, k2, k3⟩

theorem trodAll_stays {H : Type} {enc : TypeId × Value → H} (hl : laidOutB P = true) {W W' : World} {sp : Nat → Bool} : ∀ {ts : List TypeId} {vs : List Value} {ds : List (DataW H)} {ps : List MemPlace},
    (ts.all fun t => P.readableRec t && decide (t < P.types.size)) = true → DataW.TrodAll enc P W 0 (fun _ => true) true ts vs ds ps → (∀ x ∈ ps, W.sameAt W' x) → (∀ x ∈ ps, sp x.block = true) → DataW.TrodAll enc P W' 0 sp true ts vs ds ps
  | [], vs, ds, ps, ht, h, hs, hp => by
    obtain ⟨rfl, rfl, rfl⟩ := trodAll_nil h
    exact trodAll_mk0
  | t :: ts, vs, ds, ps, ht, h, hs, hp => by
    obtain ⟨v, vs', d, ds', p, q, rfl, rfl, rfl, h1, h2⟩ := trodAll_cons h
    simp only [List.all_cons, Bool.and_eq_true, decide_eq_true_eq] at ht
    exact trodAll_cons_mk (WideElems.Trod_stays hl ht.1.1 ht.1.2 h1 (fun x hx => hs x (by simp [hx])) fun x hx => hp x (by simp [hx]))
      (trodAll_stays hl ht.2 h2 (fun x hx => hs x (by simp [hx])) fun x hx => hp x (by simp [hx]))

/-- what a law's row asks behind a call that comes to true and leaves what was there -/
theorem law_post {H : Type} {enc : TypeId × Value → H} (hl : laidOutB P = true) {f : Func} {s : ChangeSpec} {apart fresh handsOn : Bool} {W W' : World} {args : Array Value} {ds gs : List (DataW H)} {before : List MemPlace} {t : TypeId}
    (hv : s.vars = []) (hfn : s.fn H (ds ++ gs) = { results := [.lit (.bool true)], args := ds }) (hrt : f.resultTypes = #[t]) (ht : P.underlying t = some .bool)
    (hts : (f.params.toList.all fun t => P.readableRec t && decide (t < P.types.size)) = true)
    (hW : DataW.Whole enc P f.params.toList s.vars apart W args.toList ds gs before) (hb : Below W.heap.size W W') :
    s.post enc P f apart fresh handsOn false W args (.bool true) W' := by
  obtain ⟨p, q, hA, hV, hpq, hz, hnd⟩ := id hW
  rw [hv] at hV
  obtain ⟨rfl, rfl⟩ := trodVars_none hV
  have hpp : before = p := by rw [hpq]; simp
  have hlt : ∀ x ∈ p, x.block < W.heap.size := fun x hx => hW.lt x (by rw [hpp]; exact hx)
  refine ⟨ds, [], before, [], p, [], hW, ?_, ?_, ?_, World.keptBut_mono (fun x hx => ⟨hx, .inr (.inl (by rw [← hpp]; exact hx))⟩) (hb.frame _), fun h => by cases h⟩
  · rw [hfn, hrt]
    exact trodAll_mk1 (shut_bool ht true)
  · rw [hfn]
    exact trodAll_stays hl hts hA (fun x hx => hb.same (hlt x hx)) fun x hx => by simpa using hlt x hx
  · rw [hv, hfn]
    rfl
end Go.Wb
end
/- The engine, part O: the arguments of a law, opened but as far as their shape goes. -/
section
set_option linter.unusedSimpArgs false
set_option linter.unusedVariables false
namespace Go.Wb
open Go.RowKit Go.ChangeShapes Go.WideShapes
variable {P : Program} {W : World} {base : Nat}

/-- names for places that came in -/
def Ren.of (l : List (Nat × Nat)) : Ren := { dom := fun i => i < l.length, to := fun i => (l.getD i (0, 0)).1, base := fun i => (l.getD i (0, 0)).2, size := fun _ => 0, ext := fun _ => none, fin := ⟨l.length, fun _ h => h⟩ }

theorem cell_int {t : TypeId} {k : IntKind} {v : Value} (ht : P.underlying t = some (.int k)) (h : Cell.okWide P W .any base t v) : ∃ n, v = .int k n := by
  cases v <;> simp [Cell.okWide, Cell.ok, ht] at h
  obtain ⟨rfl, _⟩ := h
  exact ⟨_, rfl⟩
theorem cell_slice {t e : TypeId} {v : Value} (ht : P.underlying t = some (.slice e)) (h : Cell.okWide P W .any base t v) : v = .slice none 0 0 ∨ ∃ b o n c, v = .slice (some ⟨b, o, none⟩) n c ∧ n ≤ c := by
  cases v with
  | slice a n c =>
    cases a with
    | none =>
      cases n <;> cases c <;> simp [Cell.okWide, Cell.ok, ht] at h
      exact .inl rfl
    | some a =>
      simp only [Cell.okWide, Cell.ok, ht, World.has] at h
      obtain ⟨h1, _, _, h2, _⟩ := h
      obtain ⟨b, o, s⟩ := a
      simp only at h2
      subst h2
      exact .inr ⟨b, o, n, c, rfl, h1⟩
  | _ => simp [Cell.okWide, Cell.ok, ht] at h

theorem slice_named {r : Ren} {i n c : Nat} (hd : r.dom i) (he : r.ext i = none) : VRel r (.slice (some ⟨i, 0, none⟩) n c) (.slice (some ⟨r.to i, r.base i, none⟩) n c) := by
  have := VRel.slc (r := r) (b := i) (o := 0) (n := n) (c := c) (c' := c) hd (fun _ => rfl) (Nat.le_refl _) (fun z hz => by rw [he] at hz; cases hz)
  simpa using this
theorem cells_list {cs : Array Value} {n : Nat} (h : cs.size = n) : ∃ l : List Value, l.length = n ∧ cs = ⟨l⟩ := ⟨cs.toList, by simpa using h, rfl⟩
theorem list_cons {n : Nat} {l : List Value} (h : l.length = n + 1) : ∃ x r, l = x :: r := by
  cases l with
  | nil => simp at h
  | cons x r => exact ⟨x, r, rfl⟩
theorem cell_bool {t : TypeId} {v : Value} (ht : P.underlying t = some .bool) (h : Cell.okWide P W .any base t v) : ∃ b, v = .bool b := by
  cases v <;> simp [Cell.okWide, Cell.ok, ht] at h
  exact ⟨_, rfl⟩
theorem cell_str {t : TypeId} {v : Value} (ht : P.underlying t = some .string) (h : Cell.okWide P W .any base t v) : ∃ s, v = .string s := by
  cases v <;> simp [Cell.okWide, Cell.ok, ht] at h
  exact ⟨_, rfl⟩
theorem okWide_str {t : TypeId} {v : Value} (ht : P.underlying t = some .string) (h : Value.okWide P W .any base t v) : ∃ s, v = .string s :=
  cell_str ht (by simpa only [Value.okWide, ht] using h)
theorem okWide_bool' {t : TypeId} {v : Value} (ht : P.underlying t = some .bool) (h : Value.okWide P W .any base t v) : ∃ b, v = .bool b :=
  cell_bool ht (by simpa only [Value.okWide, ht] using h)
end Go.Wb
end
/- The engine, part K: a function's own body with its branches at the head, for branches that stay open. -/
section
set_option linter.unusedSimpArgs false
set_option linter.unusedVariables false
namespace Go.Wb

section
variable (call : Tgt → List Value → M Value) (fuel : Nat)
def runK : ACode → Env → (Ext → Env → St → Option Value) → St → Option Value
  | .seq a b, e, k => runK a e (fun x e' => match x with
    | .normal => runK b e' k
    | x => k x e')
  | .cond c a b, e, k => fun S => match (c.ev e).bind asBool with
    | none => none
    | some t => match t with
      | true => runK a e k S
      | false => runK b e k S
  | .block id a, e, k => runK a e (fun x e' => match x with
    | .exit i => if i = id then k .normal e' else k (.exit i) e'
    | x => k x e')
  | c, e, k => fun S => match run call fuel c e S with
    | none => none
    | some (r, S') => k r.1 r.2 S'
end

def thenK (o : Option ((Ext × Env) × St)) (k : Ext → Env → St → Option Value) : Option Value := match o with
  | none => none
  | some (r, S') => k r.1 r.2 S'

theorem runK_eq (call : Tgt → List Value → M Value) (fuel : Nat) : ∀ (c : ACode) (e : Env) (k : Ext → Env → St → Option Value) (S : St), runK call fuel c e k S = thenK (run call fuel c e S) k
  | .skip, e, k, S => rfl
  | .ops l, e, k, S => rfl
  | .drawn l m, e, k, S => rfl
  | .loop a, e, k, S => rfl
  | .range f p a b, e, k, S => rfl
  | .exit id, e, k, S => rfl
  | .ret, e, k, S => rfl
  | .seq a b, e, k, S => by
    simp only [runK, run, M.bind]
    rw [runK_eq call fuel a]
    cases run call fuel a e S with
    | none => rfl
    | some r =>
      obtain ⟨⟨x, e'⟩, S'⟩ := r
      cases x with
      | normal => simp only [thenK]; rw [runK_eq call fuel b]; rfl
      | exit id => rfl
      | ret => rfl
  | .cond c a b, e, k, S => by
    simp only [runK, run, M.bind, M.lift]
    cases (c.ev e).bind asBool with
    | none => rfl
    | some t => cases t <;> simp only <;> rw [runK_eq call fuel]
  | .block id a, e, k, S => by
    simp only [runK, run, M.bind]
    rw [runK_eq call fuel a]
    cases run call fuel a e S with
    | none => rfl
    | some r =>
      obtain ⟨⟨x, e'⟩, S'⟩ := r
      cases x with
      | normal => rfl
      | ret => rfl
      | exit i =>
        simp only [thenK]
        by_cases h : i = id
        · simp [h, M.pure]
        · simp [h, M.pure]

/-- a function's value, its body's branches at the head -/
def funK (F : Nat → Option AFn) (n : Nat) (f : FuncId) (args : List Value) (S : St) : Option Value := match F f with
  | some (.go af) => if args.length = af.nparams then runK (callN F n) n af.body (argsEnv args 0 .leaf) (fun x e S => match x with
      | .exit _ => none
      | _ => match resAll e af.results S with
        | none => none
        | some (vs, _) => match vs with
          | [v] => some v
          | vs => some (.tuple vs.toArray)) S
    else none
  | _ => none

theorem funK_callN {F : Nat → Option AFn} {n : Nat} {f : FuncId} {args : List Value} {S : St} {v : Value} (h : funK F n f args S = some v) : (callN F (n + 1) (.fn f) args S).map (·.1) = some v := by
  unfold funK at h
  simp only [callN]
  rcases hF : F f with _ | af | k | g
  · rw [hF] at h; simp at h
  · rw [hF] at h
    simp only at h ⊢
    by_cases hl : args.length = af.nparams
    · rw [if_pos hl] at h ⊢
      rw [runK_eq] at h
      simp only [M.bind]
      cases hr : run (callN F n) n af.body (argsEnv args 0 .leaf) S with
      | none => rw [hr] at h; simp [thenK] at h
      | some r =>
        obtain ⟨⟨x, e'⟩, S'⟩ := r
        rw [hr] at h
        simp only [thenK] at h
        cases x with
        | exit id => simp at h
        | normal =>
          simp only at h ⊢
          cases hres : resAll e' af.results S' with
          | none => rw [hres] at h; simp at h
          | some q =>
            obtain ⟨vs, S2⟩ := q
            rw [hres] at h
            simp only [M.bind, hres] at h ⊢
            split at h
            · simpa [M.pure] using h
            · rename_i hne
              split
              · exact absurd rfl (hne _)
              · simpa [M.pure] using h
        | ret =>
          simp only at h ⊢
          cases hres : resAll e' af.results S' with
          | none => rw [hres] at h; simp at h
          | some q =>
            obtain ⟨vs, S2⟩ := q
            rw [hres] at h
            simp only [M.bind, hres] at h ⊢
            split at h
            · simpa [M.pure] using h
            · rename_i hne
              split
              · exact absurd rfl (hne _)
              · simpa [M.pure] using h
    · rw [if_neg hl] at h; simp at h
  · rw [hF] at h; simp at h
  · rw [hF] at h; simp at h
end Go.Wb
end
/- The engine, part K2: the evaluator with what comes behind as an argument: its open branches stand at the head. -/
section
set_option linter.unusedSimpArgs false
set_option linter.unusedVariables false
namespace Go.Wb
variable {ρ : Type} {α β : Type}

/-- a computation, and what comes behind -/
def M.k (m : M α) (k : α → St → Option ρ) (S : St) : Option ρ := match m S with
  | none => none
  | some (a, S') => k a S'
theorem M.k_bind (m : M α) (f : α → M β) (k : β → St → Option ρ) (S : St) : M.k (m.bind f) k S = M.k m (fun a => M.k (f a) k) S := by
  simp only [M.k, M.bind]
  cases m S with
  | none => rfl
  | some r => rfl
theorem M.k_pure (a : α) (k : α → St → Option ρ) (S : St) : M.k (M.pure a) k S = k a S := rfl
theorem M.k_fail (k : α → St → Option ρ) (S : St) : M.k M.fail k S = none := rfl
theorem M.k_lift (o : Option α) (k : α → St → Option ρ) (S : St) : M.k (M.lift o) k S = match o with | none => none | some a => k a S := by cases o <;> rfl

theorem M.k_congr {m : M α} {k k' : α → St → Option ρ} {S : St} (h : ∀ a S, k a S = k' a S) : M.k m k S = M.k m k' S := by
  have : k = k' := by funext a S; exact h a S
  rw [this]

def noCall : Tgt → List Value → M Value := fun _ _ => M.fail

section
variable (callK : Tgt → List Value → (Value → St → Option ρ) → St → Option ρ)
def execK (e : Env) (op : AOp) (k : Value → St → Option ρ) (S : St) : Option ρ := match op with
  | .call f args => match f.ev e with
    | none => none
    | some g => match evs e args with
      | none => none
      | some l => match target g l with
        | none => none
        | some t => callK t.1 t.2 k S
  | .pick c a b => match (c.ev e).bind asBool with
    | none => none
    | some t => match t with
      | true => match a.ev e with
        | none => none
        | some v => k v S
      | false => match b.ev e with
        | none => none
        | some v => k v S
  | op => M.k (exec noCall e op) k S
def instrK (i : AInstr) (e : Env) (k : Env → St → Option ρ) (S : St) : Option ρ := match i.guard with
  | none => execK callK e i.op (fun v => k (putD e i.dst v)) S
  | some (t, want) => match (e.get t).bind (wanted want) with
    | none => none
    | some b => match b with
      | true => execK callK e i.op (fun v => k (putD e i.dst v)) S
      | false => k (putD e i.dst undef) S
def instrsK : List AInstr → Env → (Env → St → Option ρ) → St → Option ρ
  | [], e, k => k e
  | i :: r, e, k => instrK callK i e fun e' => instrsK r e' k
def drawnGoK : List AInstr → Nat → Env → List (Nat × Touch) → (Env × List (Nat × Touch) → St → Option ρ) → St → Option ρ
  | [], _, e, ts, k, S => k (e, ts) S
  | i :: r, n, e, ts, k, S => instrK callK i e (fun e' s' => drawnGoK r (n + 1) e' (keepT n { log := s'.log, lo := S.next, hi := s'.next } ts) k { heap := s'.heap, next := s'.next, log := s'.log ++ S.log })
      { heap := S.heap, next := S.next, log := [] }
def iterK (body : Env → (Ext × Env → St → Option ρ) → St → Option ρ) : Nat → Env → (Ext × Env → St → Option ρ) → St → Option ρ
  | 0, _, _, _ => none
  | n + 1, e, k, S => body e (fun r => match r.1 with
    | .normal => iterK body n r.2 k
    | _ => k r) S
def codeK (fuel : Nat) : ACode → Env → (Ext × Env → St → Option ρ) → St → Option ρ
  | .skip, e, k => k (.normal, e)
  | .ops l, e, k => instrsK callK l e fun e' => k (.normal, e')
  | .drawn l ps, e, k => drawnGoK callK l 0 e [] fun r => match apartAll ps r.2 with
    | true => k (.normal, r.1)
    | false => fun _ => none
  | .seq a b, e, k => codeK fuel a e fun r => match r.1 with
    | .normal => codeK fuel b r.2 k
    | _ => k r
  | .cond c a b, e, k => fun S => match (c.ev e).bind asBool with
    | none => none
    | some t => match t with
      | true => codeK fuel a e k S
      | false => codeK fuel b e k S
  | .block id a, e, k => codeK fuel a e fun r => match r.1 with
    | .exit i => if i = id then k (.normal, r.2) else k r
    | _ => k r
  | .loop a, e, k => iterK (codeK fuel a) fuel e k
  | .range f params assign body, e, k => fun S => match f.ev e with
    | none => none
    | some g => M.k (nw (.loop params assign body e none)) (fun l S => match target g [.func (.yield l) #[] #[]] with
      | none => none
      | some t => callK t.1 t.2 (fun _ => M.k (rd l) fun o => match o with
        | .loop _ _ _ _ p => M.k (wr l none) fun _ => match p with
          | none => k (.normal, e)
          | some x => k (x, e)
        | _ => fun _ => none) S) S
  | .exit id, e, k => k (.exit id, e)
  | .ret, e, k => k (.ret, e)
end

def callK (F : Nat → Option AFn) : Nat → Tgt → List Value → (Value → St → Option ρ) → St → Option ρ
  | 0, _, _, _, _ => none
  | n + 1, .fn f, args, k, S => match F f with
    | none => none
    | some (.ext x) => M.k (extA x args) k S
    | some (.sum g) => match g args with
      | none => none
      | some v => k v S
    | some (.go af) => if args.length = af.nparams then
        codeK (callK F n) n af.body (argsEnv args 0 .leaf) (fun r => match r.1 with
          | .exit _ => fun _ => none
          | _ => M.k (resAll r.2 af.results) fun vs => match vs with
            | [v] => k v
            | vs => k (.tuple vs.toArray)) S
      else none
  | n + 1, .yield l, args, k, S => M.k (rd l) (fun o => match o with
    | .loop params assign body e none => if args.length = params.length then
        M.k (wr l none) fun _ => codeK (callK F n) n assign (zipSet params args e) fun r => match r.1 with
          | .normal => codeK (callK F n) n body r.2 fun r => match r.1 with
            | .normal => M.k (wr l (some (.loop params assign body e none))) fun _ => k (.bool true)
            | x => M.k (wr l (some (.loop params assign body e (some x)))) fun _ => k (.bool false)
          | _ => fun _ => none
      else fun _ => none
    | _ => fun _ => none) S

section
variable {cK : Tgt → List Value → (Value → St → Option ρ) → St → Option ρ} {call : Tgt → List Value → M Value} (hc : ∀ t a k S, cK t a k S = M.k (call t a) k S)
include hc
theorem execK_eq (e : Env) (op : AOp) (k : Value → St → Option ρ) (S : St) : execK cK e op k S = M.k (exec call e op) k S := by
  cases op with
  | call f args =>
    simp only [execK, exec, M.k_bind, M.k_lift, M.k_pure]
    cases f.ev e with
    | none => rfl
    | some g =>
      simp only
      cases evs e args with
      | none => rfl
      | some l =>
        simp only
        cases target g l with
        | none => rfl
        | some t => simp only; rw [hc]; rfl
  | pick c a b =>
    simp only [execK, exec, M.k_bind, M.k_lift, M.k_pure]
    cases (c.ev e).bind asBool with
    | none => rfl
    | some t =>
      cases t
      · simp only [Bool.false_eq_true, if_false]; cases b.ev e <;> rfl
      · simp only [if_true]; cases a.ev e <;> rfl
  | _ => rfl
theorem instrK_eq (i : AInstr) (e : Env) (k : Env → St → Option ρ) (S : St) : instrK cK i e k S = M.k (instr call i e) k S := by
  unfold instrK instr
  cases i.guard with
  | none => simp only [execK_eq hc, M.k_bind]; rfl
  | some g =>
    obtain ⟨t, want⟩ := g
    simp only [M.k_bind, M.k_lift]
    cases (e.get t).bind (wanted want) with
    | none => rfl
    | some b =>
      cases b
      · simp only [Bool.false_eq_true, if_false, M.k_pure]
      · simp only [if_true, execK_eq hc, M.k_bind]; rfl
theorem instrsK_eq : ∀ (l : List AInstr) (e : Env) (k : Env → St → Option ρ) (S : St), instrsK cK l e k S = M.k (instrs call l e) k S
  | [], e, k, S => rfl
  | i :: r, e, k, S => by
    simp only [instrsK, instrs, M.k_bind, instrK_eq hc]
    congr 1
    funext e'
    funext S'
    exact instrsK_eq r e' k S'
theorem drawnGoK_eq : ∀ (l : List AInstr) (n : Nat) (e : Env) (ts : List (Nat × Touch)) (k : Env × List (Nat × Touch) → St → Option ρ) (S : St), drawnGoK cK l n e ts k S = M.k (drawnGo call l n e ts) k S
  | [], n, e, ts, k, S => rfl
  | i :: r, n, e, ts, k, S => by
    simp only [drawnGoK, instrK_eq hc]
    simp only [M.k, drawnGo]
    cases instr call i e { heap := S.heap, next := S.next, log := [] } with
    | none => rfl
    | some p =>
      obtain ⟨e', s'⟩ := p
      simp only
      rw [drawnGoK_eq r]
      rfl
theorem codeK_eq (fuel : Nat) : ∀ (c : ACode) (e : Env) (k : Ext × Env → St → Option ρ) (S : St), codeK cK fuel c e k S = M.k (run call fuel c e) k S
  | .skip, e, k, S => rfl
  | .exit id, e, k, S => rfl
  | .ret, e, k, S => rfl
  | .ops l, e, k, S => by
    simp only [codeK, run, instrsK_eq hc, M.k_bind]; rfl
  | .drawn l ps, e, k, S => by
    simp only [codeK, run, drawnA, drawnGoK_eq hc, M.k_bind]
    congr 1
    funext r
    funext S'
    cases apartAll ps r.2 <;> rfl
  | .seq a b, e, k, S => by
    simp only [codeK, run, M.k_bind]
    rw [codeK_eq fuel a]
    congr 1
    funext r
    funext S'
    obtain ⟨x, e'⟩ := r
    cases x with
    | normal => exact codeK_eq fuel b e' k S'
    | exit id => rfl
    | ret => rfl
  | .cond c a b, e, k, S => by
    simp only [codeK, run, M.k_bind, M.k_lift]
    cases (c.ev e).bind asBool with
    | none => rfl
    | some t =>
      cases t
      · exact codeK_eq fuel b e k S
      · exact codeK_eq fuel a e k S
  | .block id a, e, k, S => by
    simp only [codeK, run, M.k_bind]
    rw [codeK_eq fuel a]
    congr 1
    funext r
    funext S'
    obtain ⟨x, e'⟩ := r
    cases x with
    | normal => rfl
    | ret => rfl
    | exit i =>
      by_cases h : i = id
      · simp [h, M.k_pure]
      · simp [h, M.k_pure]
  | .loop a, e, k, S => by
    simp only [codeK, run]
    have key : ∀ (n : Nat) (e : Env) (k : Ext × Env → St → Option ρ) (S : St), iterK (codeK cK fuel a) n e k S = M.k (iter (run call fuel a) n e) k S := by
      intro n
      induction n with
      | zero => intro e k S; rfl
      | succ n ih =>
        intro e k S
        simp only [iterK, iter, M.k_bind]
        rw [codeK_eq fuel a]
        congr 1
        funext r
        funext S'
        obtain ⟨x, e'⟩ := r
        cases x with
        | normal => exact ih e' k S'
        | exit id => rfl
        | ret => rfl
    exact key fuel e k S
  | .range f params assign body, e, k, S => by
    simp only [codeK, run, M.k_bind, M.k_lift]
    cases f.ev e with
    | none => rfl
    | some g =>
      simp only
      congr 1
      funext l
      funext S'
      cases target g [.func (.yield l) #[] #[]] with
      | none => rfl
      | some t =>
        simp only [hc, M.k_bind, M.k_lift]
        refine M.k_congr fun v S2 => ?_
        simp only [M.k_bind]
        refine M.k_congr fun o S3 => ?_
        cases o with
        | cells x y z => rfl
        | map => rfl
        | ro => rfl
        | loop p1 p2 p3 p4 p =>
          simp only [M.k_bind]
          refine M.k_congr fun u S4 => ?_
          cases p <;> rfl
end

theorem callK_eq (F : Nat → Option AFn) : ∀ (n : Nat) (t : Tgt) (args : List Value) (k : Value → St → Option ρ) (S : St), callK F n t args k S = M.k (callN F n t args) k S := by
  intro n
  induction n with
  | zero => intro t args k S; rfl
  | succ n ih =>
    intro t args k S
    cases t with
    | fn f =>
      simp only [callK, callN]
      rcases hF : F f with _ | af | x | g
      · rfl
      · simp only
        by_cases hl : args.length = af.nparams
        · simp only [if_pos hl]
          rw [codeK_eq (ρ := ρ) ih]
          simp only [M.k_bind]
          congr 1
          funext r
          funext S'
          obtain ⟨x, e'⟩ := r
          have key : M.k (resAll e' af.results) (fun vs => match vs with | [v] => k v | vs => k (.tuple vs.toArray)) S' =
              M.k ((resAll e' af.results).bind fun vs => match vs with | [v] => M.pure v | vs => M.pure (.tuple vs.toArray)) k S' := by
            rw [M.k_bind]
            congr 1
            funext vs
            funext S2
            split <;> rfl
          cases x with
          | exit id => rfl
          | normal => exact key
          | ret => exact key
        · simp only [if_neg hl]; rfl
      · rfl
      · simp only [M.k_lift]; cases g args <;> rfl
    | yield l =>
      simp only [callK, callN, M.k_bind]
      congr 1
      funext o
      funext S'
      cases o with
      | cells x y z => rfl
      | map => rfl
      | ro => rfl
      | loop params assign body e p =>
        cases p with
        | some x => rfl
        | none =>
          simp only
          by_cases hl : args.length = params.length
          · simp only [if_pos hl, M.k_bind]
            refine M.k_congr fun u S2 => ?_
            rw [codeK_eq (ρ := ρ) ih, M.k_bind]
            refine M.k_congr fun r S3 => ?_
            obtain ⟨x, e'⟩ := r
            cases x with
            | exit id => rfl
            | ret => rfl
            | normal =>
              simp only [M.k_bind]
              rw [codeK_eq (ρ := ρ) ih]
              refine M.k_congr fun r S4 => ?_
              obtain ⟨x, e2⟩ := r
              cases x <;> rfl
          · simp only [if_neg hl]; rfl
end Go.Wb
end
/- The engine, part S: a summary out of a run. -/
section
set_option linter.unusedSimpArgs false
set_option linter.unusedVariables false
namespace Go.Wb
open Go.RowKit
variable {P : Program}

theorem list_plain_eq {r : Ren} {p : Value → Bool} : ∀ {l l' : List Value}, l.length = l'.length → (∀ (i : Nat) (v v' : Value), l[i]? = some v → l'[i]? = some v' → VRel r v v') → (∀ v v', p v = true → VRel r v v' → v' = v) → l.all p = true → l' = l
  | [], [], _, _, _, _ => rfl
  | [], _ :: _, h, _, _, _ => by simp at h
  | _ :: _, [], h, _, _, _ => by simp at h
  | v :: l, v' :: l', h, k, q, ha => by
    simp only [List.all_cons, Bool.and_eq_true] at ha
    rw [q v v' ha.1 (k 0 v v' rfl rfl), list_plain_eq (l := l) (l' := l') (by simpa using h) (fun i a b h1 h2 => k (i + 1) a b (by simpa using h1) (by simpa using h2)) q ha.2]
theorem plainF_eq {r : Ren} : ∀ (n : Nat) (v v' : Value), plainF n v = true → VRel r v v' → v' = v
  | 0, v, v', h, k => by simp [plainF] at h
  | n + 1, v, v', h, k => by
    cases k with
    | bool b => rfl
    | int k n => rfl
    | string s => rfl
    | ptrNil => rfl
    | slcNil => rfl
    | mapNil => rfl
    | nilFunc => rfl
    | nilIface => rfl
    | ptr hd => simp [plainF] at h
    | map hd => simp [plainF] at h
    | slc hd h1 h2 h3 => simp [plainF] at h
    | slc0 hd h1 h2 h3 => simp [plainF] at h
    | slcE a => simp [plainF] at h
    | yield hd => simp [plainF] at h
    | func h1 h2 h3 h4 =>
      simp only [plainF, Bool.and_eq_true] at h
      have e1 := list_plain_eq h1 h2 (fun v v' => plainF_eq n v v') h.1
      have e2 := list_plain_eq h3 h4 (fun v v' => plainF_eq n v v') h.2
      rw [Array.toList_inj.1 e1, Array.toList_inj.1 e2]
    | agg h1 h2 =>
      simp only [plainF] at h
      rw [Array.toList_inj.1 (list_plain_eq h1 h2 (fun v v' => plainF_eq n v v') h)]
    | tuple h1 h2 =>
      simp only [plainF] at h
      rw [Array.toList_inj.1 (list_plain_eq h1 h2 (fun v v' => plainF_eq n v v') h)]
    | iface h1 =>
      simp only [plainF] at h
      rw [plainF_eq n _ _ h h1]
theorem plain_eq {r : Ren} {v v' : Value} (h : plain v = true) (k : VRel r v v') : v' = v := plainF_eq 6 v v' h k

/-- a function that answers, from an empty start, as g does: it does so everywhere -/
theorem sum_of_run (hm : P.follows .mixedOrders = true) {F : Nat → Option AFn} (hF : TabOk P F) {f : FuncId} {g : List Value → Option Value}
    (h : ∀ args v, g args = some v → args.all plain = true ∧ plain v = true ∧ ∃ n, (callN F n (.fn f) args (names 0)).map (·.1) = some v) : SumOk P f g := by
  intro args v hg r w args' ha
  obtain ⟨h1, h2, n, h3⟩ := h args v hg
  have ea : args'.toList = args := list_plain_eq ha.length ha.at (fun v v' hp hv => plain_eq hp hv) h1
  cases hc : callN F n (.fn f) args (names 0) with
  | none => rw [hc] at h3; simp at h3
  | some vs =>
    obtain ⟨v0, S'⟩ := vs
    rw [hc] at h3
    obtain rfl : v0 = v := by simpa using h3
    have hal : LRel Ren.empty args args'.toList := by
      rw [ea]
      clear ha ea hc hg
      induction args with
      | nil => exact .nil
      | cons a l ih =>
        simp only [List.all_cons, Bool.and_eq_true] at h1
        exact .cons (plain_rel h1.1) (ih h1.2)
    obtain ⟨D, r', w', v', hs, hv, hct⟩ := callN_ok hm hF n (.fn f) args v0 (names 0) S' hc Ren.empty w (start_rel (P := P) 0) (fun id _ _ hd => hd) args' hal trivial
    obtain rfl := plain_eq h2 hv
    exact ⟨w', ⟨hs.os, hs.tape, hs.output, hs.size, fun k hk => hs.frame k hk start_dead⟩, h2, hct⟩

/-- a table with a summary more -/
def withSum (F : Nat → Option AFn) (f : Nat) (g : List Value → Option Value) (i : Nat) : Option AFn := match Nat.beq i f with
  | true => some (.sum g)
  | false => F i
theorem withSum_ok {F : Nat → Option AFn} (hF : TabOk P F) {f : Nat} {g : List Value → Option Value} (hg : SumOk P f g) : TabOk P (withSum F f g) := by
  intro i af h
  unfold withSum at h
  split at h
  · rename_i e
    have e := Nat.eq_of_beq_eq_true e
    subst e
    exact .inr (.inl ⟨g, by simpa using h.symm, hg⟩)
  · exact hF i af h
/-- a table with a primitive more -/
def withExt (F : Nat → Option AFn) (f : Nat) (k : XK) (i : Nat) : Option AFn := match Nat.beq i f with
  | true => some (.ext k)
  | false => F i
theorem withExt_ok {F : Nat → Option AFn} (hF : TabOk P F) {f : Nat} {k : XK} (hk : ExtOk P f k) : TabOk P (withExt F f k) := by
  intro i af h
  unfold withExt at h
  split at h
  · rename_i e
    have e := Nat.eq_of_beq_eq_true e
    subst e
    exact .inr (.inr ⟨k, by simpa using h.symm, hk⟩)
  · exact hF i af h
end Go.Wb
end
