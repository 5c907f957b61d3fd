/- The engine, part K: a function's own body with its branches at the head, for branches that stay open. -/
import Derived.Test.YtmepokefmpcnnaaEngO
set_option linter.unusedSimpArgs false
set_option linter.unusedVariables false
namespace Go.Wb

section
variable (call : Tgt → List Value → M Value) (fuel : Nat)
def runK : ACode → Env → (Ext → Env → St → Option Value) → St → Option Value
  | .seq a b, e, k => runK a e (fun x e' => match x with
    | .normal => runK b e' k
    | x => k x e')
  | .cond c a b, e, k => fun S => match (c.ev e).bind asBool with
    | none => none
    | some t => match t with
      | true => runK a e k S
      | false => runK b e k S
  | .block id a, e, k => runK a e (fun x e' => match x with
    | .exit i => if i = id then k .normal e' else k (.exit i) e'
    | x => k x e')
  | c, e, k => fun S => match run call fuel c e S with
    | none => none
    | some (r, S') => k r.1 r.2 S'
end

def thenK (o : Option ((Ext × Env) × St)) (k : Ext → Env → St → Option Value) : Option Value := match o with
  | none => none
  | some (r, S') => k r.1 r.2 S'

theorem runK_eq (call : Tgt → List Value → M Value) (fuel : Nat) : ∀ (c : ACode) (e : Env) (k : Ext → Env → St → Option Value) (S : St), runK call fuel c e k S = thenK (run call fuel c e S) k
  | .skip, e, k, S => rfl
  | .ops l, e, k, S => rfl
  | .drawn l m, e, k, S => rfl
  | .loop a, e, k, S => rfl
  | .range f p a b, e, k, S => rfl
  | .exit id, e, k, S => rfl
  | .ret, e, k, S => rfl
  | .seq a b, e, k, S => by
    simp only [runK, run, M.bind]
    rw [runK_eq call fuel a]
    cases run call fuel a e S with
    | none => rfl
    | some r =>
      obtain ⟨⟨x, e'⟩, S'⟩ := r
      cases x with
      | normal => simp only [thenK]; rw [runK_eq call fuel b]; rfl
      | exit id => rfl
      | ret => rfl
  | .cond c a b, e, k, S => by
    simp only [runK, run, M.bind, M.lift]
    cases (c.ev e).bind asBool with
    | none => rfl
    | some t => cases t <;> simp only <;> rw [runK_eq call fuel]
  | .block id a, e, k, S => by
    simp only [runK, run, M.bind]
    rw [runK_eq call fuel a]
    cases run call fuel a e S with
    | none => rfl
    | some r =>
      obtain ⟨⟨x, e'⟩, S'⟩ := r
      cases x with
      | normal => rfl
      | ret => rfl
      | exit i =>
        simp only [thenK]
        by_cases h : i = id
        · simp [h, M.pure]
        · simp [h, M.pure]

/-- a function's value, its body's branches at the head -/
def funK (F : Nat → Option AFn) (n : Nat) (f : FuncId) (args : List Value) (S : St) : Option Value := match F f with
  | some (.go af) => if args.length = af.nparams then runK (callN F n) n af.body (argsEnv args 0 .leaf) (fun x e S => match x with
      | .exit _ => none
      | _ => match resAll e af.results S with
        | none => none
        | some (vs, _) => match vs with
          | [v] => some v
          | vs => some (.tuple vs.toArray)) S
    else none
  | _ => none

theorem funK_callN {F : Nat → Option AFn} {n : Nat} {f : FuncId} {args : List Value} {S : St} {v : Value} (h : funK F n f args S = some v) : (callN F (n + 1) (.fn f) args S).map (·.1) = some v := by
  unfold funK at h
  simp only [callN]
  rcases hF : F f with _ | af | k | g
  · rw [hF] at h; simp at h
  · rw [hF] at h
    simp only at h ⊢
    by_cases hl : args.length = af.nparams
    · rw [if_pos hl] at h ⊢
      rw [runK_eq] at h
      simp only [M.bind]
      cases hr : run (callN F n) n af.body (argsEnv args 0 .leaf) S with
      | none => rw [hr] at h; simp [thenK] at h
      | some r =>
        obtain ⟨⟨x, e'⟩, S'⟩ := r
        rw [hr] at h
        simp only [thenK] at h
        cases x with
        | exit id => simp at h
        | normal =>
          simp only at h ⊢
          cases hres : resAll e' af.results S' with
          | none => rw [hres] at h; simp at h
          | some q =>
            obtain ⟨vs, S2⟩ := q
            rw [hres] at h
            simp only [M.bind, hres] at h ⊢
            split at h
            · simpa [M.pure] using h
            · rename_i hne
              split
              · exact absurd rfl (hne _)
              · simpa [M.pure] using h
        | ret =>
          simp only at h ⊢
          cases hres : resAll e' af.results S' with
          | none => rw [hres] at h; simp at h
          | some q =>
            obtain ⟨vs, S2⟩ := q
            rw [hres] at h
            simp only [M.bind, hres] at h ⊢
            split at h
            · simpa [M.pure] using h
            · rename_i hne
              split
              · exact absurd rfl (hne _)
              · simpa [M.pure] using h
    · rw [if_neg hl] at h; simp at h
  · rw [hF] at h; simp at h
  · rw [hF] at h; simp at h
end Go.Wb
