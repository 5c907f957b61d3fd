/- The engine, part Q7: the quick evaluator's code and calls: what it finds true is so. -/
import Derived.Test.YtmepokefmpcnnaaEngQ6
set_option linter.unusedSimpArgs false
set_option linter.unusedVariables false
set_option autoImplicit false
namespace Go.Wb.Q
variable {qe : QE} {e : Env} {call : Tgt → List Value → M Value} {cq : Call} {q : QS} {S : St}

/-- as Ok, of environments -/
def OkE (f : KE → Bool) (m : M Env) (S : St) : Prop := ∀ c, f c = true → ∃ e' S' qe' S2, m S = some (e', S') ∧ SRel S2 S' ∧ ERel qe' e' ∧ c qe' S2 = true
/-- as Ok, of code -/
def OkX (f : KX → Bool) (m : M (Ext × Env)) (S : St) : Prop := ∀ c, f c = true → ∃ x e' S' qe' S2, m S = some ((x, e'), S') ∧ SRel S2 S' ∧ ERel qe' e' ∧ c x qe' S2 = true

theorem wantedQ_true {want : Bool} {v : Value} {yes no : Bool} (h : wantedQ want v yes no = true) : ∃ b, wanted want v = some b ∧ (if b then yes else no) = true := by
  unfold wantedQ at h
  split at h
  · rename_i b
    rw [ifB_eq] at h
    refine ⟨b == want, rfl, ?_⟩
    have : eqB b want = (b == want) := by cases b <;> cases want <;> rfl
    rw [← this]; exact h
  · exact ⟨false, rfl, h⟩
  · cases h
theorem instr_ok (hcall : CallOkQ cq call) (he : ERel qe e) (hr : SRel q S) (i : AInstr) : OkE (instrQ i cq qe q) (instr call i e) S := by
  intro c hc
  obtain ⟨d, g, op⟩ := i
  have plain : ∀ {c : KE}, execQ op cq qe q (contI d qe c) = true → ∃ e' S' qe' S2, (M.bind (exec call e op) fun v => M.pure (putD e d v)) S = some (e', S') ∧ SRel S2 S' ∧ ERel qe' e' ∧ c qe' S2 = true := by
    intro c h
    obtain ⟨v, S1, S2, h1, h2, h3⟩ := exec_ok hcall he hr op _ h
    exact ⟨putD e d v, S1, putE d qe v, S2, by simp only [M.bind, h1]; rfl, h2, he.putD d v, h3⟩
  cases g with
  | none => exact plain hc
  | some g =>
    obtain ⟨t, want⟩ := g
    obtain ⟨v, hv, hc1⟩ := bB_true.1 hc
    obtain ⟨b, h1, h2⟩ := wantedQ_true hc1
    have hv : e.get t = some v := he _ _ hv
    cases b with
    | true =>
      obtain ⟨e', S1, qe', S2, k1, k2⟩ := plain h2
      refine ⟨e', S1, qe', S2, ?_, k2⟩
      simp only [instr, M.bind, M.lift, hv, Option.bind_some, h1, if_true] at k1 ⊢
      exact k1
    | false =>
      refine ⟨putD e d undef, S, putE d qe undef, q, ?_, hr, he.putD d undef, h2⟩
      simp only [instr, M.bind, M.lift, hv, Option.bind_some, h1]
      rfl
theorem instrs_ok (hcall : CallOkQ cq call) : ∀ (l : List AInstr) {qe : QE} {e : Env} {q : QS} {S : St}, ERel qe e → SRel q S → OkE (instrsQ l cq qe q) (instrs call l e) S
  | [], qe, e, q, S, he, hr => fun c hc => ⟨e, S, qe, q, rfl, hr, he, hc⟩
  | i :: l, qe, e, q, S, he, hr => fun c hc => by
    obtain ⟨e1, S1, qe1, q1, h1, h2, h3, h4⟩ := instr_ok hcall he hr i _ hc
    obtain ⟨e2, S2, qe2, q2, k1, k2, k3, k4⟩ := instrs_ok hcall l h3 h2 c h4
    exact ⟨e2, S2, qe2, q2, by simp only [instrs, M.bind, h1, k1], k2, k3, k4⟩
theorem drawnGo_ok (hcall : CallOkQ cq call) (ms : List Nat) : ∀ (l : List AInstr) (j : Nat) (ts : List (Nat × Touch)) {qe : QE} {e : Env} {q : QS} {S : St}, ERel qe e → SRel q S →
    OkE (drawnQ ms l j ts cq qe q) ((drawnGo call l j e ts).bind fun r => if apartAll ms r.2 then M.pure r.1 else M.fail) S
  | [], j, ts, qe, e, q, S, he, hr => fun c hc => by
    obtain ⟨h1, h2⟩ := thenB_true.1 hc
    exact ⟨e, S, qe, q, by simp only [drawnGo, M.bind, M.pure, h1, if_true], hr, he, h2⟩
  | i :: l, j, ts, qe, e, q, S, he, hr => fun c hc => by
    have hc : eS (consD1 i j ts (drawnQ ms l) cq qe c) q = true := hc
    rw [eS_eq] at hc
    have hr0 : SRel (.mk q.h q.n []) { heap := S.heap, next := S.next, log := [] } := ⟨hr.heap, hr.next, rfl⟩
    obtain ⟨e1, S1, qe1, q1, h1, h2, h3, h4⟩ := instr_ok hcall he hr0 i _ hc
    simp only [consD2, eS_eq] at h4
    have hr1 : SRel (.mk q1.h q1.n (q1.lg ++ q.lg)) { heap := S1.heap, next := S1.next, log := S1.log ++ S.log } := ⟨h2.heap, h2.next, by simp only [h2.log, hr.log]⟩
    obtain ⟨e2, S2, qe2, q2, k1, k2, k3, k4⟩ := drawnGo_ok hcall ms l (j + 1) _ h3 hr1 c h4
    refine ⟨e2, S2, qe2, q2, ?_, k2, k3, k4⟩
    rw [h2.log, h2.next, hr.next] at k1
    simp only [drawnGo, M.bind, h1] at k1 ⊢
    exact k1
theorem eExt_ok {k : KX} {yes : QE → QS → Bool} {x : Ext} : eExt k yes x = match x with | .normal => yes | x => k x := by cases x <;> rfl
theorem blockK_ok {id : Nat} {c : KX} {x : Ext} {qe : QE} {q : QS} (h : blockK id c x qe q = true) : (match x with
    | .exit i => if i = id then c .normal qe q else c (.exit i) qe q
    | x => c x qe q) = true := by
  cases x with
  | normal => exact h
  | ret => exact h
  | exit i =>
    have h : ifB (Nat.beq i id) (c .normal qe q) (c (.exit i) qe q) = true := h
    rw [ifB_eq] at h
    simp only
    by_cases e : i = id
    · subst e; simpa using h
    · rw [if_neg e]
      rw [if_neg (by intro k; exact e (Nat.eq_of_beq_eq_true k))] at h
      exact h
theorem iter_ok {body : QE → QS → KX → Bool} {m : Env → M (Ext × Env)} (hb : ∀ {qe : QE} {e : Env} {q : QS} {S : St}, ERel qe e → SRel q S → OkX (body qe q) (m e) S) :
    ∀ (n : Nat) {qe : QE} {e : Env} {q : QS} {S : St}, ERel qe e → SRel q S → OkX (iterQ body n qe q) (iter m n e) S
  | 0, qe, e, q, S, he, hr => fun c hc => by cases hc
  | n + 1, qe, e, q, S, he, hr => fun c hc => by
    obtain ⟨x, e1, S1, qe1, q1, h1, h2, h3, h4⟩ := hb he hr _ hc
    rw [eExt_ok] at h4
    cases x with
    | normal =>
      obtain ⟨x2, e2, S2, qe2, q2, k1, k2, k3, k4⟩ := iter_ok hb n h3 h2 c h4
      exact ⟨x2, e2, S2, qe2, q2, by simp only [iter, M.bind, h1]; exact k1, k2, k3, k4⟩
    | exit i => exact ⟨_, e1, S1, qe1, q1, by simp only [iter, M.bind, h1]; rfl, h2, h3, h4⟩
    | ret => exact ⟨_, e1, S1, qe1, q1, by simp only [iter, M.bind, h1]; rfl, h2, h3, h4⟩
theorem eLoop_true {o : QB} {f : List Nat → ACode → ACode → QE → Option Ext → Bool} (h : eLoop o f = true) : ∃ ps as bd e p, o = .loop ps as bd e p ∧ f ps as bd e p = true := by
  cases o with
  | cells => cases h
  | map => cases h
  | loop ps as bd e p => exact ⟨_, _, _, _, _, rfl, h⟩
theorem SRel.loop (h : SRel q S) {b : Nat} {ps : List Nat} {as bd : ACode} {qe : QE} {p : Option Ext} (k : q.h.get b = some (.loop ps as bd qe p)) : ∃ e, S.heap.get b = some (.loop ps as bd e p) ∧ ERel qe e := by
  obtain ⟨o', h1, h2⟩ := h.heap _ _ k
  cases h2 with
  | loop he => exact ⟨_, h1, he⟩
theorem run_ok (hcall : CallOkQ cq call) (fuel : Nat) : ∀ (code : ACode) {qe : QE} {e : Env} {q : QS} {S : St}, ERel qe e → SRel q S → OkX (runQ code cq fuel qe q) (run call fuel code e) S
  | .skip, qe, e, q, S, he, hr => fun c hc => ⟨_, e, S, qe, q, rfl, hr, he, hc⟩
  | .exit id, qe, e, q, S, he, hr => fun c hc => ⟨_, e, S, qe, q, rfl, hr, he, hc⟩
  | .ret, qe, e, q, S, he, hr => fun c hc => ⟨_, e, S, qe, q, rfl, hr, he, hc⟩
  | .ops l, qe, e, q, S, he, hr => fun c hc => by
    obtain ⟨e1, S1, qe1, q1, h1, h2, h3, h4⟩ := instrs_ok hcall l he hr _ hc
    exact ⟨_, e1, S1, qe1, q1, by simp only [run, M.bind, h1]; rfl, h2, h3, h4⟩
  | .drawn l ms, qe, e, q, S, he, hr => fun c hc => by
    obtain ⟨e1, S1, qe1, q1, h1, h2, h3, h4⟩ := drawnGo_ok hcall ms l 0 [] he hr _ hc
    refine ⟨_, e1, S1, qe1, q1, ?_, h2, h3, h4⟩
    have h1 : drawnA call l ms e S = some (e1, S1) := h1
    simp only [run, M.bind, h1]; rfl
  | .seq a b, qe, e, q, S, he, hr => fun c hc => by
    obtain ⟨x, e1, S1, qe1, q1, h1, h2, h3, h4⟩ := run_ok hcall fuel a he hr _ hc
    rw [eExt_ok] at h4
    cases x with
    | normal =>
      obtain ⟨x2, e2, S2, qe2, q2, k1, k2, k3, k4⟩ := run_ok hcall fuel b h3 h2 c h4
      exact ⟨x2, e2, S2, qe2, q2, by simp only [run, M.bind, h1]; exact k1, k2, k3, k4⟩
    | exit i => exact ⟨_, e1, S1, qe1, q1, by simp only [run, M.bind, h1]; rfl, h2, h3, h4⟩
    | ret => exact ⟨_, e1, S1, qe1, q1, by simp only [run, M.bind, h1]; rfl, h2, h3, h4⟩
  | .cond t a b, qe, e, q, S, he, hr => fun c hc => by
    obtain ⟨v, hv, hc1⟩ := bB_true.1 hc
    obtain ⟨y, rfl, hc2⟩ := eBoolB_true.1 hc1
    rw [ifB_eq] at hc2
    cases y with
    | true =>
      obtain ⟨x, e1, S1, qe1, q1, h1, h2, h3, h4⟩ := run_ok hcall fuel a he hr c hc2
      exact ⟨x, e1, S1, qe1, q1, by simp only [run, M.bind, M.lift, evA_ok he hv, Option.bind_some, asBool]; exact h1, h2, h3, h4⟩
    | false =>
      obtain ⟨x, e1, S1, qe1, q1, h1, h2, h3, h4⟩ := run_ok hcall fuel b he hr c hc2
      exact ⟨x, e1, S1, qe1, q1, by simp only [run, M.bind, M.lift, evA_ok he hv, Option.bind_some, asBool]; exact h1, h2, h3, h4⟩
  | .block id a, qe, e, q, S, he, hr => fun c hc => by
    obtain ⟨x, e1, S1, qe1, q1, h1, h2, h3, h4⟩ := run_ok hcall fuel a he hr _ hc
    have h4 := blockK_ok h4
    cases x with
    | normal => exact ⟨_, e1, S1, qe1, q1, by simp only [run, M.bind, h1]; rfl, h2, h3, h4⟩
    | ret => exact ⟨_, e1, S1, qe1, q1, by simp only [run, M.bind, h1]; rfl, h2, h3, h4⟩
    | exit i =>
      simp only at h4
      by_cases hi : i = id
      · rw [if_pos hi] at h4
        exact ⟨_, e1, S1, qe1, q1, by simp only [run, M.bind, h1, if_pos hi]; rfl, h2, h3, h4⟩
      · rw [if_neg hi] at h4
        exact ⟨_, e1, S1, qe1, q1, by simp only [run, M.bind, h1, if_neg hi]; rfl, h2, h3, h4⟩
  | .loop a, qe, e, q, S, he, hr => iter_ok (body := runQ a cq fuel) (m := run call fuel a) (fun he hr => run_ok hcall fuel a he hr) fuel he hr
  | .range f ps as bd, qe, e, q, S, he, hr => fun c hc => by
    obtain ⟨g, hg, hc1⟩ := bB_true.1 hc
    obtain ⟨l, S1, q1, h1, h2, h3⟩ := nwQ_ok hr (BRel.loop (ps := ps) (as := as) (bd := bd) (p := none) he) _ hc1
    obtain ⟨f', a', b', rfl, h4⟩ := eFuncB_true.1 h3
    obtain ⟨t, k1, v, S2, q2, k2, k3, k4⟩ := tgt_ok hcall h2 _ h4
    simp only [rangeEnd, eS_eq, rangeEnd1] at k4
    obtain ⟨o, m1, m2⟩ := bQ_true.1 k4
    rw [getQ_eq] at m1
    obtain ⟨ps', as', bd', qe', p', rfl, m3⟩ := eLoop_true m2
    obtain ⟨e', m4, m5⟩ := k3.loop m1
    have m6 : SRel (mkS q2.h l none q2.n ((l, true) :: (l, false) :: q2.lg)) { heap := S2.heap.set l none, next := S2.next, log := (l, true) :: (l, false) :: S2.log } := k3.kill (by rw [k3.log])
    cases p' with
    | none => exact ⟨_, e, _, qe, _, by simp only [run, M.bind, M.lift, evA_ok he hg, h1, k1, k2, rd, m4, wr]; rfl, m6, he, m3⟩
    | some x => exact ⟨x, e, _, qe, _, by simp only [run, M.bind, M.lift, evA_ok he hg, h1, k1, k2, rd, m4, wr]; rfl, m6, he, m3⟩

/-! ## Results and arguments -/
theorem res_ok (he : ERel qe e) (hr : SRel q S) (r : ARes) : Ok (resQ r qe q) (resV e r) S := by
  intro c hc
  cases r with
  | tmp t =>
    obtain ⟨v, h1, h2⟩ := fin_true.1 hc
    exact ⟨v, S, q, by simp only [resV, M.lift, he _ _ h1], hr, h2⟩
  | cell t sh =>
    obtain ⟨v, hv, hc1⟩ := bB_true.1 hc
    obtain ⟨p, rfl, hc2⟩ := ptrB_true.1 hc1
    cases sh with
    | one =>
      obtain ⟨w, S1, S2, h1, h2, h3⟩ := ld1Q_ok hr p.block p.off c hc2
      exact ⟨w, S1, S2, by simp only [resV, M.bind, M.lift, he _ _ hv, h1], h2, h3⟩
    | agg n =>
      obtain ⟨w, S1, S2, h1, h2, h3⟩ := ldCQ_ok hr p.block p.off n (aggK c) hc2
      exact ⟨_, S1, S2, by simp only [resV, M.bind, M.lift, he _ _ hv, h1]; rfl, h2, h3⟩
theorem resAll_ok (he : ERel qe e) : ∀ (rs : List ARes) {q : QS} {S : St}, SRel q S → Ok (resAllQ rs qe q) (resAll e rs) S
  | [], q, S, hr => fun c hc => ⟨[], S, q, rfl, hr, hc⟩
  | r :: rs, q, S, hr => fun c hc => by
    obtain ⟨v, S1, q1, h1, h2, h3⟩ := res_ok he hr r _ hc
    obtain ⟨l, S2, q2, k1, k2, k3⟩ := resAll_ok he rs h2 _ h3
    exact ⟨v :: l, S2, q2, by simp only [resAll, M.bind, h1, k1]; rfl, k2, k3⟩
theorem args_ok : ∀ (l : List Value) (i : Nat) {qe : QE} {e : Env}, ERel qe e → ERel (argsQ l i qe) (argsEnv l i e)
  | [], i, qe, e, h => h
  | v :: l, i, qe, e, h => args_ok l (i + 1) (h.set i v)
theorem zip_ok : ∀ (ps : List Nat) (l : List Value) {qe qe' : QE} {e : Env}, ERel qe e → zipQ ps l qe = some qe' → l.length = ps.length ∧ ERel qe' (zipSet ps l e)
  | [], [], qe, qe', e, h, k => by cases k; exact ⟨rfl, h⟩
  | [], v :: l, qe, qe', e, h, k => by cases k
  | p :: ps, [], qe, qe', e, h, k => by cases k
  | p :: ps, v :: l, qe, qe', e, h, k => by
    obtain ⟨h1, h2⟩ := zip_ok ps l (h.set p v) k
    exact ⟨by simp [h1], h2⟩
theorem tup_ok {c : KV} {l : List Value} (h : tupQ c l q = true) : ∃ v, (match l with | [v] => M.pure v | vs => M.pure (.tuple vs.toArray) : M Value) S = some (v, S) ∧ c v q = true := by
  unfold tupQ at h
  split at h
  · exact ⟨_, rfl, h⟩
  · rename_i hne
    refine ⟨_, ?_, h⟩
    split
    · exact absurd rfl (hne _)
    · rfl
theorem extA_ok (hr : SRel q S) (k : XK) (args : List Value) : Ok (extQ k args q) (extA k args) S := by
  intro c hc
  unfold extQ at hc
  split at hc
  · exact ⟨_, S, q, rfl, hr, hc⟩
  · rename_i size a la ca b lb cb
    split at hc
    · rename_i a b
      rw [ifB_eq] at hc
      by_cases h1 : la = 0
      · rw [if_pos (by simp [h1])] at hc
        exact ⟨_, S, q, by simp only [extA, h1, true_or, if_true]; rfl, hr, hc⟩
      rw [if_neg (by intro k; exact h1 (Nat.eq_of_beq_eq_true k)), ifB_eq] at hc
      by_cases h2 : lb = 0
      · rw [if_pos (by simp [h2])] at hc
        exact ⟨_, S, q, by simp only [extA, h2, true_or, or_true, if_true]; rfl, hr, hc⟩
      rw [if_neg (by intro k; exact h2 (Nat.eq_of_beq_eq_true k)), ifB_eq] at hc
      by_cases h3 : size = 0
      · rw [if_pos (by simp [h3])] at hc
        exact ⟨_, S, q, by simp only [extA, h3, or_true, if_true]; rfl, hr, hc⟩
      rw [if_neg (by intro k; exact h3 (Nat.eq_of_beq_eq_true k)), eS_eq] at hc
      obtain ⟨x, s, n, t, g1, hc2⟩ := atC_true.1 hc
      obtain ⟨x', s', n', t', g2, hc3⟩ := atC_true.1 hc2
      rw [ifB_eq, ifB_eq] at hc3
      cases s with
      | true => cases hc3
      | false =>
        cases s' with
        | true => cases hc3
        | false =>
          obtain ⟨cs, k1, _⟩ := hr.cells g1
          obtain ⟨cs', k2, _⟩ := hr.cells g2
          refine ⟨_, _, _, ?_, (⟨hr.heap, hr.next, by simp only [hr.log]⟩ : SRel (.mk q.h q.n ((b.block, false) :: (a.block, false) :: q.lg)) { heap := S.heap, next := S.next, log := (b.block, false) :: (a.block, false) :: S.log }), hc3⟩
          have hb : ∀ x y : Bool, andB2 x y = (x && y) := by intro x y; cases x <;> rfl
          have hl : ∀ x y : Nat, Nat.blt x y = decide (x < y) := by intro x y; rw [Bool.eq_iff_iff, Nat.blt_eq, decide_eq_true_iff]
          have he : ∀ x y : Nat, Nat.beq x y = (x == y) := by intro x y; rw [Bool.eq_iff_iff, Nat.beq_eq, beq_iff_eq]
          simp only [extA, h1, h2, h3, or_self, if_false, M.bind, rd, k1, k2, hb, hl, he, Bool.and_assoc]
          rfl
    · rename_i hne
      refine ⟨_, S, q, ?_, hr, hc⟩
      cases a with
      | none => rfl
      | some a =>
        cases b with
        | none => rfl
        | some b => exact absurd rfl (hne a b rfl)
  · cases hc
theorem endGo_ok {rs : List ARes} {c : KV} {x : Ext} (he : ERel qe e) (hr : SRel q S) (h : endGo rs c x qe q = true) : ∃ v S' q', (match x with
          | .exit _ => M.fail
          | _ => (resAll e rs).bind fun vs => match vs with
            | [v] => M.pure v
            | vs => M.pure (.tuple vs.toArray) : M Value) S = some (v, S') ∧ SRel q' S' ∧ c v q' = true := by
  cases x with
  | exit i => cases h
  | normal =>
    obtain ⟨l, S1, q1, h1, h2, h3⟩ := resAll_ok he rs hr _ h
    obtain ⟨v, k1, k2⟩ := tup_ok (S := S1) h3
    exact ⟨v, S1, q1, by simp only [M.bind, h1]; exact k1, h2, k2⟩
  | ret =>
    obtain ⟨l, S1, q1, h1, h2, h3⟩ := resAll_ok he rs hr _ h
    obtain ⟨v, k1, k2⟩ := tup_ok (S := S1) h3
    exact ⟨v, S1, q1, by simp only [M.bind, h1]; exact k1, h2, k2⟩
theorem callQ_ok (F : Nat → Option AFn) : ∀ d, CallOkQ (callQ F d) (callN F d) := by
  intro d
  induction d with
  | zero => intro t args q S hr c hc; cases hc
  | succ d ih =>
    intro t args q S hr c hc
    cases t with
    | fn f =>
      have hc : @Option.rec AFn (fun _ => Bool) false (@AFn.rec (fun _ => Bool) (goQ (callQ F d) d args q c) (fun k => extQ k args q c) (sumQ args q c)) (F f) = true := hc
      rcases hF : F f with _ | af | k | g
      · rw [hF] at hc; cases hc
      · rw [hF] at hc
        have hc : goQ (callQ F d) d args q c af = true := hc
        obtain ⟨h1, h2⟩ := thenB_true.1 hc
        have h1 := (lenIs_true _ _).1 h1
        obtain ⟨x, e1, S1, qe1, q1, k1, k2, k3, k4⟩ := run_ok ih d af.body (args_ok args 0 (ERel.nil .leaf)) hr _ h2
        obtain ⟨v, S2, q2, m1, m2, m3⟩ := endGo_ok k3 k2 k4
        exact ⟨v, S2, q2, by simp only [callN, hF, h1, if_true, M.bind, k1]; exact m1, m2, m3⟩
      · rw [hF] at hc
        obtain ⟨v, S1, q1, h1, h2, h3⟩ := extA_ok hr k args c hc
        exact ⟨v, S1, q1, by simp only [callN, hF]; exact h1, h2, h3⟩
      · rw [hF] at hc
        obtain ⟨v, h1, h2⟩ := fin_true.1 hc
        exact ⟨v, S, q, by simp only [callN, hF, M.lift, h1], hr, h2⟩
    | yield l =>
      have hc : eS (yieldR (callQ F d) d l args c) q = true := hc
      simp only [eS_eq, yieldR] at hc
      obtain ⟨o, h1, hc1⟩ := bQ_true.1 hc
      rw [getQ_eq] at h1
      obtain ⟨ps, as, bd, qe, p, rfl, hc2⟩ := eLoop_true hc1
      obtain ⟨e, k1, k2⟩ := hr.loop h1
      cases p with
      | some x => cases hc2
      | none =>
        have hc2 : (@Option.rec QE (fun _ => Bool) false (fun e2 => runQ as (callQ F d) d e2 (mkS q.h l none q.n ((l, true) :: (l, false) :: q.lg)) (assignY (callQ F d) d l ps as bd qe c)) (zipQ ps args qe)) = true := hc2
        cases hz : zipQ ps args qe with
        | none => rw [hz] at hc2; cases hc2
        | some qe2 =>
          rw [hz] at hc2
          obtain ⟨z1, z2⟩ := zip_ok ps args k2 hz
          have hk : SRel (mkS q.h l none q.n ((l, true) :: (l, false) :: q.lg)) { heap := S.heap.set l none, next := S.next, log := (l, true) :: (l, false) :: S.log } := hr.kill (by rw [hr.log])
          obtain ⟨x, e1, S1, qe1, q1, m1, m2, m3, m4⟩ := run_ok ih d as z2 hk _ hc2
          cases x with
          | exit i => cases m4
          | ret => cases m4
          | normal =>
            have m4 : runQ bd (callQ F d) d qe1 q1 (bodyY l ps as bd qe c) = true := m4
            obtain ⟨x2, e2, S2, qe2', q2, n1, n2, n3, n4⟩ := run_ok ih d bd m3 m2 _ m4
            have fini : ∀ (p : Option Ext) (b : Bool), endY l ps as bd qe c p b q2 = true → SRel (mkS q2.h l (some (.loop ps as bd qe p)) q2.n ((l, true) :: q2.lg)) { heap := S2.heap.set l (some (.loop ps as bd e p)), next := S2.next, log := (l, true) :: S2.log } ∧ c (.bool b) (mkS q2.h l (some (.loop ps as bd qe p)) q2.n ((l, true) :: q2.lg)) = true := by
              intro p b h
              simp only [endY, eS_eq] at h
              exact ⟨n2.put (BRel.loop k2) (by rw [n2.log]), h⟩
            cases x2 with
            | normal =>
              obtain ⟨f1, f2⟩ := fini none true n4
              exact ⟨_, _, _, by simp only [callN, M.bind, rd, k1, z1, if_true, wr, m1, n1]; rfl, f1, f2⟩
            | exit i =>
              obtain ⟨f1, f2⟩ := fini (some (.exit i)) false n4
              exact ⟨_, _, _, by simp only [callN, M.bind, rd, k1, z1, if_true, wr, m1, n1]; rfl, f1, f2⟩
            | ret =>
              obtain ⟨f1, f2⟩ := fini (some .ret) false n4
              exact ⟨_, _, _, by simp only [callN, M.bind, rd, k1, z1, if_true, wr, m1, n1]; rfl, f1, f2⟩

/-- what the quick evaluator finds true, the evaluator finds true -/
theorem runsTrue_callN {F : Nat → Option AFn} {d : Nat} {f : FuncId} {args : List Value} {m : Nat} (h : runsTrue F d f args m = true) : (callN F d (.fn f) args { heap := .leaf, next := m, log := [] }).map (·.1) = some (.bool true) := by
  have hr : SRel (startQ m) { heap := .leaf, next := m, log := [] } := ⟨fun b o h => by simp [startQ, Tr.get_leaf] at h, rfl, rfl⟩
  obtain ⟨v, S', q', h1, h2, h3⟩ := callQ_ok F d (.fn f) args _ _ hr _ h
  obtain ⟨b, rfl, h4⟩ := eBoolB_true.1 h3
  cases b with
  | false => cases h4
  | true => simp only [h1, Option.map_some]
end Go.Wb.Q
