/- That layer 15's law 'FlowstateTells' is true for every input; it has no conditions. -/
import Derived.Test.YtmepokefmpcnnaaFtLaw
import Derived.Test.YtmepokefmpcnnaaEngY
import Derived.Test.YtmepokefmpcnnaaEngO
import Derived.Carry
import Derived.Test.YtmepokefmpcnnaaRows
set_option maxRecDepth 100000
set_option linter.unusedVariables false
set_option linter.unusedSimpArgs false
namespace Go.Proofs.Ytmepokefmpcnnaa.FlowstateTells
open Go.ChangeShapes Go.WideShapes Go.ChangeAt Go.RowKit Go.Wb
open Go.Proofs.Ytmepokefmpcnnaa
open FtText

/-- a function's answers to plain arguments -/
noncomputable def pl (f : Nat) : List Value → Option Value := fun args => if args.all plain = true then (match callN T 60 (.fn f) args (names 0) with | some (v, _) => if plain v = true then some v else none | none => none) else none
theorem pl_ok (f : Nat) : SumOk Try.prog f (pl f) := by
  refine sum_of_run Try.checked.mixed (tabOk Try.prog) fun args v h => ?_
  unfold pl at h
  split at h
  · rename_i h1
    split at h
    · rename_i v' S' h2
      split at h
      · rename_i h3
        obtain rfl : v' = v := by simpa using h
        exact ⟨h1, h3, 60, by show (callN T 60 (.fn f) args (names 0)).map (·.1) = _; rw [h2]; rfl⟩
      · cases h
    · cases h
  · cases h
theorem pl_eq {f : Nat} {args : List Value} {v : Value} (h1 : args.all plain = true) (h2 : plain v = true) {S : St} (h : callN T 60 (.fn f) args (names 0) = some (v, S)) : pl f args = some v := by
  unfold pl
  rw [if_pos h1, h]
  simp only [if_pos h2]
noncomputable def F1 : Nat → Option AFn := withSum (withSum (withSum (withSum (withSum (withSum (withSum (withSum (withSum (withSum T 16 (pl 16)) 19 (pl 19)) 17 (pl 17)) 20 (pl 20)) 18 (pl 18)) 21 (pl 21)) 22 (pl 22)) 23 (pl 23)) 24 (pl 24)) 15 (pl 15)
theorem F1_ok : TabOk Try.prog F1 :=
  withSum_ok (withSum_ok (withSum_ok (withSum_ok (withSum_ok (withSum_ok (withSum_ok (withSum_ok (withSum_ok (withSum_ok (tabOk Try.prog) (pl_ok 16)) (pl_ok 19)) (pl_ok 17)) (pl_ok 20)) (pl_ok 18)) (pl_ok 21)) (pl_ok 22)) (pl_ok 23)) (pl_ok 24)) (pl_ok 15)
theorem sumC {f : Nat} (h : F1 f = some (.sum (pl f))) (args : List Value) : callN F1 1 (.fn f) args = M.lift (pl f args) := by
  funext S
  simp only [callN, h]

theorem run4 (C : Tgt → List Value → M Value) (S : St) {p s f a b c d A x y z tv : Int} {B m : Bool} (hF : C (.fn 16) [.int .u8 p, .int .u8 f] = M.lift (some (.tuple ⟨[.int .u8 A, .bool B]⟩))) (hG : C (.fn 19) [.int .u8 p, .int .u8 f] = M.lift (some (.tuple ⟨[.int .u8 A, .bool B]⟩)))
    (hN : C (.fn 17) [.int .u8 s, .int .u8 f] = M.lift (some (.tuple ⟨[.int .u8 x, .int .u8 y, .int .i64 z]⟩))) (hO : C (.fn 20) [.int .u8 s, .int .u8 f] = M.lift (some (.tuple ⟨[.int .u8 x, .int .u8 y, .int .i64 z]⟩)))
    (hM : C (.fn 18) [.int .u8 s] = M.lift (some (.bool (decide (s ≥ 1) && decide (s ≤ 4)))))
    (h1 : C (.fn 21) [.agg ⟨[.int .u32 a, .int .u32 b, .int .u32 c, .int .u32 d]⟩] = M.lift (some (.bool m))) (h2 : C (.fn 22) [.agg ⟨[.int .u32 a, .int .u32 b, .int .u32 c, .int .u32 d]⟩] = M.lift (some (.bool m)))
    (h3 : C (.fn 23) [.agg ⟨[.int .u32 a, .int .u32 b, .int .u32 c, .int .u32 d]⟩, .int .u8 s] = M.lift (some (.int .u32 tv))) (h4 : C (.fn 24) [.agg ⟨[.int .u32 a, .int .u32 b, .int .u32 c, .int .u32 d]⟩, .int .u8 s] = M.lift (some (.int .u32 tv)))
    (hK : C (.fn 15) [] = M.lift (some (.bool true))) : ∃ S', codeV C 1 b4 (argsEnv [.int .u8 p, .int .u8 s, .int .u8 f, .agg ⟨[.int .u32 a, .int .u32 b, .int .u32 c, .int .u32 d]⟩] 0 .leaf) (endV [.tmp 8] fun v S => some (v, S)) S = some (.bool true, S') := by
  have cF := fun (k : Value → St → Option (Value × St)) (S : St) => kk_of (S := S) k (p_call (args := [.const (.int .u8 p), .const (.int .u8 f)]) rfl hF)
  have cG := fun (k : Value → St → Option (Value × St)) (S : St) => kk_of (S := S) k (p_call (args := [.const (.int .u8 p), .const (.int .u8 f)]) rfl hG)
  have cN := fun (k : Value → St → Option (Value × St)) (S : St) => kk_of (S := S) k (p_call (args := [.const (.int .u8 s), .const (.int .u8 f)]) rfl hN)
  have cO := fun (k : Value → St → Option (Value × St)) (S : St) => kk_of (S := S) k (p_call (args := [.const (.int .u8 s), .const (.int .u8 f)]) rfl hO)
  have cM := fun (j : Nat) (ts : List (Nat × Wb.Touch)) (k : Value → List (Nat × Wb.Touch) → St → Option (Value × St)) (S : St) => dd_of (S := S) j ts k (p_call (args := [.const (.int .u8 s)]) rfl hM)
  have c1 := fun (j : Nat) (ts : List (Nat × Wb.Touch)) (k : Value → List (Nat × Wb.Touch) → St → Option (Value × St)) (S : St) => dd_of (S := S) j ts k (p_call (args := [.const (.agg ⟨[.int .u32 a, .int .u32 b, .int .u32 c, .int .u32 d]⟩)]) rfl h1)
  have c2 := fun (j : Nat) (ts : List (Nat × Wb.Touch)) (k : Value → List (Nat × Wb.Touch) → St → Option (Value × St)) (S : St) => dd_of (S := S) j ts k (p_call (args := [.const (.agg ⟨[.int .u32 a, .int .u32 b, .int .u32 c, .int .u32 d]⟩)]) rfl h2)
  have c3 := fun (j : Nat) (ts : List (Nat × Wb.Touch)) (k : Value → List (Nat × Wb.Touch) → St → Option (Value × St)) (S : St) => dd_of (S := S) j ts k (p_call (args := [.const (.agg ⟨[.int .u32 a, .int .u32 b, .int .u32 c, .int .u32 d]⟩), .const (.int .u8 s)]) rfl h3)
  have c4 := fun (j : Nat) (ts : List (Nat × Wb.Touch)) (k : Value → List (Nat × Wb.Touch) → St → Option (Value × St)) (S : St) => dd_of (S := S) j ts k (p_call (args := [.const (.agg ⟨[.int .u32 a, .int .u32 b, .int .u32 c, .int .u32 d]⟩), .const (.int .u8 s)]) rfl h4)
  have cK := fun (j : Nat) (ts : List (Nat × Wb.Touch)) (k : Value → List (Nat × Wb.Touch) → St → Option (Value × St)) (S : St) => dd_of (S := S) j ts k (p_call (args := []) rfl hK)
  have ld : ∀ (j : Nat) (ts : List (Nat × Wb.Touch)) (k : Value → List (Nat × Wb.Touch) → St → Option (Value × St)) (S2 : St), S2.heap.get S.next = some (.cells none false [.int .u32 a, .int .u32 b, .int .u32 c, .int .u32 d]) →
      dstep j ts (X C (.load (.agg 4) (.const (.pointer (some ⟨S.next, 0, none⟩))))) k S2 = k (.agg ⟨[.int .u32 a, .int .u32 b, .int .u32 c, .int .u32 d]⟩) ((j, (⟨[(S.next, false)], S2.next, S2.next⟩ : Wb.Touch)) :: ts) (S2.saw S.next) := by
    intro j ts k S2 hS2
    rw [X_loadN]
    exact dstep_lds (o := 0) (n := 4) hS2 (by simp) j ts (fun c => .agg ⟨c⟩) k
  rw [v4]
  have q0 : (S.add (.cells none false (Value.cells (.agg ⟨[.int .u32 a, .int .u32 b, .int .u32 c, .int .u32 d]⟩)).toList)).heap.get S.next = some (.cells none false [.int .u32 a, .int .u32 b, .int .u32 c, .int .u32 d]) := by simp [Value.cells]
  generalize hS0 : S.add (.cells none false (Value.cells (.agg ⟨[.int .u32 a, .int .u32 b, .int .u32 c, .int .u32 d]⟩)).toList) = S0 at q0
  have q1 : (S0.saw S.next).heap.get S.next = some (.cells none false [.int .u32 a, .int .u32 b, .int .u32 c, .int .u32 d]) := by rw [St.saw_heap]; exact q0
  have q2 : ((S0.saw S.next).saw S.next).heap.get S.next = some (.cells none false [.int .u32 a, .int .u32 b, .int .u32 c, .int .u32 d]) := by rw [St.saw_heap]; exact q1
  have q3 : (((S0.saw S.next).saw S.next).saw S.next).heap.get S.next = some (.cells none false [.int .u32 a, .int .u32 b, .int .u32 c, .int .u32 d]) := by rw [St.saw_heap]; exact q2
  by_cases hs : s ≥ 1
  · have cM := cM
    simp only [decide_eq_true hs, Bool.true_and] at cM
    simp only [↓kk_box, hS0, ↓cF, ↓cG, ↓cN, ↓cO, ↓kk_ext0, ↓kk_ext1, ↓kk_ext2, ↓dd_mov, ↓dd_eqi, ↓dd_G, ↓dd_Gn, ↓dd_eqb, ↓dd_pickT, ↓dd_pickF, ↓cM, ↓dd_geqT _ _ _ .u8 hs, ↓dd_leq, ↓c1, ↓c2, ↓c3, ↓c4, ↓cK, ↓ld _ _ _ S0 q0, ↓ld _ _ _ (S0.saw S.next) q1, ↓ld _ _ _ ((S0.saw S.next).saw S.next) q2, ↓ld _ _ _ (((S0.saw S.next).saw S.next).saw S.next) q3]
    simp only [apartAll, apartOne, hits_reads, Bool.not_false, Bool.and_self, Bool.or_true, okK_true]
    exact ⟨_, rfl⟩
  · have cM := cM
    simp only [decide_eq_false hs, Bool.false_and] at cM
    simp only [↓kk_box, hS0, ↓cF, ↓cG, ↓cN, ↓cO, ↓kk_ext0, ↓kk_ext1, ↓kk_ext2, ↓dd_mov, ↓dd_eqi, ↓dd_G, ↓dd_Gn, ↓dd_eqb, ↓dd_pickT, ↓dd_pickF, ↓cM, ↓dd_geqF _ _ _ .u8 hs, ↓dd_leq, ↓c1, ↓c2, ↓c3, ↓c4, ↓cK, ↓ld _ _ _ S0 q0, ↓ld _ _ _ (S0.saw S.next) q1, ↓ld _ _ _ ((S0.saw S.next).saw S.next) q2, ↓ld _ _ _ (((S0.saw S.next).saw S.next).saw S.next) q3]
    simp only [apartAll, apartOne, hits_reads, Bool.not_false, Bool.and_self, Bool.or_true, okK_true]
    exact ⟨_, rfl⟩

theorem pl_of {f : Nat} {args : List Value} {v : Value} (h1 : args.all plain = true) (h2 : plain v = true) (h : ∃ S, callN T 60 (.fn f) args (names 0) = some (v, S)) : pl f args = some v := by
  obtain ⟨S, h⟩ := h
  exact pl_eq h1 h2 h
theorem alike2_ok {v w : Value} (h : alike2 v w = true) : ∃ A B, v = .tuple ⟨[.int .u8 A, .bool B]⟩ ∧ w = .tuple ⟨[.int .u8 A, .bool B]⟩ := by
  unfold alike2 at h
  split at h
  · simp only [Bool.and_eq_true, decide_eq_true_eq, beq_iff_eq] at h
    obtain ⟨rfl, rfl⟩ := h
    exact ⟨_, _, rfl, rfl⟩
  · cases h
theorem alike3_ok {v w : Value} (h : alike3 v w = true) : ∃ x y z, v = .tuple ⟨[.int .u8 x, .int .u8 y, .int .i64 z]⟩ ∧ w = .tuple ⟨[.int .u8 x, .int .u8 y, .int .i64 z]⟩ := by
  unfold alike3 at h
  split at h
  · simp only [Bool.and_eq_true, decide_eq_true_eq] at h
    obtain ⟨⟨rfl, rfl⟩, rfl⟩ := h
    exact ⟨_, _, _, rfl, rfl⟩
  · cases h
theorem mk (C : Tgt → List Value → M Value) (f : FuncId) (v : Value) : X C (.mkfn f [] [.const v]) = M.pure (.func (.func f) ⟨[]⟩ ⟨[v]⟩) := X_mkfn f [] [.const v] [] [v] rfl rfl
theorem first (p f : Int) (h0 : 0 ≤ f) (h1 : f < 256) : ∃ A B, pl 16 [.int .u8 p, .int .u8 f] = some (.tuple ⟨[.int .u8 A, .bool B]⟩) ∧ pl 19 [.int .u8 p, .int .u8 f] = some (.tuple ⟨[.int .u8 A, .bool B]⟩) := by
  by_cases h : p = 17
  · refine ⟨1, true, pl_of rfl rfl ?_, pl_of rfl rfl ?_⟩
    · rw [w16 59, v16]
      simp only [X_box, M.k_bind, k_nw, k_pure, mk, X_bin, bv_eql, k_lift, asBool_bool, decide_eq_true h, ifK_true]; exact ⟨_, rfl⟩
    · rw [w19 59, v19]
      simp only [X_bin, bv_eql, k_lift, asBool_bool, decide_eq_true h, ifK_true]; exact ⟨_, rfl⟩
  by_cases k : p = 6
  · subst k
    have := List.all_eq_true.1 enumF f (mem_ints 256 f h0 h1)
    obtain ⟨v, w, S, S', g1, g2, g3⟩ := both_ok this
    obtain ⟨A, B, rfl, rfl⟩ := alike2_ok g3
    exact ⟨A, B, pl_of rfl rfl ⟨_, g1⟩, pl_of rfl rfl ⟨_, g2⟩⟩
  · refine ⟨0, false, pl_of rfl rfl ?_, pl_of rfl rfl ?_⟩
    · rw [w16 59, v16]
      simp only [X_box, M.k_bind, k_nw, k_pure, mk, X_bin, bv_eql, bv_neq, k_lift, asBool_bool, decide_eq_false h, decide_eq_false k, Bool.not_false, ifK_true, ifK_false]; exact ⟨_, rfl⟩
    · rw [w19 59, v19]
      simp only [X_bin, bv_eql, bv_neq, k_lift, asBool_bool, decide_eq_false h, decide_eq_false k, Bool.not_false, ifK_false, wanted_bool, show (true == false) = false from rfl, G_false, k_pure, X_pick, if_true, ifK_true]; exact ⟨_, rfl⟩
theorem next (s f : Int) (h0 : 0 ≤ f) (h1 : f < 256) : ∃ x y z, pl 17 [.int .u8 s, .int .u8 f] = some (.tuple ⟨[.int .u8 x, .int .u8 y, .int .i64 z]⟩) ∧ pl 20 [.int .u8 s, .int .u8 f] = some (.tuple ⟨[.int .u8 x, .int .u8 y, .int .i64 z]⟩) := by
  by_cases h : s = 1
  · subst h
    refine ⟨1, 1, 0, pl_of rfl rfl ?_, pl_of rfl rfl ?_⟩
    · rw [w17 59, v17]
      simp only [X_box, M.k_bind, k_nw, k_pure, mk, X_call 18 [.const (.int .u8 1)] [.int .u8 1] rfl, k_some (w18' 58 1 _), X_un, uv_not, X_bin, bv_eql, k_lift, asBool_bool, show (decide ((1 : Int) ≥ 1) && decide ((1 : Int) ≤ 4)) = true by decide, Bool.not_true, ifK_false, decide_eq_true (rfl : (1 : Int) = 1), ifK_true]; exact ⟨_, rfl⟩
    · rw [w20 59, v20]
      simp only [X_bin, bv_eql, k_lift, asBool_bool, decide_eq_true (rfl : (1 : Int) = 1), ifK_true]; exact ⟨_, rfl⟩
  by_cases k : s = 2 ∨ s = 3 ∨ s = 4
  · have := List.all_eq_true.1 (List.all_eq_true.1 enumN s (by simpa using k)) f (mem_ints 256 f h0 h1)
    obtain ⟨v, w, S, S', g1, g2, g3⟩ := both_ok this
    obtain ⟨x, y, z, rfl, rfl⟩ := alike3_ok g3
    exact ⟨x, y, z, pl_of rfl rfl ⟨_, g1⟩, pl_of rfl rfl ⟨_, g2⟩⟩
  · have hv : (decide (s ≥ 1) && decide (s ≤ 4)) = false := by
      rw [Bool.eq_false_iff]; intro c; simp at c; omega
    refine ⟨0, 0, 2, pl_of rfl rfl ?_, pl_of rfl rfl ?_⟩
    · rw [w17 59, v17]
      simp only [X_box, M.k_bind, k_nw, k_pure, mk, X_call 18 [.const (.int .u8 s)] [.int .u8 s] rfl, k_some (w18' 58 s _), X_un, uv_not, k_lift, asBool_bool, hv, Bool.not_false, ifK_true]; exact ⟨_, rfl⟩
    · rw [w20 59, v20]
      by_cases l : s < 1
      · simp only [X_bin, bv_eql, bv_lss, bv_gtr, k_lift, asBool_bool, decide_eq_false h, ifK_false, decide_eq_true l, wanted_bool, show (true == false) = false from rfl, G_false, k_pure, X_pick, if_true, ifK_true]; exact ⟨_, rfl⟩
      · have g : s > 4 := by omega
        simp only [X_bin, bv_eql, bv_lss, bv_gtr, k_lift, asBool_bool, decide_eq_false h, ifK_false, decide_eq_false l, decide_eq_true g, wanted_bool, show (true == false) = false from rfl, show (false == false) = true from rfl, G_false, G_true, X_mov, k_pure, X_pick, if_true, Bool.false_eq_true, if_false, ifK_true]; exact ⟨_, rfl⟩
theorem known1 : Q.runsTrue T 60 15 [] 0 = true := by kernel_rfl
theorem known : pl 15 [] = some (.bool true) := by
  have h := Q.runsTrue_callN known1
  refine pl_of rfl rfl ?_
  change (callN T 60 (.fn 15) [] (names 0)).map (·.1) = _ at h
  cases hc : callN T 60 (.fn 15) [] (names 0) with
  | none => rw [hc] at h; cases h
  | some r =>
    obtain ⟨v, S⟩ := r
    rw [hc] at h
    obtain rfl : v = .bool true := by simpa using h
    exact ⟨S, rfl⟩
theorem ws_ne {F : Nat → Option AFn} {f i : Nat} {g : List Value → Option Value} (h : Nat.beq i f = false) : withSum F f g i = F i := by unfold withSum; rw [h]
theorem F14 : F1 4 = some a4 := by
  unfold F1
  rw [ws_ne rfl, ws_ne rfl, ws_ne rfl, ws_ne rfl, ws_ne rfl, ws_ne rfl, ws_ne rfl, ws_ne rfl, ws_ne rfl, ws_ne rfl]
  exact t4
theorem goes : isGo (F1 4) = true := by rw [F14]; kernel_rfl
theorem run (p s f a b c d : Int) (h0 : 0 ≤ f) (h1 : f < 256) (hp : ∀ y ∈ [a, b, c, d], 0 ≤ y) : (callN F1 2 (.fn 4) [.int .u8 p, .int .u8 s, .int .u8 f, .agg ⟨[.int .u32 a, .int .u32 b, .int .u32 c, .int .u32 d]⟩] (names 0)).map (·.1) = some (.bool true) := by
  obtain ⟨A, B, e1, e2⟩ := first p f h0 h1
  obtain ⟨x, y, z, e3, e4⟩ := next s f h0 h1
  have e5 : pl 18 [.int .u8 s] = some (.bool (decide (s ≥ 1) && decide (s ≤ 4))) := pl_of rfl rfl ⟨_, w18' 59 s _⟩
  have e6 := pl_of (f := 21) rfl rfl (w21' 54 a b c d (names 0))
  have e7 := pl_of (f := 22) rfl rfl (w22' 54 a b c d hp (names 0))
  have e8 := pl_of (f := 23) rfl rfl (w23' 58 a b c d s (names 0))
  have e9 := pl_of (f := 24) rfl rfl (w24' 59 a b c d s (names 0))
  obtain ⟨S', hr⟩ := run4 (callN F1 1) (names 0) (p := p) (s := s) (f := f) (a := a) (b := b) (c := c) (d := d) (A := A) (B := B) (x := x) (y := y) (z := z) (m := [a, b, c, d].all mt) (tv := tk a b c d s)
    (by rw [sumC rfl, e1]) (by rw [sumC rfl, e2]) (by rw [sumC rfl, e3]) (by rw [sumC rfl, e4]) (by rw [sumC rfl, e5]) (by rw [sumC rfl, e6]) (by rw [sumC rfl, e7]) (by rw [sumC rfl, e8]) (by rw [sumC rfl, e9]) (by rw [sumC rfl, known])
  have := (callV (F := F1) (n := 1) (f := 4) (af := goOf (some a4)) (args := [.int .u8 p, .int .u8 s, .int .u8 f, .agg ⟨[.int .u32 a, .int .u32 b, .int .u32 c, .int .u32 d]⟩]) F14 rfl (names 0)).trans hr
  rw [this]; rfl
theorem own : ownKnob Try.prog.godebug = none := by kernel_rfl
theorem laid : laidOutB Try.prog = true := by kernel_rfl
theorem cell_has {W : World} {base : Nat} {t : TypeId} {k : IntKind} {v : Value} (ht : Try.prog.underlying t = some (.int k)) (h : Cell.okWide Try.prog W .any base t v) : ∃ n, v = .int k n ∧ k.has n := by
  cases v <;> simp [Cell.okWide, Cell.ok, ht] at h
  obtain ⟨rfl, h⟩ := h
  exact ⟨_, rfl, h⟩
theorem okWide_has {W : World} {base : Nat} {t : TypeId} {k : IntKind} {v : Value} (ht : Try.prog.underlying t = some (.int k)) (h : Value.okWide Try.prog W .any base t v) : ∃ n, v = .int k n ∧ k.has n :=
  cell_has ht (by simpa only [Value.okWide, ht] using h)
theorem u8_rng {n : Int} (h : IntKind.u8.has n) : 0 ≤ n ∧ n < 256 := by
  simp [IntKind.has, IntKind.min, IntKind.max, IntKind.bits, IntKind.signed] at h
  omega
theorem u32_pos {n : Int} (h : IntKind.u32.has n) : 0 ≤ n := by
  simp [IntKind.has, IntKind.min, IntKind.max, IntKind.bits, IntKind.signed] at h
  omega
theorem opened3 {W : World} {base : Nat} {v0 : Value} (h0 : Value.okWide Try.prog W .any base 33 v0) : ∃ x3 x4 x5 x6, v0 = .agg ⟨.int .u32 x3 :: .int .u32 x4 :: .int .u32 x5 :: .int .u32 x6 :: []⟩ ∧ ∀ y ∈ [x3, x4, x5, x6], 0 ≤ y := by
  have hct : Try.prog.cellTypes Try.prog.depth 33 = some [31, 31, 31, 31] := by kernel_rfl
  have hcs : Try.prog.cellsOf 33 = 4 := by kernel_rfl
  simp only [Value.okWide, Try.underlying33] at h0
  obtain ⟨cs, rfl, hsz, ts, hts, _, hcell⟩ := h0
  rw [hct] at hts
  obtain rfl : [31, 31, 31, 31] = ts := by simpa using hts
  rw [hcs] at hsz
  obtain ⟨l0, hl0, rfl⟩ := cells_list hsz
  obtain ⟨y0, l1, rfl⟩ := list_cons (n := 3) hl0
  have hl1 : l1.length = 3 := Nat.succ.inj hl0
  obtain ⟨y1, l2, rfl⟩ := list_cons (n := 2) hl1
  have hl2 : l2.length = 2 := Nat.succ.inj hl1
  obtain ⟨y2, l3, rfl⟩ := list_cons (n := 1) hl2
  have hl3 : l3.length = 1 := Nat.succ.inj hl2
  obtain ⟨y3, l4, rfl⟩ := list_cons (n := 0) hl3
  have hl4 : l4.length = 0 := Nat.succ.inj hl3
  obtain rfl := List.length_eq_zero_iff.1 hl4
  obtain ⟨u0, hu0, hy0⟩ := hcell 0 y0 rfl
  obtain rfl : 31 = u0 := Option.some.inj hu0
  obtain ⟨x3, rfl, g3⟩ := cell_has Try.underlying31 hy0
  obtain ⟨u1, hu1, hy1⟩ := hcell 1 y1 rfl
  obtain rfl : 31 = u1 := Option.some.inj hu1
  obtain ⟨x4, rfl, g4⟩ := cell_has Try.underlying31 hy1
  obtain ⟨u2, hu2, hy2⟩ := hcell 2 y2 rfl
  obtain rfl : 31 = u2 := Option.some.inj hu2
  obtain ⟨x5, rfl, g5⟩ := cell_has Try.underlying31 hy2
  obtain ⟨u3, hu3, hy3⟩ := hcell 3 y3 rfl
  obtain rfl : 31 = u3 := Option.some.inj hu3
  obtain ⟨x6, rfl, g6⟩ := cell_has Try.underlying31 hy3
  refine ⟨x3, x4, x5, x6, rfl, ?_⟩
  have g3 := u32_pos g3
  have g4 := u32_pos g4
  have g5 := u32_pos g5
  have g6 := u32_pos g6
  intro y hy
  simp only [List.mem_cons, List.not_mem_nil, or_false] at hy
  rcases hy with rfl | rfl | rfl | rfl <;> assumption

theorem walk {W : World} {base : Nat} {v0 v1 v2 v3 : Value} (h0 : Value.okWide Try.prog W .any base 5 v0) (h1 : Value.okWide Try.prog W .any base 5 v1) (h2 : Value.okWide Try.prog W .any base 5 v2) (h3 : Value.okWide Try.prog W .any base 33 v3) :
    Calls Try.prog 4 #[v0, v1, v2, v3] W fun e w' => e = .returned (.bool true) ∧ Below W.heap.size W w' := by
  obtain ⟨x0, rfl⟩ := okWide_int Try.underlying5 h0
  obtain ⟨x1, rfl⟩ := okWide_int Try.underlying5 h1
  obtain ⟨x2, rfl, g2⟩ := okWide_has Try.underlying5 h2
  obtain ⟨q0, q1⟩ := u8_rng g2
  obtain ⟨x3, x4, x5, x6, rfl, hp⟩ := opened3 h3
  exact run_calls Try.checked.mixed F1_ok (run x0 x1 x2 x3 x4 x5 x6 q0 q1 hp) goes (r := Ren.of []) (fun id h => absurd h (Nat.not_lt_zero _))
    (.cons (.int _ _) (.cons (.int _ _) (.cons (.int _ _) (.cons (LRel.agg (.cons (.int _ _) (.cons (.int _ _) (.cons (.int _ _) (.cons (.int _ _) .nil))))) .nil))))

theorem contract (H : Type) (enc : TypeId × Value → H) (W : World) (base : Nat) (args : Array Value) (ds gs : List (DataW H)) (before : List MemPlace)
    (hval : ∀ (j : Nat) t v, Try.f4.params[j]? = some t → args[j]? = some v → Value.okWide Try.prog W .any base t v)
    (hW : DataW.Whole enc Try.prog Try.f4.params.toList Rows.flowstateTellsSpec.vars false W args.toList ds gs before) :
    Calls Try.prog 4 args W fun e W' => ∃ v, e = .returned v ∧ Rows.flowstateTellsSpec.post enc Try.prog Try.f4 false true false false W args v W' := by
  obtain ⟨p, q, hA, hV, _⟩ := id hW
  obtain ⟨rfl, _⟩ := trodVars_none hV
  rw [Try.params4] at hA hval
  obtain ⟨v0, v1, v2, v3, d0, d1, d2, d3, p0, p1, p2, p3, rfl, rfl, rfl, h0, h1, h2, h3⟩ := trodAll_four hA
  refine (walk (hval 0 5 v0 rfl rfl) (hval 1 5 v1 rfl rfl) (hval 2 5 v2 rfl rfl) (hval 3 33 v3 rfl rfl)).mono fun e W' ⟨he, hb⟩ => ?_
  subst he
  exact ⟨_, rfl, law_post laid rfl rfl (t := 4) (by rfl) Try.underlying4 (by kernel_rfl) hW hb⟩

theorem lifted (os : Os) (started : os.Started) (H : Type) (enc : TypeId × Value → H) :
    ReturnsInHanded {} Try.checked os 4 .any (Rows.flowstateTellsSpec.pre6 enc Try.prog Try.f4 Rows.flowstateTellsRow.domain false) (Rows.flowstateTellsSpec.post enc Try.prog Try.f4 false true false false) := by
  refine returnsInHanded_of_change (C := Try.checked) own started (by kernel_rfl) Try.func4
    (ChangeSpec.witness6 (enc := enc) (C := Try.checked) false ⟨#[], #[.int .u8 0, .int .u8 0, .int .u8 0, .agg ⟨.int .u32 0 :: .int .u32 0 :: .int .u32 0 :: .int .u32 0 :: []⟩], []⟩ 8 (by kernel_rfl) (by kernel_rfl) (by kernel_rfl) (by kernel_rfl)) ?_
  intro W base args ds gs before hval hW _ _
  exact contract H enc W base args ds gs before hval hW

theorem proved : Rows.FlowstateTellsSaid :=
  OpenClaim.holds_of_wide 4 Try.f4 rfl rfl rfl rfl rfl rfl rfl ⟨rfl, rfl, rfl, rfl, rfl⟩ rfl rfl rfl rfl rfl (by kernel_rfl) Try.func4 (by kernel_rfl)
    (of_decide_eq_true (by kernel_rfl)) (by unfold Func.isWrapper; first | (rw [if_pos (by decide +kernel)]; kernel_rfl) | (rw [if_neg (by decide +kernel)]; exact ⟨rfl, rfl⟩))
    (fun os started H enc _ => lifted os started H enc)
end Go.Proofs.Ytmepokefmpcnnaa.FlowstateTells
