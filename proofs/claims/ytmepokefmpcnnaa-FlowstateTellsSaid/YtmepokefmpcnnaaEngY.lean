/- The engine, part Y: boxes with what stands around them, for a rewriting from the head. -/
import Derived.Test.YtmepokefmpcnnaaEngW
set_option linter.unusedSimpArgs false
set_option linter.unusedVariables false
namespace Go.Wb
variable {ρ : Type}
variable {C : Tgt → List Value → M Value} {S : St} (c : Value → St → Option ρ) (j : Nat) (ts : List (Nat × Touch)) (k : Value → List (Nat × Touch) → St → Option ρ)
theorem kk_of {m : M Value} {v : Value} (h : m = M.pure v) : M.k m c S = c v S := by subst h; rfl
theorem dd_of {m : M Value} {v : Value} (h : m = M.pure v) : dstep j ts m k S = k v ts S := by subst h; exact dstep_pure j ts v k
theorem kk_G (m : M Value) : M.k (G (wanted true (.bool true)) m) c S = M.k m c S := id rfl
theorem kk_Gn (m : M Value) : M.k (G (wanted true (.bool false)) m) c S = c undef S := id rfl
theorem kk_H (m : M Value) : M.k (G (wanted false (.bool false)) m) c S = M.k m c S := id rfl
theorem kk_Hn (m : M Value) : M.k (G (wanted false (.bool true)) m) c S = c undef S := id rfl
theorem dd_G (m : M Value) : dstep j ts (G (wanted true (.bool true)) m) k S = dstep j ts m k S := id rfl
theorem dd_Gn (m : M Value) : dstep j ts (G (wanted true (.bool false)) m) k S = k undef ts S := dd_of j ts k rfl
theorem dd_H (m : M Value) : dstep j ts (G (wanted false (.bool false)) m) k S = dstep j ts m k S := id rfl
theorem dd_Hn (m : M Value) : dstep j ts (G (wanted false (.bool true)) m) k S = k undef ts S := dd_of j ts k rfl
theorem kk_box (t : TypeId) (v : Value) : M.k (X C (.box t (.const v))) c S = c (.pointer (some ⟨S.next, 0, none⟩)) (S.add (.cells none false v.cells.toList)) := id rfl
theorem lift_some (v : Value) : M.lift (some v) = M.pure v := rfl
theorem p_mov (v : Value) : X C (.mov (.const v)) = M.pure v := id rfl
theorem p_ext0 (a : Value) (l : List Value) : X C (.ext (.const (.tuple ⟨a :: l⟩)) 0) = M.pure a := by rw [X_ext]; rfl
theorem p_ext1 (a b : Value) (l : List Value) : X C (.ext (.const (.tuple ⟨a :: b :: l⟩)) 1) = M.pure b := by rw [X_ext]; rfl
theorem p_ext2 (a b d : Value) (l : List Value) : X C (.ext (.const (.tuple ⟨a :: b :: d :: l⟩)) 2) = M.pure d := by rw [X_ext]; rfl
theorem p_pickT (a b : Value) : X C (.pick (.const (.bool true)) (.const a) (.const b)) = M.pure a := X_pick true a b
theorem p_pickF (a b : Value) : X C (.pick (.const (.bool false)) (.const a) (.const b)) = M.pure b := X_pick false a b
theorem p_eqi (q : IntKind) (a : Int) : X C (.bin .eql (.const (.int q a)) (.const (.int q a))) = M.pure (.bool true) := by rw [X_bin, bv_eql, decide_eq_true rfl]; rfl
theorem p_eqb (a : Bool) : X C (.eq false .bool (.const (.bool a)) (.const (.bool a))) = M.pure (.bool true) := by rw [X_eq, ev_bool]; cases a <;> rfl
theorem p_geq (q : IntKind) (a b : Int) : X C (.bin .geq (.const (.int q a)) (.const (.int q b))) = M.pure (.bool (decide (a ≥ b))) := by rw [X_bin, bv_geq]; rfl
theorem p_leq (q : IntKind) (a b : Int) : X C (.bin .leq (.const (.int q a)) (.const (.int q b))) = M.pure (.bool (decide (a ≤ b))) := by rw [X_bin, bv_leq]; rfl
theorem p_call {f : FuncId} {args : List Atom} {vs : List Value} {v : Value} (h : evs .leaf args = some vs) (hC : C (.fn f) vs = M.lift (some v)) : X C (.call (.const (.func (.func f) ⟨[]⟩ ⟨[]⟩)) args) = M.pure v := by rw [X_call f args vs h, hC]; rfl
theorem kk_mov (v : Value) : M.k (X C (.mov (.const v))) c S = c v S := id rfl
theorem kk_ext0 (a : Value) (l : List Value) : M.k (X C (.ext (.const (.tuple ⟨a :: l⟩)) 0)) c S = c a S := kk_of c (p_ext0 a l)
theorem kk_ext1 (a b : Value) (l : List Value) : M.k (X C (.ext (.const (.tuple ⟨a :: b :: l⟩)) 1)) c S = c b S := kk_of c (p_ext1 a b l)
theorem kk_ext2 (a b d : Value) (l : List Value) : M.k (X C (.ext (.const (.tuple ⟨a :: b :: d :: l⟩)) 2)) c S = c d S := kk_of c (p_ext2 a b d l)
theorem dd_mov (v : Value) : dstep j ts (X C (.mov (.const v))) k S = k v ts S := dd_of j ts k rfl
theorem dd_pickT (a b : Value) : dstep j ts (X C (.pick (.const (.bool true)) (.const a) (.const b))) k S = k a ts S := dd_of j ts k (p_pickT a b)
theorem dd_pickF (a b : Value) : dstep j ts (X C (.pick (.const (.bool false)) (.const a) (.const b))) k S = k b ts S := dd_of j ts k (p_pickF a b)
theorem dd_eqi (q : IntKind) (a : Int) : dstep j ts (X C (.bin .eql (.const (.int q a)) (.const (.int q a)))) k S = k (.bool true) ts S := dd_of j ts k (p_eqi q a)
theorem dd_eqb (a : Bool) : dstep j ts (X C (.eq false .bool (.const (.bool a)) (.const (.bool a)))) k S = k (.bool true) ts S := dd_of j ts k (p_eqb a)
theorem dd_leq (q : IntKind) (a b : Int) : dstep j ts (X C (.bin .leq (.const (.int q a)) (.const (.int q b)))) k S = k (.bool (decide (a ≤ b))) ts S := dd_of j ts k (p_leq q a b)
theorem dd_geqT (q : IntKind) {a b : Int} (h : a ≥ b) : dstep j ts (X C (.bin .geq (.const (.int q a)) (.const (.int q b)))) k S = k (.bool true) ts S := dd_of j ts k (by rw [p_geq, decide_eq_true h])
theorem dd_geqF (q : IntKind) {a b : Int} (h : ¬ a ≥ b) : dstep j ts (X C (.bin .geq (.const (.int q a)) (.const (.int q b)))) k S = k (.bool false) ts S := dd_of j ts k (by rw [p_geq, decide_eq_false h])
end Go.Wb
