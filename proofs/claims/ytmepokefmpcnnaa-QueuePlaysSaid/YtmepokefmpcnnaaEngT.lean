/- The engine, part T: functions of plain arguments, as summaries; what is enumerated. -/
import Derived.Test.YtmepokefmpcnnaaEngP
import Derived.Test.YtmepokefmpcnnaaEngS
import Derived.Test.YtmepokefmpcnnaaEngQ7
import Derived.Test.YtmepokefmpcnnaaEngR2
set_option linter.unusedVariables false
namespace Go.Wb
variable {P : Program}
/-- a function's answers to plain arguments -/
noncomputable def plG (F : Nat → Option AFn) (f : Nat) : List Value → Option Value := fun args => if args.all plain = true then (match callN F 60 (.fn f) args (names 0) with | some (v, _) => if plain v = true then some v else none | none => none) else none
theorem plG_ok (hm : P.follows .mixedOrders = true) {F : Nat → Option AFn} (hF : TabOk P F) (f : Nat) : SumOk P f (plG F f) := by
  refine sum_of_run hm hF fun args v h => ?_
  unfold plG at h
  split at h
  · rename_i h1
    split at h
    · rename_i v' S' h2
      split at h
      · rename_i h3
        obtain rfl : v' = v := by simpa using h
        exact ⟨h1, h3, 60, by show (callN F 60 (.fn f) args (names 0)).map (·.1) = _; rw [h2]; rfl⟩
      · cases h
    · cases h
  · cases h
theorem plG_eq {F : Nat → Option AFn} {f : Nat} {args : List Value} {v : Value} (h1 : args.all plain = true) (h2 : plain v = true) (h : ∃ S, callN F 60 (.fn f) args (names 0) = some (v, S)) : plG F f args = some v := by
  obtain ⟨S, h⟩ := h
  unfold plG
  rw [if_pos h1, h]
  simp only [if_pos h2]
def hp0 : Hp := { heap := .leaf, next := 0, wl := [] }
theorem plG_wp {F : Nat → Option AFn} {f : Nat} {args : List Value} {v : Value} (h1 : args.all plain = true) (h2 : plain v = true) (h : wp (callN F 60 (.fn f) args) (fun w _ => w = v) hp0) : plG F f args = some v := by
  obtain ⟨a, S', h, rfl⟩ := h
  exact plG_eq h1 h2 ⟨S', h⟩
theorem P_sum {F : Nat → Option AFn} {f : FuncId} {g : List Value → Option Value} (h : F f = some (.sum g)) (n : Nat) (args : List Value) (Φ : Value → Hp → Prop) (S : Hp) : wp (callN F (n + 1) (.fn f) args) Φ S = optP (g args) (fun v => Φ v S) := by
  have : callN F (n + 1) (.fn f) args = M.lift (g args) := by
    funext S
    simp only [callN, h]
  rw [this, wp_lift]
noncomputable def runs (F : Nat → Option AFn) (f : Nat) (ok : Value → Bool) (args : List Value) : Bool := Q.callQ F 60 (.fn f) args (Q.startQ 0) fun v _ => ok v
theorem plG_runs {F : Nat → Option AFn} {f : Nat} {ok : Value → Bool} {args : List Value} (h1 : args.all plain = true) (hok : ∀ v, ok v = true → plain v = true) (h : runs F f ok args = true) : ∃ v, plG F f args = some v ∧ ok v = true := by
  have hr : Q.SRel (Q.startQ 0) (names 0) := ⟨fun b o h => by simp [Q.startQ, Tr.get_leaf] at h, rfl, rfl⟩
  obtain ⟨v, S', q', h2, h3, h4⟩ := Q.callQ_ok F 60 (.fn f) args _ _ hr _ h
  exact ⟨v, plG_eq h1 (hok v h4) ⟨S', h2⟩, h4⟩
def ints : Nat → List Int
  | 0 => []
  | n + 1 => (n : Int) :: ints n
theorem mem_ints : ∀ (n : Nat) (a : Int), 0 ≤ a → a < n → a ∈ ints n
  | 0, a, h0, h1 => by omega
  | n + 1, a, h0, h1 => by
    by_cases h : a = n
    · subst h; exact List.mem_cons_self ..
    · exact List.mem_cons_of_mem _ (mem_ints n a h0 (by omega))
theorem ws_ne {F : Nat → Option AFn} {f i : Nat} {g : List Value → Option Value} (h : Nat.beq i f = false) : withSum F f g i = F i := by unfold withSum; rw [h]
theorem ws_eq {F : Nat → Option AFn} {f : Nat} {g : List Value → Option Value} : withSum F f g f = some (.sum g) := by unfold withSum; rw [Nat.beq_refl]
theorem plG_known {F : Nat → Option AFn} {f : Nat} (h : Q.runsTrue F 60 f [] 0 = true) : plG F f [] = some (.bool true) := by
  have h := Q.runsTrue_callN h
  refine plG_eq rfl rfl ?_
  change (callN F 60 (.fn f) [] (names 0)).map (·.1) = _ at h
  cases hc : callN F 60 (.fn f) [] (names 0) with
  | none => rw [hc] at h; cases h
  | some r =>
    obtain ⟨v, S⟩ := r
    rw [hc] at h
    obtain rfl : v = .bool true := by simpa using h
    exact ⟨S, rfl⟩
/-- a slice of such cells: these, and what lies behind -/
def SlV (bs : List (List Value)) (Q : Value → Prop) (v : Value) (vs : List Value) : Prop :=
  (∀ x ∈ vs, Q x) ∧ ((v = .slice none 0 0 ∧ vs = []) ∨ (v = .chan none ∧ vs = []) ∨ ∃ id c zs, v = .slice (some ⟨id, 0, none⟩) vs.length c ∧ vs.length ≤ c ∧ 0 < c ∧ c ≤ maxLen ∧ bs[id]? = some (vs ++ zs) ∧ (vs ++ zs).length = c)
theorem flat_one : ∀ (es : List (List Value)), (∀ e ∈ es, e.length = 1) → ∃ vs, es.flatten = vs ∧ vs.length = es.length ∧ es = vs.map fun v => [v]
  | [], h => ⟨[], rfl, rfl, rfl⟩
  | e :: es, h => by
    obtain ⟨vs, h1, h2, h3⟩ := flat_one es fun e he => h e (List.mem_cons_of_mem _ he)
    have he := h e (List.mem_cons_self ..)
    obtain ⟨v, rfl⟩ : ∃ v, e = [v] := by
      cases e with
      | nil => cases he
      | cons a r => cases r with
        | nil => exact ⟨a, rfl⟩
        | cons b r => simp at he
    exact ⟨v :: vs, by rw [List.flatten_cons, h1]; rfl, by simp [h2], by rw [List.map_cons, ← h3]⟩
theorem slV_of {bs : List (List Value)} {g : Nat} {t e : TypeId} {v : Value} (hu : P.underlying t = some (.slice e)) (hz : P.cellsOf e = 1) (h : ShpV P bs (g + 1) t v) : ∃ vs, SlV bs (fun x => Shp P bs g e [x]) v vs := by
  unfold ShpV at h
  rw [hu] at h
  simp only [Shp, hu] at h
  rcases h with h | h | ⟨id, n, c, es, h1, h2, h3, h4, h5, h6, h7⟩
  · exact ⟨[], fun x hx => by simp at hx, .inl ⟨by simpa using h, rfl⟩⟩
  · exact ⟨[], fun x hx => by simp at hx, .inr (.inl ⟨by simpa using h, rfl⟩)⟩
  · obtain ⟨vs, k1, k2, k3⟩ := flat_one es fun e he => by rw [(h7 e he).1, hz]
    have hl : (vs.take n).length = n := by rw [List.length_take]; omega
    refine ⟨vs.take n, fun x hx => ?_, .inr (.inr ⟨id, c, vs.drop n, ?_, ?_, h3, h4, ?_, ?_⟩)⟩
    · have : [x] ∈ es := by rw [k3]; exact List.mem_map.2 ⟨x, List.mem_of_mem_take hx, rfl⟩
      exact (h7 _ this).2
    · rw [hl]; simpa using h1
    · rw [hl]; exact h2
    · rw [List.take_append_drop, h5, k1]
    · rw [List.take_append_drop]; omega
theorem shp_int {bs : List (List Value)} {g : Nat} {e : TypeId} {k : IntKind} (hu : P.underlying e = some (.int k)) {x : Value} (h : Shp P bs (g + 1) e [x]) : ∃ n, x = .int k n ∧ k.has n := by
  simp only [Shp, hu] at h
  obtain ⟨n, h1, h2⟩ := h
  exact ⟨n, by simpa using h1, h2⟩
theorem shp_bool {bs : List (List Value)} {g : Nat} {e : TypeId} (hu : P.underlying e = some .bool) {x : Value} (h : Shp P bs (g + 1) e [x]) : ∃ b, x = .bool b := by
  simp only [Shp, hu] at h
  obtain ⟨n, h1⟩ := h
  exact ⟨n, by simpa using h1⟩
theorem shp_str {bs : List (List Value)} {g : Nat} {e : TypeId} (hu : P.underlying e = some .string) {x : Value} (h : Shp P bs (g + 1) e [x]) : ∃ s, x = .string s ∧ s.size ≤ maxLen := by
  simp only [Shp, hu] at h
  obtain ⟨n, h1, h2⟩ := h
  exact ⟨n, by simpa using h1, h2⟩
theorem shpV_one {bs : List (List Value)} {g : Nat} {t : TypeId} {v : Value} (hs : ∀ fs, P.underlying t ≠ some (.struct fs)) (h : ShpV P bs g t v) : Shp P bs g t [v] := by
  unfold ShpV at h
  split at h
  · rename_i fs hf; exact absurd hf (hs fs)
  · exact h
theorem u8_rng {n : Int} (h : IntKind.u8.has n) : 0 ≤ n ∧ n < 256 := by
  simp [IntKind.has, IntKind.min, IntKind.max, IntKind.bits, IntKind.signed] at h
  omega
/-- numbers in cells -/
theorem cells_ints {k : IntKind} : ∀ {vs : List Value}, (∀ x ∈ vs, ∃ n, x = .int k n ∧ k.has n) → ∃ xs : List Int, vs = xs.map (.int k) ∧ ∀ x ∈ xs, k.has x
  | [], h => ⟨[], rfl, fun x hx => by simp at hx⟩
  | v :: vs, h => by
    obtain ⟨xs, h1, h2⟩ := cells_ints fun x hx => h x (List.mem_cons_of_mem _ hx)
    obtain ⟨n, rfl, hn⟩ := h v (List.mem_cons_self ..)
    refine ⟨n :: xs, by rw [h1]; rfl, fun x hx => ?_⟩
    rcases List.mem_cons.1 hx with rfl | hx
    · exact hn
    · exact h2 x hx
theorem trod_len {H : Type} {enc : TypeId × Value → H} {w : World} {base : Nat} {sp : Nat → Bool} {held : Bool} : ∀ {ts : List TypeId} {vs : List Value} {ds : List (DataW H)} {ps : List MemPlace}, DataW.TrodAll enc P w base sp held ts vs ds ps → ds.length = ts.length
  | [], vs, ds, ps, h => by obtain ⟨_, rfl, _⟩ := ChangeShapes.trodAll_nil h; rfl
  | t :: ts, vs, ds, ps, h => by
    obtain ⟨v, vs', d, ds', p, q, rfl, rfl, rfl, h1, h2⟩ := ChangeShapes.trodAll_cons h
    simp [trod_len h2]
theorem len1 {α : Type} {l : List α} (h : l.length = 1) : ∃ a, l = [a] := by
  match l, h with | [a], _ => exact ⟨a, rfl⟩
theorem len2 {α : Type} {l : List α} (h : l.length = 2) : ∃ a b, l = [a, b] := by
  match l, h with | [a, b], _ => exact ⟨a, b, rfl⟩
theorem len3 {α : Type} {l : List α} (h : l.length = 3) : ∃ a b c, l = [a, b, c] := by
  match l, h with | [a, b, c], _ => exact ⟨a, b, c, rfl⟩
theorem len4 {α : Type} {l : List α} (h : l.length = 4) : ∃ a b c d, l = [a, b, c, d] := by
  match l, h with | [a, b, c, d], _ => exact ⟨a, b, c, d, rfl⟩
end Go.Wb
