/- Layer 41's reader over a whole head: no program in sight. -/
import Derived.Test.YtmepokefmpcnnaaHtFeed
set_option maxRecDepth 100000
set_option linter.unusedVariables false
set_option linter.unusedSimpArgs false
namespace Go.Proofs.Ytmepokefmpcnnaa.Ht
open Go.Wb
theorem feed_app : ∀ {a b : List Int} {r r1 r2 : R} {k : Nat}, feed r a = some (r1, a.length) → feed r1 b = some (r2, k) → feed r (a ++ b) = some (r2, a.length + k)
  | [], b, r, r1, r2, k, ha, hb => by
    cases ha
    rw [List.nil_append, hb, List.length_nil, Nat.zero_add]
  | c :: a, b, r, r1, r2, k, ha, hb => by
    unfold feed at ha
    rw [List.cons_append]
    unfold feed
    by_cases ho : r.o = true
    · rw [if_pos ho] at ha; cases ha
    · rw [if_neg ho] at ha ⊢
      split at ha
      · cases ha
      · rename_i hb'
        rw [if_neg hb']
        split at ha
        · cases ha
        · rename_i r3 h3
          cases h4 : feed r3 a with
          | none => rw [h4] at ha; cases ha
          | some y =>
            rw [h4] at ha
            obtain ⟨y1, y2⟩ := y
            simp only [Option.some.injEq, Prod.mk.injEq, List.length_cons, Nat.add_right_cancel_iff] at ha
            obtain ⟨rfl, rfl⟩ := ha
            rw [feed_app h4 hb]
            simp only [List.length_cons, Option.some.injEq, Prod.mk.injEq, true_and]
            omega
/-- one byte -/
theorem feed_one {nx a u l s : Nat} {r' r2 : R} {k : Nat} {c : Int} {cs : List Int} (hb : u < 2048 ∧ l ≤ 5000 ∧ s ≤ 100000 ∧ a ≤ 5000) (hs : stR ⟨nx, a, u + 1, l, s, false, 0⟩ c = some r') (hf : feed r' cs = some (r2, k)) : feed ⟨nx, a, u, l, s, false, 0⟩ (c :: cs) = some (r2, k + 1) := by
  unfold feed
  rw [if_neg Bool.false_ne_true, if_neg (by show ¬ (2048 ≤ u ∨ 5000 < l ∨ 100000 < s ∨ 5000 < a); omega)]
  show (match stR ⟨nx, a, u + 1, l, s, false, 0⟩ c with
    | none => none
    | some r' => match feed r' cs with
      | none => none
      | some x => some (x.1, x.2 + 1)) = _
  rw [hs]
  dsimp only
  rw [hf]
theorem feed_nil (r : R) : feed r [] = some (r, 0) := rfl
/-- the first line, up to its end -/
def firstB (n : Nat) : List Int := [72, 84, 84, 80, 47, 49, 46, 48, 32, 48 + (n / 100 : Nat), 48 + (n / 10 % 10 : Nat), 48 + (n % 10 : Nat), 32, 119, 104, 121]
theorem feed_first (n : Nat) (h : n < 500) : feed r0 (firstB (100 + n)) = some (⟨148, 12, 16, 0, 100 + n, false, 0⟩, 16) := by
  have : ∀ n : Fin 500, feed r0 (firstB (100 + n.1)) = some (⟨148, 12, 16, 0, 100 + n.1, false, 0⟩, 16) := by decide +kernel
  exact this ⟨n, h⟩
/-- a line's end -/
def endB (cr : Bool) : List Int := if cr then [13, 10] else [10]
theorem feed_end (cr : Bool) {a u l s : Nat} (ha : a ≠ 0) (ha2 : a ≤ 5000) (hu : u + 2 ≤ 2048) (hl : l ≤ 5000) (hs : s ≤ 100000) : feed ⟨148, a, u, l, s, false, 0⟩ (endB cr) = some (⟨181, 0, u + (endB cr).length, l + 1, s, false, 0⟩, (endB cr).length) := by
  cases cr with
  | false =>
    refine feed_one (by omega) (r' := ⟨181, 0, u + 1, l + 1, s, false, 0⟩) ?_ (feed_nil _)
    simp [stR, text, ends, endR, ha]
  | true =>
    refine feed_one (by omega) (r' := ⟨170, a, u + 1, l, s, false, 0⟩) ?_ (feed_one (by omega) (r' := ⟨181, 0, u + 2, l + 1, s, false, 0⟩) ?_ (feed_nil _))
    · simp [stR, text, ends]
    · simp [stR, endR, ha]
/-- a text -/
theorem feed_text : ∀ {cs : List Int} {a u l s : Nat}, (∀ c ∈ cs, c ≥ 32) → a ≤ 5000 → u + cs.length ≤ 2048 → l ≤ 5000 → s ≤ 100000 → feed ⟨148, a, u, l, s, false, 0⟩ cs = some (⟨148, a, u + cs.length, l, s, false, 0⟩, cs.length)
  | [], a, u, l, s, h, ha, hu, hl, hs => rfl
  | c :: cs, a, u, l, s, h, ha, hu, hl, hs => by
    rw [List.length_cons] at hu
    have := feed_one (nx := 148) (a := a) (u := u) (l := l) (s := s) (r' := ⟨148, a, u + 1, l, s, false, 0⟩) (c := c) (by omega) (by simp [stR, text, h c (List.mem_cons_self ..)]) (feed_text (cs := cs) (fun c hc => h c (List.mem_cons_of_mem _ hc)) ha (by omega) hl hs)
    rw [this, List.length_cons]
    simp only [Option.some.injEq, Prod.mk.injEq, R.mk.injEq, true_and, and_true]
    omega
/-- a line's name -/
theorem feed_name {u l s : Nat} (hu : u + 5 ≤ 2048) (hl : l ≤ 5000) (hs : s ≤ 100000) : feed ⟨181, 0, u, l, s, false, 0⟩ [120, 45, 97, 58, 32] = some (⟨148, 3, u + 5, l, s, false, 0⟩, 5) := by
  refine feed_one (by omega) (r' := ⟨181, 1, u + 1, l, s, false, 0⟩) ?_ (feed_one (by omega) (r' := ⟨181, 2, u + 2, l, s, false, 0⟩) ?_ (feed_one (by omega) (r' := ⟨181, 3, u + 3, l, s, false, 0⟩) ?_ (feed_one (by omega) (r' := ⟨148, 3, u + 4, l, s, false, 0⟩) ?_ (feed_one (by omega) (r' := ⟨148, 3, u + 5, l, s, false, 0⟩) ?_ (feed_nil _)))))
  all_goals simp [stR, name, text]
/-- the whole line -/
theorem feed_line (cr : Bool) {cs : List Int} {u l s : Nat} (h : ∀ c ∈ cs, c ≥ 32) (hu : u + 7 + cs.length ≤ 2048) (hl : l ≤ 5000) (hs : s ≤ 100000) :
    feed ⟨181, 0, u, l, s, false, 0⟩ ([120, 45, 97, 58, 32] ++ cs ++ endB cr) = some (⟨181, 0, u + (5 + cs.length + (endB cr).length), l + 1, s, false, 0⟩, 5 + cs.length + (endB cr).length) := by
  have h1 := feed_name (u := u) (by omega) hl hs
  have h2 := feed_app h1 (feed_text (cs := cs) h (a := 3) (by omega) (by omega) hl hs)
  have h3 := feed_app (by rw [List.length_append]; exact h2) (feed_end cr (a := 3) (by omega) (by omega) (by omega) hl hs)
  rw [h3, List.length_append]
  simp only [Option.some.injEq, Prod.mk.injEq, R.mk.injEq, true_and, and_true, List.length_cons, List.length_nil]
  omega
/-- the empty line, but for its last byte -/
theorem feed_last (cr : Bool) {u l s : Nat} (hu : u + 2 ≤ 2048) (hl : l ≤ 5000) (hs : s ≤ 100000) :
    feed ⟨181, 0, u, l, s, false, 0⟩ (endB cr).dropLast = some (⟨if cr then 170 else 181, 0, u + (endB cr).dropLast.length, l, s, false, 0⟩, (endB cr).dropLast.length) := by
  cases cr with
  | false => rfl
  | true =>
    refine feed_one (by omega) (r' := ⟨170, 0, u + 1, l, s, false, 0⟩) ?_ (feed_nil _)
    simp [stR, name, ends]
/-- the last byte, and what lies behind -/
theorem feed_over (cr : Bool) {u l s : Nat} (hu : u + 2 ≤ 2048) (hl : l ≤ 5000) (hs : s ≤ 100000) (bs : List Int) :
    feed ⟨if cr then 170 else 181, 0, u, l, s, false, 0⟩ (10 :: bs) = some (⟨181, 0, u + 1, l + 1, s, true, 0⟩, 1) := by
  have h0 : ∀ r : R, r.o = true → feed r bs = some (r, 0) := by
    intro r hr
    cases bs with
    | nil => rfl
    | cons c bs => unfold feed; rw [if_pos hr]
  refine feed_one (by omega) (r' := ⟨181, 0, u + 1, l + 1, s, true, 0⟩) ?_ (h0 _ rfl)
  cases cr <;> simp [stR, name, ends, endR]
end Go.Proofs.Ytmepokefmpcnnaa.Ht
