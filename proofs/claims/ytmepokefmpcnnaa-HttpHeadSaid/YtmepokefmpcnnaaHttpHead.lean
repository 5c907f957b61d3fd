/- That layer 41's law 'HttpHead' is true for every input; it has no conditions. -/
import Derived.Test.YtmepokefmpcnnaaHtPlain
import Derived.Carry
import Derived.Test.YtmepokefmpcnnaaRows
set_option maxRecDepth 100000
set_option linter.unusedVariables false
set_option linter.unusedSimpArgs false
namespace Go.Proofs.Ytmepokefmpcnnaa.HttpHead
open Go.ChangeShapes Go.WideShapes Go.ChangeAt Go.RowKit Go.Wb
open Go.Proofs.Ytmepokefmpcnnaa
open Ht
/-- a string's bytes -/
def toB (s : ByteArray) : List Int := s.data.toList.map fun b => (b.toNat : Int)
theorem toB_app (a b : ByteArray) : toB (a ++ b) = toB a ++ toB b := by simp [toB]
theorem toB_len (s : ByteArray) : (toB s).length = s.size := by simp [toB]
theorem toB_cut (s : ByteArray) (n : Nat) : toB (s.extract 0 n) = (toB s).take n := by simp [toB, List.map_take]
theorem hu72 : fts (Try.prog.underlying 72) = [] := by kernel_rfl
theorem hu4 : Try.prog.underlying 4 = some .bool := by kernel_rfl
theorem hu22 : Try.prog.underlying 22 = some (.slice 5) := by kernel_rfl
theorem hu5 : Try.prog.underlying 5 = some (.int .u8) := by kernel_rfl
theorem z5 : Try.prog.cellsOf 5 = 1 := by kernel_rfl
theorem hu72' : Try.prog.underlying 72 = some (.int .u16) := by kernel_rfl
theorem hu73 : Try.prog.underlying 73 = some (.slice 9) := by kernel_rfl
theorem hu9 : Try.prog.underlying 9 = some .string := by kernel_rfl
theorem z9 : Try.prog.cellsOf 9 = 1 := by kernel_rfl
section
variable {C : Tgt → List Value → M Value} {S : Hp} {Φ : Value → Hp → Prop}
theorem P_quop {a b : Nat} (ha : a < 9223372036854775808) (hb : 0 < b) : wp (X C (.bin .quo (.const (.int .i64 a)) (.const (.int .i64 b)))) Φ S = Φ (.int .i64 ((a / b : Nat) : Int)) S := by
  have h : (a : Int).tdiv (b : Int) = ((a / b : Nat) : Int) := by rw [Int.tdiv_eq_ediv_of_nonneg (by omega)]; rfl
  rw [P_quo .i64 (by omega), h]
  have h2 : a / b ≤ a := Nat.div_le_self a b
  generalize a / b = z at h2 ⊢
  rw [wrap64 (by omega) (by omega)]
theorem P_remp' {a b : Nat} (hb : 0 < b) : wp (X C (.bin .rem (.const (.int .i64 a)) (.const (.int .i64 b)))) Φ S = Φ (.int .i64 ((a % b : Nat) : Int)) S := by
  rw [P_remp .i64 (by omega) (by omega)]; rfl
end
/-- bytes of its own, from 32 on -/
def LB (B S : Hp) (bb : Nat) (v : Value) (cs : List Int) : Prop := (∀ c ∈ cs, 32 ≤ c ∧ c < 256) ∧ ((v = .slice none 0 0 ∧ cs = []) ∨ ∃ b, v = .slice (some ⟨b, 0, none⟩) cs.length cs.length ∧ b ≠ bb ∧ b < S.next ∧ B.next ≤ b ∧ S.heap.get b = some (.cells (some 1) false (cs.map (.int .u8))))
theorem ones (cs : List Int) : (cs.map (Value.int .u8)).all (·.oneCell') = true := by
  rw [List.all_eq_true]; intro v hv; obtain ⟨c, _, rfl⟩ := List.mem_map.1 hv; rfl
theorem LB.push {C : Tgt → List Value → M Value} {B S : Hp} {bb : Nat} {v : Value} {cs : List Int} {c : Int} {Φ : Value → Hp → Prop} (h : LB B S bb v cs) (hF : Fra [] B S) (hbb : bb < S.next) (hc : 32 ≤ c ∧ c < 256) (hl : cs.length ≤ 1000)
    (k : ∀ v' S', Fra [] B S' → S'.heap.get bb = S.heap.get bb → S.next ≤ S'.next → LB B S' bb v' (cs ++ [c]) → Φ v' S') :
    wp (X C (.app 1 1 5 (.const v) (.const (.slice (some ⟨S.next, 0, none⟩) 1 1)))) Φ (S.add (.cells none false [.int .u8 c])) := by
  have hn := hF.next
  have hc' : ∀ x ∈ cs ++ [c], 32 ≤ x ∧ x < 256 := by
    intro x hx
    rcases List.mem_append.1 hx with hx | hx
    · exact h.1 x hx
    · have : x = c := by simpa using hx
      subst this; exact hc
  have hf : ∀ (Ψ : List Value → Hp → Prop), wp (firstN 1 1 (.slice (some ⟨S.next, 0, none⟩) 1 1)) Ψ (S.add (.cells none false [.int .u8 c])) = Ψ [.int .u8 c] (S.add (.cells none false [.int .u8 c])) := by
    intro Ψ
    rw [W_firstN, add_at, rdP_cells]
    exact condP_of (by simp) _
  rcases h.2 with ⟨rfl, rfl⟩ | ⟨b, rfl, h1, h2, h3, h4⟩
  · rw [P_app_nil 1 1 5 rfl (by omega) (by omega), hf]
    refine ⟨rfl, ?_⟩
    refine k _ _ ((hF.add _).add _) ?_ (by (first | omega | (simp only [Hp.add_next, Hp.put_next]; done) | (simp only [Hp.add_next, Hp.put_next]; omega))) ⟨hc', .inr ⟨_, rfl, by (first | omega | (simp only [Hp.add_next, Hp.put_next]; done) | (simp only [Hp.add_next, Hp.put_next]; omega)), by (first | omega | (simp only [Hp.add_next, Hp.put_next]; done) | (simp only [Hp.add_next, Hp.put_next]; omega)), by (first | omega | (simp only [Hp.add_next, Hp.put_next]; done) | (simp only [Hp.add_next, Hp.put_next]; omega)), add_at _ _⟩⟩
    rw [add_off (by (first | omega | (simp only [Hp.add_next, Hp.put_next]; done) | (simp only [Hp.add_next, Hp.put_next]; omega))), add_off (by omega)]
  · have hb4 : (S.add (.cells none false [.int .u8 c])).heap.get b = some (.cells (some 1) false (cs.map (.int .u8))) := by rw [add_off (by omega)]; exact h4
    rw [P_app_ext 1 1 5 b 0 cs.length cs.length (n := 1) rfl (by omega) (by omega) hb4 (by simp) hf rfl]
    refine k _ _ (((hF.add _).put (.inl (by omega)) _).add _) ?_ (by (first | omega | (simp only [Hp.add_next, Hp.put_next]; done) | (simp only [Hp.add_next, Hp.put_next]; omega))) ⟨hc', .inr ⟨_, by rw [List.length_append]; rfl, by (first | omega | (simp only [Hp.add_next, Hp.put_next]; done) | (simp only [Hp.add_next, Hp.put_next]; omega)), by (first | omega | (simp only [Hp.add_next, Hp.put_next]; done) | (simp only [Hp.add_next, Hp.put_next]; omega)), by (first | omega | (simp only [Hp.add_next, Hp.put_next]; done) | (simp only [Hp.add_next, Hp.put_next]; omega)), ?_⟩⟩
    · rw [add_off (by (first | omega | (simp only [Hp.add_next, Hp.put_next]; done) | (simp only [Hp.add_next, Hp.put_next]; omega))), put_off (by omega), add_off (by omega)]
    · refine (add_eq (S := (S.add (.cells none false [.int .u8 c])).put b none) rfl _).trans ?_
      simp [List.take_of_length_le]
theorem bytes_map : ∀ (cs : List Int), (∀ c ∈ cs, 32 ≤ c ∧ c < 256) → ∃ l, bytesOf (cs.map (.int .u8)) = some l ∧ toB ⟨l.toArray⟩ = cs
  | [], _ => ⟨[], rfl, rfl⟩
  | c :: cs, h => by
    obtain ⟨l, h1, h2⟩ := bytes_map cs fun c hc => h c (List.mem_cons_of_mem _ hc)
    obtain ⟨k1, k2⟩ := h c (List.mem_cons_self ..)
    refine ⟨UInt8.ofNat c.toNat :: l, by rw [List.map_cons, bytesOf, h1], ?_⟩
    have : ((UInt8.ofNat c.toNat).toNat : Int) = c := by rw [UInt8.toNat_ofNat', Nat.mod_eq_of_lt (by omega)]; omega
    simp only [toB, List.map_cons] at h2 ⊢
    rw [h2, this]
theorem ints_get {cs : List Int} {i : Nat} {c : Int} (h : cs[i]? = some c) : (cs.map (Value.int .u8))[i]? = some (.int .u8 c) := by rw [List.getElem?_map, h]; rfl
theorem El.own {p b c : Nat} {S : Hp} {x : Option Nat} {s : Bool} {cs : List Int} (h : S.heap.get b = some (.cells x s (cs.map (.int .u8)))) (hb : b < S.next) (hp : b ≠ p) : El p S (.slice (some ⟨b, 0, none⟩) cs.length c) cs := by
  refine ⟨fun C Φ S' => by rw [P_lenS], fun C i c S' hi hS Φ => ?_⟩
  have hget := (hS b hb hp).trans h
  have hcell := ints_get hi
  have hlt : i < cs.length := (List.getElem?_eq_some_iff.1 hi).1
  simp (disch := first | omega | (simp only [Hp.add_next, Hp.put_next]; done) | (simp only [Hp.add_next, Hp.put_next]; omega) | fail) only [↓P_load1, ↓P_ixA, rdP_cells, optP_some, condP_of, Nat.zero_add, Int.toNat_natCast, hget, hcell, Nat.mul_one]
theorem El.ro {p b c : Nat} {S : Hp} {cs : List Int} {zs : List Value} (h : S.heap.get b = some (.ro (cs.map (.int .u8) ++ zs))) (hb : b < S.next) (hp : b ≠ p) : El p S (.slice (some ⟨b, 0, none⟩) cs.length c) cs := by
  refine ⟨fun C Φ S' => by rw [P_lenS], fun C i c S' hi hS Φ => ?_⟩
  have hget := (hS b hb hp).trans h
  have hlt : i < cs.length := (List.getElem?_eq_some_iff.1 hi).1
  have hcell : (cs.map (Value.int .u8) ++ zs)[i]? = some (.int .u8 c) := by
    rw [List.getElem?_append_left (by simpa using hlt)]; exact ints_get hi
  simp (disch := first | omega | (simp only [Hp.add_next, Hp.put_next]; done) | (simp only [Hp.add_next, Hp.put_next]; omega) | fail) only [↓P_load1, ↓P_ixA, rdP_ro, optP_some, condP_of, Nat.zero_add, Int.toNat_natCast, hget, hcell, Nat.mul_one]
theorem El.nil {p : Nat} {S : Hp} : El p S (.slice none 0 0) [] := ⟨fun C Φ S' => by rw [P_lenS]; rfl, fun C i c S' hi => by simp at hi⟩
theorem El.tok {p : Nat} {S : Hp} : El p S (.chan none) [] := ⟨fun C Φ S' => by rw [P_lenE]; rfl, fun C i c S' hi => by simp at hi⟩
theorem toB_cells (s : ByteArray) : (s.data.toList.map fun b => Value.int .u8 b.toNat) = (toB s).map (.int .u8) := by simp [toB]
theorem LB.str {B S : Hp} {bb : Nat} {v : Value} {cs : List Int} (h : LB B S bb v cs) : ∃ b : ByteArray, toB b = cs ∧ ∀ (C : Tgt → List Value → M Value) (Φ : Value → Hp → Prop), wp (X C (.conv .b2str (.const v))) Φ S = Φ (.string b) S := by
  rcases h.2 with ⟨rfl, rfl⟩ | ⟨b, rfl, h1, h2, h3, h4⟩
  · exact ⟨.empty, rfl, fun C Φ => P_b2strN 0 0⟩
  · obtain ⟨l, k1, k2⟩ := bytes_map cs h.1
    refine ⟨⟨l.toArray⟩, k2, fun C Φ => ?_⟩
    rw [P_b2str, h4, rdP_cells, condP_of (by simp), List.drop_zero, List.take_of_length_le (by simp), k1, optP_some]
/-- '\n', and a body behind it -/
theorem app_body {bs : List (List Value)} {v : Value} {cs : List Int} {ds : List Value} {S : Hp} {b : Nat} (hv : SlV bs (fun x => Shp Try.prog bs 4 5 [x]) v ds) (hds : ds = cs.map (.int .u8)) (hF : Fra [] (roHp bs) S) (hb : S.heap.get b = some (.cells none true [.int .u8 10])) (hbl : b < S.next) (hb2 : bs.length ≤ b) (hl : cs.length ≤ 100)
    {C : Tgt → List Value → M Value} {Φ : Value → Hp → Prop} (k : ∀ v' S', Fra [b] S S' → (∀ p, p < S.next → p ≠ b → El p S' v' (10 :: cs)) → Φ v' S') : wp (X C (.app 1 1 5 (.const (.slice (some ⟨b, 0, none⟩) 1 1)) (.const v))) Φ S := by
  have hone : (cs.map (Value.int .u8)).all (·.oneCell') = true := ones cs
  have key : ∀ (n : Nat), lenOf v = some n → n = cs.length → (∀ (Ψ : List Value → Hp → Prop), wp (firstN 1 n v) Ψ S = Ψ (cs.map (.int .u8)) S) → wp (X C (.app 1 1 5 (.const (.slice (some ⟨b, 0, none⟩) 1 1)) (.const v))) Φ S := by
    rintro n hx rfl hf
    by_cases h0 : cs.length = 0
    · obtain rfl : cs = [] := List.eq_nil_of_length_eq_zero h0
      rw [P_app_fit 1 1 5 b 0 1 1 hx (by simp), hf, wp_stCells, hb, blkP_cells]
      refine ⟨⟨by simp, rfl⟩, ?_⟩
      refine k _ _ ((Fra.refl _ _).put (.inr (by simp)) _) fun p hp hpb => ?_
      exact El.own (cs := [10]) (put_at _ _ _) (by (first | omega | (simp only [Hp.add_next, Hp.put_next]; done) | (simp only [Hp.add_next, Hp.put_next]; omega))) (by omega)
    · rw [P_app_own 1 1 5 b 0 1 1 hx (by omega) (by omega) hb (by simp) hf hone]
      refine k _ _ ((Fra.refl _ _).add _) fun p hp hpb => ?_
      have : (1 + cs.length) = (10 :: cs).length := by rw [List.length_cons]; omega
      rw [this]
      exact El.own (cs := 10 :: cs) (add_at _ _) (by (first | omega | (simp only [Hp.add_next, Hp.put_next]; done) | (simp only [Hp.add_next, Hp.put_next]; omega))) (by omega)
  subst hds
  rcases hv.2 with ⟨rfl, hz⟩ | ⟨rfl, hz⟩ | ⟨id, c, zs, rfl, k2, k3, k4, k5, k6⟩
  · obtain rfl : cs = [] := List.map_eq_nil_iff.1 hz
    exact key 0 rfl rfl fun Ψ => W_firstN0 ..
  · obtain rfl : cs = [] := List.map_eq_nil_iff.1 hz
    exact key 0 rfl rfl fun Ψ => W_firstNE ..
  · refine key _ rfl (by simp) fun Ψ => ?_
    have hget : S.heap.get id = some (.ro (cs.map (.int .u8) ++ zs)) := by rw [hF.heap id (List.getElem?_eq_some_iff.1 k5).1 (by simp), roHp_get, k5]; rfl
    rw [W_firstN, hget, rdP_ro]
    rw [condP_of (by simp), List.drop_zero, List.take_append_of_le_length (by simp), List.take_of_length_le (by simp)]
theorem El.arg {bs : List (List Value)} {v : Value} {cs : List Int} {ds : List Value} {S : Hp} {p : Nat} (hv : SlV bs (fun x => Shp Try.prog bs 4 5 [x]) v ds) (hds : ds = cs.map (.int .u8)) (hF : Fra [] (roHp bs) S) (hp : bs.length ≤ p) : El p S v cs := by
  subst hds
  rcases hv.2 with ⟨rfl, hz⟩ | ⟨rfl, hz⟩ | ⟨id, c, zs, rfl, k2, k3, k4, k5, k6⟩
  · obtain rfl : cs = [] := List.map_eq_nil_iff.1 hz
    exact El.nil
  · obtain rfl : cs = [] := List.map_eq_nil_iff.1 hz
    exact El.tok
  · have hid := (List.getElem?_eq_some_iff.1 k5).1
    have hget : S.heap.get id = some (.ro (cs.map (.int .u8) ++ zs)) := by rw [hF.heap id hid (by simp), roHp_get, k5]; rfl
    have := hF.next
    rw [List.length_map]
    exact El.ro hget (by have : (roHp bs).next = bs.length := rfl; omega) (by omega)
/-- between two lines -/
def LInv (B : Hp) (v1 v2 : Value) (n : Nat) (cr : Bool) (k m : Nat) (t1 t2 _t8 t9 t10 t11 t58 t59 t60 : Value) (S : Hp) : Prop := ∃ (i : Nat) (e h : ByteArray), t1 = v1 ∧ t2 = v2 ∧ t9 = .int .i64 n ∧ t10 = .string e ∧ t11 = .string h ∧ t58 = v1 ∧ t59 = .int .i64 k ∧ t60 = .int .i64 i ∧
  i ≤ k ∧ m = k - i ∧ toB e = endB cr ∧ h.size ≤ 18 + 47 * i ∧ feed r0 (toB h) = some (⟨181, 0, h.size, i + 1, n, false, 0⟩, h.size) ∧ Fra [] B S
theorem law (bs : List (List Value)) (args : List Value) (h : ShpA Try.prog bs 5 [72, 73, 22, 4] args) : wp (callN T 4001 (.fn 8) args) (fun v _ => v = .bool true) (roHp bs) := by
  obtain ⟨v0, r, rfl, h0, h⟩ := h
  obtain ⟨v1, r, rfl, h1, h⟩ := h
  obtain ⟨v2, r, rfl, h2, h⟩ := h
  obtain ⟨v3, r, rfl, h3, h⟩ := h
  obtain rfl : r = [] := h
  obtain ⟨p, rfl, hp⟩ := shp_int hu72' (shpV_one (fun fs => by rw [hu72']; simp) h0)
  obtain ⟨cr, rfl⟩ := shp_bool hu4 (shpV_one (fun fs => by rw [hu4]; simp) h3)
  obtain ⟨ls, hq1, hv1⟩ := slV_of hu73 z9 h1
  obtain ⟨ds, hq2, hv2⟩ := slV_of hu22 z5 h2
  refine c8 g8 ?_
  unfold P8
  have hlen1 : ∀ (Φ : Value → Hp → Prop) (S : Hp), wp (X (callN T 4000) (.len .slice (.const v1))) Φ S = Φ (.int .i64 ls.length) S := by
    intro Φ S
    rcases hv1 with ⟨rfl, hv⟩ | ⟨rfl, hv⟩ | ⟨id, c, zs, rfl, hv⟩
    · rw [P_lenS, hv]; rfl
    · rw [P_lenE, hv]; rfl
    · rw [P_lenS]
  have hlen2 : ∀ (Φ : Value → Hp → Prop) (S : Hp), wp (X (callN T 4000) (.len .slice (.const v2))) Φ S = Φ (.int .i64 ds.length) S := by
    intro Φ S
    rcases hv2 with ⟨rfl, hv⟩ | ⟨rfl, hv⟩ | ⟨id, c, zs, rfl, hv⟩
    · rw [P_lenS, hv]; rfl
    · rw [P_lenE, hv]; rfl
    · rw [P_lenS]
  have hls : ∀ (i : Nat) (S : Hp), i < ls.length → Fra [] (roHp bs) S → ∃ st : ByteArray, st.size ≤ maxLen ∧ ∀ (Φ : Value → Hp → Prop), wp (X (callN T 4000) (.ixA 1 (.const v1) (.const (.int .i64 i)))) (fun t S => wp (X (callN T 4000) (.load .one (.const t))) Φ S) S = Φ (.string st) S := by
    intro i S hi hF
    rcases hv1 with ⟨rfl, hv⟩ | ⟨rfl, hv⟩ | ⟨id, c, zs, rfl, k2, k3, k4, k5, k6⟩
    · rw [hv] at hi; simp at hi
    · rw [hv] at hi; simp at hi
    · obtain ⟨st, hst, hsz⟩ := shp_str (P := Try.prog) hu9 (hq1 ls[i] (List.getElem_mem hi))
      refine ⟨st, hsz, fun Φ => ?_⟩
      have hget : S.heap.get id = some (.ro (ls ++ zs)) := by rw [hF.heap id (List.getElem?_eq_some_iff.1 k5).1 (by simp), roHp_get, k5]; rfl
      have hcell : (ls ++ zs)[0 + (i : Int).toNat * 1]? = some (.string st) := by
        rw [Nat.zero_add, Nat.mul_one, Int.toNat_natCast, List.getElem?_append_left hi, List.getElem?_eq_getElem hi, hst]
      simp (disch := first | omega | (simp only [Hp.add_next, Hp.put_next]; done) | (simp only [Hp.add_next, Hp.put_next]; omega) | fail) only [↓P_load1, ↓P_ixA, rdP_ro, optP_some, condP_of, hget, hcell]
  generalize hΦ : (fun (v : Value) (_ : Hp) => v = Value.bool true) = Φ
  have ht : ∀ S, Φ (.bool true) S := fun S => by subst hΦ; rfl
  have hpn : 0 ≤ p ∧ p < 65536 := by
    have : IntKind.u16.has p := hp
    simp [IntKind.has, IntKind.min, IntKind.max, IntKind.bits, IntKind.signed] at this
    omega
  obtain ⟨q, rfl⟩ : ∃ q : Nat, p = q := ⟨p.toNat, by omega⟩
  have r500 : ∀ (Φ : Value → Hp → Prop) (S : Hp), wp (X (callN T 4000) (.bin .rem (.const (.int .i64 q)) (.const (.int .i64 500)))) Φ S = Φ (.int .i64 ((q % 500 : Nat) : Int)) S := fun Φ S => P_remp' (b := 500) (by omega)
  simp (maxSteps := 100000000) (disch := first | omega | (simp only [Hp.add_next, Hp.put_next]; done) | (simp only [Hp.add_next, Hp.put_next]; omega) | fail) only [↓P_bslice, ↓P_andQ, orQ_p, ifP_bool, ↓P_gtr, ↓P_add64, ↓P_convI64, ↓P_sadd, ↓P_callF0, ↓P_callF1, ↓P_callF2, rdP_cells, optP_some, add_eq, ↓P_b2str, List.length_cons, List.length_nil, Nat.zero_add, Nat.reduceAdd, Nat.reduceLeDiff, List.drop_zero, and_self, and_true, if_true, fillA, Atom.ev, setAll, List.set_cons_zero, List.size_toArray, cells_int, List.nil_append, List.append_nil, hlen1, hlen2, kn, r500]
  refine ifB_in (fun _ => ht _) (fun hb => ?_)
  simp only [Bool.or_eq_false_iff, decide_eq_false_iff_not] at hb
  obtain ⟨hb1, hb2⟩ := hb
  have hcast : (100 + ((q % 500 : Nat) : Int)) = ((100 + q % 500 : Nat) : Int) := by omega
  rw [hcast]
  obtain ⟨n0, hn0⟩ : ∃ n0, n0 = q % 500 := ⟨_, rfl⟩
  have hn5 : n0 < 500 := by omega
  rw [← hn0]
  refine jn_intro fun J hJ => ?_
  have main : ∀ (e : ByteArray), toB e = endB cr → J (.string e) (roHp bs) := by
    intro e he
    subst hJ
    have q100 : ∀ (Φ : Value → Hp → Prop) (S : Hp), wp (X (callN T 4000) (.bin .quo (.const (.int .i64 ((100 + n0 : Nat) : Int))) (.const (.int .i64 100)))) Φ S = Φ (.int .i64 (((100 + n0) / 100 : Nat) : Int)) S := fun Φ S => P_quop (b := 100) (by omega) (by omega)
    have q10 : ∀ (Φ : Value → Hp → Prop) (S : Hp), wp (X (callN T 4000) (.bin .quo (.const (.int .i64 ((100 + n0 : Nat) : Int))) (.const (.int .i64 10)))) Φ S = Φ (.int .i64 (((100 + n0) / 10 : Nat) : Int)) S := fun Φ S => P_quop (b := 10) (by omega) (by omega)
    have r10 : ∀ (a : Nat) (Φ : Value → Hp → Prop) (S : Hp), wp (X (callN T 4000) (.bin .rem (.const (.int .i64 (a : Int))) (.const (.int .i64 10)))) Φ S = Φ (.int .i64 ((a % 10 : Nat) : Int)) S := fun a Φ S => P_remp' (b := 10) (by omega)
    simp (maxSteps := 100000000) (disch := first | omega | (simp only [Hp.add_next, Hp.put_next]; done) | (simp only [Hp.add_next, Hp.put_next]; omega) | fail) only [↓P_add64, ↓P_convU8, ↓P_sadd, optP_some, condP_of, List.length_cons, List.length_nil, Nat.zero_add, Nat.reduceAdd, Nat.reduceLeDiff, List.take_succ_cons, List.take_zero, true_and, if_true, setAll, List.set_cons_zero, List.set_cons_succ, List.size_toArray, cells_int, q100, q10, r10]
    have hbo : bytesOf [.int .u8 (48 + (((100 + n0) / 100 : Nat) : Int)), .int .u8 (48 + (((100 + n0) / 10 % 10 : Nat) : Int)), .int .u8 (48 + (((100 + n0) % 10 : Nat) : Int))] = some [UInt8.ofNat (48 + (100 + n0) / 100), UInt8.ofNat (48 + (100 + n0) / 10 % 10), UInt8.ofNat (48 + (100 + n0) % 10)] := by
      have t1 : (48 + (((100 + n0) / 100 : Nat) : Int)).toNat = 48 + (100 + n0) / 100 := by omega
      have t2 : (48 + (((100 + n0) / 10 % 10 : Nat) : Int)).toNat = 48 + (100 + n0) / 10 % 10 := by omega
      have t3 : (48 + (((100 + n0) % 10 : Nat) : Int)).toNat = 48 + (100 + n0) % 10 := by omega
      simp only [bytesOf, t1, t2, t3]
    rw [hbo, optP_some]
    have hes : e.size ≤ 2 := by
      rw [← toB_len, he]; cases cr <;> decide
    have hsz : ∀ l : List UInt8, (⟨l.toArray⟩ : ByteArray).size = l.length := fun l => rfl
    refine ⟨?_, ?_, ?_, ?_⟩
    · rw [hsz, hsz]; simp
    · rw [ByteArray.size_append, hsz, hsz, hsz]; simp
    · rw [ByteArray.size_append, ByteArray.size_append, hsz, hsz, hsz]; simp; omega
    generalize hH : (_ ++ _ ++ _ ++ e : ByteArray) = hd
    have hB : toB hd = firstB (100 + n0) ++ endB cr := by
      rw [← hH, toB_app, he]
      congr 1
      have u1 : (UInt8.ofNat (48 + (100 + n0) / 100)).toNat = 48 + (100 + n0) / 100 := by rw [UInt8.toNat_ofNat', Nat.mod_eq_of_lt (by omega)]
      have u2 : (UInt8.ofNat (48 + (100 + n0) / 10 % 10)).toNat = 48 + (100 + n0) / 10 % 10 := by rw [UInt8.toNat_ofNat', Nat.mod_eq_of_lt (by omega)]
      have u3 : (UInt8.ofNat (48 + (100 + n0) % 10)).toNat = 48 + (100 + n0) % 10 := by rw [UInt8.toNat_ofNat', Nat.mod_eq_of_lt (by omega)]
      simp [toB, firstB]
      omega
    have hhs : hd.size = 16 + (endB cr).length := by rw [← toB_len, hB, List.length_append]; rfl
    have hf0 : feed r0 (toB hd) = some (⟨181, 0, hd.size, 0 + 1, 100 + n0, false, 0⟩, hd.size) := by
      rw [hB, hhs]
      exact feed_app (feed_first n0 hn5) (feed_end cr (by omega) (by omega) (by omega) (by omega) (by omega))
    have hel : (endB cr).length ≤ 2 := by cases cr <;> decide
    refine ⟨LInv (roHp bs) v1 v2 (100 + n0) cr ls.length, ⟨ls.length, by omega, 0, e, hd, rfl, rfl, rfl, rfl, rfl, rfl, rfl, rfl, Nat.zero_le _, rfl, he, by omega, hf0, (Fra.refl _ _).add _⟩, ?_⟩
    clear hf0 hB hH hhs
    rintro m S t1 t2 t8 t9 t10 t11 t58 t59 t60 ⟨i, e', h, rfl, rfl, rfl, rfl, rfl, rfl, rfl, rfl, hi, rfl, he', hhs, hf, hF⟩
    rw [P_lss, ifP_bool]
    refine ifD_in (fun hlt => ?_) (fun hge => ?_)
    · obtain ⟨st, hst, hld⟩ := hls i S (by omega) hF
      rw [hld]
      have hmin : ∀ (z : Nat) (Φ : Value → Hp → Prop) (S : Hp), wp (X (callN T 4000) (.min [.const (.int .i64 (z : Int)), .const (.int .i64 40)])) Φ S = Φ (.int .i64 ((Min.min z 40 : Nat) : Int)) S := fun z Φ S => by
        rw [P_min]
        congr 2
        split <;> omega
      have hmk : (0 : Int) ≤ ((Min.min st.size 40 : Nat) : Int) ∧ ((Min.min st.size 40 : Nat) : Int) ≤ (st.size : Nat) := ⟨by omega, by omega⟩
      rw [P_lenStr, hmin, P_slcSh, condP_of hmk, Int.toNat_natCast]
      generalize hsx : st.extract 0 (Min.min st.size 40) = sx
      have hxs : sx.size ≤ 40 := by rw [← hsx, ByteArray.size_extract]; omega
      rw [P_str2b, P_lenS]
      have hFb : Fra [] (roHp bs) (S.add (.cells (some 1) true (sx.data.toList.map fun b => .int .u8 b.toNat))) := hF.add _
      refine ⟨fun m t1 t2' t8 t9 t10 t11 t14 t58' t59 t60 t69 t70 t71 S' => ∃ (j : Nat) (cs : List Int), t1 = t58 ∧ t2' = t2 ∧ t9 = .int .i64 (100 + n0 : Nat) ∧ t10 = .string e' ∧ t11 = .string h ∧ t58' = t58 ∧ t59 = .int .i64 ls.length ∧ t60 = .int .i64 i ∧ t69 = .slice (some ⟨S.next, 0, none⟩) sx.size sx.size ∧ t70 = .int .i64 sx.size ∧ t71 = .int .i64 j ∧
        j ≤ sx.size ∧ m = sx.size - j ∧ cs.length ≤ j ∧ LB (roHp bs) S' S.next t14 cs ∧ Fra [] (roHp bs) S' ∧ S.next < S'.next ∧ S'.heap.get S.next = some (.cells (some 1) true (sx.data.toList.map fun b => .int .u8 b.toNat)),
        ⟨sx.size, by omega, 0, [], rfl, rfl, rfl, rfl, rfl, rfl, rfl, rfl, rfl, rfl, rfl, Nat.zero_le _, rfl, Nat.le_refl _, ⟨fun c hc => by simp at hc, .inl ⟨rfl, rfl⟩⟩, hFb, by (first | omega | (simp only [Hp.add_next, Hp.put_next]; done) | (simp only [Hp.add_next, Hp.put_next]; omega)), add_at _ _⟩, ?_⟩
      rintro m S2 t1 t2' t8' t9 t10 t11 t14 t58' t59 t60 t69 t70 t71 ⟨j, cs, rfl, rfl, rfl, rfl, rfl, rfl, rfl, rfl, rfl, rfl, rfl, hj, rfl, hcs, hL, hF2, hbn, hbb⟩
      rw [P_lss, ifP_bool]
      refine ifD_in (fun hlt2 => ?_) (fun hge2 => ?_)
      · have hj2 : j < sx.size := by omega
        have hj3 : j < (toB sx).length := by rw [toB_len]; exact hj2
        have hcr : 0 ≤ (toB sx)[j] ∧ (toB sx)[j] < 256 := by
          have : (toB sx)[j] ∈ toB sx := List.getElem_mem hj3
          generalize (toB sx)[j] = c at this
          simp only [toB, List.mem_map] at this
          obtain ⟨b, _, rfl⟩ := this
          have := b.toNat_lt
          omega
        have hcell := ints_get (List.getElem?_eq_getElem hj3)
        generalize (toB sx)[j] = c at hcell hcr
        rw [toB_cells] at hbb
        simp (disch := first | omega | (simp only [Hp.add_next, Hp.put_next]; done) | (simp only [Hp.add_next, Hp.put_next]; omega) | fail) only [↓P_load1, ↓P_ixA, ifP_bool, ↓P_geq, ↓P_add64, rdP_cells, optP_some, condP_of, List.length_cons, List.length_nil, Nat.zero_add, true_and, if_true, setAll, List.set_cons_zero, List.size_toArray, cells_int, Int.toNat_natCast, hbb, hcell, Nat.mul_one]
        refine ifD_in (fun hc32 => ?_) (fun hc32 => ?_)
        · refine hL.push hF2 (by omega) ⟨by omega, by omega⟩ (by omega) fun v' S' hF' hb' hn' hL' => ?_
          exact ⟨sx.size - (j + 1), by omega, j + 1, cs ++ [c], by simp, by omega, rfl, by simp; omega, hL', hF', by omega, by rw [hb', hbb, toB_cells]⟩
        · exact ⟨sx.size - (j + 1), by omega, j + 1, cs, by simp, by omega, rfl, by omega, hL, hF2, by omega, by rw [hbb, toB_cells]⟩
      · have hjx : j = sx.size := by omega
        obtain ⟨lb, hlb, hstr⟩ := hL.str
        have hls1 : lb.size = cs.length := by rw [← toB_len, hlb]
        have hel : (endB cr).length ≤ 2 := by cases cr <;> decide
        have hes' : e'.size = (endB cr).length := by rw [← toB_len, he']
        have hsz : ∀ l : List UInt8, (⟨l.toArray⟩ : ByteArray).size = l.length := fun l => rfl
        have hpre : toB ⟨[120, 45, 97, 58, 32].toArray⟩ = [120, 45, 97, 58, 32] := rfl
        have hpl : (⟨[120, 45, 97, 58, 32].toArray⟩ : ByteArray).size = 5 := rfl
        rw [hstr, P_sadd, P_sadd, P_sadd]
        refine ⟨by rw [hpl]; omega, by rw [ByteArray.size_append, hpl]; omega, by rw [ByteArray.size_append, ByteArray.size_append, hpl]; omega, ?_⟩
        generalize hH : (h ++ _ : ByteArray) = hd
        have hB : toB hd = toB h ++ ([120, 45, 97, 58, 32] ++ cs ++ endB cr) := by rw [← hH, toB_app, toB_app, toB_app, he', hlb, hpre]
        have hhd : hd.size = h.size + (5 + cs.length + (endB cr).length) := by
          rw [← toB_len, hB, List.length_append, toB_len]; simp; omega
        have hf2 : feed r0 (toB hd) = some (⟨181, 0, hd.size, i + 1 + 1, 100 + n0, false, 0⟩, hd.size) := by
          rw [hB, hhd]
          have h2 : feed r0 (toB h) = some (⟨181, 0, h.size, i + 1, 100 + n0, false, 0⟩, (toB h).length) := by rw [hf, toB_len]
          have := feed_app h2 (feed_line cr (cs := cs) (fun c hc => (hL.1 c hc).1) (by omega) (by omega) (by omega))
          rw [this, toB_len]
        simp (disch := first | omega | (simp only [Hp.add_next, Hp.put_next]; done) | (simp only [Hp.add_next, Hp.put_next]; omega) | fail) only [↓P_add64]
        exact ⟨ls.length - (i + 1), by omega, i + 1, e', hd, rfl, rfl, rfl, rfl, rfl, rfl, rfl, by simp, by omega, rfl, he', by omega, hf2, hF2⟩
    · have hil : i = ls.length := by omega
      subst hil
      have hel : 1 ≤ (endB cr).length ∧ (endB cr).length ≤ 2 := by cases cr <;> decide
      have hes' : e'.size = (endB cr).length := by rw [← toB_len, he']
      rw [P_sadd]
      refine ⟨by omega, ?_⟩
      generalize hH : (h ++ e' : ByteArray) = hd
      have hB : toB hd = toB h ++ endB cr := by rw [← hH, toB_app, he']
      have hhd : hd.size = h.size + (endB cr).length := by rw [← hH, ByteArray.size_append, hes']
      have hdrop : (toB hd).take (hd.size - 1) = toB h ++ (endB cr).dropLast := by
        have h1 : hd.size - 1 = (toB h).length + ((endB cr).length - 1) := by rw [toB_len]; omega
        rw [hB, h1, List.take_length_add_append, ← List.dropLast_eq_take]
      have h2 : feed r0 (toB h) = some (⟨181, 0, h.size, ls.length + 1, 100 + n0, false, 0⟩, (toB h).length) := by rw [hf, toB_len]
      have hdl : (endB cr).dropLast.length = (endB cr).length - 1 := by simp
      have hf3 := feed_app h2 (feed_last cr (by omega) (by omega) (by omega))
      rw [toB_len, hdl] at hf3
      have hsub : ((hd.size : Nat) : Int) - 1 = ((hd.size - 1 : Nat) : Int) := by omega
      simp (disch := first | omega | (simp only [Hp.add_next, Hp.put_next]; done) | (simp only [Hp.add_next, Hp.put_next]; omega) | fail) only [↓P_lenStr, ↓P_sub64]
      refine s44 fun S3 hF3 hn3 h3 => ?_
      have hmk : (0 : Int) ≤ ((hd.size - 1 : Nat) : Int) ∧ ((hd.size - 1 : Nat) : Int) ≤ (hd.size : Nat) := ⟨by omega, by omega⟩
      simp (disch := first | omega | (simp only [Hp.add_next, Hp.put_next]; done) | (simp only [Hp.add_next, Hp.put_next]; omega) | fail) only [ifP_bool, ifB_false, ↓P_eqptr1, hsub]
      rw [P_slcSh, condP_of hmk, Int.toNat_natCast, P_str2b]
      generalize hxx : hd.extract 0 (hd.size - 1) = sx
      have hxB : toB sx = toB h ++ (endB cr).dropLast := by rw [← hxx, toB_cut, hdrop]
      have hxs : sx.size = hd.size - 1 := by rw [← toB_len, hxB, List.length_append, hdl, toB_len]; omega
      rw [toB_cells]
      have hsl : (toB sx).length < 3995 := by rw [toB_len, hxs, hhd]; omega
      have hE : El S.next (S3.add (.cells (some 1) true ((toB sx).map (.int .u8)))) (.slice (some ⟨S3.next, 0, none⟩) sx.size sx.size) (toB sx) := by
        rw [show sx.size = (toB sx).length from (toB_len sx).symm]
        exact El.own (add_at _ _) (by (first | omega | (simp only [Hp.add_next, Hp.put_next]; done) | (simp only [Hp.add_next, Hp.put_next]; omega))) (by omega)
      refine s45 (n := 3995) (r := r0) hsl (by rw [add_off (by omega)]; exact h3) hE (by rw [hxB]; exact hf3) (by omega) fun S4 hF4 h4 => ?_
      have hkk : decide (((h.size + ((endB cr).length - 1) : Nat) : Int) = ((hd.size - 1 : Nat) : Int)) = true := by
        rw [decide_eq_true_eq]; omega
      simp (disch := first | omega | (simp only [Hp.add_next, Hp.put_next]; done) | (simp only [Hp.add_next, Hp.put_next]; omega) | fail) only [↓P_ext, ↓P_andQ, andQ_ff, orQ_p, ↓P_neq, optP_some, List.getElem?_cons_zero, List.getElem?_cons_succ, Bool.not_true, Bool.or_self, hkk]
      refine s46 (n := 3998) h4 rfl ?_
      simp (disch := first | omega | (simp only [Hp.add_next, Hp.put_next]; done) | (simp only [Hp.add_next, Hp.put_next]; omega) | fail) only [↓P_ext, ifP_bool, ifB_false, ↓P_neq, blkP_cells, optP_some, add_eq, List.getElem?_cons_zero, List.getElem?_cons_succ, if_false, Bool.false_eq_true, Bool.not_true, decide_true, ↓P_sameSl]
      obtain ⟨cs2, hds, _⟩ := cells_ints (fun x hx => shp_int hu5 (hq2 x hx))
      have hd2 : ds.length = cs2.length := by rw [hds, List.length_map]
      have hFn := hF.next
      have hF3n := hF3.next
      have hF4n := hF4.next
      have hr0 : (roHp bs).next = bs.length := rfl
      rw [Hp.add_next] at hF4n
      have hF4' : Fra [] (roHp bs) S4 := ((hF.trans' hF3).add _).trans hF4 (by simp) (fun b hb => .inl (by rw [List.mem_singleton.1 hb]; omega))
      refine app_body ⟨hq2, hv2⟩ hds ((hF4'.add _).put (.inl (by omega)) _) (put_at _ _ _) (by (first | omega | (simp only [Hp.add_next, Hp.put_next]; done) | (simp only [Hp.add_next, Hp.put_next]; omega))) (by omega) (by omega) fun v5 S5 hF5 hE5 => ?_
      have hF5n := hF5.next
      rw [Hp.put_next, Hp.add_next] at hF5n
      have h5 : S5.heap.get S.next = _ := hF5.at_ (by (first | omega | (simp only [Hp.add_next, Hp.put_next]; done) | (simp only [Hp.add_next, Hp.put_next]; omega))) (by simp; omega) ((put_off (by omega) _ _).trans ((add_off (by omega) _).trans h4))
      refine s45 (n := 3995) (by simp; omega) h5 (hE5 S.next ?_ ?_) (feed_over cr (by omega) (by omega) (by omega) cs2) (by simp; omega) fun S6 hF6 h6 => ?_
      · (first | omega | (simp only [Hp.add_next, Hp.put_next]; done) | (simp only [Hp.add_next, Hp.put_next]; omega))
      · omega
      simp (disch := first | omega | (simp only [Hp.add_next, Hp.put_next]; done) | (simp only [Hp.add_next, Hp.put_next]; omega) | fail) only [↓P_ext, ↓P_andQ, andQ_p, ↓P_eql, optP_some, List.getElem?_cons_zero, List.getElem?_cons_succ, Bool.and_true]
      refine s46 (n := 3998) h6 rfl ?_
      simp (disch := first | omega | (simp only [Hp.add_next, Hp.put_next]; done) | (simp only [Hp.add_next, Hp.put_next]; omega) | fail) only [↓P_ext, ↓P_andQ, andQ_p, ↓P_eql, optP_some, List.getElem?_cons_zero, List.getElem?_cons_succ, if_true, decide_true, Bool.and_true]
      have hF6n := hF6.next
      have hF5' : Fra [] (roHp bs) S5 := ((hF4'.add _).put (.inl (by omega)) _).trans hF5 (by simp) (fun b hb => .inl (by rw [List.mem_singleton.1 hb]; omega))
      have hF6' : Fra [] (roHp bs) S6 := hF5'.trans hF6 (by simp) (fun b hb => .inl (by rw [List.mem_singleton.1 hb]; omega))
      have hov : ∀ r : R, r.o = true → ∀ cs, feed r cs = some (r, 0) := by
        intro r hr cs
        cases cs with
        | nil => rfl
        | cons c cs => unfold feed; rw [if_pos hr]
      refine s45 (n := 3995) (by omega) h6 (El.arg ⟨hq2, hv2⟩ hds hF6' (by omega)) (hov _ rfl cs2) (by omega) fun S7 hF7 h7 => ?_
      simp (disch := first | omega | (simp only [Hp.add_next, Hp.put_next]; done) | (simp only [Hp.add_next, Hp.put_next]; omega) | fail) only [↓P_ext, ↓P_eql, optP_some, List.getElem?_cons_zero, List.getElem?_cons_succ]
      have e11 : decide (((1 : Nat) : Int) = 1) = true := rfl
      have e00 : decide (((0 : Nat) : Int) = 0) = true := rfl
      simp (disch := first | omega | (simp only [Hp.add_next, Hp.put_next]; done) | (simp only [Hp.add_next, Hp.put_next]; omega) | fail) only [andQ_tt, e11, e00]
      refine s47 (n := 3998) h7 ?_
      have hll : decide (((ls.length + 1 + 1 : Nat) : Int) = (ls.length : Int) + 2) = true := by rw [decide_eq_true_eq]; omega
      have hl3 : (-9223372036854775808 : Int) ≤ (ls.length : Int) + 2 ∧ (ls.length : Int) + 2 < 9223372036854775808 := ⟨by omega, by omega⟩
      rw [hlen1]
      rw [P_add64 hl3.1 hl3.2]
      simp (disch := first | omega | (simp only [Hp.add_next, Hp.put_next]; done) | (simp only [Hp.add_next, Hp.put_next]; omega) | fail) only [↓P_andQ, andQ_p, ↓P_eql, Bool.and_self, hll]
      exact ht _
  cases cr with
  | true => exact main _ rfl
  | false => exact main _ rfl
theorem own : ownKnob Try.prog.godebug = none := by kernel_rfl
theorem laid : laidOutB Try.prog = true := by kernel_rfl
theorem par : Try.f8.params.toList = [72, 73, 22, 4] := by kernel_rfl
theorem contract (H : Type) (enc : TypeId × Value → H) (W : World) (base : Nat) (args : Array Value) (ds gs : List (DataW H)) (before : List MemPlace)
    (hval : ∀ (j : Nat) t v, Try.f8.params[j]? = some t → args[j]? = some v → Value.okWide Try.prog W .any base t v)
    (hW : DataW.Whole enc Try.prog Try.f8.params.toList Rows.httpHeadSpec.vars false W args.toList ds gs before) :
    Calls Try.prog 8 args W fun e W' => ∃ v, e = .returned v ∧ Rows.httpHeadSpec.post enc Try.prog Try.f8 false true false false W args v W' := by
  obtain ⟨p, q, hA, hV, _⟩ := id hW
  obtain ⟨rfl, _⟩ := trodVars_none hV
  refine (law_ro Try.checked.mixed (T_ok Try.checked.mixed) (n := 4001) (g := 5) (by rw [g8]; rfl) (by kernel_rfl) hval hA (by rw [par]; exact law)).mono fun e W' ⟨he, hb⟩ => ?_
  subst he
  obtain ⟨d0, d1, d2, d3, rfl⟩ := len4 (trod_len hA)
  exact ⟨_, rfl, law_post laid rfl rfl (t := 4) (by rfl) Try.underlying4 (by kernel_rfl) hW hb⟩
theorem lifted (os : Os) (started : os.Started) (H : Type) (enc : TypeId × Value → H) :
    ReturnsInHanded {} Try.checked os 8 .any (Rows.httpHeadSpec.pre6 enc Try.prog Try.f8 Rows.httpHeadRow.domain false) (Rows.httpHeadSpec.post enc Try.prog Try.f8 false true false false) := by
  refine returnsInHanded_of_change (C := Try.checked) own started (by kernel_rfl) Try.func8
    (ChangeSpec.witness6 (enc := enc) (C := Try.checked) false ⟨#[], #[.int .u16 0, .slice none 0 0, .slice none 0 0, .bool false], []⟩ 8 (by kernel_rfl) (by kernel_rfl) (by kernel_rfl) (by kernel_rfl)) ?_
  intro W base args ds gs before hval hW _ _
  exact contract H enc W base args ds gs before hval hW
theorem proved : Rows.HttpHeadSaid :=
  OpenClaim.holds_of_wide 8 Try.f8 rfl rfl rfl rfl rfl rfl rfl ⟨rfl, rfl, rfl, rfl, rfl⟩ rfl rfl rfl rfl rfl (by kernel_rfl) Try.func8 (by kernel_rfl)
    (of_decide_eq_true (by kernel_rfl)) (by unfold Func.isWrapper; first | (rw [if_pos (by decide +kernel)]; kernel_rfl) | (rw [if_neg (by decide +kernel)]; exact ⟨rfl, rfl⟩))
    (fun os started H enc _ => lifted os started H enc)

end Go.Proofs.Ytmepokefmpcnnaa.HttpHead
