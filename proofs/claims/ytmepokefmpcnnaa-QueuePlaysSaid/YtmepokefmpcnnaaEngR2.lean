/- The engine, part R2: arguments that lie in memory, as abstract blocks that are only read. -/
import Derived.Test.YtmepokefmpcnnaaEngR
import Derived.DataReads
import Derived.Test.YtmepokefmpcnnaaEngZ
set_option linter.unusedSimpArgs false
set_option linter.unusedVariables false
namespace Go.Wb
open Go.RowKit Go.ChangeShapes
variable {P : Program} {w : World}

abbrev Locs := List (Nat × Nat)
def Ext' (L : Locs) (r : Ren) : Prop := ∀ (i : Nat) (p : Nat × Nat), L[i]? = some p → r.dom i ∧ r.to i = p.1 ∧ r.base i = p.2 ∧ r.ext i = none
theorem Ext'.left {L M : Locs} {r : Ren} (h : Ext' (L ++ M) r) : Ext' L r := fun i p hp => h i p (by
  rw [List.getElem?_append_left (List.getElem?_eq_some_iff.1 hp).1]; exact hp)
def GoodAt (w : World) (L : Locs) (bs : List (List Value)) : Prop := ∀ (i : Nat) (c : List Value), bs[i]? = some c → ∃ p, L[i]? = some p ∧ ∃ rc el fz, w.heap[p.1]? = some (.cells rc el fz) ∧
  ∀ r, Ext' L r → ∃ l', LRel r c l' ∧ ∀ (k : Nat) v, l'[k]? = some v → rc[p.2 + k]? = some v
/-! ## Types -/
def layOk (P : Program) : List Field → Nat → Option Nat
  | [], o => some o
  | f :: fs, o => match Nat.beq f.offset o with | true => layOk P fs (o + P.cellsOf f.type) | false => none
def absT (P : Program) : Nat → TypeId → Bool
  | 0, _ => false
  | g + 1, t => match P.underlying t with
    | some .bool => true
    | some (.int _) => true
    | some .string => true
    | some (.slice e) => absT P g e && !(Nat.beq (P.cellsOf e) 0)
    | some (.struct fs) => fs.toList.all (fun f => absT P g f.type) && (match layOk P fs.toList 0 with | some n => Nat.beq n (P.cellsOf t) | none => false)
    | _ => false
/-- cells of a type, in abstract blocks -/
def ShpF (Q : TypeId → List Value → Prop) (P : Program) : List Field → List Value → Prop
  | [], cs => cs = []
  | f :: fs, cs => ∃ a b, cs = a ++ b ∧ a.length = P.cellsOf f.type ∧ Q f.type a ∧ ShpF Q P fs b
def Shp (P : Program) (bs : List (List Value)) : Nat → TypeId → List Value → Prop
  | 0, _, _ => False
  | g + 1, t, cs => match P.underlying t with
    | some .bool => ∃ b, cs = [.bool b]
    | some (.int k) => ∃ n, cs = [.int k n] ∧ k.has n
    | some .string => ∃ s, cs = [.string s] ∧ s.size ≤ maxLen
    | some (.slice e) => cs = [.slice none 0 0] ∨ cs = [.chan none] ∨ ∃ id n c es, cs = [.slice (some ⟨id, 0, none⟩) n c] ∧ n ≤ c ∧ 0 < c ∧ c ≤ maxLen ∧ bs[id]? = some (es : List (List Value)).flatten ∧ es.length = c ∧ ∀ e' ∈ es, e'.length = P.cellsOf e ∧ Shp P bs g e e'
    | some (.struct fs) => ShpF (fun t a => Shp P bs g t a) P fs.toList cs
    | _ => False
theorem ShpF.mono {Q R : TypeId → List Value → Prop} (h : ∀ t a, Q t a → R t a) : ∀ {fs : List Field} {cs : List Value}, ShpF Q P fs cs → ShpF R P fs cs
  | [], cs, k => k
  | f :: fs, cs, ⟨a, b, h1, h2, h3, h4⟩ => ⟨a, b, h1, h2, h _ _ h3, ShpF.mono h h4⟩
theorem Shp.more {bs cs' : List (List Value)} : ∀ {g : Nat} {t : TypeId} {cs : List Value}, Shp P bs g t cs → Shp P (bs ++ cs') g t cs
  | 0, t, cs, h => h.elim
  | g + 1, t, cs, h => by
    simp only [Shp] at h ⊢
    split at h
    · exact h
    · exact h
    · exact h
    · rcases h with h | h | ⟨id, n, c, es, h1, h2, h3, h4, h5, h6, h7⟩
      · exact .inl h
      · exact .inr (.inl h)
      · exact .inr (.inr ⟨id, n, c, es, h1, h2, h3, h4, by rw [List.getElem?_append_left (List.getElem?_eq_some_iff.1 h5).1]; exact h5, h6, fun e' he => ⟨(h7 e' he).1, (h7 e' he).2.more⟩⟩)
    · exact h.mono fun t a k => k.more
    · exact h.elim

/-! ## Opening -/
section
variable {H : Type} {enc : TypeId × Value → H}
abbrev trodA (enc : TypeId × Value → H) (P : Program) (w : World) := DataW.trod enc P w 0 (fun _ => true) true
structure Opened (P : Program) (w : World) (L : Locs) (bs : List (List Value)) (cs : List Value) (Q : List (List Value) → List Value → Prop) : Prop where
  is : ∃ L2 bs2 cs', (L ++ L2).length = (bs ++ bs2).length ∧ GoodAt w (L ++ L2) (bs ++ bs2) ∧ (∀ r, Ext' (L ++ L2) r → LRel r cs' cs) ∧ Q (bs ++ bs2) cs' ∧ cs'.length = cs.length
theorem opened_here {L : Locs} {bs : List (List Value)} {cs cs' : List Value} {Q : List (List Value) → List Value → Prop} (hl : L.length = bs.length) (hg : GoodAt w L bs) (h : ∀ r, LRel r cs' cs) (hq : Q bs cs') (he : cs'.length = cs.length) : Opened P w L bs cs Q :=
  ⟨⟨[], [], cs', by simpa using hl, by simpa using hg, fun r _ => h r, by simpa using hq, he⟩⟩
theorem open_fields {g : Nat} {cs : List Value} {f : Nat} (IH : ∀ (t : TypeId) (cs : List Value) d ps (f : Nat), absT P g t = true → trodA enc P w f t cs = some (d, ps) → ∀ L bs, L.length = bs.length → GoodAt w L bs → Opened P w L bs cs fun bs cs' => Shp P bs g t cs') :
    ∀ (fs : List Field) (o n : Nat), layOk P fs o = some n → n = cs.length → (∀ x ∈ fs, absT P g x.type = true) → (∀ x ∈ fs, ∃ d ps, trodA enc P w f x.type ((cs.drop x.offset).take (P.cellsOf x.type)) = some (d, ps)) →
    ∀ L bs, L.length = bs.length → GoodAt w L bs → Opened P w L bs (cs.drop o) fun bs cs' => ShpF (fun t a => Shp P bs g t a) P fs cs'
  | [], o, n, hlay, hn, ha, ht, L, bs, hl, hg => by
    simp only [layOk, Option.some.injEq] at hlay
    have : cs.drop o = [] := List.drop_eq_nil_of_le (by omega)
    rw [this]
    exact opened_here hl hg (fun r => .nil) rfl rfl
  | x :: fs, o, n, hlay, hn, ha, ht, L, bs, hl, hg => by
    simp only [layOk] at hlay
    split at hlay
    · rename_i ho
      have ho := Nat.eq_of_beq_eq_true ho
      obtain ⟨d, ps, hx⟩ := ht x (List.mem_cons_self ..)
      rw [ho] at hx
      have hle : ∀ (fs : List Field) (o n : Nat), layOk P fs o = some n → o ≤ n := by
        intro fs
        induction fs with
        | nil => intro o n h; simp only [layOk, Option.some.injEq] at h; omega
        | cons y fs ih =>
          intro o n h
          simp only [layOk] at h
          split at h
          · have := ih _ _ h; omega
          · cases h
      have hon := hle _ _ _ hlay
      obtain ⟨L2, bs2, a, h1, h2, h3, h4, h5⟩ := (IH x.type _ d ps f (ha x (List.mem_cons_self ..)) hx L bs hl hg).is
      obtain ⟨L3, bs3, b, k1, k2, k3, k4, k5⟩ := (open_fields IH fs _ n hlay hn (fun y hy => ha y (List.mem_cons_of_mem _ hy)) (fun y hy => ht y (List.mem_cons_of_mem _ hy)) (L ++ L2) (bs ++ bs2) h1 h2).is
      have hcut : cs.drop o = (cs.drop o).take (P.cellsOf x.type) ++ cs.drop (o + P.cellsOf x.type) := by
        rw [← List.drop_drop, List.take_append_drop]
      have hal : a.length = P.cellsOf x.type := by rw [h5, List.length_take, List.length_drop]; omega
      refine ⟨⟨L2 ++ L3, bs2 ++ bs3, a ++ b, by rw [← List.append_assoc, ← List.append_assoc]; exact k1, by rw [← List.append_assoc, ← List.append_assoc]; exact k2, fun r hr => ?_, ?_, ?_⟩⟩
      · rw [← List.append_assoc] at hr
        rw [hcut]
        exact (h3 r hr.left).append (k3 r hr)
      · rw [← List.append_assoc]
        exact ⟨a, b, rfl, hal, h4.more, k4⟩
      · rw [hcut, List.length_append, List.length_append, h5, k5]
    · cases hlay
theorem open_elems {g : Nat} {e : TypeId} {a : Addr} (he : absT P g e = true) (IH : ∀ (t : TypeId) (cs : List Value) d ps (f : Nat), absT P g t = true → trodA enc P w f t cs = some (d, ps) → ∀ L bs, L.length = bs.length → GoodAt w L bs → Opened P w L bs cs fun bs cs' => Shp P bs g t cs') (f : Nat) :
    ∀ (n : Nat), (∀ i, i < n → ∃ cs d ps, w.cells? 0 (a.add (i * P.cellsOf e)) (P.cellsOf e) = some cs ∧ trodA enc P w f e cs = some (d, ps)) → ∀ L bs, L.length = bs.length → GoodAt w L bs →
    ∃ (css : List (List Value)) (L2 : Locs) (bs2 es : List (List Value)), css.length = n ∧ es.length = n ∧ (∀ i, i < n → w.cells? 0 (a.add (i * P.cellsOf e)) (P.cellsOf e) = css[i]?) ∧ (L ++ L2).length = (bs ++ bs2).length ∧ GoodAt w (L ++ L2) (bs ++ bs2) ∧
      (∀ r, Ext' (L ++ L2) r → LRel r es.flatten css.flatten) ∧ ∀ x ∈ es, x.length = P.cellsOf e ∧ Shp P (bs ++ bs2) g e x
  | 0, h, L, bs, hl, hg => ⟨[], [], [], [], rfl, rfl, fun i hi => by omega, by simpa using hl, by simpa using hg, fun r _ => .nil, fun x hx => by simp at hx⟩
  | n + 1, h, L, bs, hl, hg => by
    obtain ⟨css, L2, bs2, es, h1, h2, h3, h4, h5, h6, h7⟩ := open_elems he IH f n (fun i hi => h i (by omega)) L bs hl hg
    obtain ⟨cs, d, ps, k1, k2⟩ := h n (by omega)
    obtain ⟨L3, bs3, cs', m1, m2, m3, m4, m5⟩ := (IH e cs d ps f he k2 (L ++ L2) (bs ++ bs2) h4 h5).is
    have hcl := (World.cells?_some k1).2.1
    refine ⟨css ++ [cs], L2 ++ L3, bs2 ++ bs3, es ++ [cs'], by simp [h1], by simp [h2], fun i hi => ?_, by rw [← List.append_assoc, ← List.append_assoc]; exact m1, by rw [← List.append_assoc, ← List.append_assoc]; exact m2, fun r hr => ?_, fun x hx => ?_⟩
    · by_cases hin : i < n
      · rw [List.getElem?_append_left (by omega)]; exact h3 i hin
      · obtain rfl : i = n := by omega
        rw [List.getElem?_append_right (by omega), h1, Nat.sub_self]; exact k1
    · rw [← List.append_assoc] at hr
      simp only [List.flatten_append, List.flatten_cons, List.flatten_nil, List.append_nil]
      exact (h6 r hr.left).append (m3 r hr)
    · rw [← List.append_assoc]
      rcases List.mem_append.1 hx with hx | hx
      · exact ⟨(h7 x hx).1, (h7 x hx).2.more⟩
      · obtain rfl : x = cs' := by simpa using hx
        exact ⟨by rw [m5, hcl], m4⟩
theorem flat_get {n : Nat} : ∀ (css : List (List Value)), (∀ c ∈ css, c.length = n) → 0 < n → ∀ k, css.flatten[k]? = (css[k / n]?).bind fun c => c[k % n]?
  | [], h, hn, k => by simp
  | c :: css, h, hn, k => by
    have hc := h c (List.mem_cons_self ..)
    rw [List.flatten_cons]
    by_cases hk : k < n
    · rw [List.getElem?_append_left (by omega), Nat.div_eq_of_lt hk, Nat.mod_eq_of_lt hk]
      simp
    · rw [List.getElem?_append_right (by omega), flat_get css (fun c hc => h c (List.mem_cons_of_mem _ hc)) hn, hc]
      have e1 : k / n = (k - n) / n + 1 := by rw [Nat.div_eq k n, if_pos ⟨hn, by omega⟩]
      have e2 : k % n = (k - n) % n := by rw [Nat.mod_eq k n, if_pos ⟨hn, by omega⟩]
      rw [e1, e2, List.getElem?_cons_succ]
theorem has_of_wf {k : IntKind} {n : Int} (h : (Lit.int k n).wf = true) : k.has n := by
  simp only [Lit.wf, Bool.and_eq_true, decide_eq_true_eq] at h
  exact h
theorem open_cells : ∀ (g : Nat) (t : TypeId) (cs : List Value) d ps (f : Nat), absT P g t = true → trodA enc P w f t cs = some (d, ps) → ∀ L bs, L.length = bs.length → GoodAt w L bs → Opened P w L bs cs fun bs cs' => Shp P bs g t cs'
  | 0, t, cs, d, ps, f, ha, ht, L, bs, hl, hg => by cases ha
  | g + 1, t, cs, d, ps, 0, ha, ht, L, bs, hl, hg => by cases ht
  | g + 1, t, cs, d, ps, f + 1, ha, ht, L, bs, hl, hg => by
    simp only [absT] at ha
    have IH := open_cells g
    simp only [Shp]
    cases hu : P.underlying t with
    | none => rw [hu] at ha; cases ha
    | some u =>
      rw [hu] at ha
      have one : ∀ {v : Value} {Q : List (List Value) → List Value → Prop}, (∀ r, VRel r v v) → Q bs [v] → Opened P w L bs [v] Q := fun hv hq => opened_here hl hg (fun r => .cons (hv r) .nil) hq rfl
      cases u with
      | bool =>
        rcases cs with _ | ⟨v, _ | ⟨v2, r⟩⟩ <;> try (simp [trodA, DataW.trod, hu] at ht; done)
        cases v <;> try (simp [trodA, DataW.trod, hu] at ht; done)
        exact one (fun r => .bool _) ⟨_, rfl⟩
      | int k =>
        rcases cs with _ | ⟨v, _ | ⟨v2, r⟩⟩ <;> try (simp [trodA, DataW.trod, hu] at ht; done)
        cases v <;> try (simp [trodA, DataW.trod, hu] at ht; done)
        simp only [trodA, DataW.trod, hu] at ht
        split at ht
        · rename_i h
          obtain ⟨rfl, h2⟩ := h
          exact one (fun r => .int _ _) ⟨_, rfl, has_of_wf h2⟩
        · cases ht
      | string =>
        rcases cs with _ | ⟨v, _ | ⟨v2, r⟩⟩ <;> try (simp [trodA, DataW.trod, hu] at ht; done)
        cases v <;> try (simp [trodA, DataW.trod, hu] at ht; done)
        simp only [trodA, DataW.trod, hu] at ht
        split at ht
        · rename_i h
          exact one (fun r => .string _) ⟨_, rfl, h⟩
        · cases ht
      | slice e =>
        simp only [Bool.and_eq_true, Bool.not_eq_true'] at ha
        have hsz : 0 < P.cellsOf e := by
          have : Nat.beq (P.cellsOf e) 0 = false := ha.2
          cases hz : P.cellsOf e with
          | zero => rw [hz] at this; cases this
          | succ n => omega
        rcases cs with _ | ⟨v, _ | ⟨v2, r⟩⟩ <;> try (simp [trodA, DataW.trod, hu] at ht; done)
        cases v <;> try (simp [trodA, DataW.trod, hu] at ht; done)
        rename_i p len cap
        cases p with
        | none =>
          have : len = 0 ∧ cap = 0 := by
            cases len with
            | zero => cases cap with
              | zero => exact ⟨rfl, rfl⟩
              | succ c => exfalso; simp only [trodA, DataW.trod, hu] at ht; cases ht
            | succ n => exfalso; simp only [trodA, DataW.trod, hu] at ht; cases ht
          obtain ⟨rfl, rfl⟩ := this
          exact one (fun r => .slcNil) (.inl rfl)
        | some a =>
          simp only [trodA, DataW.trod, hu] at ht
          split at ht
          · rename_i hc
            obtain ⟨_, hlc, hcm⟩ := hc
            by_cases hc0 : cap = 0
            · subst hc0
              obtain rfl : len = 0 := by omega
              exact opened_here hl hg (fun r => .cons (.slcE a) .nil) (.inr (.inl rfl)) rfl
            · simp only [Option.bind_eq_some_iff, Option.map_eq_some_iff] at ht
              obtain ⟨elems, h1, rest, h2, h3⟩ := ht
              have h2' : (List.range (cap - len)).mapM (fun j => (w.cells? 0 (a.add ((len + j) * P.cellsOf e)) (P.cellsOf e)).bind (DataW.trod enc P w 0 (fun _ => true) true f e)) = some rest := h2
              have each : ∀ i, i < cap → ∃ cs d ps, w.cells? 0 (a.add (i * P.cellsOf e)) (P.cellsOf e) = some cs ∧ trodA enc P w f e cs = some (d, ps) := by
                intro i hi
                have key : ∀ {o : Option (DataW H × List MemPlace)} {q : Nat} {l : List (DataW H × List MemPlace)}, q < l.length → (w.cells? 0 (a.add (i * P.cellsOf e)) (P.cellsOf e)).bind (DataW.trod enc P w 0 (fun _ => true) true f e) = l[q]? → ∃ cs d ps, w.cells? 0 (a.add (i * P.cellsOf e)) (P.cellsOf e) = some cs ∧ trodA enc P w f e cs = some (d, ps) := by
                  intro o q l hq hx
                  rw [List.getElem?_eq_getElem hq, Option.bind_eq_some_iff] at hx
                  obtain ⟨cs, hx1, hx2⟩ := hx
                  exact ⟨cs, _, _, hx1, hx2⟩
                by_cases hil : i < len
                · have hlen := mapM_some_length h1
                  exact key (o := none) (q := i) (l := elems) (by simp at hlen; omega) (mapM_some_get h1 i i (by simp [hil]))
                · have hlen := mapM_some_length h2'
                  have := mapM_some_get h2' (i - len) (i - len) (List.getElem?_range (by omega))
                  rw [show len + (i - len) = i by omega] at this
                  exact key (o := none) (q := i - len) (l := rest) (by simp at hlen; omega) this
              obtain ⟨css, L2, bs2, es, k1, k2, k3, k4, k5, k6, k7⟩ := open_elems ha.1 (IH) f cap each L bs hl hg
              have hcss : ∀ c ∈ css, c.length = P.cellsOf e := by
                intro c hc
                obtain ⟨i, hi, rfl⟩ := List.mem_iff_getElem.1 hc
                have := k3 i (by omega)
                rw [List.getElem?_eq_getElem hi] at this
                exact (World.cells?_some this).2.1
              -- the block
              have h00 := k3 0 (by omega)
              have hlt0 : 0 < css.length := by omega
              rw [List.getElem?_eq_getElem hlt0] at h00
              have hcell0 := (World.cells?_some h00).2.2 0 hsz
              have hl0 : (css[0]).length = P.cellsOf e := hcss _ (List.getElem_mem hlt0)
              rw [List.getElem?_eq_getElem (by omega)] at hcell0
              have e00 : (a.add (0 * P.cellsOf e)).add 0 = a := by simp [Addr.add]
              rw [e00] at hcell0
              have hblk : a.spot = none ∧ ∃ rc el fz, w.heap[a.block]? = some (.cells rc el fz) := by
                unfold World.cell? at hcell0
                split at hcell0
                · rename_i rc el fz hb
                  split at hcell0
                  · cases hcell0
                  · rename_i hs
                    exact ⟨by simpa using hs, rc, el, fz, hb⟩
                · cases hcell0
              obtain ⟨hspot, rc, el, fz, hb⟩ := hblk
              obtain ⟨ab, ao, asp⟩ := a
              simp only at hspot hb
              subst hspot
              have hrc : ∀ (k : Nat) v, css.flatten[k]? = some v → rc[ao + k]? = some v := by
                intro k v hk
                rw [flat_get css hcss hsz, Option.bind_eq_some_iff] at hk
                obtain ⟨c, hc1, hc2⟩ := hk
                have hq : k / P.cellsOf e < cap := by
                  have := (List.getElem?_eq_some_iff.1 hc1).1; omega
                have h4 := k3 _ hq
                rw [hc1] at h4
                have h5 := (World.cells?_some h4).2.2 (k % P.cellsOf e) (Nat.mod_lt _ hsz)
                rw [hc2] at h5
                have e1 : ((⟨ab, ao, none⟩ : Addr).add (k / P.cellsOf e * P.cellsOf e)).add (k % P.cellsOf e) = ⟨ab, ao + k, none⟩ := by
                  have hd := Nat.div_add_mod' k (P.cellsOf e)
                  simp only [Addr.add]
                  split <;> split <;> simp <;> omega
                rw [e1] at h5
                unfold World.cell? at h5
                rw [hb] at h5
                simpa using h5
              refine ⟨⟨L2 ++ [(ab, ao)], bs2 ++ [es.flatten], [.slice (some ⟨(bs ++ bs2).length, 0, none⟩) len cap], ?_, ?_, fun r hr => ?_, .inr (.inr ⟨(bs ++ bs2).length, len, cap, es, rfl, hlc, by omega, hcm, ?_, k2, fun e' he' => ?_⟩), rfl⟩⟩
              · rw [← List.append_assoc, ← List.append_assoc, List.length_append, k4, List.length_append (as := bs ++ bs2)]; rfl
              · rw [← List.append_assoc, ← List.append_assoc]
                intro i c hc
                by_cases hi : i < (bs ++ bs2).length
                · rw [List.getElem?_append_left hi] at hc
                  obtain ⟨p, hp, rc', el', fz', m1, m2⟩ := k5 i c hc
                  exact ⟨p, by rw [List.getElem?_append_left (by omega)]; exact hp, rc', el', fz', m1, fun r hr => m2 r hr.left⟩
                · have : i = (bs ++ bs2).length := by
                    have := (List.getElem?_eq_some_iff.1 hc).1
                    simp at this hi ⊢; omega
                  subst this
                  rw [List.getElem?_append_right (Nat.le_refl _), Nat.sub_self] at hc
                  obtain rfl : es.flatten = c := by simpa using hc
                  refine ⟨(ab, ao), by rw [List.getElem?_append_right (by omega), ← k4, Nat.sub_self]; rfl, rc, el, fz, hb, fun r hr => ⟨css.flatten, k6 r hr.left, hrc⟩⟩
              · rw [← List.append_assoc] at hr
                obtain ⟨d1, d2, d3, d4⟩ := hr (bs ++ bs2).length (ab, ao) (by rw [List.getElem?_append_right (by omega), ← k4, Nat.sub_self]; rfl)
                refine .cons ?_ .nil
                have := VRel.slc (r := r) (b := (bs ++ bs2).length) (o := 0) (n := len) (c := cap) (c' := cap) d1 (fun _ => rfl) (Nat.le_refl _) (fun z hz => by rw [d4] at hz; cases hz)
                rw [d2, d3, Nat.add_zero] at this
                exact this
              · rw [← List.append_assoc, List.getElem?_append_right (Nat.le_refl _), Nat.sub_self]; rfl
              · rw [← List.append_assoc]
                exact ⟨(k7 e' he').1, (k7 e' he').2.more⟩
          · cases ht
      | struct fs =>
        simp only [Bool.and_eq_true] at ha
        obtain ⟨ha1, ha2⟩ := ha
        split at ha2
        · rename_i n hn
          obtain rfl := Nat.eq_of_beq_eq_true ha2
          simp only [trodA, DataW.trod, hu] at ht
          split at ht
          · rename_i hcl
            simp only [Option.map_eq_some_iff] at ht
            obtain ⟨xs, h1, h2⟩ := ht
            have := open_fields (enc := enc) (cs := cs) (f := f) (IH) fs.toList 0 _ hn hcl.symm (fun x hx => by simpa using List.all_eq_true.1 ha1 x hx) (fun x hx => by
              obtain ⟨i, hi, rfl⟩ := List.mem_iff_getElem.1 hx
              have h3 := mapM_some_get h1 i _ (List.getElem?_eq_getElem hi)
              have h4 : i < xs.length := by rw [mapM_some_length h1]; exact hi
              rw [List.getElem?_eq_getElem h4] at h3
              exact ⟨_, _, h3⟩) L bs hl hg
            simpa using this
          · cases ht
        · cases ha2
      | _ => cases ha
/-! ## All arguments -/
def ShpV (P : Program) (bs : List (List Value)) (g : Nat) (t : TypeId) (v : Value) : Prop := match P.underlying t with
  | some (.struct _) => ∃ cs, v = .agg ⟨cs⟩ ∧ Shp P bs g t cs
  | _ => Shp P bs g t [v]
def ShpA (P : Program) (bs : List (List Value)) (g : Nat) : List TypeId → List Value → Prop
  | [], vs => vs = []
  | t :: ts, vs => ∃ v r, vs = v :: r ∧ ShpV P bs g t v ∧ ShpA P bs g ts r
theorem ShpV.more {bs cs' : List (List Value)} {g : Nat} {t : TypeId} {v : Value} (h : ShpV P bs g t v) : ShpV P (bs ++ cs') g t v := by
  unfold ShpV at h ⊢
  split at h
  · obtain ⟨cs, h1, h2⟩ := h; exact ⟨cs, h1, h2.more⟩
  · exact h.more
theorem open_arg {base g : Nat} {t : TypeId} {v : Value} {d : DataW H} {ps : List MemPlace} (ha : absT P g t = true) (hv : Value.okWide P w .any base t v) (ht : DataW.Trod enc P w 0 (fun _ => true) true t v d ps) {L : Locs} {bs : List (List Value)} (hl : L.length = bs.length) (hg : GoodAt w L bs) :
    ∃ L2 bs2 v', (L ++ L2).length = (bs ++ bs2).length ∧ GoodAt w (L ++ L2) (bs ++ bs2) ∧ (∀ r, Ext' (L ++ L2) r → VRel r v' v) ∧ ShpV P (bs ++ bs2) g t v' := by
  obtain ⟨f, ht⟩ := ht
  obtain ⟨L2, bs2, cs', h1, h2, h3, h4, h5⟩ := (open_cells g t _ d ps f ha ht L bs hl hg).is
  unfold Value.okWide at hv
  unfold ShpV
  split at hv
  · rename_i fs hu
    obtain ⟨cs, rfl, _⟩ := hv
    refine ⟨L2, bs2, .agg ⟨cs'⟩, h1, h2, fun r hr => ?_, ?_⟩
    · have := h3 r hr
      have h6 : LRel r cs' cs.toList := this
      exact LRel.agg h6
    · rw [hu]; exact ⟨cs', rfl, h4⟩
  · rename_i n e hu
    cases g with
    | zero => cases ha
    | succ g => simp only [absT, hu] at ha; cases ha
  · rename_i hn1 hn2
    have hone : v.cells.toList = [v] := by
      cases v <;> try rfl
      rename_i cs
      unfold Cell.okWide at hv
      split at hv <;> try (rename_i hh; cases hh; done)
      all_goals try (rename_i hh _; cases hh; done)
      all_goals first | (unfold Cell.ok at hv; split at hv <;> first | (exact hv.elim) | (rename_i hh; cases hh) | (rename_i hh _; cases hh)) | skip
    have h6 := h3
    rw [hone] at h5 h6
    obtain ⟨v', rfl⟩ : ∃ v', cs' = [v'] := by
      cases cs' with
      | nil => cases h5
      | cons a r => cases r with
        | nil => exact ⟨a, rfl⟩
        | cons b r => simp at h5
    refine ⟨L2, bs2, v', h1, h2, fun r hr => ?_, ?_⟩
    · cases h6 r hr with | cons hv _ => exact hv
    · split
      · rename_i fs hfs; exact absurd hfs (hn1 fs)
      · exact h4
theorem open_args {base g : Nat} : ∀ (ts : List TypeId) (vs : List Value) (ds : List (DataW H)) (ps : List MemPlace), (∀ t ∈ ts, absT P g t = true) → (∀ (j : Nat) t v, ts[j]? = some t → vs[j]? = some v → Value.okWide P w .any base t v) →
    DataW.TrodAll enc P w 0 (fun _ => true) true ts vs ds ps → ∀ L bs, L.length = bs.length → GoodAt w L bs →
    ∃ L2 bs2 vs', (L ++ L2).length = (bs ++ bs2).length ∧ GoodAt w (L ++ L2) (bs ++ bs2) ∧ (∀ r, Ext' (L ++ L2) r → LRel r vs' vs) ∧ ShpA P (bs ++ bs2) g ts vs'
  | [], vs, ds, ps, ha, hv, ht, L, bs, hl, hg => by
    obtain ⟨rfl, rfl, rfl⟩ := trodAll_nil ht
    exact ⟨[], [], [], by simpa using hl, by simpa using hg, fun r _ => .nil, rfl⟩
  | t :: ts, vs, ds, ps, ha, hv, ht, L, bs, hl, hg => by
    obtain ⟨v, vs', d, ds', p, q, rfl, rfl, rfl, h1, h2⟩ := trodAll_cons ht
    obtain ⟨L2, bs2, v', k1, k2, k3, k4⟩ := open_arg (ha t (List.mem_cons_self ..)) (hv 0 t v rfl rfl) h1 hl hg
    obtain ⟨L3, bs3, vs2, m1, m2, m3, m4⟩ := open_args ts vs' ds' q (fun t ht => ha t (List.mem_cons_of_mem _ ht)) (fun j t v h1 h2 => hv (j + 1) t v h1 h2) h2 (L ++ L2) (bs ++ bs2) k1 k2
    refine ⟨L2 ++ L3, bs2 ++ bs3, v' :: vs2, by rw [← List.append_assoc, ← List.append_assoc]; exact m1, by rw [← List.append_assoc, ← List.append_assoc]; exact m2, fun r hr => ?_, v', vs2, rfl, ?_, ?_⟩
    · rw [← List.append_assoc] at hr; exact .cons (k3 r hr.left) (m3 r hr)
    · rw [← List.append_assoc]; exact k4.more
    · rw [← List.append_assoc]; exact m4
end

/-! ## The start -/
def roHeap : List (List Value) → Nat → Tr Blk → Tr Blk
  | [], _, t => t
  | c :: r, i, t => roHeap r (i + 1) (t.set i (some (.ro c)))
theorem roHeap_get : ∀ (l : List (List Value)) (i : Nat) (t : Tr Blk) (j : Nat), (roHeap l i t).get j = if i ≤ j ∧ j < i + l.length then (l[j - i]?).map .ro else t.get j
  | [], i, t, j => by simp only [roHeap, List.length_nil, Nat.add_zero]; rw [if_neg (by omega)]
  | c :: r, i, t, j => by
    simp only [roHeap, roHeap_get r, Tr.get_set, List.length_cons]
    by_cases h : j = i
    · subst h
      rw [if_neg (by omega), if_pos rfl, if_pos (by omega), Nat.sub_self]; rfl
    · by_cases h2 : i + 1 ≤ j ∧ j < i + 1 + r.length
      · rw [if_pos h2, if_pos (by omega), show j - i = (j - (i + 1)) + 1 by omega, List.getElem?_cons_succ]
      · rw [if_neg h2, if_neg h, if_neg (by omega)]
def roHp (bs : List (List Value)) : Hp := { heap := roHeap bs 0 .leaf, next := bs.length, wl := [] }
theorem roHp_get (bs : List (List Value)) (j : Nat) : (roHp bs).heap.get j = (bs[j]?).map .ro := by
  show (roHeap bs 0 .leaf).get j = _
  rw [roHeap_get, Tr.get_leaf]
  by_cases h : j < bs.length
  · rw [if_pos (by omega), Nat.sub_zero]
  · rw [if_neg (by omega), List.getElem?_eq_none (by omega)]; rfl
theorem start_ro {L : Locs} {bs : List (List Value)} (hl : L.length = bs.length) (hg : GoodAt w L bs) : Rel P (Ren.of L) (roHp bs).st w := by
  have he : Ext' L (Ren.of L) := by
    intro i p hp
    have hi := (List.getElem?_eq_some_iff.1 hp).1
    simp only [Ren.of, List.getD_eq_getElem?_getD, hp, Option.getD_some, and_true, true_and]
    exact hi
  have at_ : ∀ (i : Nat) b, (roHp bs).st.heap.get i = some b → ∃ c, bs[i]? = some c ∧ b = .ro c := by
    intro i b hb
    have h1 : (roHp bs).heap.get i = some b := hb
    rw [roHp_get, Option.map_eq_some_iff] at h1
    obtain ⟨c, h1, h2⟩ := h1
    exact ⟨c, h1, h2.symm⟩
  constructor
  · intro i b hb
    obtain ⟨c, hc, rfl⟩ := at_ i b hb
    obtain ⟨p, hp, rc, el, fz, h2, h3⟩ := hg i c hc
    obtain ⟨d1, d2, d3, d4⟩ := he i p hp
    obtain ⟨l', h4, h5⟩ := h3 _ he
    exact ⟨d1, .cells rc el fz, by rw [d2]; exact h2, ⟨d4, l', h4, by rw [d3]; exact h5⟩⟩
  · intro i j bi bj hi hj hro
    obtain ⟨c, _, rfl⟩ := at_ i bi hi
    obtain ⟨c', _, rfl⟩ := at_ j bj hj
    rcases hro with h | h <;> cases h
/-- a run that brings true: so does the call, and what was there stays -/
theorem run_ro (hm : P.follows .mixedOrders = true) {F : Nat → Option AFn} (hF : TabOk P F) {n : Nat} {f : FuncId} {args : List Value} {bs : List (List Value)} (h : wp (callN F n (.fn f) args) (fun v _ => v = .bool true) (roHp bs)) (hg : isGo (F f) = true)
    {L : Locs} (hl : L.length = bs.length) (hgood : GoodAt w L bs) {args' : Array Value} (ha : ∀ r, Ext' L r → LRel r args args'.toList) :
    Calls P f args' w fun e w' => e = .returned (.bool true) ∧ Below w.heap.size w w' := by
  obtain ⟨v, S', hc, rfl⟩ := h
  have he : Ext' L (Ren.of L) := by
    intro i p hp
    have hi := (List.getElem?_eq_some_iff.1 hp).1
    simp only [Ren.of, List.getD_eq_getElem?_getD, hp, Option.getD_some, and_true, true_and]
    exact hi
  have hgo : ∀ k, F f ≠ some (.ext k) := by intro k hk; rw [hk] at hg; simp [isGo] at hg
  have hgs : ∀ k, F f ≠ some (.sum k) := by intro k hk; rw [hk] at hg; simp [isGo] at hg
  obtain ⟨D, r', w', v', hs, hv, hst⟩ := callN_calls hm hF hc (start_ro (P := P) hl hgood) (fun id h1 h2 h3 => by
    have h4 : id < L.length := h3
    have h5 : bs.length ≤ id := h1
    omega) (ha _ he) hgo hgs
  obtain rfl := hv.bool_inv
  obtain ⟨D2, hD2, _, hro⟩ := NrX.callN F n (.fn f) args _ _ _ hc
  have hDD : D = D2 := by
    have h1 := hs.log
    rw [hD2] at h1
    exact (List.append_cancel_right h1).symm
  subst hDD
  intro cs
  obtain ⟨fr, k1, k2, k3⟩ := hst cs
  refine ⟨.returned (.bool true), w', fr, ⟨rfl, hs.os, hs.tape, hs.output, hs.size, fun k hk => ?_⟩, k1, k2, k3⟩
  by_cases hlv : Live (Ren.of L) (roHp bs).st k
  · obtain ⟨id, b, h1, h2⟩ := hlv
    have h3 : (roHp bs).heap.get id = some b := h1
    rw [roHp_get, Option.map_eq_some_iff] at h3
    obtain ⟨c, h3, rfl⟩ := h3
    have hid : id < bs.length := (List.getElem?_eq_some_iff.1 h3).1
    have := hs.kept id _ h1 (hro id c hid (fun h => h) h1).1
    rw [h2] at this
    exact this
  · exact hs.frame k hk hlv
/-- a law whose arguments are opened -/
theorem law_ro (hm : P.follows .mixedOrders = true) {F : Nat → Option AFn} (hF : TabOk P F) {n g : Nat} {f : FuncId} {fn : Func} {base : Nat} {H : Type} {enc : TypeId × Value → H} {args : Array Value} {ds : List (DataW H)} {ps : List MemPlace}
    (hg : isGo (F f) = true) (hab : (fn.params.toList.all fun t => absT P g t) = true) (hval : ∀ (j : Nat) t v, fn.params[j]? = some t → args[j]? = some v → Value.okWide P w .any base t v)
    (ht : DataW.TrodAll enc P w 0 (fun _ => true) true fn.params.toList args.toList ds ps)
    (h : ∀ bs args', ShpA P bs g fn.params.toList args' → wp (callN F n (.fn f) args') (fun v _ => v = .bool true) (roHp bs)) :
    Calls P f args w fun e w' => e = .returned (.bool true) ∧ Below w.heap.size w w' := by
  obtain ⟨L, bs, vs, h1, h2, h3, h4⟩ := open_args (base := base) (g := g) fn.params.toList args.toList ds ps (fun t ht => by simpa using List.all_eq_true.1 hab t ht) (fun j t v h1 h2 => hval j t v (by simpa using h1) (by simpa using h2)) ht [] [] rfl (fun i c hc => by simp at hc)
  exact run_ro hm hF (h _ _ h4) hg h1 h2 h3
end Go.Wb
