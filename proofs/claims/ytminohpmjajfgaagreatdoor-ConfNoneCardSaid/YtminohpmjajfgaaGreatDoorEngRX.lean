/- The engine: EngR2 EngT EngU EngX EngSh EngStr EngIns EngIns2 EngLst EngOrd EngMk EngHole. It proves nothing of the program by itself; it has no conditions. -/
import Derived.Test.YtminohpmjajfgaaGreatDoorEngLO
import Derived.DataReads
import Derived.Test.YtminohpmjajfgaaGreatDoorEngVP
import Derived.Test.YtminohpmjajfgaaGreatDoorEngQ
import Derived.KernelRfl
/- The engine, part R2: arguments that lie in memory, as abstract blocks that are only read. -/
section
set_option linter.unusedSimpArgs false
set_option linter.unusedVariables false
namespace Go.Wb
set_option linter.unusedSectionVars false
variable [GloK]
open Go.RowKit Go.ChangeShapes
variable {P : Program} {w : World}

abbrev Locs := List (Nat × Nat)
def Ext' (L : Locs) (r : Ren) : Prop := ∀ (i : Nat) (p : Nat × Nat), L[i]? = some p → r.dom i ∧ r.to i = p.1 ∧ r.base i = p.2 ∧ r.ext i = none
theorem Ext'.left {L M : Locs} {r : Ren} (h : Ext' (L ++ M) r) : Ext' L r := fun i p hp => h i p (by
  rw [List.getElem?_append_left (List.getElem?_eq_some_iff.1 hp).1]; exact hp)
def GoodAt (w : World) (L : Locs) (bs : List (List Value)) : Prop := ∀ (i : Nat) (c : List Value), bs[i]? = some c → ∃ p, L[i]? = some p ∧ ∃ rc el fz, w.heap[p.1]? = some (.cells rc el fz) ∧
  ∀ r, Ext' L r → ∃ l', LRel r c l' ∧ ∀ (k : Nat) v, l'[k]? = some v → rc[p.2 + k]? = some v
/-! ## Types -/
def layOk (P : Program) : List Field → Nat → Option Nat
  | [], o => some o
  | f :: fs, o => match Nat.beq f.offset o with | true => layOk P fs (o + P.cellsOf f.type) | false => none
def absT (P : Program) : Nat → TypeId → Bool
  | 0, _ => false
  | g + 1, t => match P.underlying t with
    | some .bool => true
    | some (.int _) => true
    | some .string => true
    | some (.slice e) => absT P g e && !(Nat.beq (P.cellsOf e) 0)
    | some (.struct fs) => fs.toList.all (fun f => absT P g f.type) && (match layOk P fs.toList 0 with | some n => Nat.beq n (P.cellsOf t) | none => false)
    | _ => false
/-- cells of a type, in abstract blocks -/
def ShpF (Q : TypeId → List Value → Prop) (P : Program) : List Field → List Value → Prop
  | [], cs => cs = []
  | f :: fs, cs => ∃ a b, cs = a ++ b ∧ a.length = P.cellsOf f.type ∧ Q f.type a ∧ ShpF Q P fs b
def Shp (P : Program) (bs : List (List Value)) : Nat → TypeId → List Value → Prop
  | 0, _, _ => False
  | g + 1, t, cs => match P.underlying t with
    | some .bool => ∃ b, cs = [.bool b]
    | some (.int k) => ∃ n, cs = [.int k n] ∧ k.has n
    | some .string => ∃ s, cs = [.string s] ∧ s.size ≤ maxLen
    | some (.slice e) => cs = [.slice none 0 0] ∨ cs = [.chan none] ∨ ∃ id n c es, cs = [.slice (some ⟨id, 0, none⟩) n c] ∧ n ≤ c ∧ 0 < c ∧ c ≤ maxLen ∧ bs[id]? = some (es : List (List Value)).flatten ∧ es.length = c ∧ ∀ e' ∈ es, e'.length = P.cellsOf e ∧ Shp P bs g e e'
    | some (.struct fs) => ShpF (fun t a => Shp P bs g t a) P fs.toList cs
    | _ => False
theorem ShpF.mono {Q R : TypeId → List Value → Prop} (h : ∀ t a, Q t a → R t a) : ∀ {fs : List Field} {cs : List Value}, ShpF Q P fs cs → ShpF R P fs cs
  | [], cs, k => k
  | f :: fs, cs, ⟨a, b, h1, h2, h3, h4⟩ => ⟨a, b, h1, h2, h _ _ h3, ShpF.mono h h4⟩
theorem Shp.more {bs cs' : List (List Value)} : ∀ {g : Nat} {t : TypeId} {cs : List Value}, Shp P bs g t cs → Shp P (bs ++ cs') g t cs
  | 0, t, cs, h => h.elim
  | g + 1, t, cs, h => by
    simp only [Shp] at h ⊢
    split at h
    · exact h
    · exact h
    · exact h
    · rcases h with h | h | ⟨id, n, c, es, h1, h2, h3, h4, h5, h6, h7⟩
      · exact .inl h
      · exact .inr (.inl h)
      · exact .inr (.inr ⟨id, n, c, es, h1, h2, h3, h4, by rw [List.getElem?_append_left (List.getElem?_eq_some_iff.1 h5).1]; exact h5, h6, fun e' he => ⟨(h7 e' he).1, (h7 e' he).2.more⟩⟩)
    · exact h.mono fun t a k => k.more
    · exact h.elim

/-! ## Opening -/
section
variable {H : Type} {enc : TypeId × Value → H}
abbrev trodA (enc : TypeId × Value → H) (P : Program) (w : World) := DataW.trod enc P w 0 (fun _ => true) true
structure Opened (P : Program) (w : World) (L : Locs) (bs : List (List Value)) (cs : List Value) (Q : List (List Value) → List Value → Prop) : Prop where
  is : ∃ L2 bs2 cs', (L ++ L2).length = (bs ++ bs2).length ∧ GoodAt w (L ++ L2) (bs ++ bs2) ∧ (∀ r, Ext' (L ++ L2) r → LRel r cs' cs) ∧ Q (bs ++ bs2) cs' ∧ cs'.length = cs.length
theorem opened_here {L : Locs} {bs : List (List Value)} {cs cs' : List Value} {Q : List (List Value) → List Value → Prop} (hl : L.length = bs.length) (hg : GoodAt w L bs) (h : ∀ r, LRel r cs' cs) (hq : Q bs cs') (he : cs'.length = cs.length) : Opened P w L bs cs Q :=
  ⟨⟨[], [], cs', by simpa using hl, by simpa using hg, fun r _ => h r, by simpa using hq, he⟩⟩
theorem open_fields {g : Nat} {cs : List Value} {f : Nat} (IH : ∀ (t : TypeId) (cs : List Value) d ps (f : Nat), absT P g t = true → trodA enc P w f t cs = some (d, ps) → ∀ L bs, L.length = bs.length → GoodAt w L bs → Opened P w L bs cs fun bs cs' => Shp P bs g t cs') :
    ∀ (fs : List Field) (o n : Nat), layOk P fs o = some n → n = cs.length → (∀ x ∈ fs, absT P g x.type = true) → (∀ x ∈ fs, ∃ d ps, trodA enc P w f x.type ((cs.drop x.offset).take (P.cellsOf x.type)) = some (d, ps)) →
    ∀ L bs, L.length = bs.length → GoodAt w L bs → Opened P w L bs (cs.drop o) fun bs cs' => ShpF (fun t a => Shp P bs g t a) P fs cs'
  | [], o, n, hlay, hn, ha, ht, L, bs, hl, hg => by
    simp only [layOk, Option.some.injEq] at hlay
    have : cs.drop o = [] := List.drop_eq_nil_of_le (by omega)
    rw [this]
    exact opened_here hl hg (fun r => .nil) rfl rfl
  | x :: fs, o, n, hlay, hn, ha, ht, L, bs, hl, hg => by
    simp only [layOk] at hlay
    split at hlay
    · rename_i ho
      have ho := Nat.eq_of_beq_eq_true ho
      obtain ⟨d, ps, hx⟩ := ht x (List.mem_cons_self ..)
      rw [ho] at hx
      have hle : ∀ (fs : List Field) (o n : Nat), layOk P fs o = some n → o ≤ n := by
        intro fs
        induction fs with
        | nil => intro o n h; simp only [layOk, Option.some.injEq] at h; omega
        | cons y fs ih =>
          intro o n h
          simp only [layOk] at h
          split at h
          · have := ih _ _ h; omega
          · cases h
      have hon := hle _ _ _ hlay
      obtain ⟨L2, bs2, a, h1, h2, h3, h4, h5⟩ := (IH x.type _ d ps f (ha x (List.mem_cons_self ..)) hx L bs hl hg).is
      obtain ⟨L3, bs3, b, k1, k2, k3, k4, k5⟩ := (open_fields IH fs _ n hlay hn (fun y hy => ha y (List.mem_cons_of_mem _ hy)) (fun y hy => ht y (List.mem_cons_of_mem _ hy)) (L ++ L2) (bs ++ bs2) h1 h2).is
      have hcut : cs.drop o = (cs.drop o).take (P.cellsOf x.type) ++ cs.drop (o + P.cellsOf x.type) := by
        rw [← List.drop_drop, List.take_append_drop]
      have hal : a.length = P.cellsOf x.type := by rw [h5, List.length_take, List.length_drop]; omega
      refine ⟨⟨L2 ++ L3, bs2 ++ bs3, a ++ b, by rw [← List.append_assoc, ← List.append_assoc]; exact k1, by rw [← List.append_assoc, ← List.append_assoc]; exact k2, fun r hr => ?_, ?_, ?_⟩⟩
      · rw [← List.append_assoc] at hr
        rw [hcut]
        exact (h3 r hr.left).append (k3 r hr)
      · rw [← List.append_assoc]
        exact ⟨a, b, rfl, hal, h4.more, k4⟩
      · rw [hcut, List.length_append, List.length_append, h5, k5]
    · cases hlay
theorem open_elems {g : Nat} {e : TypeId} {a : Addr} (he : absT P g e = true) (IH : ∀ (t : TypeId) (cs : List Value) d ps (f : Nat), absT P g t = true → trodA enc P w f t cs = some (d, ps) → ∀ L bs, L.length = bs.length → GoodAt w L bs → Opened P w L bs cs fun bs cs' => Shp P bs g t cs') (f : Nat) :
    ∀ (n : Nat), (∀ i, i < n → ∃ cs d ps, w.cells? 0 (a.add (i * P.cellsOf e)) (P.cellsOf e) = some cs ∧ trodA enc P w f e cs = some (d, ps)) → ∀ L bs, L.length = bs.length → GoodAt w L bs →
    ∃ (css : List (List Value)) (L2 : Locs) (bs2 es : List (List Value)), css.length = n ∧ es.length = n ∧ (∀ i, i < n → w.cells? 0 (a.add (i * P.cellsOf e)) (P.cellsOf e) = css[i]?) ∧ (L ++ L2).length = (bs ++ bs2).length ∧ GoodAt w (L ++ L2) (bs ++ bs2) ∧
      (∀ r, Ext' (L ++ L2) r → LRel r es.flatten css.flatten) ∧ ∀ x ∈ es, x.length = P.cellsOf e ∧ Shp P (bs ++ bs2) g e x
  | 0, h, L, bs, hl, hg => ⟨[], [], [], [], rfl, rfl, fun i hi => by omega, by simpa using hl, by simpa using hg, fun r _ => .nil, fun x hx => by simp at hx⟩
  | n + 1, h, L, bs, hl, hg => by
    obtain ⟨css, L2, bs2, es, h1, h2, h3, h4, h5, h6, h7⟩ := open_elems he IH f n (fun i hi => h i (by omega)) L bs hl hg
    obtain ⟨cs, d, ps, k1, k2⟩ := h n (by omega)
    obtain ⟨L3, bs3, cs', m1, m2, m3, m4, m5⟩ := (IH e cs d ps f he k2 (L ++ L2) (bs ++ bs2) h4 h5).is
    have hcl := (World.cells?_some k1).2.1
    refine ⟨css ++ [cs], L2 ++ L3, bs2 ++ bs3, es ++ [cs'], by simp [h1], by simp [h2], fun i hi => ?_, by rw [← List.append_assoc, ← List.append_assoc]; exact m1, by rw [← List.append_assoc, ← List.append_assoc]; exact m2, fun r hr => ?_, fun x hx => ?_⟩
    · by_cases hin : i < n
      · rw [List.getElem?_append_left (by omega)]; exact h3 i hin
      · obtain rfl : i = n := by omega
        rw [List.getElem?_append_right (by omega), h1, Nat.sub_self]; exact k1
    · rw [← List.append_assoc] at hr
      simp only [List.flatten_append, List.flatten_cons, List.flatten_nil, List.append_nil]
      exact (h6 r hr.left).append (m3 r hr)
    · rw [← List.append_assoc]
      rcases List.mem_append.1 hx with hx | hx
      · exact ⟨(h7 x hx).1, (h7 x hx).2.more⟩
      · obtain rfl : x = cs' := by simpa using hx
        exact ⟨by rw [m5, hcl], m4⟩
theorem flat_get {n : Nat} : ∀ (css : List (List Value)), (∀ c ∈ css, c.length = n) → 0 < n → ∀ k, css.flatten[k]? = (css[k / n]?).bind fun c => c[k % n]?
  | [], h, hn, k => by simp
  | c :: css, h, hn, k => by
    have hc := h c (List.mem_cons_self ..)
    rw [List.flatten_cons]
    by_cases hk : k < n
    · rw [List.getElem?_append_left (by omega), Nat.div_eq_of_lt hk, Nat.mod_eq_of_lt hk]
      simp
    · rw [List.getElem?_append_right (by omega), flat_get css (fun c hc => h c (List.mem_cons_of_mem _ hc)) hn, hc]
      have e1 : k / n = (k - n) / n + 1 := by rw [Nat.div_eq k n, if_pos ⟨hn, by omega⟩]
      have e2 : k % n = (k - n) % n := by rw [Nat.mod_eq k n, if_pos ⟨hn, by omega⟩]
      rw [e1, e2, List.getElem?_cons_succ]
theorem has_of_wf {k : IntKind} {n : Int} (h : (Lit.int k n).wf = true) : k.has n := by
  simp only [Lit.wf, Bool.and_eq_true, decide_eq_true_eq] at h
  exact h
theorem open_cells : ∀ (g : Nat) (t : TypeId) (cs : List Value) d ps (f : Nat), absT P g t = true → trodA enc P w f t cs = some (d, ps) → ∀ L bs, L.length = bs.length → GoodAt w L bs → Opened P w L bs cs fun bs cs' => Shp P bs g t cs'
  | 0, t, cs, d, ps, f, ha, ht, L, bs, hl, hg => by cases ha
  | g + 1, t, cs, d, ps, 0, ha, ht, L, bs, hl, hg => by cases ht
  | g + 1, t, cs, d, ps, f + 1, ha, ht, L, bs, hl, hg => by
    simp only [absT] at ha
    have IH := open_cells g
    simp only [Shp]
    cases hu : P.underlying t with
    | none => rw [hu] at ha; cases ha
    | some u =>
      rw [hu] at ha
      have one : ∀ {v : Value} {Q : List (List Value) → List Value → Prop}, (∀ r, VRel r v v) → Q bs [v] → Opened P w L bs [v] Q := fun hv hq => opened_here hl hg (fun r => .cons (hv r) .nil) hq rfl
      cases u with
      | bool =>
        rcases cs with _ | ⟨v, _ | ⟨v2, r⟩⟩ <;> try (simp [trodA, DataW.trod, hu] at ht; done)
        cases v <;> try (simp [trodA, DataW.trod, hu] at ht; done)
        exact one (fun r => .bool _) ⟨_, rfl⟩
      | int k =>
        rcases cs with _ | ⟨v, _ | ⟨v2, r⟩⟩ <;> try (simp [trodA, DataW.trod, hu] at ht; done)
        cases v <;> try (simp [trodA, DataW.trod, hu] at ht; done)
        simp only [trodA, DataW.trod, hu] at ht
        split at ht
        · rename_i h
          obtain ⟨rfl, h2⟩ := h
          exact one (fun r => .int _ _) ⟨_, rfl, has_of_wf h2⟩
        · cases ht
      | string =>
        rcases cs with _ | ⟨v, _ | ⟨v2, r⟩⟩ <;> try (simp [trodA, DataW.trod, hu] at ht; done)
        cases v <;> try (simp [trodA, DataW.trod, hu] at ht; done)
        simp only [trodA, DataW.trod, hu] at ht
        split at ht
        · rename_i h
          exact one (fun r => .string _) ⟨_, rfl, h⟩
        · cases ht
      | slice e =>
        simp only [Bool.and_eq_true, Bool.not_eq_true'] at ha
        have hsz : 0 < P.cellsOf e := by
          have : Nat.beq (P.cellsOf e) 0 = false := ha.2
          cases hz : P.cellsOf e with
          | zero => rw [hz] at this; cases this
          | succ n => omega
        rcases cs with _ | ⟨v, _ | ⟨v2, r⟩⟩ <;> try (simp [trodA, DataW.trod, hu] at ht; done)
        cases v <;> try (simp [trodA, DataW.trod, hu] at ht; done)
        rename_i p len cap
        cases p with
        | none =>
          have : len = 0 ∧ cap = 0 := by
            cases len with
            | zero => cases cap with
              | zero => exact ⟨rfl, rfl⟩
              | succ c => exfalso; simp only [trodA, DataW.trod, hu] at ht; cases ht
            | succ n => exfalso; simp only [trodA, DataW.trod, hu] at ht; cases ht
          obtain ⟨rfl, rfl⟩ := this
          exact one (fun r => .slcNil) (.inl rfl)
        | some a =>
          simp only [trodA, DataW.trod, hu] at ht
          split at ht
          · rename_i hc
            obtain ⟨_, hlc, hcm⟩ := hc
            by_cases hc0 : cap = 0
            · subst hc0
              obtain rfl : len = 0 := by omega
              exact opened_here hl hg (fun r => .cons (.slcE a) .nil) (.inr (.inl rfl)) rfl
            · simp only [Option.bind_eq_some_iff, Option.map_eq_some_iff] at ht
              obtain ⟨elems, h1, rest, h2, h3⟩ := ht
              have h2' : (List.range (cap - len)).mapM (fun j => (w.cells? 0 (a.add ((len + j) * P.cellsOf e)) (P.cellsOf e)).bind (DataW.trod enc P w 0 (fun _ => true) true f e)) = some rest := h2
              have each : ∀ i, i < cap → ∃ cs d ps, w.cells? 0 (a.add (i * P.cellsOf e)) (P.cellsOf e) = some cs ∧ trodA enc P w f e cs = some (d, ps) := by
                intro i hi
                have key : ∀ {o : Option (DataW H × List MemPlace)} {q : Nat} {l : List (DataW H × List MemPlace)}, q < l.length → (w.cells? 0 (a.add (i * P.cellsOf e)) (P.cellsOf e)).bind (DataW.trod enc P w 0 (fun _ => true) true f e) = l[q]? → ∃ cs d ps, w.cells? 0 (a.add (i * P.cellsOf e)) (P.cellsOf e) = some cs ∧ trodA enc P w f e cs = some (d, ps) := by
                  intro o q l hq hx
                  rw [List.getElem?_eq_getElem hq, Option.bind_eq_some_iff] at hx
                  obtain ⟨cs, hx1, hx2⟩ := hx
                  exact ⟨cs, _, _, hx1, hx2⟩
                by_cases hil : i < len
                · have hlen := mapM_some_length h1
                  exact key (o := none) (q := i) (l := elems) (by simp at hlen; omega) (mapM_some_get h1 i i (by simp [hil]))
                · have hlen := mapM_some_length h2'
                  have := mapM_some_get h2' (i - len) (i - len) (List.getElem?_range (by omega))
                  rw [show len + (i - len) = i by omega] at this
                  exact key (o := none) (q := i - len) (l := rest) (by simp at hlen; omega) this
              obtain ⟨css, L2, bs2, es, k1, k2, k3, k4, k5, k6, k7⟩ := open_elems ha.1 (IH) f cap each L bs hl hg
              have hcss : ∀ c ∈ css, c.length = P.cellsOf e := by
                intro c hc
                obtain ⟨i, hi, rfl⟩ := List.mem_iff_getElem.1 hc
                have := k3 i (by omega)
                rw [List.getElem?_eq_getElem hi] at this
                exact (World.cells?_some this).2.1
              -- the block
              have h00 := k3 0 (by omega)
              have hlt0 : 0 < css.length := by omega
              rw [List.getElem?_eq_getElem hlt0] at h00
              have hcell0 := (World.cells?_some h00).2.2 0 hsz
              have hl0 : (css[0]).length = P.cellsOf e := hcss _ (List.getElem_mem hlt0)
              rw [List.getElem?_eq_getElem (by omega)] at hcell0
              have e00 : (a.add (0 * P.cellsOf e)).add 0 = a := by simp [Addr.add]
              rw [e00] at hcell0
              have hblk : a.spot = none ∧ ∃ rc el fz, w.heap[a.block]? = some (.cells rc el fz) := by
                unfold World.cell? at hcell0
                split at hcell0
                · rename_i rc el fz hb
                  split at hcell0
                  · cases hcell0
                  · rename_i hs
                    exact ⟨by simpa using hs, rc, el, fz, hb⟩
                · cases hcell0
              obtain ⟨hspot, rc, el, fz, hb⟩ := hblk
              obtain ⟨ab, ao, asp⟩ := a
              simp only at hspot hb
              subst hspot
              have hrc : ∀ (k : Nat) v, css.flatten[k]? = some v → rc[ao + k]? = some v := by
                intro k v hk
                rw [flat_get css hcss hsz, Option.bind_eq_some_iff] at hk
                obtain ⟨c, hc1, hc2⟩ := hk
                have hq : k / P.cellsOf e < cap := by
                  have := (List.getElem?_eq_some_iff.1 hc1).1; omega
                have h4 := k3 _ hq
                rw [hc1] at h4
                have h5 := (World.cells?_some h4).2.2 (k % P.cellsOf e) (Nat.mod_lt _ hsz)
                rw [hc2] at h5
                have e1 : ((⟨ab, ao, none⟩ : Addr).add (k / P.cellsOf e * P.cellsOf e)).add (k % P.cellsOf e) = ⟨ab, ao + k, none⟩ := by
                  have hd := Nat.div_add_mod' k (P.cellsOf e)
                  simp only [Addr.add]
                  split <;> split <;> simp <;> omega
                rw [e1] at h5
                unfold World.cell? at h5
                rw [hb] at h5
                simpa using h5
              refine ⟨⟨L2 ++ [(ab, ao)], bs2 ++ [es.flatten], [.slice (some ⟨(bs ++ bs2).length, 0, none⟩) len cap], ?_, ?_, fun r hr => ?_, .inr (.inr ⟨(bs ++ bs2).length, len, cap, es, rfl, hlc, by omega, hcm, ?_, k2, fun e' he' => ?_⟩), rfl⟩⟩
              · rw [← List.append_assoc, ← List.append_assoc, List.length_append, k4, List.length_append (as := bs ++ bs2)]; rfl
              · rw [← List.append_assoc, ← List.append_assoc]
                intro i c hc
                by_cases hi : i < (bs ++ bs2).length
                · rw [List.getElem?_append_left hi] at hc
                  obtain ⟨p, hp, rc', el', fz', m1, m2⟩ := k5 i c hc
                  exact ⟨p, by rw [List.getElem?_append_left (by omega)]; exact hp, rc', el', fz', m1, fun r hr => m2 r hr.left⟩
                · have : i = (bs ++ bs2).length := by
                    have := (List.getElem?_eq_some_iff.1 hc).1
                    simp at this hi ⊢; omega
                  subst this
                  rw [List.getElem?_append_right (Nat.le_refl _), Nat.sub_self] at hc
                  obtain rfl : es.flatten = c := by simpa using hc
                  refine ⟨(ab, ao), by rw [List.getElem?_append_right (by omega), ← k4, Nat.sub_self]; rfl, rc, el, fz, hb, fun r hr => ⟨css.flatten, k6 r hr.left, hrc⟩⟩
              · rw [← List.append_assoc] at hr
                obtain ⟨d1, d2, d3, d4⟩ := hr (bs ++ bs2).length (ab, ao) (by rw [List.getElem?_append_right (by omega), ← k4, Nat.sub_self]; rfl)
                refine .cons ?_ .nil
                have := VRel.slc (r := r) (b := (bs ++ bs2).length) (o := 0) (n := len) (c := cap) (c' := cap) d1 (fun _ => rfl) (Nat.le_refl _) (fun z hz => by rw [d4] at hz; cases hz)
                rw [d2, d3, Nat.add_zero] at this
                exact this
              · rw [← List.append_assoc, List.getElem?_append_right (Nat.le_refl _), Nat.sub_self]; rfl
              · rw [← List.append_assoc]
                exact ⟨(k7 e' he').1, (k7 e' he').2.more⟩
          · cases ht
      | struct fs =>
        simp only [Bool.and_eq_true] at ha
        obtain ⟨ha1, ha2⟩ := ha
        split at ha2
        · rename_i n hn
          obtain rfl := Nat.eq_of_beq_eq_true ha2
          simp only [trodA, DataW.trod, hu] at ht
          split at ht
          · rename_i hcl
            simp only [Option.map_eq_some_iff] at ht
            obtain ⟨xs, h1, h2⟩ := ht
            have := open_fields (enc := enc) (cs := cs) (f := f) (IH) fs.toList 0 _ hn hcl.symm (fun x hx => by simpa using List.all_eq_true.1 ha1 x hx) (fun x hx => by
              obtain ⟨i, hi, rfl⟩ := List.mem_iff_getElem.1 hx
              have h3 := mapM_some_get h1 i _ (List.getElem?_eq_getElem hi)
              have h4 : i < xs.length := by rw [mapM_some_length h1]; exact hi
              rw [List.getElem?_eq_getElem h4] at h3
              exact ⟨_, _, h3⟩) L bs hl hg
            simpa using this
          · cases ht
        · cases ha2
      | _ => cases ha
/-! ## All arguments -/
def ShpV (P : Program) (bs : List (List Value)) (g : Nat) (t : TypeId) (v : Value) : Prop := match P.underlying t with
  | some (.struct _) => ∃ cs, v = .agg ⟨cs⟩ ∧ Shp P bs g t cs
  | _ => Shp P bs g t [v]
def ShpA (P : Program) (bs : List (List Value)) (g : Nat) : List TypeId → List Value → Prop
  | [], vs => vs = []
  | t :: ts, vs => ∃ v r, vs = v :: r ∧ ShpV P bs g t v ∧ ShpA P bs g ts r
theorem ShpV.more {bs cs' : List (List Value)} {g : Nat} {t : TypeId} {v : Value} (h : ShpV P bs g t v) : ShpV P (bs ++ cs') g t v := by
  unfold ShpV at h ⊢
  split at h
  · obtain ⟨cs, h1, h2⟩ := h; exact ⟨cs, h1, h2.more⟩
  · exact h.more
theorem open_arg {base g : Nat} {t : TypeId} {v : Value} {d : DataW H} {ps : List MemPlace} (ha : absT P g t = true) (hv : Value.okWide P w .any base t v) (ht : DataW.Trod enc P w 0 (fun _ => true) true t v d ps) {L : Locs} {bs : List (List Value)} (hl : L.length = bs.length) (hg : GoodAt w L bs) :
    ∃ L2 bs2 v', (L ++ L2).length = (bs ++ bs2).length ∧ GoodAt w (L ++ L2) (bs ++ bs2) ∧ (∀ r, Ext' (L ++ L2) r → VRel r v' v) ∧ ShpV P (bs ++ bs2) g t v' := by
  obtain ⟨f, ht⟩ := ht
  obtain ⟨L2, bs2, cs', h1, h2, h3, h4, h5⟩ := (open_cells g t _ d ps f ha ht L bs hl hg).is
  unfold Value.okWide at hv
  unfold ShpV
  split at hv
  · rename_i fs hu
    obtain ⟨cs, rfl, _⟩ := hv
    refine ⟨L2, bs2, .agg ⟨cs'⟩, h1, h2, fun r hr => ?_, ?_⟩
    · have := h3 r hr
      have h6 : LRel r cs' cs.toList := this
      exact LRel.agg h6
    · rw [hu]; exact ⟨cs', rfl, h4⟩
  · rename_i n e hu
    cases g with
    | zero => cases ha
    | succ g => simp only [absT, hu] at ha; cases ha
  · rename_i hn1 hn2
    have hone : v.cells.toList = [v] := by
      cases v <;> try rfl
      rename_i cs
      unfold Cell.okWide at hv
      split at hv <;> try (rename_i hh; cases hh; done)
      all_goals try (rename_i hh _; cases hh; done)
      all_goals first | (unfold Cell.ok at hv; split at hv <;> first | (exact hv.elim) | (rename_i hh; cases hh) | (rename_i hh _; cases hh)) | skip
    have h6 := h3
    rw [hone] at h5 h6
    obtain ⟨v', rfl⟩ : ∃ v', cs' = [v'] := by
      cases cs' with
      | nil => cases h5
      | cons a r => cases r with
        | nil => exact ⟨a, rfl⟩
        | cons b r => simp at h5
    refine ⟨L2, bs2, v', h1, h2, fun r hr => ?_, ?_⟩
    · cases h6 r hr with | cons hv _ => exact hv
    · split
      · rename_i fs hfs; exact absurd hfs (hn1 fs)
      · exact h4
theorem open_args {base g : Nat} : ∀ (ts : List TypeId) (vs : List Value) (ds : List (DataW H)) (ps : List MemPlace), (∀ t ∈ ts, absT P g t = true) → (∀ (j : Nat) t v, ts[j]? = some t → vs[j]? = some v → Value.okWide P w .any base t v) →
    DataW.TrodAll enc P w 0 (fun _ => true) true ts vs ds ps → ∀ L bs, L.length = bs.length → GoodAt w L bs →
    ∃ L2 bs2 vs', (L ++ L2).length = (bs ++ bs2).length ∧ GoodAt w (L ++ L2) (bs ++ bs2) ∧ (∀ r, Ext' (L ++ L2) r → LRel r vs' vs) ∧ ShpA P (bs ++ bs2) g ts vs'
  | [], vs, ds, ps, ha, hv, ht, L, bs, hl, hg => by
    obtain ⟨rfl, rfl, rfl⟩ := trodAll_nil ht
    exact ⟨[], [], [], by simpa using hl, by simpa using hg, fun r _ => .nil, rfl⟩
  | t :: ts, vs, ds, ps, ha, hv, ht, L, bs, hl, hg => by
    obtain ⟨v, vs', d, ds', p, q, rfl, rfl, rfl, h1, h2⟩ := trodAll_cons ht
    obtain ⟨L2, bs2, v', k1, k2, k3, k4⟩ := open_arg (ha t (List.mem_cons_self ..)) (hv 0 t v rfl rfl) h1 hl hg
    obtain ⟨L3, bs3, vs2, m1, m2, m3, m4⟩ := open_args ts vs' ds' q (fun t ht => ha t (List.mem_cons_of_mem _ ht)) (fun j t v h1 h2 => hv (j + 1) t v h1 h2) h2 (L ++ L2) (bs ++ bs2) k1 k2
    refine ⟨L2 ++ L3, bs2 ++ bs3, v' :: vs2, by rw [← List.append_assoc, ← List.append_assoc]; exact m1, by rw [← List.append_assoc, ← List.append_assoc]; exact m2, fun r hr => ?_, v', vs2, rfl, ?_, ?_⟩
    · rw [← List.append_assoc] at hr; exact .cons (k3 r hr.left) (m3 r hr)
    · rw [← List.append_assoc]; exact k4.more
    · rw [← List.append_assoc]; exact m4
end

/-! ## The start -/
def roHp (bs : List (List Value)) : Hp := { heap := roHeap bs 0 .leaf, next := bs.length, wl := [] }
theorem roHp_get (bs : List (List Value)) (j : Nat) : (roHp bs).heap.get j = (bs[j]?).map .ro := by
  show (roHeap bs 0 .leaf).get j = _
  rw [roHeap_get, Tr.get_leaf]
  by_cases h : j < bs.length
  · rw [if_pos (by omega), Nat.sub_zero]
  · rw [if_neg (by omega), List.getElem?_eq_none (by omega)]; rfl
theorem start_ro {L : Locs} {bs : List (List Value)} (hl : L.length = bs.length) (hg : GoodAt w L bs) (hL : ∀ i c, GloK.cells[i]? = some c → L[i]? = some (GloK.inv i, 0) ∧ bs[i]? = some c) : Rel P (Ren.of L) (roHp bs).st w := by
  have he : Ext' L (Ren.of L) := by
    intro i p hp
    have hi := (List.getElem?_eq_some_iff.1 hp).1
    simp only [Ren.of, List.getD_eq_getElem?_getD, hp, Option.getD_some, and_true, true_and]
    exact hi
  have at_ : ∀ (i : Nat) b, (roHp bs).st.heap.get i = some b → ∃ c, bs[i]? = some c ∧ b = .ro c := by
    intro i b hb
    have h1 : (roHp bs).heap.get i = some b := hb
    rw [roHp_get, Option.map_eq_some_iff] at h1
    obtain ⟨c, h1, h2⟩ := h1
    exact ⟨c, h1, h2.symm⟩
  refine ⟨?_, ?_, fun i c hc => ?_⟩
  rotate_left 2
  · obtain ⟨h1, h2⟩ := hL i c hc
    obtain ⟨d1, d2, d3, _⟩ := he i _ h1
    refine ⟨d1, d2, d3, ?_⟩
    show (roHp bs).heap.get i = _
    rw [roHp_get, h2]; rfl
  · intro i b hb
    obtain ⟨c, hc, rfl⟩ := at_ i b hb
    obtain ⟨p, hp, rc, el, fz, h2, h3⟩ := hg i c hc
    obtain ⟨d1, d2, d3, d4⟩ := he i p hp
    obtain ⟨l', h4, h5⟩ := h3 _ he
    exact ⟨d1, .cells rc el fz, by rw [d2]; exact h2, ⟨d4, l', h4, by rw [d3]; exact h5⟩⟩
  · intro i j bi bj hi hj hro
    obtain ⟨c, _, rfl⟩ := at_ i bi hi
    obtain ⟨c', _, rfl⟩ := at_ j bj hj
    rcases hro with h | h <;> cases h
/-- a run that brings true: so does the call, and what was there stays -/
theorem run_ro (hm : P.follows .mixedOrders = true) {F : Nat → Option AFn} (hF : TabOk P F) {n : Nat} {f : FuncId} {args : List Value} {bs : List (List Value)} (h : wp (callN F n (.fn f) args) (fun v _ => v = .bool true) (roHp bs)) (hg : isGo (F f) = true)
    {L : Locs} (hl : L.length = bs.length) (hgood : GoodAt w L bs) (hL : ∀ i c, GloK.cells[i]? = some c → L[i]? = some (GloK.inv i, 0) ∧ bs[i]? = some c) {args' : Array Value} (ha : ∀ r, Ext' L r → LRel r args args'.toList) :
    Calls P f args' w fun e w' => e = .returned (.bool true) ∧ Below w.heap.size w w' := by
  obtain ⟨v, S', hc, rfl⟩ := h
  have he : Ext' L (Ren.of L) := by
    intro i p hp
    have hi := (List.getElem?_eq_some_iff.1 hp).1
    simp only [Ren.of, List.getD_eq_getElem?_getD, hp, Option.getD_some, and_true, true_and]
    exact hi
  have hgo : ∀ k, F f ≠ some (.ext k) := by intro k hk; rw [hk] at hg; simp [isGo] at hg
  have hgs : ∀ k, F f ≠ some (.sum k) := by intro k hk; rw [hk] at hg; simp [isGo] at hg
  intro cs
  obtain ⟨D, r', w', v', hs, hv, hst⟩ := callN_calls hm hF hc (start_ro (P := P) hl hgood hL) (fun id h1 h2 h3 => by
    have h4 : id < L.length := h3
    have h5 : bs.length ≤ id := h1
    omega) (ha _ he) hgo hgs cs
  obtain rfl := hv.bool_inv
  obtain ⟨D2, hD2, _, hro⟩ := NrX.callN F n (.fn f) args _ _ _ hc
  have hDD : D = D2 := by
    have h1 := hs.log
    rw [hD2] at h1
    exact (List.append_cancel_right h1).symm
  subst hDD
  obtain ⟨fr, k1, k2, k3⟩ := hst
  refine ⟨.returned (.bool true), w', fr, ⟨rfl, hs.os, hs.tape, hs.output, hs.size, fun k hk => ?_⟩, k1, k2, k3⟩
  by_cases hlv : Live (Ren.of L) (roHp bs).st k
  · obtain ⟨id, b, h1, h2⟩ := hlv
    have h3 : (roHp bs).heap.get id = some b := h1
    rw [roHp_get, Option.map_eq_some_iff] at h3
    obtain ⟨c, h3, rfl⟩ := h3
    have hid : id < bs.length := (List.getElem?_eq_some_iff.1 h3).1
    have := hs.kept id _ h1 (hro id c hid (fun h => h) h1).1
    rw [h2] at this
    exact this
  · exact hs.frame k hk hlv
/-- a law whose arguments are opened -/
theorem law_roG (hm : P.follows .mixedOrders = true) {F : Nat → Option AFn} (hF : TabOk P F) {n g : Nat} {f : FuncId} {fn : Func} {base : Nat} {H : Type} {enc : TypeId × Value → H} {args : Array Value} {ds : List (DataW H)} {ps : List MemPlace}
    (hg : isGo (F f) = true) (hab : (fn.params.toList.all fun t => absT P g t) = true) (hval : ∀ (j : Nat) t v, fn.params[j]? = some t → args[j]? = some v → Value.okWide P w .any base t v)
    (ht : DataW.TrodAll enc P w 0 (fun _ => true) true fn.params.toList args.toList ds ps) (hw : GloAt w)
    (h : ∀ bs args', ShpA P (GloK.cells ++ bs) g fn.params.toList args' → wp (callN F n (.fn f) args') (fun v _ => v = .bool true) (roHp (GloK.cells ++ bs))) :
    Calls P f args w fun e w' => e = .returned (.bool true) ∧ Below w.heap.size w w' := by
  let L0 : Locs := (List.range GloK.cells.length).map fun i => (GloK.inv i, 0)
  have hl0 : L0.length = GloK.cells.length := by simp [L0]
  have hL0 : ∀ i c, GloK.cells[i]? = some c → L0[i]? = some (GloK.inv i, 0) := by
    intro i c hc
    have := (List.getElem?_eq_some_iff.1 hc).1
    simp [L0, this]
  have hgood : GoodAt w L0 GloK.cells := by
    intro i c hc
    obtain ⟨rc, el, fz, h1, h2⟩ := hw i c hc
    refine ⟨_, hL0 i c hc, rc, el, fz, h1, fun r _ => ⟨c, ?_, fun j v hv => by
      show rc[0 + j]? = some v
      rw [Nat.zero_add]; exact h2 j v hv⟩⟩
    have hp := GloK.pl c (List.mem_of_getElem? hc)
    clear h2 hc h1
    induction c with
    | nil => exact .nil
    | cons a l ih => exact .cons (plain_rel (hp a (List.mem_cons_self ..))) (ih fun v hv => hp v (List.mem_cons_of_mem _ hv))
  obtain ⟨L, bs, vs, h1, h2, h3, h4⟩ := open_args (base := base) (g := g) fn.params.toList args.toList ds ps (fun t ht => by simpa using List.all_eq_true.1 hab t ht) (fun j t v h1 h2 => hval j t v (by simpa using h1) (by simpa using h2)) ht L0 GloK.cells hl0 hgood
  exact run_ro hm hF (h _ _ h4) hg h1 h2 (fun i c hc => ⟨by
    have := (List.getElem?_eq_some_iff.1 hc).1
    rw [List.getElem?_append_left (by omega)]; exact hL0 i c hc, by
    have := (List.getElem?_eq_some_iff.1 hc).1
    rw [List.getElem?_append_left this]; exact hc⟩) h3
/-- and without package-level variables -/
theorem law_ro (hG : GloK.cells = []) (hm : P.follows .mixedOrders = true) {F : Nat → Option AFn} (hF : TabOk P F) {n g : Nat} {f : FuncId} {fn : Func} {base : Nat} {H : Type} {enc : TypeId × Value → H} {args : Array Value} {ds : List (DataW H)} {ps : List MemPlace}
    (hg : isGo (F f) = true) (hab : (fn.params.toList.all fun t => absT P g t) = true) (hval : ∀ (j : Nat) t v, fn.params[j]? = some t → args[j]? = some v → Value.okWide P w .any base t v)
    (ht : DataW.TrodAll enc P w 0 (fun _ => true) true fn.params.toList args.toList ds ps)
    (h : ∀ bs args', ShpA P bs g fn.params.toList args' → wp (callN F n (.fn f) args') (fun v _ => v = .bool true) (roHp bs)) :
    Calls P f args w fun e w' => e = .returned (.bool true) ∧ Below w.heap.size w w' :=
  law_roG hm hF hg hab hval ht (fun i c hc => by rw [hG] at hc; cases hc) fun bs args' hs => h _ _ hs
end Go.Wb
end
/- The engine, part T: functions of plain arguments, as summaries; what is enumerated. -/
section
set_option linter.unusedVariables false
namespace Go.Wb
set_option linter.unusedSectionVars false
variable [GloK]
variable {P : Program}
/-- a function's answers to plain arguments -/
noncomputable def plG (F : Nat → Option AFn) (f : Nat) : List Value → Option Value := fun args => if args.all plain = true then (match callN F 60 (.fn f) args gst with | some (v, _) => if plain v = true then some v else none | none => none) else none
theorem plG_ok (hm : P.follows .mixedOrders = true) {F : Nat → Option AFn} (hF : TabOk P F) (f : Nat) : SumOk P f (plG F f) := by
  refine sum_of_run hm hF fun args v h => ?_
  unfold plG at h
  split at h
  · rename_i h1
    split at h
    · rename_i v' S' h2
      split at h
      · rename_i h3
        obtain rfl : v' = v := by simpa using h
        exact ⟨h1, h3, 60, by show (callN F 60 (.fn f) args gst).map (·.1) = _; rw [h2]; rfl⟩
      · cases h
    · cases h
  · cases h
theorem plG_eq {F : Nat → Option AFn} {f : Nat} {args : List Value} {v : Value} (h1 : args.all plain = true) (h2 : plain v = true) (h : ∃ S, callN F 60 (.fn f) args gst = some (v, S)) : plG F f args = some v := by
  obtain ⟨S, h⟩ := h
  unfold plG
  rw [if_pos h1, h]
  simp only [if_pos h2]
def hp0 : Hp := { heap := roHeap GloK.cells 0 .leaf, next := GloK.cells.length, wl := [] }
theorem plG_wp {F : Nat → Option AFn} {f : Nat} {args : List Value} {v : Value} (h1 : args.all plain = true) (h2 : plain v = true) (h : wp (callN F 60 (.fn f) args) (fun w _ => w = v) hp0) : plG F f args = some v := by
  obtain ⟨a, S', h, rfl⟩ := h
  exact plG_eq h1 h2 ⟨S', h⟩
theorem P_sum {F : Nat → Option AFn} {f : FuncId} {g : List Value → Option Value} (h : F f = some (.sum g)) (n : Nat) (args : List Value) (Φ : Value → Hp → Prop) (S : Hp) : wp (callN F (n + 1) (.fn f) args) Φ S = optP (g args) (fun v => Φ v S) := by
  have : callN F (n + 1) (.fn f) args = M.lift (g args) := by
    funext S
    simp only [callN, h]
  rw [this, wp_lift]
/-- the quick evaluator's start -/
noncomputable def qHeap : List (List Value) → Nat → Tr Q.QB → Tr Q.QB
  | [], _, t => t
  | c :: r, i, t => qHeap r (i + 1) (Q.setQ (Nat.succ i) t i (some (.ro (Q.lenL c) (Q.fillC c 0 .leaf))))
noncomputable def startG : Q.QS := .mk (qHeap GloK.cells 0 .leaf) GloK.cells.length []
theorem qHeap_rel : ∀ (l : List (List Value)) (i : Nat) (q : Tr Q.QB) (t : Tr Blk), (∀ b o, q.get b = some o → ∃ o', t.get b = some o' ∧ Q.BRel o o') → ∀ b o, (qHeap l i q).get b = some o → ∃ o', (roHeap l i t).get b = some o' ∧ Q.BRel o o'
  | [], i, q, t, h => h
  | c :: r, i, q, t, h => qHeap_rel r (i + 1) _ _ (Q.heap_set h fun x hx => by
    cases hx
    refine ⟨_, rfl, .ro (Q.lenL_eq _) ?_⟩
    have := Q.BRel.new none false c
    cases this with
    | cells e1 e2 => exact e2)
theorem startG_rel : Q.SRel startG gst := ⟨qHeap_rel GloK.cells 0 .leaf .leaf (fun b o h => by rw [Tr.get_leaf] at h; cases h), rfl, rfl⟩
noncomputable def runs (F : Nat → Option AFn) (f : Nat) (ok : Value → Bool) (args : List Value) : Bool := Q.callQ F 60 (.fn f) args startG fun v _ => ok v
theorem plG_runs {F : Nat → Option AFn} {f : Nat} {ok : Value → Bool} {args : List Value} (h1 : args.all plain = true) (hok : ∀ v, ok v = true → plain v = true) (h : runs F f ok args = true) : ∃ v, plG F f args = some v ∧ ok v = true := by
  obtain ⟨v, S', q', h2, h3, h4⟩ := Q.callQ_ok F 60 (.fn f) args _ _ startG_rel _ h
  exact ⟨v, plG_eq h1 (hok v h4) ⟨S', h2⟩, h4⟩
def ints : Nat → List Int
  | 0 => []
  | n + 1 => (n : Int) :: ints n
theorem mem_ints : ∀ (n : Nat) (a : Int), 0 ≤ a → a < n → a ∈ ints n
  | 0, a, h0, h1 => by omega
  | n + 1, a, h0, h1 => by
    by_cases h : a = n
    · subst h; exact List.mem_cons_self ..
    · exact List.mem_cons_of_mem _ (mem_ints n a h0 (by omega))
theorem ws_ne {F : Nat → Option AFn} {f i : Nat} {g : List Value → Option Value} (h : Nat.beq i f = false) : withSum F f g i = F i := by unfold withSum; rw [h]
theorem ws_eq {F : Nat → Option AFn} {f : Nat} {g : List Value → Option Value} : withSum F f g f = some (.sum g) := by unfold withSum; rw [Nat.beq_refl]
theorem plG_known {F : Nat → Option AFn} {f : Nat} (h : Q.callQ F 60 (.fn f) [] startG Q.isTrue = true) : plG F f [] = some (.bool true) := by
  obtain ⟨v, S', q', h1, h2, h3⟩ := Q.callQ_ok F 60 (.fn f) [] _ _ startG_rel _ h
  obtain ⟨b, rfl, h4⟩ := Q.eBoolB_true.1 h3
  cases b with
  | false => cases h4
  | true => exact plG_eq rfl rfl ⟨S', h1⟩
/-- a slice of such cells: these, and what lies behind -/
def SlV (bs : List (List Value)) (Q : Value → Prop) (v : Value) (vs : List Value) : Prop :=
  (∀ x ∈ vs, Q x) ∧ ((v = .slice none 0 0 ∧ vs = []) ∨ (v = .chan none ∧ vs = []) ∨ ∃ id c zs, v = .slice (some ⟨id, 0, none⟩) vs.length c ∧ vs.length ≤ c ∧ 0 < c ∧ c ≤ maxLen ∧ bs[id]? = some (vs ++ zs) ∧ (vs ++ zs).length = c)
theorem flat_one : ∀ (es : List (List Value)), (∀ e ∈ es, e.length = 1) → ∃ vs, es.flatten = vs ∧ vs.length = es.length ∧ es = vs.map fun v => [v]
  | [], h => ⟨[], rfl, rfl, rfl⟩
  | e :: es, h => by
    obtain ⟨vs, h1, h2, h3⟩ := flat_one es fun e he => h e (List.mem_cons_of_mem _ he)
    have he := h e (List.mem_cons_self ..)
    obtain ⟨v, rfl⟩ : ∃ v, e = [v] := by
      cases e with
      | nil => cases he
      | cons a r => cases r with
        | nil => exact ⟨a, rfl⟩
        | cons b r => simp at he
    exact ⟨v :: vs, by rw [List.flatten_cons, h1]; rfl, by simp [h2], by rw [List.map_cons, ← h3]⟩
theorem slV_of {bs : List (List Value)} {g : Nat} {t e : TypeId} {v : Value} (hu : P.underlying t = some (.slice e)) (hz : P.cellsOf e = 1) (h : ShpV P bs (g + 1) t v) : ∃ vs, SlV bs (fun x => Shp P bs g e [x]) v vs := by
  unfold ShpV at h
  rw [hu] at h
  simp only [Shp, hu] at h
  rcases h with h | h | ⟨id, n, c, es, h1, h2, h3, h4, h5, h6, h7⟩
  · exact ⟨[], fun x hx => by simp at hx, .inl ⟨by simpa using h, rfl⟩⟩
  · exact ⟨[], fun x hx => by simp at hx, .inr (.inl ⟨by simpa using h, rfl⟩)⟩
  · obtain ⟨vs, k1, k2, k3⟩ := flat_one es fun e he => by rw [(h7 e he).1, hz]
    have hl : (vs.take n).length = n := by rw [List.length_take]; omega
    refine ⟨vs.take n, fun x hx => ?_, .inr (.inr ⟨id, c, vs.drop n, ?_, ?_, h3, h4, ?_, ?_⟩)⟩
    · have : [x] ∈ es := by rw [k3]; exact List.mem_map.2 ⟨x, List.mem_of_mem_take hx, rfl⟩
      exact (h7 _ this).2
    · rw [hl]; simpa using h1
    · rw [hl]; exact h2
    · rw [List.take_append_drop, h5, k1]
    · rw [List.take_append_drop]; omega
theorem shp_int {bs : List (List Value)} {g : Nat} {e : TypeId} {k : IntKind} (hu : P.underlying e = some (.int k)) {x : Value} (h : Shp P bs (g + 1) e [x]) : ∃ n, x = .int k n ∧ k.has n := by
  simp only [Shp, hu] at h
  obtain ⟨n, h1, h2⟩ := h
  exact ⟨n, by simpa using h1, h2⟩
theorem shp_bool {bs : List (List Value)} {g : Nat} {e : TypeId} (hu : P.underlying e = some .bool) {x : Value} (h : Shp P bs (g + 1) e [x]) : ∃ b, x = .bool b := by
  simp only [Shp, hu] at h
  obtain ⟨n, h1⟩ := h
  exact ⟨n, by simpa using h1⟩
theorem shp_str {bs : List (List Value)} {g : Nat} {e : TypeId} (hu : P.underlying e = some .string) {x : Value} (h : Shp P bs (g + 1) e [x]) : ∃ s, x = .string s ∧ s.size ≤ maxLen := by
  simp only [Shp, hu] at h
  obtain ⟨n, h1, h2⟩ := h
  exact ⟨n, by simpa using h1, h2⟩
theorem shpV_one {bs : List (List Value)} {g : Nat} {t : TypeId} {v : Value} (hs : ∀ fs, P.underlying t ≠ some (.struct fs)) (h : ShpV P bs g t v) : Shp P bs g t [v] := by
  unfold ShpV at h
  split at h
  · rename_i fs hf; exact absurd hf (hs fs)
  · exact h
theorem u8_rng {n : Int} (h : IntKind.u8.has n) : 0 ≤ n ∧ n < 256 := by
  simp [IntKind.has, IntKind.min, IntKind.max, IntKind.bits, IntKind.signed] at h
  omega
/-- numbers in cells -/
theorem cells_ints {k : IntKind} : ∀ {vs : List Value}, (∀ x ∈ vs, ∃ n, x = .int k n ∧ k.has n) → ∃ xs : List Int, vs = xs.map (.int k) ∧ ∀ x ∈ xs, k.has x
  | [], h => ⟨[], rfl, fun x hx => by simp at hx⟩
  | v :: vs, h => by
    obtain ⟨xs, h1, h2⟩ := cells_ints fun x hx => h x (List.mem_cons_of_mem _ hx)
    obtain ⟨n, rfl, hn⟩ := h v (List.mem_cons_self ..)
    refine ⟨n :: xs, by rw [h1]; rfl, fun x hx => ?_⟩
    rcases List.mem_cons.1 hx with rfl | hx
    · exact hn
    · exact h2 x hx
theorem trod_len {H : Type} {enc : TypeId × Value → H} {w : World} {base : Nat} {sp : Nat → Bool} {held : Bool} : ∀ {ts : List TypeId} {vs : List Value} {ds : List (DataW H)} {ps : List MemPlace}, DataW.TrodAll enc P w base sp held ts vs ds ps → ds.length = ts.length
  | [], vs, ds, ps, h => by obtain ⟨_, rfl, _⟩ := ChangeShapes.trodAll_nil h; rfl
  | t :: ts, vs, ds, ps, h => by
    obtain ⟨v, vs', d, ds', p, q, rfl, rfl, rfl, h1, h2⟩ := ChangeShapes.trodAll_cons h
    simp [trod_len h2]
theorem len1 {α : Type} {l : List α} (h : l.length = 1) : ∃ a, l = [a] := by
  match l, h with | [a], _ => exact ⟨a, rfl⟩
theorem len2 {α : Type} {l : List α} (h : l.length = 2) : ∃ a b, l = [a, b] := by
  match l, h with | [a, b], _ => exact ⟨a, b, rfl⟩
theorem len3 {α : Type} {l : List α} (h : l.length = 3) : ∃ a b c, l = [a, b, c] := by
  match l, h with | [a, b, c], _ => exact ⟨a, b, c, rfl⟩
theorem len4 {α : Type} {l : List α} (h : l.length = 4) : ∃ a b c d, l = [a, b, c, d] := by
  match l, h with | [a, b, c, d], _ => exact ⟨a, b, c, d, rfl⟩
end Go.Wb
end
/- The engine, part U: frames; regions that draw; appending and copying. -/
section
set_option linter.unusedSimpArgs false
set_option linter.unusedVariables false
namespace Go.Wb
variable {α β : Type} {C : Tgt → List Value → M Value} {S : Hp} {Φ : Value → Hp → Prop}

/-! ## Frames -/
/-- but for W, and for what is new, all is as it was -/
structure Fra (W : List Nat) (S S' : Hp) : Prop where
  next : S.next ≤ S'.next
  heap : ∀ b, b < S.next → b ∉ W → S'.heap.get b = S.heap.get b
  wl : ∃ ws, S'.wl = ws ++ S.wl ∧ ∀ b ∈ ws, S.next ≤ b ∨ b ∈ W
theorem Fra.refl (W : List Nat) (S : Hp) : Fra W S S := ⟨Nat.le_refl _, fun _ _ _ => rfl, [], rfl, by simp⟩
theorem Fra.put {W : List Nat} {S S1 : Hp} (h : Fra W S S1) {b : Nat} (hb : S.next ≤ b ∨ b ∈ W) (o : Option Blk) : Fra W S (S1.put b o) := by
  obtain ⟨h1, h2, ws, h3, h4⟩ := h
  refine ⟨h1, fun c hc hn => ?_, b :: ws, by rw [Hp.put_wl, h3]; rfl, fun c hc => ?_⟩
  · rw [put_off (by intro e; subst e; rcases hb with hb | hb; omega; exact hn hb)]
    exact h2 c hc hn
  · rcases List.mem_cons.1 hc with rfl | hc
    · exact hb
    · exact h4 c hc
theorem Fra.add {W : List Nat} {S S1 : Hp} (h : Fra W S S1) (o : Blk) : Fra W S (S1.add o) := by
  obtain ⟨h1, h2, h3⟩ := h
  refine ⟨by rw [Hp.add_next]; omega, fun c hc hn => ?_, h3⟩
  rw [add_off (by omega)]
  exact h2 c hc hn
theorem Fra.trans {W W1 W2 : List Nat} {S S1 S2 : Hp} (h : Fra W1 S S1) (k : Fra W2 S1 S2) (hW1 : ∀ b ∈ W1, S.next ≤ b ∨ b ∈ W) (hW2 : ∀ b ∈ W2, S.next ≤ b ∨ b ∈ W) : Fra W S S2 := by
  obtain ⟨h1, h2, ws, h3, h4⟩ := h
  obtain ⟨k1, k2, vs, k3, k4⟩ := k
  refine ⟨Nat.le_trans h1 k1, fun c hc hn => ?_, vs ++ ws, by rw [k3, h3, List.append_assoc], fun c hc => ?_⟩
  · rw [k2 c (by omega) (fun hm => (hW2 c hm).elim (fun h => by omega) hn), h2 c hc (fun hm => (hW1 c hm).elim (fun h => by omega) hn)]
  · rcases List.mem_append.1 hc with hc | hc
    · rcases k4 c hc with h | h
      · exact .inl (by omega)
      · exact hW2 c h
    · rcases h4 c hc with h | h
      · exact .inl h
      · exact hW1 c h
theorem Fra.mono {W W' : List Nat} {S S' : Hp} (h : Fra W S S') (hW : ∀ b ∈ W, S.next ≤ b ∨ b ∈ W') : Fra W' S S' := h.trans (W2 := []) (Fra.refl _ _) hW (by simp)
theorem Fra.trans' {W : List Nat} {S S1 S2 : Hp} (h : Fra W S S1) (k : Fra W S1 S2) : Fra W S S2 := h.trans k (fun b hb => .inr hb) (fun b hb => .inr hb)
theorem Fra.at_ {W : List Nat} {S S' : Hp} (h : Fra W S S') {b : Nat} (hb : b < S.next) (hn : b ∉ W) {o : Option Blk} (k : S.heap.get b = o) : S'.heap.get b = o := by rw [h.heap b hb hn, k]

/-! ## Regions that draw -/
theorem D_pure (j : Nat) (ts : List (Nat × Touch)) (v : Value) (Ψ : Value → List (Nat × Touch) → Hp → Prop) : dstepP j ts (M.pure v) Ψ S = Ψ v ts S := by
  apply propext
  have e : keepT j { log := [], lo := S.next, hi := S.next } ts = ts := by unfold keepT; simp
  constructor
  · rintro ⟨w, s', h, k⟩
    cases h
    have k' : Ψ v (keepT j { log := [], lo := S.next, hi := S.next } ts) S := k
    rw [e] at k'; exact k'
  · intro k
    refine ⟨v, S.st, rfl, ?_⟩
    show Ψ v (keepT j { log := [], lo := S.next, hi := S.next } ts) S
    rw [e]; exact k
theorem D_ld (j b o : Nat) (ts : List (Nat × Touch)) (Ψ : Value → List (Nat × Touch) → Hp → Prop) : dstepP j ts (ld1 b o) Ψ S = rdP (S.heap.get b) (fun l => optP l[o]? (fun v => Ψ v ((j, ⟨[(b, false)], S.next, S.next⟩) :: ts) S)) := by
  apply propext
  have hb : S.st.heap.get b = S.heap.get b := rfl
  constructor
  · rintro ⟨v, s', h, k⟩
    simp only [ld1, M.bind, rd, hb] at h
    cases hg : S.heap.get b with
    | none => rw [hg] at h; cases h
    | some x =>
      rw [hg] at h
      cases x with
      | loop => cases h
      | map => cases h
      | iter => cases h
      | cells x s l =>
        simp only [M.lift] at h
        cases hl : l[o]? with
        | none => rw [hl] at h; cases h
        | some w => rw [hl] at h; cases h; simp only [rdP, hl, optP]; exact k
      | ro l =>
        simp only [M.lift] at h
        cases hl : l[o]? with
        | none => rw [hl] at h; cases h
        | some w => rw [hl] at h; cases h; simp only [rdP, hl, optP]; exact k
  · intro k
    cases hg : S.heap.get b with
    | none => rw [hg] at k; exact k.elim
    | some x =>
      rw [hg] at k
      cases x with
      | loop => exact k.elim
      | map => exact k.elim
      | iter => exact k.elim
      | cells x s l =>
        cases hl : l[o]? with
        | none => simp only [rdP, hl, optP] at k
        | some w =>
          simp only [rdP, hl, optP] at k
          exact ⟨w, { heap := S.heap, next := S.next, log := [(b, false)] }, by simp only [ld1, M.bind, rd, hb, hg, M.lift, hl]; rfl, k⟩
      | ro l =>
        cases hl : l[o]? with
        | none => simp only [rdP, hl, optP] at k
        | some w =>
          simp only [rdP, hl, optP] at k
          exact ⟨w, { heap := S.heap, next := S.next, log := [(b, false)] }, by simp only [ld1, M.bind, rd, hb, hg, M.lift, hl]; rfl, k⟩
theorem D_lds (j b o n : Nat) (ts : List (Nat × Touch)) (g : List Value → Value) (Ψ : Value → List (Nat × Touch) → Hp → Prop) : dstepP j ts ((ldCells b o n).bind fun c => M.pure (g c)) Ψ S = rdP (S.heap.get b) (fun l => condP (o + n ≤ l.length) (Ψ (g ((l.drop o).take n)) ((j, ⟨[(b, false)], S.next, S.next⟩) :: ts) S)) := by
  apply propext
  have hb : S.st.heap.get b = S.heap.get b := rfl
  constructor
  · rintro ⟨v, s', h, k⟩
    simp only [ldCells, M.bind, rd, hb] at h
    cases hg : S.heap.get b with
    | none => rw [hg] at h; cases h
    | some x =>
      rw [hg] at h
      cases x with
      | loop => cases h
      | map => cases h
      | iter => cases h
      | cells x s l =>
        by_cases hl : o + n ≤ l.length
        · simp only [if_pos hl, M.pure] at h; cases h; exact ⟨hl, k⟩
        · simp only [if_neg hl, M.fail] at h; cases h
      | ro l =>
        by_cases hl : o + n ≤ l.length
        · simp only [if_pos hl, M.pure] at h; cases h; exact ⟨hl, k⟩
        · simp only [if_neg hl, M.fail] at h; cases h
  · intro k
    cases hg : S.heap.get b with
    | none => rw [hg] at k; exact k.elim
    | some x =>
      rw [hg] at k
      cases x with
      | loop => exact k.elim
      | map => exact k.elim
      | iter => exact k.elim
      | cells x s l => exact ⟨g ((l.drop o).take n), { heap := S.heap, next := S.next, log := [(b, false)] }, by simp only [ldCells, M.bind, rd, hb, hg, if_pos k.1, M.pure]; rfl, k.2⟩
      | ro l => exact ⟨g ((l.drop o).take n), { heap := S.heap, next := S.next, log := [(b, false)] }, by simp only [ldCells, M.bind, rd, hb, hg, if_pos k.1, M.pure]; rfl, k.2⟩
theorem D_load1 (j b o : Nat) (x : Option Nat) (ts : List (Nat × Touch)) (Ψ : Value → List (Nat × Touch) → Hp → Prop) : dstepP j ts (X C (.load .one (.const (.pointer (some ⟨b, o, x⟩))))) Ψ S = rdP (S.heap.get b) (fun l => optP l[o]? (fun v => Ψ v ((j, ⟨[(b, false)], S.next, S.next⟩) :: ts) S)) := by
  rw [X_load1, D_ld]
theorem D_loadN (j n b o : Nat) (x : Option Nat) (ts : List (Nat × Touch)) (Ψ : Value → List (Nat × Touch) → Hp → Prop) : dstepP j ts (X C (.load (.agg n) (.const (.pointer (some ⟨b, o, x⟩))))) Ψ S = rdP (S.heap.get b) (fun l => condP (o + n ≤ l.length) (Ψ (.agg ⟨(l.drop o).take n⟩) ((j, ⟨[(b, false)], S.next, S.next⟩) :: ts) S)) := by
  rw [X_loadN]
  exact D_lds j b o n ts (fun c => .agg ⟨c⟩) Ψ
theorem dstepP_of_eq {j : Nat} {ts : List (Nat × Touch)} {m m' : M Value} (h : m = m') (Ψ : Value → List (Nat × Touch) → Hp → Prop) : dstepP j ts m Ψ S = dstepP j ts m' Ψ S := by rw [h]
theorem D_call (j : Nat) (ts : List (Nat × Touch)) (f : FuncId) {args : List Atom} {vs : List Value} (h : evs .leaf args = some vs) (Ψ : Value → List (Nat × Touch) → Hp → Prop) : dstepP j ts (X C (.call (.const (.func (.func f) ⟨[]⟩ ⟨[]⟩)) args)) Ψ S = dstepP j ts (C (.fn f) vs) Ψ S := by rw [X_call f args vs h]
theorem D_callF (j : Nat) (ts : List (Nat × Touch)) (f : FuncId) (a c : List Value) {args : List Atom} {vs : List Value} (h : evs .leaf args = some vs) (Ψ : Value → List (Nat × Touch) → Hp → Prop) : dstepP j ts (X C (.call (.const (.func (.func f) ⟨a⟩ ⟨c⟩)) args)) Ψ S = dstepP j ts (C (.fn f) (a ++ vs ++ c)) Ψ S := by rw [X_callF f a c args vs h]
/-- something that is known by what it brings, and by its frame -/
theorem D_spec {j : Nat} {ts : List (Nat × Touch)} {m : M Value} {W : List Nat} {Post : Value → Hp → Prop} {Ψ : Value → List (Nat × Touch) → Hp → Prop} (h : wp m (fun v S' => Fra W S S' ∧ Post v S') S)
    (k : ∀ v S' t, Fra W S S' → Post v S' → t.lo = S.next → t.hi = S'.next → (∀ b, (b, true) ∈ t.log → S.next ≤ b ∨ b ∈ W) → Ψ v (keepT j t ts) S') : dstepP j ts m Ψ S := by
  obtain ⟨v, s', h1, h2, h3⟩ := h
  refine ⟨v, s', h1, k v _ _ h2 h3 rfl rfl fun b hb => ?_⟩
  obtain ⟨ws, h4, h5⟩ := h2.wl
  have : wrs s'.log = ws := List.append_cancel_right h4
  exact h5 b (this ▸ wrs_mem hb)
theorem okP_in {b : Bool} {x : Hp → Prop} (h : b = true) (k : x S) : okP b x S := by subst h; exact k
theorem apart_keep {ms : List Nat} {j : Nat} {t : Touch} {ts : List (Nat × Touch)} (h1 : apartOne (ms.getD j 0) t ts = true) (h2 : apartAll ms ts = true) : apartAll ms (keepT j t ts) = true := by
  rcases keepT_or (j := j) (t := t) (ts := ts) with h | ⟨h, _⟩
  · rw [h]; simp only [apartAll, h1, h2, Bool.and_self]
  · rw [h]; exact h2
theorem apart_cons {ms : List Nat} {j : Nat} {t : Touch} {ts : List (Nat × Touch)} (h1 : apartOne (ms.getD j 0) t ts = true) (h2 : apartAll ms ts = true) : apartAll ms ((j, t) :: ts) = true := by
  simp only [apartAll, h1, h2, Bool.and_self]
theorem apart_nil {ms : List Nat} : apartAll ms [] = true := id rfl
theorem one_nil {m : Nat} {t : Touch} : apartOne m t [] = true := id rfl
def apt (a b : Touch) : Prop := hits a b = false ∧ hits b a = false
theorem one_cons {m i : Nat} {t u : Touch} {ts : List (Nat × Touch)} (h1 : m.testBit i = true ∨ apt t u) (h2 : apartOne m t ts = true) : apartOne m t ((i, u) :: ts) = true := by
  simp only [apartOne, h2, Bool.and_true, Bool.or_eq_true, Bool.and_eq_true, Bool.not_eq_true']
  exact h1
theorem one_keep {m i : Nat} {t u : Touch} {ts : List (Nat × Touch)} (h1 : m.testBit i = true ∨ apt t u) (h2 : apartOne m t ts = true) : apartOne m t (keepT i u ts) = true := by
  rcases keepT_or (j := i) (t := u) (ts := ts) with h | ⟨h, _⟩
  · rw [h]; exact one_cons h1 h2
  · rw [h]; exact h2
theorem apt.symm {a b : Touch} (h : apt a b) : apt b a := ⟨h.2, h.1⟩
/-- a read, and something that does not write there -/
theorem apt_read {b n : Nat} {t : Touch} (hb : b < t.lo) (hw : (b, true) ∉ t.log) : apt ⟨[(b, false)], n, n⟩ t := by
  constructor
  · unfold hits
    simp only [List.any_cons, List.any_nil, Bool.or_false]
    have h1 : Nat.ble t.lo b = false := by rw [Bool.eq_false_iff]; intro c; have := Nat.le_of_ble_eq_true c; omega
    rw [h1, Bool.false_and, Bool.false_or, List.any_eq_false]
    rintro ⟨x, c⟩ hy
    cases c with
    | false => simp
    | true => simp only [Bool.or_true, Bool.and_true, Bool.not_eq_true]; rw [Bool.eq_false_iff]; intro h2; have := Nat.eq_of_beq_eq_true h2; subst this; exact hw hy
  · unfold hits
    rw [List.any_eq_false]
    rintro ⟨x, c⟩ hx
    have h1 : (Nat.ble n x && Nat.blt x n) = false := by
      cases h : Nat.ble n x with
      | false => rfl
      | true =>
        cases h2 : Nat.blt x n with
        | false => rfl
        | true => have := Nat.le_of_ble_eq_true h; have h3 : x + 1 ≤ n := Nat.le_of_ble_eq_true h2; omega
    simp only [h1, Bool.false_or, List.any_cons, List.any_nil, Bool.or_false, Bool.not_eq_true]
    cases c with
    | false => simp
    | true => rw [Bool.and_true, Bool.eq_false_iff]; intro h2; have := Nat.eq_of_beq_eq_true h2; subst this; exact hw hx
theorem apt_reads {b c n m : Nat} : apt ⟨[(b, false)], n, n⟩ ⟨[(c, false)], m, m⟩ := ⟨hits_quiet ⟨rfl, by simp⟩ ⟨rfl, by simp⟩, hits_quiet ⟨rfl, by simp⟩ ⟨rfl, by simp⟩⟩

/-! ## Copying and appending -/
theorem W_firstN (size n b o : Nat) (x : Option Nat) (l c : Nat) (Ψ : List Value → Hp → Prop) : wp (firstN size n (.slice (some ⟨b, o, x⟩) l c)) Ψ S = rdP (S.heap.get b) (fun q => condP (o + n * size ≤ q.length) (Ψ ((q.drop o).take (n * size)) S)) := wp_ldCells b o (n * size) Ψ
theorem W_firstN0 (size n l c : Nat) (Ψ : List Value → Hp → Prop) : wp (firstN size n (.slice none l c)) Ψ S = Ψ [] S := wp_pure [] Ψ S
theorem W_firstNE (size : Nat) (Ψ : List Value → Hp → Prop) : wp (firstN size 0 (.chan none)) Ψ S = Ψ [] S := by
  have : firstN size 0 (.chan none) = M.pure [] := by simp [firstN]
  rw [this, wp_pure]
theorem W_firstNS (n : Nat) (s : ByteArray) (Ψ : List Value → Hp → Prop) : wp (firstN 1 n (.string s)) Ψ S = Ψ ((s.data.toList.take n).map fun b => .int .u8 b.toNat) S := by
  have : firstN 1 n (.string s) = M.pure ((s.data.toList.take n).map fun b => .int .u8 b.toNat) := by simp [firstN]
  rw [this, wp_pure]
theorem lg_copy (size n b o : Nat) (s : Value) (dl : Nat) : Lg ((firstN size n s).bind fun cs => (stCells b o cs).bind fun _ => M.pure (.int .i64 (dl : Nat) : Value)) := Lg.bind (Lg.firstN _ _ _) fun _ => Lg.bind (Lg.stCells _ _ _) fun _ => Lg.pure _
theorem P_copy (size b o : Nat) (dl dc : Nat) {s : Value} {sl : Nat} (hs : lenOf s = some sl) : wp (X C (.copy size (.const (.slice (some ⟨b, o, none⟩) dl dc)) (.const s))) Φ S =
    wp (firstN size (Min.min sl dl) s) (fun cs S => wp (stCells b o cs) (fun _ S => Φ (.int .i64 (Min.min sl dl : Nat)) S) S) S := by
  have e : X C (.copy size (.const (.slice (some ⟨b, o, none⟩) dl dc)) (.const s)) = (firstN size (Min.min sl dl) s).bind fun cs => (stCells b o cs).bind fun _ => M.pure (.int .i64 (Min.min sl dl : Nat)) := by
    funext S
    simp only [X, exec, M.bind, M.lift, Atom.ev, hs]
  rw [e, wp_bind (Lg.firstN _ _ _) (fun _ => Lg.bind (Lg.stCells _ _ _) fun _ => Lg.pure _)]
  congr 1
  funext cs S
  rw [wp_bind (Lg.stCells _ _ _) (fun _ => Lg.pure _)]
  simp only [wp_pure]
theorem X_app (size bytes : Nat) (t : TypeId) (s x : Value) : X C (.app size bytes t (.const s) (.const x)) = appendA size bytes s x := by
  funext S
  simp only [X, exec, M.bind, M.lift, Atom.ev]
  cases appendA size bytes s x S <;> rfl
theorem P_app_fit (size bytes : Nat) (t : TypeId) (b o sl sc : Nat) {x : Value} {n : Nat} (hx : lenOf x = some n) (h : sl + n ≤ sc) : wp (X C (.app size bytes t (.const (.slice (some ⟨b, o, none⟩) sl sc)) (.const x))) Φ S =
    wp (firstN size n x) (fun new S => wp (stCells b (o + sl * size) new) (fun _ S => Φ (.slice (some ⟨b, o, none⟩) (sl + n) sc) S) S) S := by
  have e : appendA size bytes (.slice (some ⟨b, o, none⟩) sl sc) x = (firstN size n x).bind fun new => (stCells b (o + sl * size) new).bind fun _ => M.pure (.slice (some ⟨b, o, none⟩) (sl + n) sc) := by
    funext S
    simp only [appendA, hx, M.bind, M.lift, if_pos h, putA]
  rw [X_app, e, wp_bind (Lg.firstN _ _ _) (fun _ => Lg.bind (Lg.stCells _ _ _) fun _ => Lg.pure _)]
  congr 1
  funext cs S
  rw [wp_bind (Lg.stCells _ _ _) (fun _ => Lg.pure _)]
  simp only [wp_pure]
theorem P_app_nil0 (size bytes : Nat) (t : TypeId) {x : Value} (hx : lenOf x = some 0) : wp (X C (.app size bytes t (.const (.slice none 0 0)) (.const x))) Φ S = wp (firstN size 0 x) (fun _ S => Φ (.slice none 0 0) S) S := by
  have e : appendA size bytes (.slice none 0 0) x = (firstN size 0 x).bind fun _ => M.pure (.slice none 0 0) := by
    funext S
    simp only [appendA, hx, M.bind, M.lift, putA, Nat.add_zero, Nat.le_refl, if_true]
  rw [X_app, e, wp_bind (Lg.firstN _ _ _) (fun _ => Lg.pure _)]
  simp only [wp_pure]
/-- onto an empty slice that is not nil -/
theorem P_app_tok0 (size bytes : Nat) (t : TypeId) {x : Value} (hx : lenOf x = some 0) : wp (X C (.app size bytes t (.const (.chan none)) (.const x))) Φ S = wp (firstN size 0 x) (fun _ S => Φ (.chan none) S) S := by
  have e : appendA size bytes (.chan none) x = (firstN size 0 x).bind fun _ => M.pure (.chan none) := by
    funext S
    simp only [appendA, hx, M.bind, M.lift, if_true]
  rw [X_app, e, wp_bind (Lg.firstN _ _ _) (fun _ => Lg.pure _)]
  simp only [wp_pure]
theorem P_app_tok (size bytes : Nat) (t : TypeId) {x : Value} {n : Nat} (hx : lenOf x = some n) (hn : 0 < n) (hok : 2 * (n * bytes) ≤ 281474976710656 ∧ bytes ≠ 0 ∧ size ≠ 0) : wp (X C (.app size bytes t (.const (.chan none)) (.const x))) Φ S =
    wp (firstN size n x) (fun new S => condP (new.all (·.oneCell') = true) (Φ (.slice (some ⟨S.next, 0, none⟩) n n) (S.add (.cells (some size) false new)))) S := by
  have e : appendA size bytes (.chan none) x = (firstN size n x).bind fun new => if new.all (·.oneCell') = true then (nw (.cells (some size) false new)).bind fun nb => M.pure (.slice (some ⟨nb, 0, none⟩) n n) else M.fail := by
    funext S
    have h1 : ¬ n = 0 := by omega
    have h2 : 2 * ((0 + n) * bytes) ≤ 281474976710656 ∧ bytes ≠ 0 ∧ size ≠ 0 := by rw [Nat.zero_add]; exact hok
    simp only [appendA, hx, M.bind, M.lift, if_neg h1, growA, if_pos h2, and_self, if_true]
  have lg : ∀ new : List Value, Lg (if new.all (·.oneCell') = true then (nw (.cells (some size) false new)).bind fun nb => M.pure (.slice (some ⟨nb, 0, none⟩) n n : Value) else M.fail) := fun new => Lg.ite (Lg.bind (Lg.nw _) fun _ => Lg.pure _) Lg.fail
  rw [X_app, e, wp_bind (Lg.firstN _ _ _) lg]
  congr 1
  funext new S
  by_cases h : new.all (·.oneCell') = true
  · rw [if_pos h, wp_nwp]; simp only [condP, h, true_and]
  · rw [if_neg h, wp_fail]; exact propext ⟨False.elim, fun k => h k.1⟩
/-- a new block for what grows -/
theorem P_app_nil (size bytes : Nat) (t : TypeId) {x : Value} {n : Nat} (hx : lenOf x = some n) (hn : 0 < n) (hok : 2 * (n * bytes) ≤ 281474976710656 ∧ bytes ≠ 0 ∧ size ≠ 0) : wp (X C (.app size bytes t (.const (.slice none 0 0)) (.const x))) Φ S =
    wp (firstN size n x) (fun new S => condP (new.all (·.oneCell') = true) (Φ (.slice (some ⟨S.next, 0, none⟩) n n) (S.add (.cells (some size) false new)))) S := by
  have e : appendA size bytes (.slice none 0 0) x = (firstN size n x).bind fun new => if new.all (·.oneCell') = true then (nw (.cells (some size) false new)).bind fun nb => M.pure (.slice (some ⟨nb, 0, none⟩) n n) else M.fail := by
    funext S
    have h1 : ¬ 0 + n ≤ 0 := by omega
    have h2 : 2 * ((0 + n) * bytes) ≤ 281474976710656 ∧ bytes ≠ 0 ∧ size ≠ 0 := by rw [Nat.zero_add]; exact hok
    simp only [appendA, hx, M.bind, M.lift, if_neg h1, growA, if_pos h2, and_self, if_true]
  have lg : ∀ new : List Value, Lg (if new.all (·.oneCell') = true then (nw (.cells (some size) false new)).bind fun nb => M.pure (.slice (some ⟨nb, 0, none⟩) n n : Value) else M.fail) := fun new => Lg.ite (Lg.bind (Lg.nw _) fun _ => Lg.pure _) Lg.fail
  rw [X_app, e, wp_bind (Lg.firstN _ _ _) lg]
  congr 1
  funext new S
  by_cases h : new.all (·.oneCell') = true
  · rw [if_pos h, wp_nwp]; simp only [condP, h, true_and]
  · rw [if_neg h, wp_fail]; exact propext ⟨False.elim, fun k => h k.1⟩
theorem P_app_own (size bytes : Nat) (t : TypeId) (b o sl sc : Nat) {x : Value} {n : Nat} (hx : lenOf x = some n) (hn : sc < sl + n) (hok : 2 * ((sl + n) * bytes) ≤ 281474976710656 ∧ bytes ≠ 0 ∧ size ≠ 0) {s : Bool} {c : List Value} (hb : S.heap.get b = some (.cells none s c)) (hc : o + sl * size ≤ c.length)
    {new : List Value} (hf : ∀ Ψ : List Value → Hp → Prop, wp (firstN size n x) Ψ S = Ψ new S) (hnew : new.all (·.oneCell') = true) : wp (X C (.app size bytes t (.const (.slice (some ⟨b, o, none⟩) sl sc)) (.const x))) Φ S =
    Φ (.slice (some ⟨S.next, 0, none⟩) (sl + n) (sl + n)) (S.add (.cells (some size) false ((c.drop o).take (sl * size) ++ new))) := by
  have h1 : ¬ sl + n ≤ sc := by omega
  have e : appendA size bytes (.slice (some ⟨b, o, none⟩) sl sc) x = growA size bytes (some ⟨b, o, none⟩) sl sc n (firstN size n x) := by
    funext S
    simp only [appendA, hx, M.bind, M.lift, if_neg h1]
  rw [X_app, e]
  unfold growA
  rw [if_pos hok, wp_bind (Lg.firstN _ _ _) (fun new => Lg.ite (by
    refine Lg.bind (Lg.rd _) fun o => ?_
    cases o with
    | loop => exact Lg.fail
    | map => exact Lg.fail
    | iter => exact Lg.fail
    | ro => exact Lg.fail
    | cells x t c =>
      refine Lg.ite ?_ Lg.fail
      cases x with
      | none => exact Lg.bind (Lg.nw _) fun _ => Lg.pure _
      | some z => exact Lg.ite (Lg.bind (Lg.wr _ _) fun _ => Lg.bind (Lg.nw _) fun _ => Lg.pure _) Lg.fail) Lg.fail), hf, if_pos hnew]
  dsimp only
  rw [wp_bind (Lg.rd _) (fun o => by
    cases o with
    | loop => exact Lg.fail
    | map => exact Lg.fail
    | iter => exact Lg.fail
    | ro => exact Lg.fail
    | cells x t c =>
      refine Lg.ite ?_ Lg.fail
      cases x with
      | none => exact Lg.bind (Lg.nw _) fun _ => Lg.pure _
      | some z => exact Lg.ite (Lg.bind (Lg.wr _ _) fun _ => Lg.bind (Lg.nw _) fun _ => Lg.pure _) Lg.fail), wp_rd, hb, optP_some]
  dsimp only
  rw [if_pos hc, wp_nwp]
theorem P_app_ext (size bytes : Nat) (t : TypeId) (b o sl sc : Nat) {x : Value} {n : Nat} (hx : lenOf x = some n) (hn : sc < sl + n) (hok : 2 * ((sl + n) * bytes) ≤ 281474976710656 ∧ bytes ≠ 0 ∧ size ≠ 0) {s : Bool} {c : List Value} (hb : S.heap.get b = some (.cells (some size) s c)) (hc : o + sl * size ≤ c.length) (hw : c.length ≤ o + (sl + n) * size)
    {new : List Value} (hf : ∀ Ψ : List Value → Hp → Prop, wp (firstN size n x) Ψ S = Ψ new S) (hnew : new.all (·.oneCell') = true) : wp (X C (.app size bytes t (.const (.slice (some ⟨b, o, none⟩) sl sc)) (.const x))) Φ S =
    Φ (.slice (some ⟨S.next, 0, none⟩) (sl + n) (sl + n)) ((S.put b none).add (.cells (some size) s ((c.drop o).take (sl * size) ++ new))) := by
  have h1 : ¬ sl + n ≤ sc := by omega
  have e : appendA size bytes (.slice (some ⟨b, o, none⟩) sl sc) x = growA size bytes (some ⟨b, o, none⟩) sl sc n (firstN size n x) := by
    funext S
    simp only [appendA, hx, M.bind, M.lift, if_neg h1]
  rw [X_app, e]
  unfold growA
  rw [if_pos hok, wp_bind (Lg.firstN _ _ _) (fun new => Lg.ite (by
    refine Lg.bind (Lg.rd _) fun o => ?_
    cases o with
    | loop => exact Lg.fail
    | map => exact Lg.fail
    | iter => exact Lg.fail
    | ro => exact Lg.fail
    | cells x t c =>
      refine Lg.ite ?_ Lg.fail
      cases x with
      | none => exact Lg.bind (Lg.nw _) fun _ => Lg.pure _
      | some z => exact Lg.ite (Lg.bind (Lg.wr _ _) fun _ => Lg.bind (Lg.nw _) fun _ => Lg.pure _) Lg.fail) Lg.fail), hf, if_pos hnew]
  dsimp only
  rw [wp_bind (Lg.rd _) (fun o => by
    cases o with
    | loop => exact Lg.fail
    | map => exact Lg.fail
    | iter => exact Lg.fail
    | ro => exact Lg.fail
    | cells x t c =>
      refine Lg.ite ?_ Lg.fail
      cases x with
      | none => exact Lg.bind (Lg.nw _) fun _ => Lg.pure _
      | some z => exact Lg.ite (Lg.bind (Lg.wr _ _) fun _ => Lg.bind (Lg.nw _) fun _ => Lg.pure _) Lg.fail), wp_rd, hb, optP_some]
  dsimp only
  rw [if_pos hc, if_pos ⟨rfl, (withinL_iff _ _).2 hw⟩, wp_bind (Lg.wr _ _) (fun _ => Lg.bind (Lg.nw _) fun _ => Lg.pure _), wp_wr, wp_nwp]
  rfl

/-! ## Ranges over functions -/
theorem R_range (ps : List Nat) (as bd : ACode) (f : FuncId) (a c : List Value) (env : Env) (kN : Hp → Prop) (kX : Ext → Hp → Prop) : rangeP C ps as bd (some (.func (.func f) ⟨a⟩ ⟨c⟩)) env kN kX S =
    ∀ e', Le env e' → wp (C (.fn f) (a ++ [.func (.yield S.next) #[] #[]] ++ c)) (fun _ S2 => ∃ ps' as' bd' e2 p, S2.heap.get S.next = some (.loop ps' as' bd' e2 p) ∧ (match p with | none => kN (S2.put S.next none) | some x => kX x (S2.put S.next none))) (S.add (.loop ps as bd e' none)) := id rfl
end Go.Wb
end
/- The engine, part X: what is touched is there. -/
section
set_option linter.unusedSimpArgs false
set_option linter.unusedVariables false
set_option linter.unusedSectionVars false
namespace Go.Wb
variable {α β : Type}
def wfS (z : Nat → Prop) (S : St) : Prop := (∀ b, z b → b < S.next) ∧ ∀ b o, S.heap.get b = some o → b < S.next ∧ ¬ z b
/-- what is touched is there, and not in a hole; q: blocks that are known to be there -/
def BdX (z q : Nat → Prop) (m : M α) : Prop := ∀ S a S', (∀ b, q b → b < S.next ∧ ¬ z b) → wfS z S → m S = some (a, S') → wfS z S' ∧ ∃ D : List (Nat × Bool), S'.log = D ++ S.log ∧ S.next ≤ S'.next ∧ ∀ x ∈ D, x.1 < S'.next ∧ ¬ z x.1
def Bd (m : M α) : Prop := ∀ z, BdX z (fun _ => False) m
variable {z q : Nat → Prop}
theorem lt2 {z : Nat → Prop} {b n m : Nat} (h : b < n ∧ ¬ z b) (k : n ≤ m) : b < m ∧ ¬ z b := ⟨Nat.lt_of_lt_of_le h.1 k, h.2⟩
theorem Bd.toX {m : M α} (h : Bd m) : BdX z q m := fun S a S' _ hw k => h z S a S' (fun _ h => h.elim) hw k
theorem BdX.pure (a : α) : BdX z q (M.pure a) := by intro S b S' _ hw h; cases h; exact ⟨hw, [], rfl, Nat.le_refl _, by simp⟩
theorem BdX.fail : BdX z q (M.fail : M α) := by intro S b S' _ _ h; cases h
theorem BdX.lift (o : Option α) : BdX z q (M.lift o) := by cases o with | none => exact BdX.fail | some a => exact BdX.pure a
theorem BdX.rd (b : Nat) : BdX z q (rd b) := by
  intro S o S' hq hw h
  unfold Wb.rd at h
  cases hb : S.heap.get b with
  | none => rw [hb] at h; cases h
  | some p => rw [hb] at h; cases h; exact ⟨hw, [(b, false)], rfl, Nat.le_refl _, fun x hx => by
    have : x = (b, false) := by simpa using hx
    subst this; exact hw.2 b _ hb⟩
theorem BdX.wr {b : Nat} (hb : q b) (o : Option Blk) : BdX z q (wr b o) := by
  intro S u S' hq hw h
  cases h
  refine ⟨⟨hw.1, fun c o' hc => ?_⟩, [(b, true)], rfl, Nat.le_refl _, fun x hx => by
    have : x = (b, true) := by simpa using hx
    subst this; exact hq b hb⟩
  simp only [Tr.get_set] at hc
  split at hc
  · rename_i e; subst e; exact hq _ hb
  · exact hw.2 c o' hc
theorem BdX.nw (o : Blk) : BdX z q (nw o) := by
  intro S u S' hq hw h
  cases h
  refine ⟨⟨fun c hc => Nat.lt_succ_of_lt (hw.1 c hc), fun c o' hc => ?_⟩, [], rfl, Nat.le_succ _, by simp⟩
  simp only [Tr.get_set] at hc
  split at hc
  · rename_i e; subst e; exact ⟨Nat.lt_succ_self _, fun hz => Nat.lt_irrefl _ (hw.1 _ hz)⟩
  · exact lt2 (hw.2 c o' hc) (Nat.le_succ _)
theorem BdX.bind {m : M α} {f : α → M β} (hm : BdX z q m) (hf : ∀ a, BdX z q (f a)) : BdX z q (m.bind f) := by
  intro S b S' hq hw h
  simp only [M.bind] at h
  cases hx : m S with
  | none => rw [hx] at h; cases h
  | some p =>
    obtain ⟨a, S1⟩ := p
    rw [hx] at h
    obtain ⟨a0, D1, a1, a2, a3⟩ := hm S a S1 hq hw hx
    obtain ⟨b0, D2, b1, b2, b3⟩ := hf a _ b S' (fun b hb => lt2 (hq b hb) a2) a0 h
    refine ⟨b0, D2 ++ D1, by rw [b1, a1, List.append_assoc], Nat.le_trans a2 b2, fun x hx => ?_⟩
    rcases List.mem_append.1 hx with hx | hx
    · exact b3 x hx
    · exact lt2 (a3 x hx) b2
theorem BdX.ite {c : Prop} [Decidable c] {a b : M α} (ha : BdX z q a) (hb : BdX z q b) : BdX z q (if c then a else b) := by split <;> assumption
theorem BdX.rdb {b : Nat} {f : Blk → M α} (h1 : ∀ o, o.isRo = false → BdX z (fun i => q i ∨ i = b) (f o)) (h2 : ∀ c, BdX z q (f (.ro c))) : BdX z q ((Wb.rd b).bind f) := by
  intro S a S' hq hw h
  simp only [M.bind, Wb.rd] at h
  cases hb : S.heap.get b with
  | none => rw [hb] at h; cases h
  | some o =>
    rw [hb] at h
    simp only at h
    have hbn := hw.2 b o hb
    have fin : ∀ q' : Nat → Prop, (∀ c, q' c → c < S.next ∧ ¬ z c) → BdX z q' (f o) → wfS z S' ∧ ∃ D : List (Nat × Bool), S'.log = D ++ S.log ∧ S.next ≤ S'.next ∧ ∀ x ∈ D, x.1 < S'.next ∧ ¬ z x.1 := by
      intro q' hq' hf
      obtain ⟨a0, D, a1, a2, a3⟩ := hf ({ heap := S.heap, next := S.next, log := (b, false) :: S.log } : St) a S' hq' hw h
      refine ⟨a0, D ++ [(b, false)], by rw [a1]; simp, a2, fun x hx => ?_⟩
      rcases List.mem_append.1 hx with hx | hx
      · exact a3 x hx
      · have : x = (b, false) := by simpa using hx
        subst this
        exact lt2 hbn a2
    by_cases ho : o.isRo = true
    · cases o with
      | cells => cases ho
      | loop => cases ho
      | map => cases ho
      | iter => cases ho
      | ro c0 => exact fin q hq (h2 c0)
    · exact fin _ (fun c hc => hc.elim (hq c) (fun e => e ▸ hbn)) (h1 o (by simpa using ho))
theorem BdX.ldCells (b off n : Nat) : BdX z q (ldCells b off n) := .bind (.rd b) fun o => by
  cases o <;> first | exact .fail | exact .ite (.pure _) .fail
theorem BdX.ld1 (b off : Nat) : BdX z q (ld1 b off) := .bind (.rd b) fun o => by
  cases o <;> first | exact .fail | exact .lift _
theorem BdX.stCells (b off : Nat) (vs : List Value) : BdX z q (stCells b off vs) := .rdb (fun o ho => by
  cases o <;> first | exact .fail | exact .ite (.wr (.inr rfl) _) .fail) fun c => .fail
theorem BdX.firstN (size n : Nat) (v : Value) : BdX z q (firstN size n v) := by
  unfold Wb.firstN
  split
  · exact .ldCells _ _ _
  · exact .pure _
  · exact .ite (.pure _) .fail
  · exact .ite (.pure _) .fail
  · exact .fail
theorem BdX.putA (size : Nat) (base : Option Addr) (sLen sCap n : Nat) {news : M (List Value)} (h : BdX z q news) : BdX z q (putA size base sLen sCap n news) := by
  refine .bind h fun new => ?_
  cases base with
  | none => exact .ite (.pure _) .fail
  | some a => exact .bind (.stCells _ _ _) fun _ => .pure _
theorem BdX.growA (size bytes : Nat) (base : Option Addr) (sLen sCap n : Nat) {news : M (List Value)} (h : BdX z q news) : BdX z q (growA size bytes base sLen sCap n news) := by
  refine .ite (.bind h fun new => .ite ?_ .fail) .fail
  cases base with
  | none => exact .ite (.bind (.nw _) fun _ => .pure _) .fail
  | some a =>
    refine .rdb (fun o ho => ?_) fun c => .fail
    cases o <;> try exact .fail
    refine .ite ?_ .fail
    rename_i x t c
    cases x with
    | none => exact .bind (.nw _) fun _ => .pure _
    | some z => exact .ite (.bind (.wr (.inr rfl) _) fun _ => .bind (.nw _) fun _ => .pure _) .fail
theorem BdX.appendA (size bytes : Nat) (s x : Value) : BdX z q (appendA size bytes s x) := by
  unfold Wb.appendA
  split
  · exact .bind (.lift _) fun n => .ite (.putA _ _ _ _ _ (.firstN _ _ _)) (.growA _ _ _ _ _ _ (.firstN _ _ _))
  · exact .bind (.lift _) fun n => .ite (.bind (.firstN _ _ _) fun _ => .pure _) (.growA _ _ _ _ _ _ (.firstN _ _ _))
  · exact .fail
theorem BdX.appendZ (size bytes : Nat) (zz : List Value) (s x : Value) : BdX z q (appendZ size bytes zz s x) := by
  unfold Wb.appendZ
  split
  · exact .ite (.ite (.putA _ _ _ _ _ (.pure _)) (.growA _ _ _ _ _ _ (.pure _))) .fail
  · exact .fail
section
variable {call : Tgt → List Value → M Value} (hcall : ∀ t a, Bd (call t a))
include hcall
set_option maxHeartbeats 2000000 in
theorem BdX.exec (e : Env) (op : AOp) : BdX z q (exec call e op) := by
  cases op
  all_goals unfold Wb.exec
  all_goals repeat' (first
    | exact BdX.pure _
    | exact BdX.fail
    | exact BdX.lift _
    | exact BdX.nw _
    | exact BdX.ldCells _ _ _
    | exact BdX.ld1 _ _
    | exact BdX.stCells _ _ _
    | exact BdX.firstN _ _ _
    | exact BdX.appendA _ _ _ _
    | exact BdX.appendZ _ _ _ _ _
    | exact (hcall _ _).toX
    | exact BdX.wr (.inr rfl) _
    | refine BdX.rdb (fun o ho => ?_) (fun c => ?_)
    | refine BdX.bind ?_ (fun _ => ?_)
    | refine BdX.ite ?_ ?_
    | split
    | (rename_i o ho; cases o))
theorem BdX.instr (i : AInstr) (e : Env) : BdX z q (instr call i e) := by
  unfold Wb.instr
  split
  · exact .bind (.exec hcall _ _) fun _ => .pure _
  · exact .bind (.lift _) fun b => .ite (.bind (.exec hcall _ _) fun _ => .pure _) (.pure _)
theorem BdX.instrs : ∀ (l : List AInstr) (e : Env), BdX z q (instrs call l e)
  | [], e => .pure _
  | i :: r, e => .bind (.instr hcall i e) fun e' => BdX.instrs r e'
theorem BdX.drawnGo : ∀ (l : List AInstr) (n : Nat) (e : Env) (ts : List (Nat × Touch)), BdX z q (drawnGo call l n e ts)
  | [], n, e, ts => .pure _
  | i :: r, n, e, ts => by
    intro S a S' hq hw h
    simp only [Wb.drawnGo] at h
    cases h1 : Wb.instr call i e { heap := S.heap, next := S.next, log := [] } with
    | none => simp [h1] at h
    | some p =>
      obtain ⟨e', s'⟩ := p
      rw [h1] at h
      obtain ⟨a0, D1, a1, a2, a3⟩ := BdX.instr (z := z) (q := q) hcall i e ({ heap := S.heap, next := S.next, log := [] } : St) (e') s' hq hw h1
      obtain ⟨b0, D2, b1, b2, b3⟩ := BdX.drawnGo r _ _ _ ({ heap := s'.heap, next := s'.next, log := s'.log ++ S.log } : St) a S' (fun b hb => lt2 (hq b hb) a2) a0 h
      simp only [List.append_nil] at a1
      refine ⟨b0, D2 ++ D1, by rw [b1, a1, List.append_assoc], Nat.le_trans a2 b2, fun x hx => ?_⟩
      rcases List.mem_append.1 hx with hx | hx
      · exact b3 x hx
      · exact lt2 (a3 x hx) b2
theorem BdX.drawnA (l : List AInstr) (ps : List Nat) (e : Env) : BdX z q (drawnA call l ps e) := .bind (.drawnGo hcall l 0 e []) fun r => .ite (.pure _) .fail
omit hcall in
theorem BdX.iter {body : Env → M (Ext × Env)} (h : ∀ e, BdX z q (body e)) : ∀ (n : Nat) (e : Env), BdX z q (iter body n e)
  | 0, e => .fail
  | n + 1, e => .bind (h e) fun r => by
    split
    · exact BdX.iter h n _
    · exact .pure _
theorem BdX.run (fuel : Nat) : ∀ (c : ACode) (e : Env), BdX z q (run call fuel c e)
  | .skip, e => .pure _
  | .ops l, e => .bind (.instrs hcall l e) fun _ => .pure _
  | .drawn l ps, e => .bind (.drawnA hcall l ps e) fun _ => .pure _
  | .seq a b, e => .bind (BdX.run fuel a e) fun r => by
    split
    · exact BdX.run fuel b _
    · exact .pure _
  | .cond c a b, e => .bind (.lift _) fun t => by
    split
    · exact BdX.run fuel a e
    · exact BdX.run fuel b e
  | .block id a, e => .bind (BdX.run fuel a e) fun r => by
    split
    · exact .ite (.pure _) (.pure _)
    · exact .pure _
  | .loop a, e => .iter (fun e => BdX.run fuel a e) fuel e
  | .range f ps a b, e => .bind (.lift _) fun g => .bind (.nw _) fun l => .bind (.lift _) fun t => .bind (hcall _ _).toX fun _ => .rdb (fun o ho => by
    split
    · refine .bind (.wr (.inr rfl) _) fun _ => ?_
      split
      · exact .pure _
      · exact .pure _
    · exact .fail) fun c => .fail
  | .exit id, e => .pure _
  | .ret, e => .pure _
end
theorem BdX.resV (e : Env) (a : ARes) : BdX z q (resV e a) := by
  cases a with
  | tmp t => exact .lift _
  | cell t sh =>
    refine .bind (.lift _) fun x => ?_
    split
    · split
      · exact .ld1 _ _
      · exact .bind (.ldCells _ _ _) fun _ => .pure _
    · exact .fail
theorem BdX.resAll (e : Env) : ∀ l : List ARes, BdX z q (resAll e l)
  | [] => .pure _
  | r :: rs => .bind (.resV e r) fun v => .bind (BdX.resAll e rs) fun l => .pure _
theorem BdX.chkS (own : Bool) (b : Nat) : BdX z q (chkS own b) := by
  refine .bind (.rd _) fun o => ?_
  split
  · exact .pure _
  · exact .ite .fail (.pure _)
  · exact .fail
theorem BdX.chkC (size : Nat) (base : Option Addr) : BdX z q (chkC size base) := by
  unfold Wb.chkC
  split
  · exact .pure _
  · refine .bind (.rd _) fun o => ?_
    split
    · exact .ite (.pure _) .fail
    · exact .fail
theorem BdX.insG (size bytes : Nat) (a : Addr) (n c i : Nat) {news : M (List Value)} (h : BdX z q news) : BdX z q (insG size bytes a n c i news) :=
  .ite (.ite (.putA _ _ _ _ _ h) (.growA _ _ _ _ _ _ h)) .fail
theorem BdX.insA (size bytes : Nat) (base : Option Addr) (n c : Nat) (i : Int) (xb : Option Addr) (xc : Nat) : BdX z q (insA size bytes base n c i xb xc) := by
  refine .ite (.ite (.bind (.chkC _ _) fun _ => .appendA _ _ _ _) ?_) .fail
  split
  · exact .ite (.bind (.chkS _ _) fun _ => .bind (.chkS _ _) fun _ => .insG _ _ _ _ _ _ (.bind (.ldCells _ _ _) fun _ => .bind (.ldCells _ _ _) fun _ => .pure _)) .fail
  · exact .fail
theorem BdX.insS (size bytes : Nat) (s : Value) (i : Int) (xb : Option Addr) (xc : Nat) : BdX z q (insS size bytes s i xb xc) := by
  unfold Wb.insS
  split
  · exact .insA _ _ _ _ _ _ _ _
  · exact .ite (.appendA _ _ _ _) .fail
  · exact .fail
theorem BdX.extA (k : XK) (args : List Value) : BdX z q (extA k args) := by
  unfold Wb.extA
  split
  · exact .pure _
  · split
    · refine .ite (.pure _) (.bind (.rd _) fun x => .bind (.rd _) fun y => ?_)
      split
      · exact .pure _
      · exact .fail
    · exact .pure _
  · exact .insS _ _ _ _ _ _
  · exact .pure _
  · exact .pure _
  · exact .ite (.pure _) .fail
  · exact .ite .fail (.bind (.ldCells _ _ _) fun _ => .bind (.lift _) fun _ => .ite .fail (.pure _))
  · exact .bind (.stCells _ _ _) fun _ => .bind (.rd _) fun _ => .pure _
  · exact .fail
theorem BdX.callN (F : Nat → Option AFn) : ∀ (n : Nat) (t : Tgt) (args : List Value), Bd (callN F n t args)
  | 0, t, args => by intro z; unfold Wb.callN; exact BdX.fail
  | n + 1, .fn f, args => by
    intro z
    unfold Wb.callN
    split
    · exact BdX.fail
    · exact BdX.extA _ _
    · exact BdX.lift _
    · refine BdX.ite (BdX.bind (BdX.run (BdX.callN F n) _ _ _) fun r => ?_) BdX.fail
      split
      · exact BdX.fail
      · refine BdX.bind (BdX.resAll _ _) fun vs => ?_
        split <;> exact BdX.pure _
  | n + 1, .yield l, args => by
    intro z
    unfold Wb.callN
    refine BdX.rdb (fun o ho => ?_) fun c => BdX.fail
    split
    · refine BdX.ite (BdX.bind (BdX.wr (.inr rfl) _) fun _ => BdX.bind (BdX.run (BdX.callN F n) _ _ _) fun r => ?_) BdX.fail
      split
      · refine BdX.bind (BdX.run (BdX.callN F n) _ _ _) fun r => ?_
        split
        · exact BdX.bind (BdX.wr (.inr rfl) _) fun _ => BdX.pure _
        · exact BdX.bind (BdX.wr (.inr rfl) _) fun _ => BdX.pure _
      · exact BdX.fail
    · exact BdX.fail
/-! ## Heaps in which what is there is below -/
def WF (S : Hp) : Prop := ∀ b o, S.heap.get b = some o → b < S.next
theorem WF.put {S : Hp} (h : WF S) {b : Nat} (hb : b < S.next) (o : Option Blk) : WF (S.put b o) := by
  intro c o' hc
  rw [Hp.put_get] at hc
  split at hc
  · rename_i e; subst e; exact hb
  · exact h c o' hc
theorem WF.add {S : Hp} (h : WF S) (o : Blk) : WF (S.add o) := by
  intro c o' hc
  rw [Hp.add_get] at hc
  split at hc
  · rename_i e; subst e; exact Nat.lt_succ_self _
  · exact Nat.lt_succ_of_lt (h c o' hc)
theorem WF.st {S : Hp} (h : WF S) : wfS (fun _ => False) S.st := ⟨fun _ h => h.elim, fun b o hb => ⟨h b o hb, id⟩⟩
theorem wp_wf {m : M α} (hm : Bd m) {Φ : α → Hp → Prop} {S : Hp} (hW : WF S) (h : wp m (fun v S' => WF S' → Φ v S') S) : wp m Φ S := by
  obtain ⟨a, S', h1, h2⟩ := h
  exact ⟨a, S', h1, h2 fun b o hb => ((hm (fun _ => False) S.st a S' (fun _ h => h.elim) hW.st h1).1.2 b o hb).1⟩
theorem call_wf {F : Nat → Option AFn} {n : Nat} {t : Tgt} {args : List Value} {Φ : Value → Hp → Prop} {S : Hp} (hW : WF S) (h : wp (callN F n t args) (fun v S' => WF S' → Φ v S') S) : wp (callN F n t args) Φ S := wp_wf (BdX.callN F n t args) hW h
/-- D_spec, and what is touched is there -/
theorem D_specW {j : Nat} {ts : List (Nat × Touch)} {m : M Value} (hm : Bd m) {S : Hp} (hW : WF S) {W : List Nat} {Post : Value → Hp → Prop} {Ψ : Value → List (Nat × Touch) → Hp → Prop} (h : wp m (fun v S' => Fra W S S' ∧ Post v S') S)
    (k : ∀ v S' t, Fra W S S' → Post v S' → WF S' → t.lo = S.next → t.hi = S'.next → (∀ b, (b, true) ∈ t.log → S.next ≤ b ∨ b ∈ W) → (∀ x ∈ t.log, x.1 < t.hi) → Ψ v (keepT j t ts) S') : dstepP j ts m Ψ S := by
  obtain ⟨v, s', h1, h2, h3⟩ := h
  obtain ⟨w1, D, w2, w3, w4⟩ := hm (fun _ => False) S.st v s' (fun _ h => h.elim) hW.st h1
  have hD : s'.log = D := by rw [w2]; exact List.append_nil D
  refine ⟨v, s', h1, k v _ _ h2 h3 (fun b o hb => (w1.2 b o hb).1) rfl rfl (fun b hb => ?_) (fun x hx => (w4 x (hD ▸ hx)).1)⟩
  obtain ⟨ws, h4, h5⟩ := h2.wl
  have : wrs s'.log = ws := List.append_cancel_right h4
  exact h5 b (this ▸ wrs_mem hb)
/-- something that touches what is there, and something that is made behind it -/
theorem apt_new {t : Touch} {n m : Nat} (h : ∀ x ∈ t.log, x.1 < n) : apt ⟨[], n, m⟩ t := by
  refine ⟨rfl, ?_⟩
  unfold hits
  rw [List.any_eq_false]
  intro x hx
  have h1 : Nat.ble n x.1 = false := by rw [Bool.eq_false_iff]; intro c; have := Nat.le_of_ble_eq_true c; have := h x hx; omega
  simp [h1]
/-! ## More steps -/
section
variable {C : Tgt → List Value → M Value} {S : Hp} {Φ : Value → Hp → Prop} {Ψ : Value → List (Nat × Touch) → Hp → Prop}
theorem P_b2strN (n c : Nat) : wp (X C (.conv .b2str (.const (.slice none n c)))) Φ S = Φ (.string .empty) S := wp_Xp (by funext S; rfl)
theorem P_b2str (b o : Nat) (x : Option Nat) (n c : Nat) : wp (X C (.conv .b2str (.const (.slice (some ⟨b, o, x⟩) n c)))) Φ S = rdP (S.heap.get b) (fun q => condP (o + n ≤ q.length) (optP (bytesOf ((q.drop o).take n)) (fun l => Φ (.string ⟨l.toArray⟩) S))) := by
  have e : X C (.conv .b2str (.const (.slice (some ⟨b, o, x⟩) n c))) = (ldCells b o n).bind fun cs => (M.lift (bytesOf cs)).bind fun l => M.pure (.string ⟨l.toArray⟩) := by
    funext S
    simp only [X, exec, M.bind, M.lift, Atom.ev]
  have e2 : ∀ cs : List Value, ((M.lift (bytesOf cs)).bind fun l => (M.pure (.string ⟨l.toArray⟩) : M Value)) = M.lift ((bytesOf cs).map fun l => .string ⟨l.toArray⟩) := by
    intro cs
    cases bytesOf cs <;> rfl
  rw [e]
  simp only [e2]
  rw [wp_bind (Lg.ldCells _ _ _) (fun _ => Lg.lift _), wp_ldCells]
  congr 1
  funext l
  congr 1
  rw [wp_lift]
  cases bytesOf ((l.drop o).take n) <;> rfl
theorem P_max (k : IntKind) (a b : Int) : wp (X C (.max [.const (.int k a), .const (.int k b)])) Φ S = Φ (.int k (if b > a then b else a)) S := wp_Xp (by
  funext S
  simp only [X, exec, M.bind, M.lift, evs, Atom.ev, maxL, maxV, if_true])
theorem P_Gff (m : M Value) : wp (G (wanted false (.bool false)) m) Φ S = wp m Φ S := id rfl
theorem P_Gtt (m : M Value) : wp (G (wanted true (.bool true)) m) Φ S = wp m Φ S := id rfl
theorem P_Gft (m : M Value) : wp (G (wanted false (.bool true)) m) Φ S = Φ undef S := wp_pure undef Φ S
theorem P_Gtf (m : M Value) : wp (G (wanted true (.bool false)) m) Φ S = Φ undef S := wp_pure undef Φ S
theorem D_Gff (j : Nat) (ts : List (Nat × Touch)) (m : M Value) : dstepP j ts (G (wanted false (.bool false)) m) Ψ S = dstepP j ts m Ψ S := id rfl
theorem D_Gtt (j : Nat) (ts : List (Nat × Touch)) (m : M Value) : dstepP j ts (G (wanted true (.bool true)) m) Ψ S = dstepP j ts m Ψ S := id rfl
theorem D_Gft (j : Nat) (ts : List (Nat × Touch)) (m : M Value) : dstepP j ts (G (wanted false (.bool true)) m) Ψ S = Ψ undef ts S := D_pure j ts undef Ψ
theorem D_Gtf (j : Nat) (ts : List (Nat × Touch)) (m : M Value) : dstepP j ts (G (wanted true (.bool false)) m) Ψ S = Ψ undef ts S := D_pure j ts undef Ψ
end
end Go.Wb
end
/- The engine, part Sh: what the arguments' shapes tell of structs, and of slices of them. -/
section
set_option linter.unusedSimpArgs false
set_option linter.unusedVariables false
namespace Go.Wb
variable {P : Program} {bs : List (List Value)}
theorem shpV_of {g : Nat} {t : TypeId} {v : Value} (hs : ∀ fs, P.underlying t ≠ some (.struct fs)) (h : Shp P bs g t [v]) : ShpV P bs g t v := by
  unfold ShpV
  split
  · rename_i fs hf; exact absurd hf (hs fs)
  · exact h
/-- fields, by their types alone -/
def ShpT (Q : TypeId → List Value → Prop) (P : Program) : List TypeId → List Value → Prop
  | [], cs => cs = []
  | t :: ts, cs => ∃ a b, cs = a ++ b ∧ a.length = P.cellsOf t ∧ Q t a ∧ ShpT Q P ts b
theorem ShpT.of {Q : TypeId → List Value → Prop} : ∀ {fs : List Field} {cs : List Value}, ShpF Q P fs cs → ShpT Q P (fs.map (·.type)) cs
  | [], _, h => h
  | _ :: _, _, ⟨a, b, h1, h2, h3, h4⟩ => ⟨a, b, h1, h2, h3, ShpT.of h4⟩
def fts : Option TypeDesc → List TypeId
  | some (.struct fs) => fs.toList.map (·.type)
  | _ => []
theorem shp_struct {g : Nat} {t u : TypeId} {ts : List TypeId} {cs : List Value} (hu : fts (P.underlying t) = u :: ts) (h : Shp P bs (g + 1) t cs) : ShpT (Shp P bs g) P (u :: ts) cs := by
  unfold Shp at h
  cases ho : P.underlying t with
  | none => rw [ho] at hu; cases hu
  | some o =>
    rw [ho] at h hu
    cases o
    case struct fs => rw [← hu]; exact ShpT.of h
    all_goals simp [fts] at hu
/-- a slice of such elements: these, and what lies behind -/
def SlW (bs : List (List Value)) (z : Nat) (Q : List Value → Prop) (v : Value) (es : List (List Value)) : Prop :=
  (∀ x ∈ es, x.length = z ∧ Q x) ∧ ((v = .slice none 0 0 ∧ es = []) ∨ (v = .chan none ∧ es = []) ∨ ∃ id c zs, v = .slice (some ⟨id, 0, none⟩) es.length c ∧ es.length ≤ c ∧ c ≤ maxLen ∧ bs[id]? = some (es.flatten ++ zs))
theorem slW_of {g : Nat} {t e : TypeId} {v : Value} (hu : P.underlying t = some (.slice e)) (h : Shp P bs (g + 1) t [v]) : ∃ es, SlW bs (P.cellsOf e) (Shp P bs g e) v es := by
  simp only [Shp, hu] at h
  rcases h with h | h | ⟨id, n, c, es, h1, h2, h3, h4, h5, h6, h7⟩
  · exact ⟨[], fun x hx => by simp at hx, .inl ⟨by simpa using h, rfl⟩⟩
  · exact ⟨[], fun x hx => by simp at hx, .inr (.inl ⟨by simpa using h, rfl⟩)⟩
  · have hl : (es.take n).length = n := by rw [List.length_take]; omega
    refine ⟨es.take n, fun x hx => h7 x (List.mem_of_mem_take hx), .inr (.inr ⟨id, c, (es.drop n).flatten, ?_, by omega, h4, ?_⟩)⟩
    · rw [hl]; simpa using h1
    · rw [← List.flatten_append, List.take_append_drop]; exact h5
theorem flat_len {z : Nat} : ∀ (es : List (List Value)), (∀ x ∈ es, x.length = z) → es.flatten.length = es.length * z
  | [], _ => by simp
  | e :: es, h => by
    rw [List.flatten_cons, List.length_append, flat_len es (fun x hx => h x (List.mem_cons_of_mem _ hx)), h e (List.mem_cons_self ..), List.length_cons, Nat.add_mul]; omega
theorem flat_take {z : Nat} : ∀ (es : List (List Value)) (zs : List Value), (∀ x ∈ es, x.length = z) → ∀ (i : Nat) (e : List Value), es[i]? = some e → ((es.flatten ++ zs).drop (i * z)).take z = e ∧ i * z + z ≤ (es.flatten ++ zs).length
  | [], zs, h, i, e, hi => by simp at hi
  | d :: es, zs, h, 0, e, hi => by
    obtain rfl : d = e := by simpa using hi
    have hd := h d (List.mem_cons_self ..)
    rw [Nat.zero_mul, List.drop_zero, List.flatten_cons, List.append_assoc]
    exact ⟨by rw [← hd]; exact List.take_left .., by rw [List.length_append]; omega⟩
  | d :: es, zs, h, i + 1, e, hi => by
    have hd := h d (List.mem_cons_self ..)
    obtain ⟨h1, h2⟩ := flat_take es zs (fun x hx => h x (List.mem_cons_of_mem _ hx)) i e (by simpa using hi)
    rw [List.flatten_cons, List.append_assoc, Nat.add_mul, Nat.one_mul]
    refine ⟨?_, by rw [List.length_append, hd]; omega⟩
    rw [List.drop_append, hd, List.drop_of_length_le (by omega), List.nil_append, show i * z + z - z = i * z by omega]
    exact h1
end Go.Wb
end
/- The engine, part Str: strings. -/
section
set_option linter.unusedSimpArgs false
set_option linter.unusedVariables false
namespace Go.Wb
theorem splice_5 (a b d e f : Value) (c vs : List Value) : splice (a :: b :: d :: e :: f :: c) 5 vs = a :: b :: d :: e :: f :: splice c 0 vs := id rfl
theorem splice_6 (a b d e f g : Value) (c vs : List Value) : splice (a :: b :: d :: e :: f :: g :: c) 6 vs = a :: b :: d :: e :: f :: g :: splice c 0 vs := id rfl
section
variable {C : Tgt → List Value → M Value} {S : Hp} {Φ : Value → Hp → Prop}
theorem P_slcSh (s : ByteArray) (k : IntKind) (h : Int) : wp (X C (.slcS (.const (.string s)) none (some (.const (.int k h))))) Φ S = condP (0 ≤ h ∧ h ≤ s.size) (Φ (.string (s.extract 0 h.toNat)) S) := by
  have e : X C (.slcS (.const (.string s)) none (some (.const (.int k h)))) = M.lift ((bnds .leaf s.size s.size none (some (.const (.int k h))) none).map fun b => .string (s.extract b.1 b.2.1)) := by
    funext S
    simp only [X, exec, M.bind, M.lift, Atom.ev]
    cases bnds .leaf s.size s.size none (some (.const (.int k h))) none <;> rfl
  rw [e, wp_lift, bnds_h]
  by_cases hh : 0 ≤ h ∧ h ≤ s.size
  · rw [if_pos hh, condP_of hh]; rfl
  · rw [if_neg hh]
    simp only [condP, hh, false_and]
    rfl
theorem P_min (k : IntKind) (a b : Int) : wp (X C (.min [.const (.int k a), .const (.int k b)])) Φ S = Φ (.int k (if b < a then b else a)) S := wp_Xp (by
  funext S
  simp [X, exec, M.bind, M.lift, evs, Atom.ev, maxL, maxV])
theorem P_str2b (t : TypeId) (s : ByteArray) : wp (X C (.conv (.str2b t) (.const (.string s)))) Φ S = Φ (.slice (some ⟨S.next, 0, none⟩) s.size s.size) (S.add (.cells (some 1) true (s.data.toList.map fun b => .int .u8 b.toNat))) := by
  have e : X C (.conv (.str2b t) (.const (.string s))) = (nw (.cells (some 1) true (s.data.toList.map fun b => .int .u8 b.toNat))).bind fun nb => M.pure (.slice (some ⟨nb, 0, none⟩) s.size s.size) := by
    funext S
    rfl
  rw [e, wp_nwp]
theorem P_sameSl (b o n c : Nat) (x : Option Nat) : wp (X C (.conv .sameSl (.const (.slice (some ⟨b, o, x⟩) n c)))) Φ S = blkP (S.heap.get b) (fun x' s l => Φ (.slice (some ⟨b, o, x⟩) n c) (S.put b (some (.cells x' true l)))) := by
  have e : X C (.conv .sameSl (.const (.slice (some ⟨b, o, x⟩) n c))) = (rd b).bind fun o' => match o' with
      | .cells x' _ cs => (wr b (some (.cells x' true cs))).bind fun _ => M.pure (.slice (some ⟨b, o, x⟩) n c)
      | _ => M.fail := by
    funext S
    rfl
  rw [e, wp_bind (Lg.rd _) (fun o' => by
    cases o' with
    | loop => exact Lg.fail
    | map => exact Lg.fail
    | iter => exact Lg.fail
    | ro => exact Lg.fail
    | cells x t c => exact Lg.bind (Lg.wr _ _) fun _ => Lg.pure _), wp_rd]
  cases hb : S.heap.get b with
  | none => rfl
  | some o' =>
    rw [optP_some]
    cases o' with
    | loop => dsimp only; rw [wp_fail]; rfl
    | map => dsimp only; rw [wp_fail]; rfl
    | iter => dsimp only; rw [wp_fail]; rfl
    | ro => dsimp only; rw [wp_fail]; rfl
    | cells x' t c' => dsimp only; rw [wp_bind (Lg.wr _ _) (fun _ => Lg.pure _), wp_wr, wp_pure, blkP_cells]
end
end Go.Wb
end
/- The engine, part Ins: slices.Insert of one element, in place or over a new block. -/
section
set_option maxRecDepth 100000
set_option linter.unusedSimpArgs false
set_option linter.unusedVariables false
namespace Go.Wb
set_option linter.unusedSectionVars false
/-- slices.Insert's text, as it is compiled -/
def insB (size bytes elem ov rot : Nat) (zero : List Value) : ACode :=
  (ACode.ops [{ dst := some 6, guard := none, op := AOp.mov (Atom.const (Value.slice none 0 0)) }]).seq ((ACode.ops [{ dst := some 10, guard := none, op := AOp.mov (Atom.tmp 0) }, { dst := some 11, guard := none, op := AOp.mov (Atom.tmp 1) }, { dst := some 12, guard := none, op := AOp.slc size (Atom.tmp 10) (some (Atom.tmp 11)) none none }]).seq ((ACode.ops [{ dst := some 13, guard := none, op := AOp.mov (Atom.tmp 2) }, { dst := some 14, guard := none, op := AOp.len LenK.slice (Atom.tmp 13) }, { dst := some 7, guard := none, op := AOp.mov (Atom.tmp 14) }]).seq (((ACode.ops [{ dst := some 15, guard := none, op := AOp.mov (Atom.tmp 7) }, { dst := some 16, guard := none, op := AOp.bin BinOp.eql (Atom.tmp 15) (Atom.const (Value.int IntKind.i64 (0))) }]).seq (ACode.cond (Atom.tmp 16) ((ACode.ops [{ dst := some 17, guard := none, op := AOp.mov (Atom.tmp 0) }, { dst := some 6, guard := none, op := AOp.mov (Atom.tmp 17) }]).seq ACode.ret) ACode.skip)).seq ((ACode.ops [{ dst := some 18, guard := none, op := AOp.mov (Atom.tmp 0) }, { dst := some 19, guard := none, op := AOp.len LenK.slice (Atom.tmp 18) }, { dst := some 8, guard := none, op := AOp.mov (Atom.tmp 19) }]).seq (((ACode.ops [{ dst := some 20, guard := none, op := AOp.mov (Atom.tmp 1) }, { dst := some 21, guard := none, op := AOp.mov (Atom.tmp 8) }, { dst := some 22, guard := none, op := AOp.bin BinOp.eql (Atom.tmp 20) (Atom.tmp 21) }]).seq (ACode.cond (Atom.tmp 22) ((ACode.ops [{ dst := some 23, guard := none, op := AOp.mov (Atom.tmp 0) }, { dst := some 24, guard := none, op := AOp.mov (Atom.tmp 2) }, { dst := some 25, guard := none, op := AOp.app size bytes elem (Atom.tmp 23) (Atom.tmp 24) }, { dst := some 6, guard := none, op := AOp.mov (Atom.tmp 25) }]).seq ACode.ret) ACode.skip)).seq (((ACode.ops [{ dst := some 26, guard := none, op := AOp.mov (Atom.tmp 8) }, { dst := some 27, guard := none, op := AOp.mov (Atom.tmp 7) }, { dst := some 28, guard := none, op := AOp.bin BinOp.add (Atom.tmp 26) (Atom.tmp 27) }, { dst := some 29, guard := none, op := AOp.mov (Atom.tmp 0) }, { dst := some 30, guard := none, op := AOp.cap (Atom.tmp 29) }, { dst := some 31, guard := none, op := AOp.bin BinOp.gtr (Atom.tmp 28) (Atom.tmp 30) }]).seq (ACode.cond (Atom.tmp 31) ((ACode.ops [{ dst := some 32, guard := none, op := AOp.mov (Atom.tmp 0) }, { dst := some 33, guard := none, op := AOp.mov (Atom.tmp 1) }, { dst := some 34, guard := none, op := AOp.slc size (Atom.tmp 32) none (some (Atom.tmp 33)) none }, { dst := some 35, guard := none, op := AOp.mov (Atom.tmp 8) }, { dst := some 36, guard := none, op := AOp.mov (Atom.tmp 7) }, { dst := some 37, guard := none, op := AOp.bin BinOp.add (Atom.tmp 35) (Atom.tmp 36) }, { dst := some 38, guard := none, op := AOp.mov (Atom.tmp 1) }, { dst := some 39, guard := none, op := AOp.bin BinOp.sub (Atom.tmp 37) (Atom.tmp 38) }, { dst := some 40, guard := none, op := AOp.appZ size bytes elem zero (Atom.tmp 34) (Atom.tmp 39) }, { dst := some 9, guard := none, op := AOp.mov (Atom.tmp 40) }]).seq ((ACode.ops [{ dst := some 41, guard := none, op := AOp.mov (Atom.tmp 9) }, { dst := some 42, guard := none, op := AOp.mov (Atom.tmp 1) }, { dst := some 43, guard := none, op := AOp.slc size (Atom.tmp 41) (some (Atom.tmp 42)) none none }, { dst := some 44, guard := none, op := AOp.mov (Atom.tmp 2) }, { dst := some 45, guard := none, op := AOp.copy size (Atom.tmp 43) (Atom.tmp 44) }]).seq ((ACode.drawn [{ dst := some 46, guard := none, op := AOp.mov (Atom.tmp 9) }, { dst := some 47, guard := none, op := AOp.mov (Atom.tmp 1) }, { dst := some 48, guard := none, op := AOp.mov (Atom.tmp 7) }, { dst := some 49, guard := none, op := AOp.bin BinOp.add (Atom.tmp 47) (Atom.tmp 48) }, { dst := some 50, guard := none, op := AOp.slc size (Atom.tmp 46) (some (Atom.tmp 49)) none none }, { dst := some 51, guard := none, op := AOp.mov (Atom.tmp 0) }, { dst := some 52, guard := none, op := AOp.mov (Atom.tmp 1) }, { dst := some 53, guard := none, op := AOp.slc size (Atom.tmp 51) (some (Atom.tmp 52)) none none }, { dst := some 54, guard := none, op := AOp.copy size (Atom.tmp 50) (Atom.tmp 53) }] [0, 0, 0, 6, 15, 0, 0, 96, 255]).seq ((ACode.ops [{ dst := some 55, guard := none, op := AOp.mov (Atom.tmp 9) }, { dst := some 6, guard := none, op := AOp.mov (Atom.tmp 55) }]).seq ACode.ret)))) ACode.skip)).seq ((ACode.ops [{ dst := some 56, guard := none, op := AOp.mov (Atom.tmp 0) }, { dst := some 57, guard := none, op := AOp.mov (Atom.tmp 8) }, { dst := some 58, guard := none, op := AOp.mov (Atom.tmp 7) }, { dst := some 59, guard := none, op := AOp.bin BinOp.add (Atom.tmp 57) (Atom.tmp 58) }, { dst := some 60, guard := none, op := AOp.slc size (Atom.tmp 56) none (some (Atom.tmp 59)) none }, { dst := some 0, guard := none, op := AOp.mov (Atom.tmp 60) }]).seq (((ACode.ops [{ dst := some 61, guard := none, op := AOp.mov (Atom.tmp 2) }, { dst := some 62, guard := none, op := AOp.mov (Atom.tmp 0) }, { dst := some 63, guard := none, op := AOp.mov (Atom.tmp 1) }, { dst := some 64, guard := none, op := AOp.mov (Atom.tmp 7) }, { dst := some 65, guard := none, op := AOp.bin BinOp.add (Atom.tmp 63) (Atom.tmp 64) }, { dst := some 66, guard := none, op := AOp.slc size (Atom.tmp 62) (some (Atom.tmp 65)) none none }, { dst := some 67, guard := none, op := AOp.call (Atom.const (Value.func (Fn.func ov) { toList := [] } { toList := [] })) [Atom.tmp 61, Atom.tmp 66] }, { dst := some 68, guard := none, op := AOp.un UnOp.not (Atom.tmp 67) }]).seq (ACode.cond (Atom.tmp 68) ((ACode.drawn [{ dst := some 69, guard := none, op := AOp.mov (Atom.tmp 0) }, { dst := some 70, guard := none, op := AOp.mov (Atom.tmp 1) }, { dst := some 71, guard := none, op := AOp.mov (Atom.tmp 7) }, { dst := some 72, guard := none, op := AOp.bin BinOp.add (Atom.tmp 70) (Atom.tmp 71) }, { dst := some 73, guard := none, op := AOp.slc size (Atom.tmp 69) (some (Atom.tmp 72)) none none }, { dst := some 74, guard := none, op := AOp.mov (Atom.tmp 0) }, { dst := some 75, guard := none, op := AOp.mov (Atom.tmp 1) }, { dst := some 76, guard := none, op := AOp.slc size (Atom.tmp 74) (some (Atom.tmp 75)) none none }, { dst := some 77, guard := none, op := AOp.copy size (Atom.tmp 73) (Atom.tmp 76) }] [0, 0, 0, 6, 15, 0, 0, 96, 255]).seq ((ACode.ops [{ dst := some 78, guard := none, op := AOp.mov (Atom.tmp 0) }, { dst := some 79, guard := none, op := AOp.mov (Atom.tmp 1) }, { dst := some 80, guard := none, op := AOp.slc size (Atom.tmp 78) (some (Atom.tmp 79)) none none }, { dst := some 81, guard := none, op := AOp.mov (Atom.tmp 2) }, { dst := some 82, guard := none, op := AOp.copy size (Atom.tmp 80) (Atom.tmp 81) }]).seq ((ACode.ops [{ dst := some 83, guard := none, op := AOp.mov (Atom.tmp 0) }, { dst := some 6, guard := none, op := AOp.mov (Atom.tmp 83) }]).seq ACode.ret))) ACode.skip)).seq ((ACode.ops [{ dst := some 84, guard := none, op := AOp.mov (Atom.tmp 0) }, { dst := some 85, guard := none, op := AOp.mov (Atom.tmp 8) }, { dst := some 86, guard := none, op := AOp.slc size (Atom.tmp 84) (some (Atom.tmp 85)) none none }, { dst := some 87, guard := none, op := AOp.mov (Atom.tmp 2) }, { dst := some 88, guard := none, op := AOp.copy size (Atom.tmp 86) (Atom.tmp 87) }]).seq ((ACode.ops [{ dst := some 89, guard := none, op := AOp.mov (Atom.tmp 0) }, { dst := some 90, guard := none, op := AOp.mov (Atom.tmp 1) }, { dst := some 91, guard := none, op := AOp.slc size (Atom.tmp 89) (some (Atom.tmp 90)) none none }, { dst := some 92, guard := none, op := AOp.mov (Atom.tmp 7) }, { dst := some 93, guard := none, op := AOp.call (Atom.const (Value.func (Fn.func rot) { toList := [] } { toList := [] })) [Atom.tmp 91, Atom.tmp 92] }]).seq ((ACode.ops [{ dst := some 94, guard := none, op := AOp.mov (Atom.tmp 0) }, { dst := some 6, guard := none, op := AOp.mov (Atom.tmp 94) }]).seq ACode.ret)))))))))))
def AIns : List (Nat × List Nat) := [(8180, [0]), (8150, [0])]
def PIns (size bytes elem ov rot : Nat) (zero : List Value) (C : Tgt → List Value → M Value) (n : Nat) (Φ : Value → Hp → Prop) (t0 t1 t2 : Value) (S : Hp) : Prop :=
  wp (X C (.slc size (.const t0) (some (.const t1)) none none)) (fun t12_0 S =>
  wp (X C (.len .slice (.const t2))) (fun t14_1 S =>
  wp (X C (.bin .eql (.const t14_1) (.const (.int .i64 0)))) (fun t16_2 S =>
  ifP (Wb.asBool t16_2) (fun S =>
   Φ t0 S) (fun S =>
   wp (X C (.len .slice (.const t0))) (fun t19_3 S =>
   wp (X C (.bin .eql (.const t1) (.const t19_3))) (fun t22_4 S =>
   ifP (Wb.asBool t22_4) (fun S =>
    wp (X C (.app size bytes elem (.const t0) (.const t2))) (fun t25_5 S =>
    Φ t25_5 S) S) (fun S =>
    wp (X C (.bin .add (.const t19_3) (.const t14_1))) (fun t28_6 S =>
    wp (X C (.cap (.const t0))) (fun t30_7 S =>
    wp (X C (.bin .gtr (.const t28_6) (.const t30_7))) (fun t31_8 S =>
    ifP (Wb.asBool t31_8) (fun S =>
     wp (X C (.slc size (.const t0) none (some (.const t1)) none)) (fun t34_9 S =>
     wp (X C (.bin .add (.const t19_3) (.const t14_1))) (fun t37_10 S =>
     wp (X C (.bin .sub (.const t37_10) (.const t1))) (fun t39_11 S =>
     wp (X C (.appZ size bytes elem zero (.const t34_9) (.const t39_11))) (fun t40_12 S =>
     wp (X C (.slc size (.const t40_12) (some (.const t1)) none none)) (fun t43_13 S =>
     wp (X C (.copy size (.const t43_13) (.const t2))) (fun t45_14 S =>
     wp (X C (.bin .add (.const t1) (.const t14_1))) (fun t49_15 S =>
     wp (X C (.slc size (.const t40_12) (some (.const t49_15)) none none)) (fun t50_16 S =>
     wp (X C (.slc size (.const t0) (some (.const t1)) none none)) (fun t53_17 S =>
     wp (X C (.copy size (.const t50_16) (.const t53_17))) (fun t54_18 S =>
     okP (apartAll [0, 0, 0, 6, 15, 0, 0, 96, 255] []) (fun S =>
     Φ t40_12 S) S) S) S) S) S) S) S) S) S) S) S) (fun S =>
     wp (X C (.bin .add (.const t19_3) (.const t14_1))) (fun t59_19 S =>
     wp (X C (.slc size (.const t0) none (some (.const t59_19)) none)) (fun t60_20 S =>
     wp (X C (.bin .add (.const t1) (.const t14_1))) (fun t65_21 S =>
     wp (X C (.slc size (.const t60_20) (some (.const t65_21)) none none)) (fun t66_22 S =>
     wp (X C (.call (.const (.func (.func ov) ⟨[]⟩ ⟨[]⟩)) [(.const t2), (.const t66_22)])) (fun t67_23 S =>
     wp (X C (.un .not (.const t67_23))) (fun t68_24 S =>
     ifP (Wb.asBool t68_24) (fun S =>
      wp (X C (.bin .add (.const t1) (.const t14_1))) (fun t72_25 S =>
      wp (X C (.slc size (.const t60_20) (some (.const t72_25)) none none)) (fun t73_26 S =>
      wp (X C (.slc size (.const t60_20) (some (.const t1)) none none)) (fun t76_27 S =>
      wp (X C (.copy size (.const t73_26) (.const t76_27))) (fun t77_28 S =>
      okP (apartAll [0, 0, 0, 6, 15, 0, 0, 96, 255] []) (fun S =>
      wp (X C (.slc size (.const t60_20) (some (.const t1)) none none)) (fun t80_29 S =>
      wp (X C (.copy size (.const t80_29) (.const t2))) (fun t82_30 S =>
      Φ t60_20 S) S) S) S) S) S) S) S) (fun S =>
      wp (X C (.slc size (.const t60_20) (some (.const t19_3)) none none)) (fun t86_31 S =>
      wp (X C (.copy size (.const t86_31) (.const t2))) (fun t88_32 S =>
      wp (X C (.slc size (.const t60_20) (some (.const t1)) none none)) (fun t91_33 S =>
      wp (X C (.call (.const (.func (.func rot) ⟨[]⟩ ⟨[]⟩)) [(.const t91_33), (.const t14_1)])) (fun t93_34 S =>
      Φ t60_20 S) S) S) S) S) S) S) S) S) S) S) S) S) S) S) S) S) S) S) S) S) S) S
theorem pIns (size bytes elem ov rot : Nat) (zero : List Value) (C : Tgt → List Value → M Value) (n : Nat) (Φ : Value → Hp → Prop) (t0 t1 t2 : Value) (S : Hp) :
    codeP C AIns n 1 (insB size bytes elem ov rot zero) (argsEnv [t0, t1, t2] 0 .leaf) (endP [.tmp 6] Φ) S = PIns size bytes elem ov rot zero C n Φ t0 t1 t2 S := by kernel_rfl

section
variable {C : Tgt → List Value → M Value} {S : Hp} {Φ : Value → Hp → Prop}
theorem P_capX {b o l n : Nat} {s : Bool} {c : List Value} (hb : S.heap.get b = some (.cells none s c)) : wp (X C (.cap (.const (.slice (some ⟨b, o, none⟩) l n)))) Φ S = Φ (.int .i64 n) S := by
  have e : X C (.cap (.const (.slice (some ⟨b, o, none⟩) l n))) = (rd b).bind fun o => match o with
      | .cells none _ _ => M.pure (.int .i64 n)
      | .ro _ => M.pure (.int .i64 n)
      | _ => M.fail := by
    funext S
    rfl
  rw [e, wp_bind (Lg.rd _) (fun o => by split <;> first | exact Lg.pure _ | exact Lg.fail), wp_rd, hb, optP_some, wp_pure]
theorem X_appZ (size bytes : Nat) (t : TypeId) (zero : List Value) (s x : Value) : X C (.appZ size bytes t zero (.const s) (.const x)) = appendZ size bytes zero s x := by
  funext S
  simp only [X, exec, M.bind, M.lift, Atom.ev]
  cases appendZ size bytes zero s x S <;> rfl
theorem P_appZ_own (size bytes : Nat) (t : TypeId) (zero : List Value) (b o sl sc m : Nat) (hn : sc < sl + m) (hm : m < 281474976710656 ∧ m * bytes ≤ 281474976710656 ∧ zero.length = size) (hok : 2 * ((sl + m) * bytes) ≤ 281474976710656 ∧ bytes ≠ 0 ∧ size ≠ 0) {s : Bool} {c : List Value}
    (hb : S.heap.get b = some (.cells none s c)) (hc : o + sl * size ≤ c.length) (hz : (rep m zero).all (·.oneCell') = true) : wp (X C (.appZ size bytes t zero (.const (.slice (some ⟨b, o, none⟩) sl sc)) (.const (.int .i64 m)))) Φ S =
    Φ (.slice (some ⟨S.next, 0, none⟩) (sl + m) (sl + m)) (S.add (.cells (some size) false ((c.drop o).take (sl * size) ++ rep m zero))) := by
  have h1 : ¬ sl + m ≤ sc := by omega
  have h2 : (0 : Int) ≤ (m : Nat) ∧ ((m : Nat) : Int) < 281474976710656 ∧ ((m : Nat) : Int) * (bytes : Nat) ≤ 281474976710656 ∧ zero.length = size := ⟨by omega, by omega, by
    have := hm.2.1
    have e : ((m : Nat) : Int) * (bytes : Nat) = ((m * bytes : Nat) : Int) := by simp
    rw [e]; omega, hm.2.2⟩
  have e : X C (.appZ size bytes t zero (.const (.slice (some ⟨b, o, none⟩) sl sc)) (.const (.int .i64 m))) = growA size bytes (some ⟨b, o, none⟩) sl sc m (M.pure (rep m zero)) := by
    rw [X_appZ]
    unfold appendZ
    dsimp only
    rw [if_pos h2]
    have ht : ((m : Nat) : Int).toNat = m := Int.toNat_natCast m
    rw [ht, if_neg h1]
  rw [e]
  unfold growA
  rw [if_pos hok, wp_bind (Lg.pure _) (fun new => by
    refine Lg.ite (Lg.bind (Lg.rd _) fun o => ?_) Lg.fail
    split
    · refine Lg.ite ?_ Lg.fail
      split
      · exact Lg.bind (Lg.nw _) fun _ => Lg.pure _
      · exact Lg.ite (Lg.bind (Lg.wr _ _) fun _ => Lg.bind (Lg.nw _) fun _ => Lg.pure _) Lg.fail
    · exact Lg.fail), wp_pure, if_pos hz, wp_bind (Lg.rd _) (fun o => by
    split
    · refine Lg.ite ?_ Lg.fail
      split
      · exact Lg.bind (Lg.nw _) fun _ => Lg.pure _
      · exact Lg.ite (Lg.bind (Lg.wr _ _) fun _ => Lg.bind (Lg.nw _) fun _ => Lg.pure _) Lg.fail
    · exact Lg.fail), wp_rd, hb, optP_some]
  dsimp only
  rw [if_pos hc, wp_nwp]
end
theorem splice_mid (A X Y Z : List Value) (h : X.length = Y.length) : splice (A ++ X ++ Z) A.length Y = A ++ Y ++ Z := by
  induction A with
  | nil =>
    have : splice (X ++ Z) 0 Y = overlay (X ++ Z) Y := by cases (X ++ Z) <;> rfl
    rw [List.nil_append, List.nil_append, List.length_nil, this]
    clear this
    induction X generalizing Y with
    | nil =>
      obtain rfl : Y = [] := List.eq_nil_of_length_eq_zero h.symm
      cases Z <;> rfl
    | cons x X ih =>
      cases Y with
      | nil => cases h
      | cons y Y => simp only [List.cons_append, overlay, ih Y (by simpa using h)]
  | cons a A ih => simp only [List.cons_append, List.length_cons, splice, ih]
section
variable {F : Nat → Option AFn} {size bytes elem ov rot f : Nat} {zero : List Value}
theorem rep_len (n : Nat) (z : List Value) : (rep n z).length = n * z.length := by
  induction n with
  | zero => simp [rep]
  | succ n ih => rw [rep, List.length_append, ih, Nat.add_mul]; omega
theorem c_ins (hF : F f = some (.go ⟨3, [.tmp 6], insB size bytes elem ov rot zero⟩)) {n : Nat} {Φ : Value → Hp → Prop} {t0 t1 t2 : Value} {S : Hp} (h : PIns size bytes elem ov rot zero (callN F n) n Φ t0 t1 t2 S) : wp (callN F (n + 1) (.fn f) [t0, t1, t2]) Φ S :=
  callP (A := AIns) hF rfl (Eq.mpr (pIns size bytes elem ov rot zero (callN F n) n Φ t0 t1 t2 S) h)
/-- there is no room -/
theorem ins_grow (hF : F f = some (.go ⟨3, [.tmp 6], insB size bytes elem ov rot zero⟩)) {fuel : Nat} {S : Hp} {b bx ox i k cap cx : Nat} {ex : Option Nat} {sx : Bool} {A B Z X1 X2 new : List Value} (hs0 : size ≠ 0) (hb0 : bytes ≠ 0) (hz : zero.length = size)
    (hbig : 2 * ((i + k + 1) * bytes) ≤ 281474976710656) (hk : 0 < k) (hcap : cap < i + k + 1) (hcap2 : i + k ≤ cap) (hA : A.length = i * size) (hB : B.length = k * size) (hn : new.length = size) (hX : X1.length = ox)
    (hb : S.heap.get b = some (.cells none false (A ++ B ++ Z))) (hbx : S.heap.get bx = some (.cells ex sx (X1 ++ new ++ X2))) (hne : bx ≠ b) (hbl : b < S.next) (hbxl : bx < S.next) (hzero : ∀ m, (rep m zero).all (·.oneCell') = true) (hnew : new.all (·.oneCell') = true) (hBo : B.all (·.oneCell') = true)
    {Φ : Value → Hp → Prop} (hk2 : ∀ S', Fra [] S S' → S'.next = S.next + 1 → S'.heap.get S.next = some (.cells (some size) false (A ++ new ++ B)) → Φ (.slice (some ⟨S.next, 0, none⟩) (i + k + 1) (i + k + 1)) S') :
    wp (callN F (fuel + 1) (.fn f) [.slice (some ⟨b, 0, none⟩) (i + k) cap, .int .i64 i, .slice (some ⟨bx, ox, none⟩) 1 cx]) Φ S := by
  refine c_ins hF ?_
  unfold PIns
  have e1 : decide ((((1 : Nat) : Int)) = 0) = false := rfl
  have e2 : decide (((i : Nat) : Int) = ((i + k : Nat) : Int)) = false := decide_eq_false (by omega)
  have hbig2 : i + k + 1 ≤ (i + k + 1) * bytes := Nat.le_mul_of_pos_right _ (by omega)
  have e3 : decide (((i + k : Nat) : Int) + ((1 : Nat) : Int) > ((cap : Nat) : Int)) = true := decide_eq_true (by omega)
  have hcp : ∀ (Φ : Value → Hp → Prop), wp (X (callN F fuel) (.cap (.const (.slice (some ⟨b, 0, none⟩) (i + k) cap)))) Φ S = Φ (.int .i64 cap) S := fun Φ => P_capX hb
  have q1 : ((0 : Int) ≤ ((i : Nat) : Int) ∧ ((i : Nat) : Int) ≤ ((i + k : Nat) : Int)) = True := eq_true ⟨by omega, by omega⟩
  have q2 : ((0 : Int) ≤ ((i : Nat) : Int) ∧ ((i : Nat) : Int) ≤ ((cap : Nat) : Int)) = True := eq_true ⟨by omega, by omega⟩
  have q3 : ((i + k : Nat) : Int) + ((1 : Nat) : Int) - ((i : Nat) : Int) = ((k + 1 : Nat) : Int) := by omega
  have q4 : ((i : Nat) : Int) + ((1 : Nat) : Int) = ((i + 1 : Nat) : Int) := by omega
  have q5 : slcR size b 0 0 0 i cap = .slice (some ⟨b, 0, none⟩) i cap := by simp [slcR]
  have q6 : slcR size b 0 0 i (i + k) cap = .slice (some ⟨b, i * size, none⟩) k (cap - i) := by
    rw [slcR, if_neg (by omega)]; congr 2 <;> simp
  simp (disch := first | omega | (simp only [Hp.add_next, Hp.put_next]; done) | (simp only [Hp.add_next, Hp.put_next]; omega) | fail) only [↓P_pick, ↓P_not, ↓P_ext, ↓P_fld, ↓P_fldA, ↓P_nil, ↓P_alloc, ↓P_box, ↓P_build, ↓P_bslice, ↓P_load1, ↓P_loadN, ↓P_cell1, ↓P_cellN, ↓D_load1, ↓D_loadN, ↓P_store, ↓P_ixA, ↓P_ix, ↓P_ixS, ↓P_lenS, ↓P_lenE, ↓P_lenStr, ↓P_mkif, ↓P_eqB, ↓P_eqC, ↓P_mkslice, ↓P_slc, ↓P_slc0, ↓P_andQ, andQ_tt, andQ_tf, andQ_ff, andQ_ft, andQ_p, orQ_p, ifP_bool, ifB_true, ifB_false, ↓P_eqptr0, ↓P_eqptr1, ↓P_eqptr0N, ↓P_eqptr1N, ↓P_eqsl0, ↓P_eqsl1, ↓P_eqsl0N, ↓P_eqsl1N, ↓P_eqmap0, ↓P_eqmap1, ↓P_eqmap0N, ↓P_eqmap1N, ↓P_eqfn0, ↓P_eqfn1, ↓P_eqfn0N, ↓P_eqfn1N, ↓P_lss, ↓P_leq, ↓P_gtr, ↓P_geq, ↓P_eql, ↓P_neq, ↓P_add64, ↓P_sub64, ↓P_addU64, ↓P_subU64, ↓P_addU32, ↓P_subU32, ↓P_addU16, ↓P_subU16, ↓P_addU8, ↓P_subU8, ↓P_convI64, ↓P_convU64, ↓P_convU32, ↓P_convU16, ↓P_convU8, ↓P_seql, ↓P_sneq, ↓P_sadd, ↓P_call0, ↓P_mkfn0, ↓P_call1, ↓P_mkfn1, ↓P_call2, ↓P_mkfn2, ↓P_call3, ↓P_mkfn3, ↓P_call4, ↓P_mkfn4, ↓P_call5, ↓P_mkfn5, ↓P_call6, ↓P_mkfn6, ↓P_call7, ↓P_mkfn7, ↓P_callF0, ↓P_callY0, ↓P_mkfnR0, ↓P_callF1, ↓P_callY1, ↓P_mkfnR1, ↓P_callF2, ↓P_callY2, ↓P_mkfnR2, ↓P_callF3, ↓P_callY3, ↓P_mkfnR3, ↓P_callF4, ↓P_callY4, ↓P_mkfnR4, blkP_cells, rdP_cells, rdP_ro, cutP_none, cutP_some, cutP_ro, optP_some, condP_true, condP_of, bnds_l, bnds_h, bnds_lh, bnds_0, put_at, put_off, add_at, add_eq, add_off, Hp.put_next, Hp.add_next, ↓P_b2strN, ↓P_b2str, ↓P_max, ↓P_mov, ↓P_Gff, ↓P_Gtt, ↓P_Gft, ↓P_Gtf, ↓D_Gff, ↓D_Gtt, ↓D_Gft, ↓D_Gtf, List.getElem?_cons_zero, List.getElem?_cons_succ, List.length_cons, List.length_nil, Nat.zero_add, Nat.add_zero, Nat.reduceAdd, Nat.reduceLeDiff, Nat.reduceSub, Nat.reduceMul, Nat.reduceEqDiff, List.drop_zero, List.drop_succ_cons, List.take_succ_cons, List.take_zero, and_self, and_true, true_and, if_true, if_false, Bool.false_eq_true, Bool.not_true, Bool.not_false, decide_true, decide_false, beq_true, beq_false, Bool.true_beq, Bool.false_beq, fillA, Atom.ev, setAll, List.set_cons_zero, List.set_cons_succ, List.size_toArray, splice_z, splice_1, splice_2, splice_3, splice_4, overlay_n, overlay_c, List.all_cons, List.all_nil, one_int, one_bool, one_str, one_ptr, one_sl, one_map, one_fn, one_nf, cells_agg, cells_int, cells_bool, cells_str, cells_ptr, cells_sl, cells_map, cells_fn, cells_nf, cells_tok, Bool.and_self, Bool.or_self, Bool.true_or, Bool.or_true, Bool.false_or, Bool.or_false, Bool.false_and, Bool.and_false, Bool.and_true, Bool.true_and, beq_self_eq_true, Int.reduceToNat, List.nil_append, List.append_nil, List.cons_append, Int.le_refl, Int.toNat_natCast, splice_5, splice_6, hb, e1, e2, hcp, e3, q1, q2, q3, q4, q5, q6, Nat.le_add_right, Nat.zero_le]
  have hbig3 : (k + 1) * bytes ≤ (i + k + 1) * bytes := Nat.mul_le_mul_right _ (by omega)
  have hil : i + k + 1 = i + (k + 1) := by omega
  have hAB : (A ++ B ++ Z).length = i * size + (k * size + Z.length) := by simp [hA, hB, Nat.add_assoc]
  rw [P_appZ_own size bytes elem zero b 0 i cap (k + 1) (by omega) ⟨by omega, by omega, hz⟩ ⟨by rw [← hil]; exact hbig, hb0, hs0⟩ hb (by omega) (hzero _)]
  have hd : ((A ++ B ++ Z).drop 0).take (i * size) = A := by rw [List.drop_zero, List.append_assoc, ← hA, List.take_left]
  rw [hd]
  have q7 : ((0 : Int) ≤ ((i : Nat) : Int) ∧ ((i : Nat) : Int) ≤ ((i + (k + 1) : Nat) : Int)) := ⟨by omega, by omega⟩
  have q8 : ((0 : Int) ≤ ((i + 1 : Nat) : Int) ∧ ((i + 1 : Nat) : Int) ≤ ((i + (k + 1) : Nat) : Int)) := ⟨by omega, by omega⟩
  have q9 : slcR size S.next 0 0 i (i + (k + 1)) (i + (k + 1)) = .slice (some ⟨S.next, i * size, none⟩) (k + 1) (k + 1) := by
    rw [slcR, if_neg (by omega)]; congr 2 <;> first | omega | simp
  have q10 : slcR size S.next 0 0 (i + 1) (i + (k + 1)) (i + (k + 1)) = .slice (some ⟨S.next, (i + 1) * size, none⟩) k k := by
    rw [slcR, if_neg (by omega)]; congr 2 <;> first | omega | simp
  have hrep : rep (k + 1) zero = zero ++ rep k zero := rfl
  rw [P_slc, bnds_l, if_pos q7, optP_some, condP_of (Nat.le_refl _), add_at, cutP_some]
  dsimp only
  rw [Int.toNat_natCast, q9, P_copy size S.next (i * size) (k + 1) (k + 1) (s := .slice (some ⟨bx, ox, none⟩) 1 cx) (sl := 1) rfl, W_firstN, add_off (by omega), hbx, rdP_cells]
  have hm1 : Min.min 1 (k + 1) = 1 := by omega
  have hdx : ((X1 ++ new ++ X2).drop ox).take size = new := by
    rw [← hX, List.append_assoc, List.drop_left, ← hn, List.take_left]
  rw [hm1, Nat.one_mul, condP_of (by simp [hX, hn]), hdx, wp_stCells, add_at, blkP_cells, condP_of ⟨by simp [hA, rep_len, hz, hn, Nat.add_mul], hnew⟩]
  have hsp : splice (A ++ rep (k + 1) zero) (i * size) new = A ++ new ++ rep k zero := by
    rw [hrep, ← hA, ← List.append_assoc]; exact splice_mid A zero new (rep k zero) (by rw [hz, hn])
  rw [hsp, P_slc, bnds_l, if_pos q8, optP_some, condP_of (Nat.le_refl _), put_at, cutP_some]
  dsimp only
  rw [Int.toNat_natCast, q10, put_off (by omega), add_off (by omega), hb, cutP_none, P_copy size S.next ((i + 1) * size) k k (s := .slice (some ⟨b, i * size, none⟩) k (cap - i)) (sl := k) rfl, W_firstN, put_off (by omega), add_off (by omega), hb, rdP_cells]
  have hm2 : Min.min k k = k := by omega
  have hdb : ((A ++ B ++ Z).drop (i * size)).take (k * size) = B := by
    rw [← hA, List.append_assoc, List.drop_left, ← hB, List.take_left]
  have hrl : (rep k zero).length = k * size := by rw [rep_len, hz]
  rw [hm2, condP_of (by omega), hdb, wp_stCells, put_at, blkP_cells, condP_of ⟨by simp [hA, hB, hn, hrl, Nat.add_mul]; omega, hBo⟩]
  have hsp2 : splice (A ++ new ++ rep k zero) ((i + 1) * size) B = A ++ new ++ B := by
    have h1 : (i + 1) * size = (A ++ new).length := by rw [List.length_append, hA, hn, Nat.add_mul, Nat.one_mul]
    have h2 := splice_mid (A ++ new) (rep k zero) B [] (by rw [hrl, hB])
    rw [List.append_nil, List.append_nil] at h2
    rw [h1]; exact h2
  rw [hsp2, apart_nil, okP_true, ← hil]
  exact hk2 _ (by repeat' (first | exact Fra.refl _ _ | assumption | apply Fra.add | (refine Fra.put ?_ ?_ _) | exact Or.inl (by (first | omega | (simp only [Hp.add_next, Hp.put_next]; done) | (simp only [Hp.add_next, Hp.put_next]; omega))) | exact Or.inr (by simp))) rfl (put_at _ _ _)
/-- two slices of plain cells of different blocks do not overlap -/
theorem P_apart (hov : F ov = some (.ext (.overlaps size))) {fuel : Nat} {S : Hp} {b bx ob ox lb cb lx cx : Nat} {eb ex : Option Nat} {cs xs : List Value} (hb : S.heap.get b = some (.cells eb false cs)) (hbx : S.heap.get bx = some (.cells ex false xs)) (hne : bx ≠ b) (hl : lb ≠ 0 ∧ lx ≠ 0 ∧ size ≠ 0) {Φ : Value → Hp → Prop} :
    wp (callN F (fuel + 1) (.fn ov) [.slice (some ⟨bx, ox, none⟩) lx cx, .slice (some ⟨b, ob, none⟩) lb cb]) Φ S = Φ (.bool false) S := by
  have h1 : ¬ (lx = 0 ∨ lb = 0 ∨ size = 0) := by omega
  have e : callN F (fuel + 1) (.fn ov) [.slice (some ⟨bx, ox, none⟩) lx cx, .slice (some ⟨b, ob, none⟩) lb cb] = (rd bx).bind fun x => (rd b).bind fun y => match x, y with
        | .cells _ false _, .cells _ false _ => M.pure (.bool (bx == b && decide (ox < ob + lb * size) && decide (ob < ox + lx * size)))
        | _, _ => M.fail := by
    funext S
    simp only [callN, hov, extA, if_neg h1]
    rfl
  have hl2 : ∀ x y : Blk, Lg (match x, y with
        | .cells _ false _, .cells _ false _ => M.pure (.bool (bx == b && decide (ox < ob + lb * size) && decide (ob < ox + lx * size)))
        | _, _ => M.fail : M Value) := by
    intro x y
    split
    · exact Lg.pure _
    · exact Lg.fail
  rw [e, wp_bind (Lg.rd _) (fun x => Lg.bind (Lg.rd _) fun y => hl2 x y), wp_rd, hbx, optP_some, wp_bind (Lg.rd _) (fun y => hl2 _ y), wp_rd, hb, optP_some]
  dsimp only
  rw [wp_pure]
  have : (bx == b) = false := by simpa using hne
  rw [this]
  rfl
/-- there is room -/
theorem ins_room (hF : F f = some (.go ⟨3, [.tmp 6], insB size bytes elem ov rot zero⟩)) (hov : F ov = some (.ext (.overlaps size))) {fuel : Nat} {S : Hp} {b bx ox i k cap cx : Nat} {ex : Option Nat} {A B Z1 Z2 X1 X2 new : List Value} (hs0 : size ≠ 0)
    (hk : 0 < k) (hcap : i + k + 1 ≤ cap) (hcb : i + k + 1 < 4611686018427387904) (hA : A.length = i * size) (hB : B.length = k * size) (hZ : Z1.length = size) (hn : new.length = size) (hX : X1.length = ox)
    (hb : S.heap.get b = some (.cells none false (A ++ B ++ (Z1 ++ Z2)))) (hbx : S.heap.get bx = some (.cells ex false (X1 ++ new ++ X2))) (hne : bx ≠ b) (hbl : b < S.next) (hbxl : bx < S.next) (hnew : new.all (·.oneCell') = true) (hBo : B.all (·.oneCell') = true)
    {Φ : Value → Hp → Prop} (hk2 : ∀ S', Fra [b] S S' → S'.next = S.next → S'.heap.get b = some (.cells none false (A ++ new ++ B ++ Z2)) → Φ (.slice (some ⟨b, 0, none⟩) (i + k + 1) cap) S') :
    wp (callN F (fuel + 1 + 1) (.fn f) [.slice (some ⟨b, 0, none⟩) (i + k) cap, .int .i64 i, .slice (some ⟨bx, ox, none⟩) 1 cx]) Φ S := by
  refine c_ins hF ?_
  unfold PIns
  have e1 : decide ((((1 : Nat) : Int)) = 0) = false := rfl
  have e2 : decide (((i : Nat) : Int) = ((i + k : Nat) : Int)) = false := decide_eq_false (by omega)
  have e3 : decide (((i + k + 1 : Nat) : Int) > ((cap : Nat) : Int)) = false := decide_eq_false (by omega)
  have hcp : ∀ (Φ : Value → Hp → Prop), wp (X (callN F (fuel + 1)) (.cap (.const (.slice (some ⟨b, 0, none⟩) (i + k) cap)))) Φ S = Φ (.int .i64 cap) S := fun Φ => P_capX hb
  have q1 : ((0 : Int) ≤ ((i : Nat) : Int) ∧ ((i : Nat) : Int) ≤ ((i + k : Nat) : Int)) = True := eq_true ⟨by omega, by omega⟩
  have q3 : ((i + k : Nat) : Int) + ((1 : Nat) : Int) = ((i + k + 1 : Nat) : Int) := by omega
  have q2 : ((0 : Int) ≤ ((i + k + 1 : Nat) : Int) ∧ ((i + k + 1 : Nat) : Int) ≤ ((cap : Nat) : Int)) = True := eq_true ⟨by omega, by omega⟩
  have q4 : ((i : Nat) : Int) + ((1 : Nat) : Int) = ((i + 1 : Nat) : Int) := by omega
  have q5 : slcR size b 0 0 0 (i + k + 1) cap = .slice (some ⟨b, 0, none⟩) (i + k + 1) cap := by simp [slcR]
  have q6 : slcR size b 0 0 (i + 1) (i + k + 1) cap = .slice (some ⟨b, (i + 1) * size, none⟩) k (cap - (i + 1)) := by
    rw [slcR, if_neg (by omega)]; congr 2 <;> first | omega | simp
  have q7 : ((0 : Int) ≤ ((i + 1 : Nat) : Int) ∧ ((i + 1 : Nat) : Int) ≤ ((i + k + 1 : Nat) : Int)) = True := eq_true ⟨by omega, by omega⟩
  have q8 : ((0 : Int) ≤ ((i : Nat) : Int) ∧ ((i : Nat) : Int) ≤ ((i + k + 1 : Nat) : Int)) = True := eq_true ⟨by omega, by omega⟩
  have q9 : slcR size b 0 0 i (i + k + 1) cap = .slice (some ⟨b, i * size, none⟩) (k + 1) (cap - i) := by
    rw [slcR, if_neg (by omega)]; congr 2 <;> first | omega | simp
  have hpa := @P_apart F size ov hov fuel S b bx ((i + 1) * size) ox k (cap - (i + 1)) 1 cx none ex _ _ hb hbx hne ⟨by omega, by omega, hs0⟩
  simp (disch := first | omega | (simp only [Hp.add_next, Hp.put_next]; done) | (simp only [Hp.add_next, Hp.put_next]; omega) | fail) only [↓P_pick, ↓P_not, ↓P_ext, ↓P_fld, ↓P_fldA, ↓P_nil, ↓P_alloc, ↓P_box, ↓P_build, ↓P_bslice, ↓P_load1, ↓P_loadN, ↓P_cell1, ↓P_cellN, ↓D_load1, ↓D_loadN, ↓P_store, ↓P_ixA, ↓P_ix, ↓P_ixS, ↓P_lenS, ↓P_lenE, ↓P_lenStr, ↓P_mkif, ↓P_eqB, ↓P_eqC, ↓P_mkslice, ↓P_slc, ↓P_slc0, ↓P_andQ, andQ_tt, andQ_tf, andQ_ff, andQ_ft, andQ_p, orQ_p, ifP_bool, ifB_true, ifB_false, ↓P_eqptr0, ↓P_eqptr1, ↓P_eqptr0N, ↓P_eqptr1N, ↓P_eqsl0, ↓P_eqsl1, ↓P_eqsl0N, ↓P_eqsl1N, ↓P_eqmap0, ↓P_eqmap1, ↓P_eqmap0N, ↓P_eqmap1N, ↓P_eqfn0, ↓P_eqfn1, ↓P_eqfn0N, ↓P_eqfn1N, ↓P_lss, ↓P_leq, ↓P_gtr, ↓P_geq, ↓P_eql, ↓P_neq, ↓P_add64, ↓P_sub64, ↓P_addU64, ↓P_subU64, ↓P_addU32, ↓P_subU32, ↓P_addU16, ↓P_subU16, ↓P_addU8, ↓P_subU8, ↓P_convI64, ↓P_convU64, ↓P_convU32, ↓P_convU16, ↓P_convU8, ↓P_seql, ↓P_sneq, ↓P_sadd, ↓P_call0, ↓P_mkfn0, ↓P_call1, ↓P_mkfn1, ↓P_call2, ↓P_mkfn2, ↓P_call3, ↓P_mkfn3, ↓P_call4, ↓P_mkfn4, ↓P_call5, ↓P_mkfn5, ↓P_call6, ↓P_mkfn6, ↓P_call7, ↓P_mkfn7, ↓P_callF0, ↓P_callY0, ↓P_mkfnR0, ↓P_callF1, ↓P_callY1, ↓P_mkfnR1, ↓P_callF2, ↓P_callY2, ↓P_mkfnR2, ↓P_callF3, ↓P_callY3, ↓P_mkfnR3, ↓P_callF4, ↓P_callY4, ↓P_mkfnR4, blkP_cells, rdP_cells, rdP_ro, cutP_none, cutP_some, cutP_ro, optP_some, condP_true, condP_of, bnds_l, bnds_h, bnds_lh, bnds_0, put_at, put_off, add_at, add_eq, add_off, Hp.put_next, Hp.add_next, ↓P_b2strN, ↓P_b2str, ↓P_max, ↓P_mov, ↓P_Gff, ↓P_Gtt, ↓P_Gft, ↓P_Gtf, ↓D_Gff, ↓D_Gtt, ↓D_Gft, ↓D_Gtf, List.getElem?_cons_zero, List.getElem?_cons_succ, List.length_cons, List.length_nil, Nat.zero_add, Nat.add_zero, Nat.reduceAdd, Nat.reduceLeDiff, Nat.reduceSub, Nat.reduceMul, Nat.reduceEqDiff, List.drop_zero, List.drop_succ_cons, List.take_succ_cons, List.take_zero, and_self, and_true, true_and, if_true, if_false, Bool.false_eq_true, Bool.not_true, Bool.not_false, decide_true, decide_false, beq_true, beq_false, Bool.true_beq, Bool.false_beq, fillA, Atom.ev, setAll, List.set_cons_zero, List.set_cons_succ, List.size_toArray, splice_z, splice_1, splice_2, splice_3, splice_4, overlay_n, overlay_c, List.all_cons, List.all_nil, one_int, one_bool, one_str, one_ptr, one_sl, one_map, one_fn, one_nf, cells_agg, cells_int, cells_bool, cells_str, cells_ptr, cells_sl, cells_map, cells_fn, cells_nf, cells_tok, Bool.and_self, Bool.or_self, Bool.true_or, Bool.or_true, Bool.false_or, Bool.or_false, Bool.false_and, Bool.and_false, Bool.and_true, Bool.true_and, beq_self_eq_true, Int.reduceToNat, List.nil_append, List.append_nil, List.cons_append, Int.le_refl, Int.toNat_natCast, splice_5, splice_6, hb, e1, e2, e3, hcp, q1, q2, q3, q4, q5, q6, q7, q8, q9, Nat.le_add_right, Nat.zero_le, hpa]
  have hm1 : Min.min (k + 1) k = k := by omega
  have hm2 : Min.min 1 (k + 1) = 1 := by omega
  have hdb : ((A ++ B ++ (Z1 ++ Z2)).drop (i * size)).take (k * size) = B := by
    rw [← hA, List.append_assoc, List.drop_left, ← hB, List.take_left]
  have hAl : (A ++ B ++ (Z1 ++ Z2)).length = i * size + (k * size + (size + Z2.length)) := by simp [hA, hB, hZ, Nat.add_assoc]
  rw [P_copy size b ((i + 1) * size) k (cap - (i + 1)) (s := .slice (some ⟨b, i * size, none⟩) (k + 1) (cap - i)) (sl := k + 1) rfl, W_firstN, hb, rdP_cells, hm1, condP_of (by omega), hdb, wp_stCells, hb, blkP_cells,
    condP_of ⟨by rw [hAl, hB, Nat.add_mul, Nat.one_mul]; omega, hBo⟩]
  have hsz : size ≤ (B ++ Z1).length := by rw [List.length_append, hZ]; omega
  have hPl : ((B ++ Z1).take size).length = size := by rw [List.length_take]; omega
  have hQl : ((B ++ Z1).drop size).length = B.length := by rw [List.length_drop, List.length_append, hZ]; omega
  have hsp : splice (A ++ B ++ (Z1 ++ Z2)) ((i + 1) * size) B = A ++ (B ++ Z1).take size ++ B ++ Z2 := by
    have h1 : (i + 1) * size = (A ++ (B ++ Z1).take size).length := by rw [List.length_append, hA, hPl, Nat.add_mul, Nat.one_mul]
    have h2 := splice_mid (A ++ (B ++ Z1).take size) ((B ++ Z1).drop size) B Z2 hQl
    have h3 : A ++ B ++ (Z1 ++ Z2) = A ++ (B ++ Z1).take size ++ (B ++ Z1).drop size ++ Z2 := by
      rw [List.append_assoc A ((B ++ Z1).take size), List.take_append_drop]; simp
    rw [h1, h3]; exact h2
  have hdx : ((X1 ++ new ++ X2).drop ox).take size = new := by
    rw [← hX, List.append_assoc, List.drop_left, ← hn, List.take_left]
  rw [hsp, apart_nil, okP_true, put_at, cutP_none, P_copy size b (i * size) (k + 1) (cap - i) (s := .slice (some ⟨bx, ox, none⟩) 1 cx) (sl := 1) rfl, W_firstN, put_off hne, hbx, rdP_cells, hm2, Nat.one_mul, condP_of (by simp [hX, hn]), hdx,
    wp_stCells, put_at, blkP_cells, condP_of ⟨by simp [hA, hB, hPl, hn], hnew⟩]
  have hsp2 : splice (A ++ (B ++ Z1).take size ++ B ++ Z2) (i * size) new = A ++ new ++ B ++ Z2 := by
    have h2 := splice_mid A ((B ++ Z1).take size) new (B ++ Z2) (by rw [hPl, hn])
    rw [← hA, List.append_assoc _ B, h2, List.append_assoc _ B]
  rw [hsp2]
  exact hk2 _ (by repeat' (first | exact Fra.refl _ _ | assumption | apply Fra.add | (refine Fra.put ?_ ?_ _) | exact Or.inl (by (first | omega | (simp only [Hp.add_next, Hp.put_next]; done) | (simp only [Hp.add_next, Hp.put_next]; omega))) | exact Or.inr (by simp))) rfl (put_at _ _ _)
end
end Go.Wb
end
/- The engine, part Ins2: slices.Insert of one element is what the primitive says. -/
section
set_option maxRecDepth 100000
set_option linter.unusedSimpArgs false
set_option linter.unusedVariables false
namespace Go.Wb
set_option linter.unusedSectionVars false
variable [GloK]
theorem wp_of_run {α : Type} {m : M α} (hm : Lg m) {S S' : St} {a : α} (h : m S = some (a, S')) {Φ : α → Hp → Prop} (k : Φ a S'.h) : wp m Φ S.h := by
  obtain ⟨D, h1, h2⟩ := hm _ _ _ h
  refine ⟨a, _, h2 [], ?_⟩
  have e : ({ heap := S'.heap, next := S'.next, log := D ++ [] } : St).over S.h.wl = S'.h := by
    simp only [St.over, St.h, h1, wrs_append, List.append_nil]
  rw [e]; exact k
theorem mem_wrs : ∀ {a : List (Nat × Bool)} {b : Nat}, b ∈ wrs a → (b, true) ∈ a
  | (x, true) :: a, b, h => by
    rcases List.mem_cons.1 h with h | h
    · subst h; exact List.mem_cons_self ..
    · exact List.mem_cons_of_mem _ (mem_wrs h)
  | (_, false) :: a, b, h => List.mem_cons_of_mem _ (mem_wrs (a := a) h)
theorem sim_relog {P : Program} {D D' : List (Nat × Bool)} {r r' : Ren} {S S1 S' : St} {w w' : World} (h : Sim P D r S w r' S1 w') (hh : S'.heap = S1.heap) (hn : S'.next = S1.next) (hl : S'.log = D' ++ S.log) (hD : ∀ id, (id, true) ∈ D → (id, true) ∈ D') : Sim P D' r S w r' S' w' where
  le := h.le
  rel := ⟨fun id b hb => h.rel.at_ id b (by rw [← hh]; exact hb), fun i j bi bj hi hj => h.rel.inj' i j bi bj (by rw [← hh]; exact hi) (by rw [← hh]; exact hj), by rw [hh]; exact h.rel.glo⟩
  log := hl
  next := by rw [hn]; exact h.next
  dom := fun id => by rw [hn]; exact h.dom id
  size := h.size
  os := h.os
  tape := h.tape
  output := h.output
  frame := h.frame
  kept := fun id b hb hn => h.kept id b hb fun c => hn (hD id c)
  same := fun id hi hx => by rw [hh]; exact h.same id (fun c => hi (hD id c)) (by rw [← hn]; exact hx)
  live := fun k hk ⟨id, b, hb, e⟩ => h.live k hk ⟨id, b, by rw [← hh]; exact hb, e⟩
section
variable {P : Program} {F : Nat → Option AFn} {size bytes elem ov rot f : Nat} {zero : List Value}
/-- at the end: an append -/
theorem ins_end (hm : P.follows .mixedOrders = true) (hF : TabOk P F) (hf : F f = some (.go ⟨3, [.tmp 6], insB size bytes elem ov rot zero⟩)) {base : Option Addr} {n c : Nat} {i : Int} {xb : Option Addr} {xc : Nat} {v : Value} {S S' : St}
    (hi : i = n) (h : insA size bytes base n c i xb xc S = some (v, S')) {r : Ren} {w : World} (hr : Rel P r S w) (hfr : Fresh r S S') {args' : Array Value} (ha : LRel r [.slice base n c, .int .i64 i, .slice xb 1 xc] args'.toList) (fc : Frame) (ccs : List Frame) :
    ∃ D r' w' v', Sim P D r S w r' S' w' ∧ VRel r' v v' ∧ CallAt P fc ccs (callFunc f args') w v' w' := by
  subst hi
  unfold insA at h
  split at h
  case isFalse => exact (M.fail_some.1 h).elim
  rename_i hc
  rw [if_pos rfl] at h
  simp only [M.bind_some] at h
  obtain ⟨_, S0, h1, h2⟩ := h
  have hL := Lg.appendA size bytes (.slice base n c) (.slice xb 1 xc)
  -- what the first look leaves
  have h0 : S0.heap = S.heap ∧ S0.next = S.next ∧ ∃ D0, S0.log = D0 ++ S.log ∧ wrs D0 = [] := by
    unfold chkC at h1
    split at h1
    · obtain ⟨_, rfl⟩ := M.pure_some.1 h1; exact ⟨rfl, rfl, [], rfl, rfl⟩
    · simp only [M.bind_some, rd_some] at h1
      obtain ⟨o, S2, ⟨_, rfl⟩, h3⟩ := h1
      split at h3
      · split at h3
        · obtain ⟨_, rfl⟩ := M.pure_some.1 h3; exact ⟨rfl, rfl, [(_, false)], rfl, rfl⟩
        · exact (M.fail_some.1 h3).elim
      · exact (M.fail_some.1 h3).elim
  obtain ⟨e1, e2, D0, e3, e4⟩ := h0
  obtain ⟨D1, e5, e6⟩ := hL _ _ _ h2
  have hrun : appendA size bytes (.slice base n c) (.slice xb 1 xc) S = some (v, { heap := S'.heap, next := S'.next, log := D1 ++ S.log }) := by
    have := e6 S.log
    rw [e1, e2] at this
    exact this
  have hslc : ∀ Φ : Value → Hp → Prop, (∀ u, Φ u S.h) → wp (X (callN F 3) (.slc size (.const (.slice base n c)) (some (.const (.int .i64 n))) none none)) Φ S.h := by
    intro Φ hk
    have hb : ((0 : Int) ≤ ((n : Nat) : Int) ∧ ((n : Nat) : Int) ≤ (n : Nat)) := ⟨by omega, by omega⟩
    cases base with
    | none =>
      obtain ⟨s', _, hs⟩ := ha.get (i := 0) rfl
      obtain ⟨rfl, rfl, _⟩ := hs.slcNil_inv
      rw [P_slc0, bnds_l, if_pos ⟨by omega, by omega⟩, optP_some]
      exact hk _
    | some a =>
      have hsp : a.spot = none := by
        obtain ⟨s', _, hs⟩ := ha.get (i := 0) rfl
        exact hs.slc_inv.1
      obtain ⟨b, o, sp⟩ := a
      simp only at hsp
      subst hsp
      rw [P_slc, bnds_l, if_pos hb, optP_some, condP_of hc.2.2]
      unfold chkC at h1
      simp only [M.bind_some, rd_some] at h1
      obtain ⟨o1, S2, ⟨hg, rfl⟩, h3⟩ := h1
      split at h3
      · split at h3
        · rename_i x s cs hx
          show cutP size (S.heap.get b) _
          rw [hg]
          rcases hx with rfl | rfl
          · rw [cutP_none]; exact hk _
          · rw [cutP_some]; exact hk _
        · exact (M.fail_some.1 h3).elim
      · exact (M.fail_some.1 h3).elim
  have hw : wp (callN F 4 (.fn f) [.slice base n c, .int .i64 n, .slice xb 1 xc]) (fun u T => u = v ∧ T.heap = S'.heap ∧ T.next = S'.next ∧ T.wl = wrs D1 ++ S.h.wl) S.h := by
    refine c_ins hf ?_
    unfold PIns
    refine hslc _ fun u => ?_
    have e1 : decide ((((1 : Nat) : Int)) = 0) = false := rfl
    rw [P_lenS, P_eql, e1, ifP_bool, ifB_false, P_lenS, P_eql, decide_eq_true rfl, ifP_bool, ifB_true, X_app]
    refine wp_of_run hL hrun ⟨rfl, rfl, rfl, ?_⟩
    show wrs (D1 ++ S.log) = _
    rw [wrs_append]; rfl
  obtain ⟨u, S1, k1, rfl, k2, k3, k4⟩ := wp_raw (Lg.callN F 4 _ _) hw
  have hfr1 : Fresh r S S1 := fun id a b => hfr id a (by have : S1.next = S'.next := k3; omega)
  obtain ⟨D2, r', w', v', g1, g2, g3⟩ := callN_ok hm hF 4 (.fn f) _ _ _ _ k1 r w hr hfr1 args' ha trivial fc ccs
  have hlog : S'.log = (D1 ++ D0) ++ S.log := by rw [e5, e3, List.append_assoc]
  refine ⟨D1 ++ D0, r', w', v', sim_relog g1 k2.symm k3.symm hlog fun id hid => ?_, g2, g3⟩
  have : wrs S1.log = wrs D1 ++ wrs S.log := k4
  rw [g1.log, wrs_append] at this
  have hD : wrs D2 = wrs D1 := List.append_cancel_right this
  have h5 := wrs_mem hid
  rw [hD] at h5
  exact List.mem_append.2 (.inl (mem_wrs h5))
/-- what a split list is -/
theorem split3 (L : List Value) (a b : Nat) (h : a + b ≤ L.length) : L = L.take a ++ (L.drop a).take b ++ L.drop (a + b) := by
  rw [← List.drop_drop, List.append_assoc, List.take_append_drop, List.take_append_drop]
theorem rep_one {m : Nat} {z : List Value} (h : z.all (·.oneCell') = true) : (rep m z).all (·.oneCell') = true := by
  rw [List.all_eq_true] at h ⊢
  exact fun x hx => h x (rep_mem hx)
theorem LRel.of_plain {r : Ren} : ∀ {l : List Value}, (∀ x ∈ l, plain x = true) → LRel r l l
  | [], _ => .nil
  | x :: l, h => .cons (plain_rel (h x (List.mem_cons_self ..))) (LRel.of_plain fun y hy => h y (List.mem_cons_of_mem _ hy))
theorem VRel.restrict {r r1 : Ren} (h : r.le r1) {v v0 : Value} (k : VRel r v v0) : ∀ {v' : Value}, VRel r1 v v' → VRel r v v' := by
  have L : ∀ {a a0 a1 : Array Value}, a.toList.length = a0.toList.length → (∀ (i : Nat) (x y : Value), a.toList[i]? = some x → a0.toList[i]? = some y → ∀ {z : Value}, VRel r1 x z → VRel r x z) →
      (∀ (i : Nat) (x y : Value), a.toList[i]? = some x → a1.toList[i]? = some y → VRel r1 x y) → ∀ (i : Nat) (x y : Value), a.toList[i]? = some x → a1.toList[i]? = some y → VRel r x y := by
    intro a a0 a1 hl h1 h2 i x y hx hy
    have hi : i < a0.toList.length := by rw [← hl]; exact (List.getElem?_eq_some_iff.1 hx).1
    exact h1 i x _ hx (List.getElem?_eq_getElem hi) (h2 i x y hx hy)
  induction k with
  | bool b => intro v' g; cases g; exact .bool b
  | int k n => intro v' g; cases g; exact .int k n
  | string s => intro v' g; cases g; exact .string s
  | ptrNil => intro v' g; cases g; exact .ptrNil
  | slcNil => intro v' g; cases g; exact .slcNil
  | slcE a => intro v' g; cases g; exact .slcE _
  | mapNil => intro v' g; cases g; exact .mapNil
  | map hd => intro v' g; cases g; rw [h.to _ hd]; exact .map hd
  | nilFunc => intro v' g; cases g; exact .nilFunc
  | nilIface => intro v' g; cases g; exact .nilIface
  | ptr hd => intro v' g; cases g; rw [h.to _ hd, h.base _ hd]; exact .ptr hd
  | slc hd h1 h2 h3 =>
    intro v' g
    cases g with
    | slc g1 g2 g3 g4 =>
      rw [h.to _ hd, h.base _ hd]
      exact .slc hd (by rw [← h.ext _ hd]; exact g2) g3 (by rw [← h.ext _ hd, ← h.base _ hd, ← h.size _ hd]; exact g4)
    | slc0 g1 g2 g3 g4 =>
      rw [h.to _ hd]
      exact .slc0 hd (by rw [← h.ext _ hd]; exact g2) (by rw [← h.base _ hd]; exact g3) (by rw [← h.size _ hd]; exact g4)
  | slc0 hd h1 h2 h3 =>
    intro v' g
    cases g with
    | slc g1 g2 g3 g4 =>
      rw [h.to _ hd, h.base _ hd]
      exact .slc hd (by rw [← h.ext _ hd]; exact g2) g3 (by rw [← h.ext _ hd, ← h.base _ hd, ← h.size _ hd]; exact g4)
    | slc0 g1 g2 g3 g4 =>
      rw [h.to _ hd]
      exact .slc0 hd (by rw [← h.ext _ hd]; exact g2) (by rw [← h.base _ hd]; exact g3) (by rw [← h.size _ hd]; exact g4)
  | func h1 h2 h3 h4 ih1 ih2 => intro v' g; cases g with | func g1 g2 g3 g4 => exact .func g1 (L h1 ih1 g2) g3 (L h3 ih2 g4)
  | yield hd => intro v' g; cases g; rw [h.to _ hd]; exact .yield hd
  | agg h1 h2 ih => intro v' g; cases g with | agg g1 g2 => exact .agg g1 (L h1 ih g2)
  | tuple h1 h2 ih => intro v' g; cases g with | tuple g1 g2 => exact .tuple g1 (L h1 ih g2)
  | iface h1 ih => intro v' g; cases g with | iface g1 => exact .iface (ih g1)
theorem LRel.restrict {r r1 : Ren} (h : r.le r1) {l l0 : List Value} (k : LRel r l l0) : ∀ {l' : List Value}, LRel r1 l l' → LRel r l l' := by
  induction k with
  | nil => intro l' g; cases g; exact .nil
  | cons hv _ ih => intro l' g; cases g with | cons g1 g2 => exact .cons (hv.restrict h g1) (ih g2)
/-- a block that is killed, and lies anew where a run over another view of it has laid it -/
theorem sim_view {r r1' : Ren} {S S' T T' : St} {w w' : World} {b M idr base0 : Nat} {sz : Nat} {b0 blk1 blkr nb : Blk} {D D1 : List (Nat × Bool)} {o : Obj} {sz1 : Nat} {e1 e2 : Option Nat} (hr : Rel P r S w) (hdn : ¬ r.dom S.next) (hM : ∀ id, r.dom id → id < M) (hMS : S.next ≤ M) (hgb : S.heap.get b = some b0) (hro : b0.isRo = false)
    (hT : T.heap = (S.heap.set b none).set M (some blk1)) (hTn : T.next = M + 1) (hs : Sim P D1 (r.add M (r.to b) base0 sz1 e1) T w r1' T' w') (hD1 : ∀ id, (id, true) ∈ D1 → M ≤ id) (hid : M ≤ idr) (hgr : T'.heap.get idr = some blkr) (hror : blkr.isRo = false) (ho : w'.heap[r1'.to idr]? = some o)
    (hB : BRel P (r.add S.next (r1'.to idr) (r1'.base idr) sz e2) S.next nb o) (hSh : S'.heap = (S.heap.set b none).set S.next (some nb)) (hSn : S'.next = S.next + 1) (hSl : S'.log = D ++ S.log) (hD : (b, true) ∈ D) (hnro : nb.isRo = false) :
    Sim P D r S w (r.add S.next (r1'.to idr) (r1'.base idr) sz e2) S' w' := by
  have hle : r.le (r.add S.next (r1'.to idr) (r1'.base idr) sz e2) := Ren.le_add hdn
  have hdM : ¬ r.dom M := fun h => by have := hM M h; omega
  have hle1 : r.le (r.add M (r.to b) base0 sz1 e1) := Ren.le_add hdM
  have hdb := (hr.at_ b b0 hgb).1
  -- old blocks in the view
  have hold : ∀ id y, id ≠ b → S.heap.get id = some y → id < M ∧ T.heap.get id = some y ∧ T'.heap.get id = some y ∧ w'.heap[r.to id]? = w.heap[r.to id]? ∧ r1'.to id = r.to id := by
    intro id y hne hy
    have hd := (hr.at_ id y hy).1
    have hlt := hM id hd
    have h1 : T.heap.get id = some y := by rw [hT, Tr.get_set, Tr.get_set, if_neg (by omega), if_neg hne]; exact hy
    have h2 : (id, true) ∉ D1 := fun c => by have := hD1 id c; omega
    have h3 : (r.add M (r.to b) base0 sz1 e1).to id = r.to id := hle1.to id hd
    refine ⟨hlt, h1, ?_, ?_, ?_⟩
    · rw [hs.same id h2 (by omega)]; exact h1
    · have := hs.kept id y h1 h2
      rw [h3] at this; exact this
    · rw [hs.le.to id (hle1.dom id hd), h3]
  have hliveT : ∀ k, Live (r.add M (r.to b) base0 sz1 e1) T k → Live r S k := by
    rintro k ⟨id, y, hy, e⟩
    rw [hT, Tr.get_set, Tr.get_set] at hy
    by_cases c : id = M
    · subst c; rw [Ren.add_to] at e; exact ⟨b, b0, hgb, e⟩
    · rw [if_neg c] at hy
      by_cases c2 : id = b
      · rw [if_pos c2] at hy; cases hy
      · rw [if_neg c2] at hy
        exact ⟨id, y, hy, by rw [← hle1.to id (hr.at_ id y hy).1]; exact e⟩
  have A : ∀ id y, S'.heap.get id = some y → (id = S.next ∧ y = nb) ∨ (id ≠ S.next ∧ id ≠ b ∧ S.heap.get id = some y) := by
    intro id y hy
    rw [hSh, Tr.get_set, Tr.get_set] at hy
    by_cases c : id = S.next
    · rw [if_pos c] at hy; cases hy; exact .inl ⟨c, rfl⟩
    · rw [if_neg c] at hy
      by_cases c2 : id = b
      · rw [if_pos c2] at hy; cases hy
      · rw [if_neg c2] at hy; exact .inr ⟨c, c2, hy⟩
  refine { le := hle, rel := ⟨?_, ?_, by rw [hSh]; exact hr.glo.set2 hle (ro_ne hgb hro) hdn _ _⟩, log := hSl, next := by omega, dom := ?_, size := hs.size, os := hs.os, tape := hs.tape, output := hs.output, frame := ?_, kept := ?_, same := ?_, live := ?_ }
  · intro id y hy
    rcases A id y hy with ⟨rfl, rfl⟩ | ⟨h1, h2, h3⟩
    · exact ⟨Ren.add_dom .., o, by rw [Ren.add_to]; exact ho, hB⟩
    · obtain ⟨hd, o1, g1, g2⟩ := hr.at_ id y h3
      obtain ⟨_, _, _, g3, _⟩ := hold id y h2 h3
      exact ⟨hle.dom id hd, o1, by rw [hle.to id hd, g3]; exact g1, g2.mono hle hd⟩
  · intro i j bi bj hi hj hx e
    rcases A i bi hi with ⟨rfl, rfl⟩ | ⟨ei, ei2, hi⟩ <;> rcases A j bj hj with ⟨rfl, rfl⟩ | ⟨ej, ej2, hj⟩
    · rfl
    · obtain ⟨g1, _, g2, _, g4⟩ := hold j bj ej2 hj
      rw [Ren.add_to, hle.to j (hr.at_ j bj hj).1, ← g4] at e
      have := hs.rel.inj' idr j _ _ hgr g2 (.inl hror) e
      omega
    · obtain ⟨g1, _, g2, _, g4⟩ := hold i bi ei2 hi
      rw [Ren.add_to, hle.to i (hr.at_ i bi hi).1, ← g4] at e
      have := hs.rel.inj' i idr _ _ g2 hgr (.inr hror) e
      omega
    · rw [hle.to i (hr.at_ i bi hi).1, hle.to j (hr.at_ j bj hj).1] at e
      exact hr.inj' i j bi bj hi hj hx e
  · intro id
    rw [hSn]
    exact ⟨fun c => c.elim .inl fun e => .inr (by omega), fun c => c.elim .inl fun ⟨a, b⟩ => .inr (by omega)⟩
  · intro k hk hl
    exact hs.frame k hk fun c => hl (hliveT k c)
  · intro id y hy hn
    have hne : id ≠ b := fun c => hn (c ▸ hD)
    exact (hold id y hne hy).2.2.2.1
  · intro id hn hx
    rw [hSh, Tr.get_set, Tr.get_set, if_neg (by omega), if_neg (fun c : id = b => hn (c ▸ hD))]
  · rintro k hk ⟨id, y, hy, e⟩
    rcases A id y hy with ⟨rfl, rfl⟩ | ⟨h1, h2, h3⟩
    · rw [Ren.add_to] at e
      exact hliveT k (hs.live k hk ⟨idr, blkr, hgr, e⟩)
    · exact ⟨id, y, h3, by rw [← hle.to id (hr.at_ id y h3).1]; exact e⟩
/-- a block that is written where a run over another view of it has written it -/
theorem sim_view2 {r r1' : Ren} {S S' T T' : St} {w w' : World} {b M base0 : Nat} {sz1 : Nat} {b0 blk1 nb : Blk} {D D1 : List (Nat × Bool)} {o : Obj} {e1 : Option Nat} (hr : Rel P r S w) (hM : ∀ id, r.dom id → id < M) (hgb : S.heap.get b = some b0) (hro : b0.isRo = false)
    (hT : T.heap = (S.heap.set b none).set M (some blk1)) (hTn : T.next = M + 1) (hs : Sim P D1 (r.add M (r.to b) base0 sz1 e1) T w r1' T' w') (hD1 : ∀ id, (id, true) ∈ D1 → M ≤ id) (ho : w'.heap[r.to b]? = some o)
    (hB : BRel P r b nb o) (hSh : S'.heap = S.heap.set b (some nb)) (hSn : S'.next = S.next) (hSl : S'.log = D ++ S.log) (hD : (b, true) ∈ D) : Sim P D r S w r S' w' := by
  have hdM : ¬ r.dom M := fun h => by have := hM M h; omega
  have hle1 : r.le (r.add M (r.to b) base0 sz1 e1) := Ren.le_add hdM
  have hold : ∀ id y, id ≠ b → S.heap.get id = some y → w'.heap[r.to id]? = w.heap[r.to id]? := by
    intro id y hne hy
    have hd := (hr.at_ id y hy).1
    have hlt := hM id hd
    have h1 : T.heap.get id = some y := by rw [hT, Tr.get_set, Tr.get_set, if_neg (by omega), if_neg hne]; exact hy
    have h2 : (id, true) ∉ D1 := fun c => by have := hD1 id c; omega
    have := hs.kept id y h1 h2
    rw [hle1.to id hd] at this; exact this
  have hliveT : ∀ k, Live (r.add M (r.to b) base0 sz1 e1) T k → Live r S k := by
    rintro k ⟨id, y, hy, e⟩
    rw [hT, Tr.get_set, Tr.get_set] at hy
    by_cases c : id = M
    · subst c; rw [Ren.add_to] at e; exact ⟨b, b0, hgb, e⟩
    · rw [if_neg c] at hy
      by_cases c2 : id = b
      · rw [if_pos c2] at hy; cases hy
      · rw [if_neg c2] at hy
        exact ⟨id, y, hy, by rw [← hle1.to id (hr.at_ id y hy).1]; exact e⟩
  have A : ∀ id y, S'.heap.get id = some y → ∃ z, S.heap.get id = some z ∧ (y.isRo = false → z.isRo = false) := by
    intro id y hy
    rw [hSh, Tr.get_set] at hy
    by_cases c : id = b
    · subst c; exact ⟨b0, hgb, fun _ => hro⟩
    · rw [if_neg c] at hy; exact ⟨y, hy, fun h => h⟩
  refine { le := .refl r, rel := ⟨?_, ?_, by rw [hSh]; exact hr.glo.set (.refl r) (ro_ne hgb hro) _⟩, log := hSl, next := by omega, dom := ?_, size := hs.size, os := hs.os, tape := hs.tape, output := hs.output, frame := ?_, kept := ?_, same := ?_, live := ?_ }
  · intro id y hy
    rw [hSh, Tr.get_set] at hy
    by_cases c : id = b
    · subst c
      rw [if_pos rfl] at hy
      cases hy
      exact ⟨(hr.at_ _ _ hgb).1, o, ho, hB⟩
    · rw [if_neg c] at hy
      obtain ⟨hd, o1, g1, g2⟩ := hr.at_ id y hy
      exact ⟨hd, o1, by rw [hold id y c hy]; exact g1, g2⟩
  · intro i j bi bj hi hj hx e
    obtain ⟨y, hy, hy'⟩ := A i bi hi
    obtain ⟨z, hz, hz'⟩ := A j bj hj
    exact hr.inj' i j y z hy hz (hx.imp hy' hz') e
  · intro id
    exact ⟨fun h => .inl h, fun h => h.elim (fun h => h) fun ⟨a, b⟩ => by omega⟩
  · intro k hk hl
    exact hs.frame k hk fun c => hl (hliveT k c)
  · intro id y hy hn
    exact hold id y (fun c => hn (c ▸ hD)) hy
  · intro id hn hx
    rw [hSh, Tr.get_set, if_neg (fun c : id = b => hn (c ▸ hD))]
  · rintro k hk ⟨id, y, hy, e⟩
    obtain ⟨z, hz, _⟩ := A id y hy
    exact ⟨id, z, hz, e⟩
/-- within: in place, or over a new block -/
theorem ins_mid (hm : P.follows .mixedOrders = true) (hF : TabOk P F) (hf : F f = some (.go ⟨3, [.tmp 6], insB size bytes elem ov rot zero⟩)) (hov : F ov = some (.ext (.overlaps size))) (hz : zero.length = size) (hzo : zero.all (·.oneCell') = true)
    {base : Option Addr} {n c : Nat} {i : Int} {xb : Option Addr} {xc : Nat} {v : Value} {S S' : St}
    (hi : i ≠ n) (hnp : ¬ n + 1 ≤ c) (h : insA size bytes base n c i xb xc S = some (v, S')) {r : Ren} {w : World} (hr : Rel P r S w) (hfr : Fresh r S S') {args' : Array Value} (ha : LRel r [.slice base n c, .int .i64 i, .slice xb 1 xc] args'.toList) (fc : Frame) (ccs : List Frame) :
    ∃ D r' w' v', Sim P D r S w r' S' w' ∧ VRel r' v v' ∧ CallAt P fc ccs (callFunc f args') w v' w' := by
  unfold insA at h
  split at h
  case isFalse => exact (M.fail_some.1 h).elim
  rename_i hc
  cases base with
  | none => exact (M.fail_some.1 h).elim
  | some a =>
  cases xb with
  | none => exact (M.fail_some.1 h).elim
  | some x =>
  simp only at h
  split at h
  case isFalse => exact (M.fail_some.1 h).elim
  rename_i hne
  obtain ⟨i0, rfl⟩ : ∃ i0 : Nat, i = i0 := ⟨i.toNat, by omega⟩
  have hin : i0 < n := by omega
  obtain ⟨k, rfl⟩ : ∃ k, n = i0 + k := ⟨n - i0, by omega⟩
  have hk : 0 < k := by omega
  have hk1 : i0 + k + 1 - i0 = k + 1 := by omega
  have hk2 : i0 + k - i0 = k := by omega
  rw [Int.toNat_natCast, hk2] at h
  simp only [M.bind_some] at h
  obtain ⟨_, S1, h1, _, S2, h2, h3⟩ := h
  -- the two looks
  have hx : ∃ ex xs, S.heap.get x.block = some (.cells ex false xs) ∧ S1 = { heap := S.heap, next := S.next, log := (x.block, false) :: S.log } := by
    unfold chkS at h1
    simp only [M.bind_some, rd_some] at h1
    obtain ⟨o, S3, ⟨hg, rfl⟩, h4⟩ := h1
    split at h4
    · obtain ⟨_, rfl⟩ := M.pure_some.1 h4; exact ⟨_, _, hg, rfl⟩
    · obtain ⟨_, rfl⟩ := M.pure_some.1 (by simpa using h4); exact ⟨_, _, hg, rfl⟩
    · exact (M.fail_some.1 h4).elim
  obtain ⟨ex, xs, hgx, rfl⟩ := hx
  have hb : ∃ z cs, S.heap.get a.block = some (.cells (some z) false cs) ∧ S2 = { heap := S.heap, next := S.next, log := (a.block, false) :: (x.block, false) :: S.log } := by
    unfold chkS at h2
    simp only [M.bind_some, rd_some] at h2
    obtain ⟨o, S3, ⟨hg, rfl⟩, h4⟩ := h2
    split at h4
    · obtain ⟨_, rfl⟩ := M.pure_some.1 h4; exact ⟨_, _, hg, rfl⟩
    · simp only [if_true] at h4; exact (M.fail_some.1 h4).elim
    · exact (M.fail_some.1 h4).elim
  obtain ⟨z, cs, hgb, rfl⟩ := hb
  unfold insG at h3
  split at h3
  case isFalse => exact (M.fail_some.1 h3).elim
  rename_i hcnd
  rw [hk1, if_neg (by omega)] at h3
  unfold growA at h3
  split at h3
  case isFalse => exact (M.fail_some.1 h3).elim
  rename_i hbig
  obtain ⟨hbig, hb0, hs0⟩ := hbig
  simp only [M.bind_some] at h3
  obtain ⟨new, S3, ⟨l, S4, h4, rr, S5, h5, h6⟩, h7⟩ := h3
  obtain ⟨rfl, rfl⟩ := M.pure_some.1 h6
  simp only [ldCells, M.bind_some, rd_some] at h4 h5
  obtain ⟨o4, S6, ⟨g4, rfl⟩, h4⟩ := h4
  obtain rfl : Blk.cells ex false xs = o4 := by
    have : some (Blk.cells ex false xs) = some o4 := hgx.symm.trans g4
    simpa using this
  simp only at h4
  split at h4
  case isFalse => exact (M.fail_some.1 h4).elim
  rename_i hxl
  obtain ⟨rfl, rfl⟩ := M.pure_some.1 h4
  obtain ⟨o5, S7, ⟨g5, rfl⟩, h5⟩ := h5
  obtain rfl : Blk.cells (some z) false cs = o5 := by
    have : some (Blk.cells (some z) false cs) = some o5 := hgb.symm.trans g5
    simpa using this
  simp only at h5
  split at h5
  case isFalse => exact (M.fail_some.1 h5).elim
  rename_i hcl
  obtain ⟨rfl, rfl⟩ := M.pure_some.1 h5
  split at h7
  case isFalse => exact (M.fail_some.1 h7).elim
  rename_i hone
  simp only [M.bind_some, rd_some] at h7
  obtain ⟨o6, S8, ⟨g6, rfl⟩, h7⟩ := h7
  obtain rfl : Blk.cells (some z) false cs = o6 := by
    have : some (Blk.cells (some z) false cs) = some o6 := hgb.symm.trans g6
    simpa using this
  simp only at h7
  split at h7
  case isFalse => exact (M.fail_some.1 h7).elim
  rename_i hcl2
  split at h7
  case isFalse => exact (M.fail_some.1 h7).elim
  rename_i hzw
  obtain ⟨rfl, hwi⟩ := hzw
  rw [withinL_iff] at hwi
  simp only [M.bind_some, nw_some, wr_some] at h7
  obtain ⟨_, S9, rfl, nb, S10, ⟨rfl, rfl⟩, h8⟩ := h7
  obtain ⟨rfl, rfl⟩ := M.pure_some.1 h8
  clear h1 h2 g4 g5 g6
  obtain ⟨l'⟩ := args'
  change LRel r _ l' at ha
  cases ha with
  | cons hs' ha =>
  cases ha with
  | cons hi' ha =>
  cases ha with
  | cons hx' ha =>
  cases ha
  rename_i s' i' x'
  obtain ⟨hsp, hdb, o', c', rfl, hcc, hex, hgr, hor⟩ := hs'.slc_inv
  have ho' : o' = r.base a.block + a.off := by
    rcases hor with h | ⟨h, _⟩
    · exact h
    · omega
  subst ho'
  have hxsp := hx'.slc_inv.1
  obtain ⟨ab, ao, asp⟩ := a
  obtain ⟨xb, xo, xsp⟩ := x
  simp only at hsp hxsp hne hgx hgb hxl hcl hcl2 hone hwi hfr hdb hex hgr hs' hx' ⊢
  subst hsp
  subst hxsp
  obtain ⟨_, rc, el, lo, hh, lc, k1, k2, k3, k4, k5, k6, k7⟩ := cells_at hr hgb
  obtain ⟨_, rcx, elx, lox, hhx, lx, _, _, _, y4, _⟩ := cells_at hr hgx
  have hg := (hgr z k2).1
  have hsz : rc.size = r.size ab := k3.1
  have hlc := k4.length
  have hkz : 0 < k * z := Nat.mul_pos hk (by omega)
  have hend : r.base ab + cs.length ≤ rc.size := by
    have h1 : cs.length - 1 < lc.length := by omega
    have := (Array.getElem?_eq_some_iff.1 (k5 (cs.length - 1) _ (List.getElem?_eq_getElem h1))).1
    omega
  -- the whole block, from the slice on
  have hspl : ∀ y ∈ rc.toList.drop (r.base ab + cs.length), plain y = true := by
    intro y hy
    obtain ⟨j, hj⟩ := List.getElem?_of_mem hy
    rw [List.getElem?_drop] at hj
    exact k3.2 (by simp) _ y (Nat.le_add_right _ j) (by simpa using hj)
  obtain ⟨sp, hsp⟩ : ∃ sp, sp = rc.toList.drop (r.base ab + cs.length) := ⟨_, rfl⟩
  have hspn : sp.length = rc.size - (r.base ab + cs.length) := by rw [hsp]; simp
  obtain ⟨L, hL⟩ : ∃ L, L = cs.drop ao ++ sp := ⟨_, rfl⟩
  have hLlen : L.length = rc.size - (r.base ab + ao) := by rw [hL, List.length_append, List.length_drop, hspn]; omega
  have hLrel : LRel r L (lc.drop ao ++ sp) := by rw [hL]; exact (k4.drop ao).append (LRel.of_plain (by rw [hsp]; exact hspl))
  have hLat : ∀ j v, (lc.drop ao ++ sp)[j]? = some v → rc[r.base ab + ao + j]? = some v := by
    intro j v hv
    by_cases hj : j < (lc.drop ao).length
    · rw [List.getElem?_append_left hj, List.getElem?_drop] at hv
      rw [Nat.add_assoc]; exact k5 _ v hv
    · rw [List.getElem?_append_right (by omega), hsp, List.getElem?_drop] at hv
      rw [List.length_drop] at hv hj
      have : r.base ab + cs.length + (j - (lc.length - ao)) = r.base ab + ao + j := by omega
      rw [this] at hv
      simpa using hv
  obtain ⟨m0, hm0⟩ := r.fin
  obtain ⟨M, hMdef⟩ : ∃ M, M = m0 + S.next := ⟨_, rfl⟩
  have hM : ∀ id, r.dom id → id < M := fun id hd => by have := hm0 id hd; omega
  have hdM : ¬ r.dom M := fun hd => by have := hM M hd; omega
  have hdn : ¬ r.dom S.next := hfr _ (Nat.le_refl _) (Nat.lt_succ_self _)
  obtain ⟨T, hT⟩ : ∃ T : St, T = { heap := (S.heap.set ab none).set M (some (.cells none false L)), next := M + 1, log := [(ab, true)] } := ⟨_, rfl⟩
  have hsimT : Sim P [(ab, true)] r { heap := S.heap, next := M, log := [] } w (r.add M (r.to ab) (r.base ab + ao) rc.size none) T w :=
    sim_move (S := { heap := S.heap, next := M, log := [] }) (b := .cells none false L) (o := .cells rc el (lo, hh)) ⟨hr.at_, hr.inj', hr.glo⟩ hdM hgb (by rw [hT]) (by rw [hT]) (by rw [hT]; rfl) (by simp) ⟨rfl, k1, fun _ _ => rfl, rfl, rfl, rfl⟩
      ⟨Ren.add_ext .., ⟨(Ren.add_size ..).symm, fun e => absurd rfl e⟩, ⟨_, hLrel.mono (Ren.le_add hdM), by rw [Ren.add_base]; exact hLat⟩, k6, fun _ => k7 rfl⟩
  have hrT := hsimT.rel
  have hle1 : r.le (r.add M (r.to ab) (r.base ab + ao) rc.size none) := Ren.le_add hdM
  have hxM : xb < M := hM xb (hr.at_ xb _ hgx).1
  have hTx : T.heap.get xb = some (.cells ex false xs) := by
    rw [hT]
    show ((S.heap.set ab none).set M _).get xb = _
    rw [Tr.get_set, Tr.get_set, if_neg (by omega), if_neg (fun e => hne e.symm)]; exact hgx
  have hTM : T.heap.get M = some (.cells none false L) := by
    rw [hT]
    show ((S.heap.set ab none).set M _).get M = _
    rw [Tr.get_set, if_pos rfl]
  have hTn : T.next = M + 1 := by rw [hT]
  have haT : LRel (r.add M (r.to ab) (r.base ab + ao) rc.size none) [.slice (some ⟨M, 0, none⟩) (i0 + k) c', .int .i64 i0, .slice (some ⟨xb, xo, none⟩) 1 xc] [.slice (some ⟨r.to ab, r.base ab + ao, none⟩) (i0 + k) c', i', x'] := by
    refine .cons ?_ (.cons (hi'.mono hle1) (.cons (hx'.mono hle1) .nil))
    have := VRel.slc (r := r.add M (r.to ab) (r.base ab + ao) rc.size none) (b := M) (o := 0) (n := i0 + k) (c := c') (c' := c') (Ren.add_dom ..) (fun _ => rfl) (Nat.le_refl _) (fun z hz => by rw [Ren.add_ext] at hz; cases hz)
    rw [Ren.add_to, Ren.add_base, Nat.add_zero] at this
    exact this
  -- how the lists lie
  have hcd : i0 * z + k * z ≤ (cs.drop ao).length := by rw [List.length_drop]; omega
  have hA : L.take (i0 * z) = (cs.drop ao).take (i0 * z) := by rw [hL, List.take_append_of_le_length (by omega)]
  have hBe : (L.drop (i0 * z)).take (k * z) = (cs.drop (ao + i0 * z)).take (k * z) := by
    rw [hL, List.drop_append_of_le_length (by omega), List.take_append_of_le_length (by rw [List.length_drop]; omega), List.drop_drop]
  have hL3 := split3 L (i0 * z) (k * z) (by rw [hL, List.length_append]; omega)
  have hX3 := split3 xs xo z hxl
  have hAl : (L.take (i0 * z)).length = i0 * z := by rw [List.length_take, hL, List.length_append]; omega
  have hBl : ((L.drop (i0 * z)).take (k * z)).length = k * z := by rw [List.length_take, List.length_drop, hL, List.length_append]; omega
  have hNl : ((xs.drop xo).take z).length = z := by rw [List.length_take, List.length_drop]; omega
  have hXl : (xs.take xo).length = xo := by rw [List.length_take]; omega
  rw [List.all_append, Bool.and_eq_true, ← hBe] at hone
  obtain ⟨hone1, hone2⟩ := hone
  have hC0 : (cs.drop ao).take (i0 * z) ++ ((xs.drop xo).take z ++ (cs.drop (ao + i0 * z)).take (k * z)) = L.take (i0 * z) ++ (xs.drop xo).take z ++ (L.drop (i0 * z)).take (k * z) := by rw [← hA, ← hBe, List.append_assoc]
  rw [hC0]
  obtain ⟨C, hC⟩ : ∃ C, C = L.take (i0 * z) ++ (xs.drop xo).take z ++ (L.drop (i0 * z)).take (k * z) := ⟨_, rfl⟩
  rw [← hC]
  have hCr : ∃ l0, LRel r C l0 := by
    rw [hC]
    exact ⟨_, ((hLrel.take _).append ((y4.drop xo).take z)).append ((hLrel.drop _).take _)⟩
  obtain ⟨lC0, hlC0⟩ := hCr
  have hsmall : i0 + k + 1 < 4611686018427387904 := by
    have : i0 + (k + 1) ≤ (i0 + (k + 1)) * bytes := Nat.le_mul_of_pos_right _ (by omega)
    omega
  -- what any run of the text brings
  have fin : ∀ {u : Value} {T' : St} {idr : Nat} {e2 : Option Nat} {Zr : List Value}, callN F 5 (.fn f) [.slice (some ⟨M, 0, none⟩) (i0 + k) c', .int .i64 i0, .slice (some ⟨xb, xo, none⟩) 1 xc] T = some (u, T') → Fra [M] T.h T'.h → M ≤ idr → idr < T'.next →
      T'.heap.get idr = some (.cells e2 false (C ++ Zr)) → (e2 = some z ∧ Zr = [] ∧ u = .slice (some ⟨idr, 0, none⟩) (i0 + k + 1) (i0 + k + 1) ∨ e2 = none ∧ idr = M ∧ (∀ y ∈ Zr, plain y = true) ∧ (C ++ Zr).length = L.length ∧ i0 + k + 1 ≤ c' ∧ u = .slice (some ⟨idr, 0, none⟩) (i0 + k + 1) c') →
      ∃ D r' w' v', Sim P D r S w r' { heap := (S.heap.set ab none).set S.next (some (.cells (some z) false C)), next := S.next + 1, log := (ab, true) :: (ab, false) :: (ab, false) :: (xb, false) :: (ab, false) :: (xb, false) :: S.log } w' ∧
        VRel r' (.slice (some ⟨S.next, 0, none⟩) (i0 + (k + 1)) (i0 + (k + 1))) v' ∧ CallAt P fc ccs (callFunc f ⟨[.slice (some ⟨r.to ab, r.base ab + ao, none⟩) (i0 + k) c', i', x']⟩) w v' w' := by
    intro u T' idr e2 Zr hrun hF1 hid hidn hget hu
    have hfT : Fresh (r.add M (r.to ab) (r.base ab + ao) rc.size none) T T' := by
      intro id h1 h2 hd
      rcases hd with hd | rfl
      · have := hM id hd; omega
      · omega
    obtain ⟨D1, r1', w', v1', hs1, hv1, hct⟩ := callN_ok hm hF 5 (.fn f) _ _ _ _ hrun _ w hrT hfT ⟨_⟩ haT trivial fc ccs
    have hD1 : ∀ id, (id, true) ∈ D1 → M ≤ id := by
      intro id hin
      obtain ⟨ws, hws, hwb⟩ := hF1.wl
      have h1 : wrs T'.log = ws ++ wrs T.log := hws
      rw [hs1.log, wrs_append] at h1
      have h2 := List.append_cancel_right h1
      have h3 := wrs_mem hin
      rw [h2] at h3
      rcases hwb id h3 with h4 | h4
      · have : T.h.next = T.next := rfl
        omega
      · rw [List.mem_singleton.1 h4]; exact Nat.le_refl _
    obtain ⟨hdr, rc2, el2, lo2, hi2, l2, m1, m2, m3, m4, m5, m6, m7⟩ := cells_at hs1.rel hget
    have hle2 : r.le r1' := hle1.trans hs1.le
    have hl2C : LRel r C (l2.take C.length) := by
      have h1 : LRel r1' C (l2.take C.length) := by
        have := m4.take C.length
        rw [List.take_left] at this
        exact this
      exact hlC0.restrict hle2 h1
    have hl2n := m4.length
    rw [List.length_append] at hl2n
    have hle' : r.le (r.add S.next (r1'.to idr) (r1'.base idr) rc2.size (some z)) := Ren.le_add hdn
    -- beyond the new cells: plain ones
    have hpl : ∀ j y, r1'.base idr + C.length ≤ j → rc2[j]? = some y → plain y = true := by
      intro j y hj hy
      rcases hu with ⟨rfl, rfl, _⟩ | ⟨rfl, hidM, hZp, hZl, _⟩
      · refine m3.2 (by simp) j y (by simpa using hj) hy
      · have hsz2 : rc2.size = rc.size := by rw [m3.1, hidM, hs1.le.size _ (Ren.add_dom ..), Ren.add_size]
        have hbs2 : r1'.base idr = r.base ab + ao := by rw [hidM, hs1.le.base _ (Ren.add_dom ..), Ren.add_base]
        have hjl := (Array.getElem?_eq_some_iff.1 hy).1
        rw [List.length_append] at hZl
        obtain ⟨q, rfl⟩ : ∃ q, j = r1'.base idr + q := ⟨j - r1'.base idr, by omega⟩
        have hq : q < l2.length := by omega
        have h1 := m5 q _ (List.getElem?_eq_getElem hq)
        rw [hy] at h1
        obtain rfl : y = l2[q] := by simpa using h1
        have hq2 : (C ++ Zr)[q]? = some Zr[q - C.length] := by
          rw [List.getElem?_append_right (by omega)]; exact List.getElem?_eq_getElem (by omega)
        have h2 := m4.at q _ _ hq2 (List.getElem?_eq_getElem hq)
        have h3 := hZp _ (List.getElem_mem (l := Zr) (n := q - C.length) (by omega))
        rw [plain_eq h3 h2]; exact h3
    have hB : BRel P (r.add S.next (r1'.to idr) (r1'.base idr) rc2.size (some z)) S.next (.cells (some z) false C) (.cells rc2 el2 (lo2, hi2)) :=
      ⟨Ren.add_ext .., ⟨(Ren.add_size ..).symm, fun _ j y hj hy => hpl j y (by rw [Ren.add_base] at hj; exact hj) hy⟩, ⟨_, hl2C.mono hle', fun j y hy => by
        rw [Ren.add_base]
        rw [List.getElem?_take] at hy
        split at hy
        · exact m5 j y hy
        · cases hy⟩, m6, m7⟩
    refine ⟨[(ab, true), (ab, false), (ab, false), (xb, false), (ab, false), (xb, false)], _, w', v1',
      sim_view (T := T) (T' := T') (blkr := .cells e2 false (C ++ Zr)) hr hdn hM (by omega) hgb rfl (by rw [hT]) hTn hs1 hD1 hid hget rfl m1 hB rfl rfl rfl (by simp) rfl, ?_, hct⟩
    have hsl : ∃ c2, v1' = .slice (some ⟨r1'.to idr, r1'.base idr, none⟩) (i0 + k + 1) c2 ∧ i0 + k + 1 ≤ c2 ∧ r1'.base idr + c2 * z ≤ rc2.size := by
      rcases hu with ⟨rfl, rfl, rfl⟩ | ⟨rfl, hidM, hZp, hZl, hroom, rfl⟩
      · obtain ⟨_, _, o2, c2, rfl, g1, g2, g3, g4⟩ := hv1.slc_inv
        have ho2 : o2 = r1'.base idr + 0 := by
          rcases g4 with g4 | ⟨g4, _⟩
          · exact g4
          · omega
        subst ho2
        exact ⟨c2, rfl, g1, by rw [m3.1]; simpa using (g3 z m2).1⟩
      · obtain ⟨_, _, o2, c2, rfl, g1, g2, g3, g4⟩ := hv1.slc_inv
        obtain ⟨hcc2, rfl⟩ := g2 m2
        refine ⟨c2, rfl, by omega, ?_⟩
        have hsz2 : rc2.size = rc.size := by rw [m3.1, hidM, hs1.le.size _ (Ren.add_dom ..), Ren.add_size]
        have hbs2 : r1'.base idr = r.base ab + ao := by rw [hidM, hs1.le.base _ (Ren.add_dom ..), Ren.add_base]
        rw [hcc2]
        omega
    obtain ⟨c2, rfl, h1, h2⟩ := hsl
    have := VRel.slc (r := r.add S.next (r1'.to idr) (r1'.base idr) rc2.size (some z)) (b := S.next) (o := 0) (n := i0 + k + 1) (c := i0 + k + 1) (c' := c2) (Ren.add_dom ..) (by rw [Ren.add_ext]; intro h; cases h) h1
      (fun z' hz' => by
        rw [Ren.add_ext] at hz'
        obtain rfl : z = z' := by simpa using hz'
        rw [Ren.add_base, Ren.add_size]
        omega)
    rw [Ren.add_to, Ren.add_base, Nat.add_zero] at this
    exact this
  by_cases hroom : i0 + k + 1 ≤ c'
  · have hcz : (i0 + k + 1) * z ≤ c' * z := Nat.mul_le_mul_right _ hroom
    have hZl : z ≤ (L.drop (i0 * z + k * z)).length := by
      rw [List.length_drop]
      rw [Nat.add_mul, Nat.add_mul] at hcz
      omega
    have hTM2 : T.h.heap.get M = some (.cells none false (L.take (i0 * z) ++ (L.drop (i0 * z)).take (k * z) ++ ((L.drop (i0 * z + k * z)).take z ++ (L.drop (i0 * z + k * z)).drop z))) := by
      rw [List.take_append_drop, ← hL3]; exact hTM
    have hw := ins_room (F := F) (fuel := 3) (S := T.h) (b := M) (bx := xb) (ox := xo) (i := i0) (k := k) (cap := c') (cx := xc) hf hov hs0 hk hroom hsmall hAl hBl (by rw [List.length_take]; omega) hNl hXl hTM2 (by rw [← hX3]; exact hTx) (by omega) (by show M < T.next; omega) (by show xb < T.next; omega) hone1 hone2
      (Φ := fun u T' => u = .slice (some ⟨M, 0, none⟩) (i0 + k + 1) c' ∧ Fra [M] T.h T' ∧ T'.next = T.next ∧ T'.heap.get M = some (.cells none false (C ++ (L.drop (i0 * z + k * z)).drop z))) (fun T' j1 j2 j3 => ⟨rfl, j1, j2, by rw [hC]; exact j3⟩)
    obtain ⟨u, T', q1, rfl, q2, q3, q4⟩ := wp_raw (Lg.callN F 5 _ _) hw
    have q3' : T'.next = T.next := q3
    refine fin q1 q2 (Nat.le_refl M) (by omega) q4 (.inr ⟨rfl, rfl, fun y hy => ?_, ?_, hroom, rfl⟩)
    · have : y ∈ sp := by
        rw [hL, List.drop_drop, List.drop_append, List.drop_of_length_le (by rw [List.length_drop]; rw [Nat.add_mul] at hwi; rw [Nat.add_mul] at hwi; omega), List.nil_append] at hy
        exact List.mem_of_mem_drop hy
      rw [hsp] at this
      exact hspl y this
    · rw [hC, List.length_append, List.length_append, List.length_append, hAl, hNl, hBl, List.length_drop, List.length_drop]
      rw [List.length_drop] at hZl
      omega
  · have hcap2 : i0 + k ≤ c' := by omega
    have hw := ins_grow (F := F) (fuel := 4) (S := T.h) (b := M) (bx := xb) (ox := xo) (i := i0) (k := k) (cap := c') (cx := xc) hf hs0 hb0 hz (by rw [Nat.add_assoc]; exact hbig) hk (by omega) hcap2 hAl hBl hNl hXl (by rw [← hL3]; exact hTM) (by rw [← hX3]; exact hTx) (by omega) (by show M < T.next; omega) (by show xb < T.next; omega) (fun m => rep_one hzo) hone1 hone2
      (Φ := fun u T' => u = .slice (some ⟨T.next, 0, none⟩) (i0 + k + 1) (i0 + k + 1) ∧ Fra [] T.h T' ∧ T'.next = T.next + 1 ∧ T'.heap.get T.next = some (.cells (some z) false C)) (fun T' j1 j2 j3 => ⟨rfl, j1, j2, by rw [hC]; exact j3⟩)
    obtain ⟨u, T', q1, rfl, q2, q3, q4⟩ := wp_raw (Lg.callN F 5 _ _) hw
    have q3' : T'.next = T.next + 1 := q3
    refine fin (idr := T.next) (Zr := []) q1 (q2.mono (by simp)) (by omega) (by omega) (by rw [List.append_nil]; exact q4) (.inl ⟨rfl, rfl, rfl⟩)
/-- within, where there is room for sure -/
theorem ins_put (hm : P.follows .mixedOrders = true) (hF : TabOk P F) (hf : F f = some (.go ⟨3, [.tmp 6], insB size bytes elem ov rot zero⟩)) (hov : F ov = some (.ext (.overlaps size))) 
    {base : Option Addr} {n c : Nat} {i : Int} {xb : Option Addr} {xc : Nat} {v : Value} {S S' : St}
    (hi : i ≠ n) (hnp : n + 1 ≤ c) (h : insA size bytes base n c i xb xc S = some (v, S')) {r : Ren} {w : World} (hr : Rel P r S w) (hfr : Fresh r S S') {args' : Array Value} (ha : LRel r [.slice base n c, .int .i64 i, .slice xb 1 xc] args'.toList) (fc : Frame) (ccs : List Frame) :
    ∃ D r' w' v', Sim P D r S w r' S' w' ∧ VRel r' v v' ∧ CallAt P fc ccs (callFunc f args') w v' w' := by
  unfold insA at h
  split at h
  case isFalse => exact (M.fail_some.1 h).elim
  rename_i hc
  cases base with
  | none => exact (M.fail_some.1 h).elim
  | some a =>
  cases xb with
  | none => exact (M.fail_some.1 h).elim
  | some x =>
  simp only at h
  split at h
  case isFalse => exact (M.fail_some.1 h).elim
  rename_i hne
  obtain ⟨i0, rfl⟩ : ∃ i0 : Nat, i = i0 := ⟨i.toNat, by omega⟩
  have hin : i0 < n := by omega
  obtain ⟨k, rfl⟩ : ∃ k, n = i0 + k := ⟨n - i0, by omega⟩
  have hk : 0 < k := by omega
  have hk1 : i0 + k + 1 - i0 = k + 1 := by omega
  have hk2 : i0 + k - i0 = k := by omega
  rw [Int.toNat_natCast, hk2] at h
  simp only [M.bind_some] at h
  obtain ⟨_, S1, h1, _, S2, h2, h3⟩ := h
  -- the two looks
  have hx : ∃ ex xs, S.heap.get x.block = some (.cells ex false xs) ∧ S1 = { heap := S.heap, next := S.next, log := (x.block, false) :: S.log } := by
    unfold chkS at h1
    simp only [M.bind_some, rd_some] at h1
    obtain ⟨o, S3, ⟨hg, rfl⟩, h4⟩ := h1
    split at h4
    · obtain ⟨_, rfl⟩ := M.pure_some.1 h4; exact ⟨_, _, hg, rfl⟩
    · obtain ⟨_, rfl⟩ := M.pure_some.1 (by simpa using h4); exact ⟨_, _, hg, rfl⟩
    · exact (M.fail_some.1 h4).elim
  obtain ⟨ex, xs, hgx, rfl⟩ := hx
  have hb : ∃ z cs, S.heap.get a.block = some (.cells (some z) false cs) ∧ S2 = { heap := S.heap, next := S.next, log := (a.block, false) :: (x.block, false) :: S.log } := by
    unfold chkS at h2
    simp only [M.bind_some, rd_some] at h2
    obtain ⟨o, S3, ⟨hg, rfl⟩, h4⟩ := h2
    split at h4
    · obtain ⟨_, rfl⟩ := M.pure_some.1 h4; exact ⟨_, _, hg, rfl⟩
    · simp only [if_true] at h4; exact (M.fail_some.1 h4).elim
    · exact (M.fail_some.1 h4).elim
  obtain ⟨z, cs, hgb, rfl⟩ := hb
  unfold insG at h3
  split at h3
  case isFalse => exact (M.fail_some.1 h3).elim
  rename_i hcnd
  obtain ⟨hoff, hs0, hsmall⟩ := hcnd
  rw [hk1, if_pos (by omega)] at h3
  unfold putA at h3
  simp only [M.bind_some] at h3
  obtain ⟨new, S3, ⟨l, S4, h4, rr, S5, h5, h6⟩, h7⟩ := h3
  obtain ⟨rfl, rfl⟩ := M.pure_some.1 h6
  simp only [ldCells, M.bind_some, rd_some] at h4 h5
  obtain ⟨o4, S6, ⟨g4, rfl⟩, h4⟩ := h4
  obtain rfl : Blk.cells ex false xs = o4 := by
    have : some (Blk.cells ex false xs) = some o4 := hgx.symm.trans g4
    simpa using this
  simp only at h4
  split at h4
  case isFalse => exact (M.fail_some.1 h4).elim
  rename_i hxl
  obtain ⟨rfl, rfl⟩ := M.pure_some.1 h4
  obtain ⟨o5, S7, ⟨g5, rfl⟩, h5⟩ := h5
  obtain rfl : Blk.cells (some z) false cs = o5 := by
    have : some (Blk.cells (some z) false cs) = some o5 := hgb.symm.trans g5
    simpa using this
  simp only at h5
  split at h5
  case isFalse => exact (M.fail_some.1 h5).elim
  rename_i hcl
  obtain ⟨rfl, rfl⟩ := M.pure_some.1 h5
  obtain ⟨_, S8, h7, h8⟩ := h7
  obtain ⟨rfl, rfl⟩ := M.pure_some.1 h8
  simp only [stCells, M.bind_some, rd_some] at h7
  obtain ⟨o6, S9, ⟨g6, rfl⟩, h7⟩ := h7
  obtain rfl : Blk.cells (some z) false cs = o6 := by
    have : some (Blk.cells (some z) false cs) = some o6 := hgb.symm.trans g6
    simpa using this
  simp only at h7
  split at h7
  case isFalse => exact (M.fail_some.1 h7).elim
  rename_i hput
  obtain ⟨hfit, hone⟩ := hput
  have h7 := wr_some.1 h7
  subst h7
  clear h1 h2 g4 g5 g6
  obtain ⟨l'⟩ := args'
  change LRel r _ l' at ha
  cases ha with
  | cons hs' ha =>
  cases ha with
  | cons hi' ha =>
  cases ha with
  | cons hx' ha =>
  cases ha
  rename_i s' i' x'
  obtain ⟨hsp, hdb, o', c', rfl, hcc, hex, hgr, hor⟩ := hs'.slc_inv
  have ho' : o' = r.base a.block + a.off := by
    rcases hor with h | ⟨h, _⟩
    · exact h
    · omega
  subst ho'
  have hxsp := hx'.slc_inv.1
  obtain ⟨ab, ao, asp⟩ := a
  obtain ⟨xb, xo, xsp⟩ := x
  simp only at hsp hxsp hne hgx hgb hxl hcl hfit hone hfr hdb hex hgr hs' hx' hoff ⊢
  subst hsp
  subst hxsp
  subst hoff
  obtain ⟨_, rc, el, lo, hh, lc, k1, k2, k3, k4, k5, k6, k7⟩ := cells_at hr hgb
  obtain ⟨_, rcx, elx, lox, hhx, lx, _, _, _, y4, _⟩ := cells_at hr hgx
  have hsz : rc.size = r.size ab := k3.1
  have hlc := k4.length
  have hkz : 0 < k * size := Nat.mul_pos hk (by omega)
  have hxll : ((xs.drop xo).take size).length = size := by rw [List.length_take, List.length_drop]; omega
  have hrl : ((cs.drop (0 + i0 * size)).take (k * size)).length = k * size := by rw [List.length_take, List.length_drop]; omega
  have hfit2 : i0 * size + (size + k * size) ≤ cs.length := by rw [List.length_append, hxll, hrl] at hfit; omega
  have hend : r.base ab + cs.length ≤ rc.size := by
    have h1 : cs.length - 1 < lc.length := by omega
    have := (Array.getElem?_eq_some_iff.1 (k5 (cs.length - 1) _ (List.getElem?_eq_getElem h1))).1
    omega
  -- the whole block, from the slice on
  have hspl : ∀ y ∈ rc.toList.drop (r.base ab + cs.length), plain y = true := by
    intro y hy
    obtain ⟨j, hj⟩ := List.getElem?_of_mem hy
    rw [List.getElem?_drop] at hj
    exact k3.2 (by simp) _ y (Nat.le_add_right _ j) (by simpa using hj)
  obtain ⟨sp, hsp⟩ : ∃ sp, sp = rc.toList.drop (r.base ab + cs.length) := ⟨_, rfl⟩
  have hspn : sp.length = rc.size - (r.base ab + cs.length) := by rw [hsp]; simp
  obtain ⟨L, hL⟩ : ∃ L, L = cs.drop 0 ++ sp := ⟨_, rfl⟩
  have hLlen : L.length = rc.size - (r.base ab + 0) := by rw [hL, List.length_append, List.length_drop, hspn]; omega
  have hLrel : LRel r L (lc.drop 0 ++ sp) := by rw [hL]; exact (k4.drop 0).append (LRel.of_plain (by rw [hsp]; exact hspl))
  have hLat : ∀ j v, (lc.drop 0 ++ sp)[j]? = some v → rc[r.base ab + 0 + j]? = some v := by
    intro j v hv
    by_cases hj : j < (lc.drop 0).length
    · rw [List.getElem?_append_left hj, List.getElem?_drop] at hv
      rw [Nat.add_assoc]; exact k5 _ v hv
    · rw [List.getElem?_append_right (by omega), hsp, List.getElem?_drop] at hv
      rw [List.length_drop] at hv hj
      have : r.base ab + cs.length + (j - (lc.length - 0)) = r.base ab + 0 + j := by omega
      rw [this] at hv
      simpa using hv
  obtain ⟨m0, hm0⟩ := r.fin
  obtain ⟨M, hMdef⟩ : ∃ M, M = m0 + S.next := ⟨_, rfl⟩
  have hM : ∀ id, r.dom id → id < M := fun id hd => by have := hm0 id hd; omega
  have hdM : ¬ r.dom M := fun hd => by have := hM M hd; omega
  obtain ⟨T, hT⟩ : ∃ T : St, T = { heap := (S.heap.set ab none).set M (some (.cells none false L)), next := M + 1, log := [(ab, true)] } := ⟨_, rfl⟩
  have hsimT : Sim P [(ab, true)] r { heap := S.heap, next := M, log := [] } w (r.add M (r.to ab) (r.base ab + 0) rc.size none) T w :=
    sim_move (S := { heap := S.heap, next := M, log := [] }) (b := .cells none false L) (o := .cells rc el (lo, hh)) ⟨hr.at_, hr.inj', hr.glo⟩ hdM hgb (by rw [hT]) (by rw [hT]) (by rw [hT]; rfl) (by simp) ⟨rfl, k1, fun _ _ => rfl, rfl, rfl, rfl⟩
      ⟨Ren.add_ext .., ⟨(Ren.add_size ..).symm, fun e => absurd rfl e⟩, ⟨_, hLrel.mono (Ren.le_add hdM), by rw [Ren.add_base]; exact hLat⟩, k6, fun _ => k7 rfl⟩
  have hrT := hsimT.rel
  have hle1 : r.le (r.add M (r.to ab) (r.base ab + 0) rc.size none) := Ren.le_add hdM
  have hxM : xb < M := hM xb (hr.at_ xb _ hgx).1
  have hTx : T.heap.get xb = some (.cells ex false xs) := by
    rw [hT]
    show ((S.heap.set ab none).set M _).get xb = _
    rw [Tr.get_set, Tr.get_set, if_neg (by omega), if_neg (fun e => hne e.symm)]; exact hgx
  have hTM : T.heap.get M = some (.cells none false L) := by
    rw [hT]
    show ((S.heap.set ab none).set M _).get M = _
    rw [Tr.get_set, if_pos rfl]
  have hTn : T.next = M + 1 := by rw [hT]
  have haT : LRel (r.add M (r.to ab) (r.base ab + 0) rc.size none) [.slice (some ⟨M, 0, none⟩) (i0 + k) c', .int .i64 i0, .slice (some ⟨xb, xo, none⟩) 1 xc] [.slice (some ⟨r.to ab, r.base ab + 0, none⟩) (i0 + k) c', i', x'] := by
    refine .cons ?_ (.cons (hi'.mono hle1) (.cons (hx'.mono hle1) .nil))
    have := VRel.slc (r := r.add M (r.to ab) (r.base ab + 0) rc.size none) (b := M) (o := 0) (n := i0 + k) (c := c') (c' := c') (Ren.add_dom ..) (fun _ => rfl) (Nat.le_refl _) (fun z hz => by rw [Ren.add_ext] at hz; cases hz)
    rw [Ren.add_to, Ren.add_base, Nat.add_zero] at this
    exact this
  -- how the lists lie
  have hcd : i0 * size + k * size ≤ (cs.drop 0).length := by rw [List.length_drop]; omega
  have hA : L.take (i0 * size) = cs.take (i0 * size) := by rw [hL, List.take_append_of_le_length (by omega), List.drop_zero]
  have hBe : (L.drop (i0 * size)).take (k * size) = (cs.drop (0 + i0 * size)).take (k * size) := by
    rw [hL, List.drop_append_of_le_length (by omega), List.take_append_of_le_length (by rw [List.length_drop]; omega), List.drop_drop]
  have hL3 := split3 L (i0 * size) (k * size) (by rw [hL, List.length_append]; omega)
  have hX3 := split3 xs xo size hxl
  have hAl : (L.take (i0 * size)).length = i0 * size := by rw [List.length_take, hL, List.length_append]; omega
  have hBl : ((L.drop (i0 * size)).take (k * size)).length = k * size := by rw [List.length_take, List.length_drop, hL, List.length_append]; omega
  have hXl : (xs.take xo).length = xo := by rw [List.length_take]; omega
  rw [List.all_append, Bool.and_eq_true, ← hBe] at hone
  obtain ⟨hone1, hone2⟩ := hone
  -- what the block holds behind it
  obtain ⟨C, hC⟩ : ∃ C, C = L.take (i0 * size) ++ (xs.drop xo).take size ++ (L.drop (i0 * size)).take (k * size) ++ cs.drop (i0 * size + (size + k * size)) := ⟨_, rfl⟩
  have hsplice : splice cs (0 + i0 * size) ((xs.drop xo).take size ++ (cs.drop (0 + i0 * size)).take (k * size)) = C := by
    have h1 := split3 cs (i0 * size) (size + k * size) hfit2
    have h2 := splice_mid (cs.take (i0 * size)) ((cs.drop (i0 * size)).take (size + k * size)) ((xs.drop xo).take size ++ (cs.drop (0 + i0 * size)).take (k * size)) (cs.drop (i0 * size + (size + k * size))) (by
      rw [List.length_append, hxll, hrl, List.length_take, List.length_drop]; omega)
    rw [← h1] at h2
    have h3 : (cs.take (i0 * size)).length = 0 + i0 * size := by rw [List.length_take]; omega
    rw [h3] at h2
    rw [h2, hC, ← hBe, hA]
    simp only [List.append_assoc]
  rw [hsplice]
  have hCl : C.length = cs.length := by
    rw [hC, List.length_append, List.length_append, List.length_append, hAl, hxll, hBl, List.length_drop]; omega
  have hCr : ∃ l0, LRel r C l0 := by
    rw [hC]
    exact ⟨_, (((hLrel.take _).append ((y4.drop xo).take size)).append ((hLrel.drop _).take _)).append (k4.drop _)⟩
  obtain ⟨lC0, hlC0⟩ := hCr
  have hroom : i0 + k + 1 ≤ c' := by omega
  have hZe : (L.drop (i0 * size + k * size)).drop size = cs.drop (i0 * size + (size + k * size)) ++ sp := by
    rw [hL, List.drop_drop, List.drop_zero, List.drop_append_of_le_length (by omega)]
    congr 2; omega
  have hTM2 : T.h.heap.get M = some (.cells none false (L.take (i0 * size) ++ (L.drop (i0 * size)).take (k * size) ++ ((L.drop (i0 * size + k * size)).take size ++ (L.drop (i0 * size + k * size)).drop size))) := by
    rw [List.take_append_drop, ← hL3]; exact hTM
  have hw := ins_room (F := F) (fuel := 3) (S := T.h) (b := M) (bx := xb) (ox := xo) (i := i0) (k := k) (cap := c') (cx := xc) hf hov hs0 hk hroom hsmall hAl hBl (by rw [List.length_take, List.length_drop, hL, List.length_append, List.length_drop]; omega) hxll hXl hTM2 (by rw [← hX3]; exact hTx) (by omega) (by show M < T.next; omega) (by show xb < T.next; omega) hone1 hone2
    (Φ := fun u T' => u = .slice (some ⟨M, 0, none⟩) (i0 + k + 1) c' ∧ Fra [M] T.h T' ∧ T'.next = T.next ∧ T'.heap.get M = some (.cells none false (C ++ sp))) (fun T' j1 j2 j3 => ⟨rfl, j1, j2, by rw [hC, List.append_assoc _ _ sp, ← hZe]; exact j3⟩)
  obtain ⟨u, T', hrun, rfl, hF1, q3, hget⟩ := wp_raw (Lg.callN F 5 _ _) hw
  have q3' : T'.next = T.next := q3
  have hfT : Fresh (r.add M (r.to ab) (r.base ab + 0) rc.size none) T T' := by
    intro id h1 h2 hd
    omega
  obtain ⟨D1, r1', w', v1', hs1, hv1, hct⟩ := callN_ok hm hF 5 (.fn f) _ _ _ _ hrun _ w hrT hfT ⟨_⟩ haT trivial fc ccs
  have hD1 : ∀ id, (id, true) ∈ D1 → M ≤ id := by
    intro id hin
    obtain ⟨ws, hws, hwb⟩ := hF1.wl
    have h1 : wrs T'.log = ws ++ wrs T.log := hws
    rw [hs1.log, wrs_append] at h1
    have h2 := List.append_cancel_right h1
    have h3 := wrs_mem hin
    rw [h2] at h3
    rcases hwb id h3 with h4 | h4
    · have : T.h.next = T.next := rfl
      omega
    · rw [List.mem_singleton.1 h4]; exact Nat.le_refl _
  obtain ⟨hdr, rc2, el2, lo2, hi2, l2, m1, m2, m3, m4, m5, m6, m7⟩ := cells_at hs1.rel hget
  have hle2 : r.le r1' := hle1.trans hs1.le
  have hto : r1'.to M = r.to ab := by rw [hs1.le.to _ (Ren.add_dom ..), Ren.add_to]
  have hbs2 : r1'.base M = r.base ab := by rw [hs1.le.base _ (Ren.add_dom ..), Ren.add_base, Nat.add_zero]
  have hsz2 : rc2.size = rc.size := by rw [m3.1, hs1.le.size _ (Ren.add_dom ..), Ren.add_size]
  rw [hto] at m1
  rw [hbs2] at m5
  have hl2C : LRel r C (l2.take C.length) := by
    have h1 : LRel r1' C (l2.take C.length) := by
      have := m4.take C.length
      rw [List.take_left] at this
      exact this
    exact hlC0.restrict hle2 h1
  have hl2n := m4.length
  rw [List.length_append] at hl2n
  have hpl : ∀ j y, r.base ab + C.length ≤ j → rc2[j]? = some y → plain y = true := by
    intro j y hj hy
    have hjl := (Array.getElem?_eq_some_iff.1 hy).1
    obtain ⟨q, rfl⟩ : ∃ q, j = r.base ab + q := ⟨j - r.base ab, by omega⟩
    have hq : q < l2.length := by omega
    have h1 := m5 q _ (List.getElem?_eq_getElem hq)
    rw [hy] at h1
    obtain rfl : y = l2[q] := by simpa using h1
    have hq2 : (C ++ sp)[q]? = some sp[q - C.length] := by
      rw [List.getElem?_append_right (by omega)]; exact List.getElem?_eq_getElem (by omega)
    have h2 := m4.at q _ _ hq2 (List.getElem?_eq_getElem hq)
    have h3 := hspl sp[q - C.length] (by rw [← hsp]; exact List.getElem_mem (by omega))
    rw [plain_eq h3 h2]; exact h3
  have hB : BRel P r ab (.cells (some z) false C) (.cells rc2 el2 (lo2, hi2)) :=
    ⟨k2, ⟨by rw [hsz2, hsz], fun _ j y hj hy => hpl j y hj hy⟩, ⟨_, hl2C, fun j y hy => by
      rw [List.getElem?_take] at hy
      split at hy
      · exact m5 j y hy
      · cases hy⟩, m6, m7⟩
  refine ⟨[(ab, true), (ab, false), (ab, false), (xb, false), (ab, false), (xb, false)], r, w', v1',
    sim_view2 (T := T) (T' := T') (nb := .cells (some z) false C) hr hM hgb rfl (by rw [hT]) hTn hs1 hD1 m1 hB rfl rfl rfl (by simp), ?_, hct⟩
  obtain ⟨_, _, o2, c2, rfl, g1, g2, g3, g4⟩ := hv1.slc_inv
  obtain ⟨hcc2, rfl⟩ := g2 m2
  subst hcc2
  have := VRel.slc (r := r) (b := ab) (o := 0) (n := i0 + (k + 1)) (c := c) (c' := c2) hdb (fun e => by rw [k2] at e; cases e) hcc (fun z' hz' => (hgr z' hz').1)
  rw [hto, hbs2]
  exact this
/-- into an empty slice that is not nil -/
theorem ins_tok (hm : P.follows .mixedOrders = true) (hF : TabOk P F) (hf : F f = some (.go ⟨3, [.tmp 6], insB size bytes elem ov rot zero⟩)) {xb : Option Addr} {xc : Nat} {v : Value} {S S' : St}
    (h : appendA size bytes (.chan none) (.slice xb 1 xc) S = some (v, S')) {r : Ren} {w : World} (hr : Rel P r S w) (hfr : Fresh r S S') {args' : Array Value} (ha : LRel r [.chan none, .int .i64 0, .slice xb 1 xc] args'.toList) (fc : Frame) (ccs : List Frame) :
    ∃ D r' w' v', Sim P D r S w r' S' w' ∧ VRel r' v v' ∧ CallAt P fc ccs (callFunc f args') w v' w' := by
  have hL := Lg.appendA size bytes (.chan none) (.slice xb 1 xc)
  obtain ⟨D1, e5, e6⟩ := hL _ _ _ h
  have hw : wp (callN F 4 (.fn f) [.chan none, .int .i64 0, .slice xb 1 xc]) (fun u T => u = v ∧ T.heap = S'.heap ∧ T.next = S'.next ∧ T.wl = S'.h.wl) S.h := by
    refine c_ins hf ?_
    unfold PIns
    have e1 : decide ((((1 : Nat) : Int)) = 0) = false := rfl
    have e2 : decide ((0 : Int) = ((0 : Nat) : Int)) = true := rfl
    rw [P_slcT, bnds_l, if_pos ⟨by omega, by omega⟩, optP_some, P_lenS, P_eql, e1, ifP_bool, ifB_false, P_lenE, P_eql, e2, ifP_bool, ifB_true, X_app]
    exact wp_of_run hL h ⟨rfl, rfl, rfl, rfl⟩
  obtain ⟨u, S1, k1, rfl, k2, k3, k4⟩ := wp_raw (Lg.callN F 4 _ _) hw
  have hfr1 : Fresh r S S1 := fun id a b => hfr id a (by have : S1.next = S'.next := k3; omega)
  obtain ⟨D2, r', w', v', g1, g2, g3⟩ := callN_ok hm hF 4 (.fn f) _ _ _ _ k1 r w hr hfr1 args' ha trivial fc ccs
  refine ⟨D1, r', w', v', sim_relog g1 k2.symm k3.symm e5 fun id hid => ?_, g2, g3⟩
  have : wrs S1.log = wrs S'.log := k4
  rw [g1.log, e5, wrs_append, wrs_append] at this
  have hD : wrs D2 = wrs D1 := List.append_cancel_right this
  have h5 := wrs_mem hid
  rw [hD] at h5
  exact mem_wrs h5
/-- slices.Insert is what the primitive says -/
theorem insert_ok (hm : P.follows .mixedOrders = true) (hF : TabOk P F) (hf : F f = some (.go ⟨3, [.tmp 6], insB size bytes elem ov rot zero⟩)) (hov : F ov = some (.ext (.overlaps size))) (hz : zero.length = size) (hzo : zero.all (·.oneCell') = true) : ExtOk P f (.insert size bytes) := by
  intro args v S S' h r w hr hfr args' ha fc ccs
  have hform : ∃ s i xb xc, args = [s, .int .i64 i, .slice xb 1 xc] := by
    rcases args with _ | ⟨x, _ | ⟨y, _ | ⟨q, _ | ⟨p, args⟩⟩⟩⟩
    · exact ((M.fail_some (S := S) (x := (v, S'))).1 h).elim
    · exact ((M.fail_some (S := S) (x := (v, S'))).1 h).elim
    · cases y <;> first | exact ((M.fail_some (S := S) (x := (v, S'))).1 h).elim | (rename_i k _; cases k <;> exact ((M.fail_some (S := S) (x := (v, S'))).1 h).elim)
    · cases y <;> first | exact ((M.fail_some (S := S) (x := (v, S'))).1 h).elim | skip
      rename_i k _
      cases k <;> first | exact ((M.fail_some (S := S) (x := (v, S'))).1 h).elim | skip
      cases q <;> first | exact ((M.fail_some (S := S) (x := (v, S'))).1 h).elim | skip
      rename_i ln _
      rcases ln with _ | _ | ln
      · exact ((M.fail_some (S := S) (x := (v, S'))).1 h).elim
      · exact ⟨_, _, _, _, rfl⟩
      · exact ((M.fail_some (S := S) (x := (v, S'))).1 h).elim
    · cases y <;> first | exact ((M.fail_some (S := S) (x := (v, S'))).1 h).elim | skip
      rename_i k _
      cases k <;> first | exact ((M.fail_some (S := S) (x := (v, S'))).1 h).elim | skip
      cases q <;> first | exact ((M.fail_some (S := S) (x := (v, S'))).1 h).elim | skip
      rename_i ln _
      rcases ln with _ | _ | ln <;> exact ((M.fail_some (S := S) (x := (v, S'))).1 h).elim
  obtain ⟨s, i, xb, xc, rfl⟩ := hform
  have h : insS size bytes s i xb xc S = some (v, S') := h
  unfold insS at h
  split at h
  · rename_i base n c _
    by_cases hi : i = n
    · exact ins_end hm hF hf hi h hr hfr ha fc ccs
    · by_cases hnp : n + 1 ≤ c
      · exact ins_put hm hF hf hov hi hnp h hr hfr ha fc ccs
      · exact ins_mid hm hF hf hov hz hzo hi hnp h hr hfr ha fc ccs
  · split at h
    · rename_i hi
      subst hi
      exact ins_tok hm hF hf h hr hfr ha fc ccs
    · exact (M.fail_some.1 h).elim
  · exact (M.fail_some.1 h).elim
end
end Go.Wb
end
/- The engine, part Lst: slices of one-celled elements that a program owns and lets grow. -/
section
set_option maxRecDepth 100000
set_option linter.unusedSimpArgs false
set_option linter.unusedVariables false
namespace Go.Wb
/-- a slice of these elements, in a block of its own -/
def Lst (S : Hp) (v : Value) (xs : List Value) (W : List Nat) : Prop :=
  (v = .slice none 0 0 ∧ xs = [] ∧ W = []) ∨
  ∃ b e zs, W = [b] ∧ v = .slice (some ⟨b, 0, none⟩) xs.length (xs.length + zs.length) ∧ S.heap.get b = some (.cells e false (xs ++ zs)) ∧ b < S.next ∧ (e = some 1 ∨ e = none ∧ xs = [] ∧ zs = [])
theorem Lst.fra {S S' : Hp} {v : Value} {xs : List Value} {W W' : List Nat} (h : Lst S v xs W) (hF : Fra W' S S') (hd : ∀ b ∈ W, b ∉ W') : Lst S' v xs W := by
  rcases h with ⟨h1, h2, h3⟩ | ⟨b, e, zs, rfl, h2, h3, h4, h5⟩
  · exact .inl ⟨h1, h2, h3⟩
  · exact .inr ⟨b, e, zs, rfl, h2, hF.at_ h4 (hd b (by simp)) h3, Nat.lt_of_lt_of_le h4 hF.next, h5⟩
theorem Lst.lt {S : Hp} {v : Value} {xs : List Value} {W : List Nat} (h : Lst S v xs W) : ∀ b ∈ W, b < S.next := by
  rcases h with ⟨h1, h2, rfl⟩ | ⟨b, e, zs, rfl, h2, h3, h4, h5⟩
  · simp
  · simpa using h4
theorem Lst.pos {S : Hp} {v : Value} {xs : List Value} {W : List Nat} (h : Lst S v xs W) (h0 : 0 < xs.length) : ∃ b zs, W = [b] ∧ v = .slice (some ⟨b, 0, none⟩) xs.length (xs.length + zs.length) ∧ S.heap.get b = some (.cells (some 1) false (xs ++ zs)) ∧ b < S.next := by
  rcases h with ⟨h1, rfl, rfl⟩ | ⟨b, e, zs, rfl, h2, h3, h4, h5⟩
  · simp at h0
  · rcases h5 with rfl | ⟨_, rfl, _⟩
    · exact ⟨b, zs, rfl, h2, h3, h4⟩
    · simp at h0
theorem Lst.nil (S : Hp) : Lst S (.slice none 0 0) [] [] := .inl ⟨rfl, rfl, rfl⟩
section
variable {C : Tgt → List Value → M Value} {S : Hp} {Φ : Value → Hp → Prop} {F : Nat → Option AFn} {f : Nat}
theorem Lst.len {S S' : Hp} {v : Value} {xs : List Value} {W : List Nat} (h : Lst S v xs W) (C : Tgt → List Value → M Value) (Φ : Value → Hp → Prop) : wp (X C (.len .slice (.const v))) Φ S' = Φ (.int .i64 xs.length) S' := by
  rcases h with ⟨rfl, rfl, _⟩ | ⟨b, e, zs, _, rfl, _⟩
  · rw [P_lenS]; rfl
  · rw [P_lenS]
theorem wp_ite {α : Type} {p : Prop} [Decidable p] {m m' : M α} {Φ : α → Hp → Prop} {S : Hp} : wp (if p then m else m') Φ S = if p then wp m Φ S else wp m' Φ S := by split <;> rfl
/-- an element is read -/
theorem Lst.get {v : Value} {xs : List Value} {W : List Nat} {i : Nat} {x : Value} (h : Lst S v xs W) (hx : xs[i]? = some x) : wp (X C (.ixA 1 (.const v) (.const (.int .i64 i)))) (fun t S => wp (X C (.load .one (.const t))) Φ S) S = Φ x S := by
  have hi := (List.getElem?_eq_some_iff.1 hx).1
  obtain ⟨b, zs, rfl, rfl, hb, _⟩ := h.pos (by omega)
  have hcell : (xs ++ zs)[i]? = some x := by rw [List.getElem?_append_left hi]; exact hx
  simp (disch := first | omega | (simp only [Hp.add_next, Hp.put_next]; done) | (simp only [Hp.add_next, Hp.put_next]; omega) | fail) only [↓P_pick, ↓P_not, ↓P_ext, ↓P_fld, ↓P_fldA, ↓P_nil, ↓P_alloc, ↓P_box, ↓P_build, ↓P_bslice, ↓P_load1, ↓P_loadN, ↓P_cell1, ↓P_cellN, ↓D_load1, ↓D_loadN, ↓P_store, ↓P_ixA, ↓P_ix, ↓P_ixS, ↓P_lenS, ↓P_lenE, ↓P_lenStr, ↓P_mkif, ↓P_eqB, ↓P_eqC, ↓P_mkslice, ↓P_slc, ↓P_slc0, ↓P_andQ, andQ_tt, andQ_tf, andQ_ff, andQ_ft, andQ_p, orQ_p, ifP_bool, ifB_true, ifB_false, ↓P_eqptr0, ↓P_eqptr1, ↓P_eqptr0N, ↓P_eqptr1N, ↓P_eqsl0, ↓P_eqsl1, ↓P_eqsl0N, ↓P_eqsl1N, ↓P_eqmap0, ↓P_eqmap1, ↓P_eqmap0N, ↓P_eqmap1N, ↓P_eqfn0, ↓P_eqfn1, ↓P_eqfn0N, ↓P_eqfn1N, ↓P_lss, ↓P_leq, ↓P_gtr, ↓P_geq, ↓P_eql, ↓P_neq, ↓P_add64, ↓P_sub64, ↓P_addU64, ↓P_subU64, ↓P_addU32, ↓P_subU32, ↓P_addU16, ↓P_subU16, ↓P_addU8, ↓P_subU8, ↓P_convI64, ↓P_convU64, ↓P_convU32, ↓P_convU16, ↓P_convU8, ↓P_seql, ↓P_sneq, ↓P_sadd, ↓P_call0, ↓P_mkfn0, ↓P_call1, ↓P_mkfn1, ↓P_call2, ↓P_mkfn2, ↓P_call3, ↓P_mkfn3, ↓P_call4, ↓P_mkfn4, ↓P_call5, ↓P_mkfn5, ↓P_call6, ↓P_mkfn6, ↓P_call7, ↓P_mkfn7, ↓P_callF0, ↓P_callY0, ↓P_mkfnR0, ↓P_callF1, ↓P_callY1, ↓P_mkfnR1, ↓P_callF2, ↓P_callY2, ↓P_mkfnR2, ↓P_callF3, ↓P_callY3, ↓P_mkfnR3, ↓P_callF4, ↓P_callY4, ↓P_mkfnR4, blkP_cells, rdP_cells, rdP_ro, cutP_none, cutP_some, cutP_ro, optP_some, condP_true, condP_of, bnds_l, bnds_h, bnds_lh, bnds_0, put_at, put_off, add_at, add_eq, add_off, Hp.put_next, Hp.add_next, List.getElem?_cons_zero, List.getElem?_cons_succ, List.length_cons, List.length_nil, Nat.zero_add, Nat.add_zero, Nat.reduceAdd, Nat.reduceLeDiff, Nat.reduceSub, Nat.reduceMul, Nat.reduceEqDiff, List.drop_zero, List.drop_succ_cons, List.take_succ_cons, List.take_zero, and_self, and_true, true_and, if_true, if_false, Bool.false_eq_true, Bool.not_true, Bool.not_false, decide_true, decide_false, beq_true, beq_false, Bool.true_beq, Bool.false_beq, fillA, Atom.ev, setAll, List.set_cons_zero, List.set_cons_succ, List.size_toArray, splice_z, splice_1, splice_2, splice_3, splice_4, overlay_n, overlay_c, List.all_cons, List.all_nil, one_int, one_bool, one_str, one_ptr, one_sl, one_map, one_fn, one_nf, cells_agg, cells_int, cells_bool, cells_str, cells_ptr, cells_sl, cells_map, cells_fn, cells_nf, cells_tok, Bool.and_self, Bool.or_self, Bool.true_or, Bool.or_true, Bool.false_or, Bool.or_false, Bool.false_and, Bool.and_false, Bool.and_true, Bool.true_and, beq_self_eq_true, Int.reduceToNat, List.nil_append, List.append_nil, List.cons_append, Int.le_refl, Int.toNat_natCast, hb, hcell, Nat.mul_one]
/-- an element is written -/
theorem Lst.set {v : Value} {xs : List Value} {W : List Nat} {i : Nat} {y : Value} {Φ : Value → Hp → Prop} (h : Lst S v xs W) (hi : i < xs.length) (hy : y.cells = #[y]) (hy1 : y.oneCell' = true) (k : ∀ S', Fra W S S' → S'.next = S.next → Lst S' v (xs.set i y) W → Φ undef S') : wp (X C (.ixA 1 (.const v) (.const (.int .i64 i)))) (fun t S => wp (X C (.store 1 (.const t) (.const y))) Φ S) S := by
  obtain ⟨b, zs, rfl, rfl, hb, hbl⟩ := h.pos (by omega)
  have hii : (0 : Int) ≤ (i : Nat) ∧ ((i : Nat) : Int) < (xs.length : Nat) := ⟨by omega, by omega⟩
  rw [P_ixA, condP_of hii, P_store, hy]
  refine ⟨rfl, ?_⟩
  rw [hb, blkP_cells]
  refine ⟨⟨by simp; omega, by simp [hy1]⟩, ?_⟩
  have hsp : splice (xs ++ zs) (0 + ((i : Nat) : Int).toNat * 1) (#[y] : Array Value).toList = xs.set i y ++ zs := by
    rw [Nat.zero_add, Nat.mul_one, Int.toNat_natCast, splice_eq _ _ _ (by simp; omega)]
    simp only [setAll]
    rw [List.set_append_left _ _ hi]
  rw [hsp]
  refine k _ ((Fra.refl _ _).put (.inr (by simp)) _) rfl (.inr ⟨b, some 1, zs, rfl, by rw [List.length_set], put_at _ _ _, hbl, .inl rfl⟩)
theorem wp_growX {size bytes b o sl sc n : Nat} {news : M (List Value)} (hl : Lg news) (hok : 2 * ((sl + n) * bytes) ≤ 281474976710656 ∧ bytes ≠ 0 ∧ size ≠ 0) {s : Bool} {c : List Value} (hb : S.heap.get b = some (.cells (some size) s c)) (hc : o + sl * size ≤ c.length) (hw : c.length ≤ o + (sl + n) * size)
    {new : List Value} (hf : ∀ Ψ : List Value → Hp → Prop, wp news Ψ S = Ψ new S) (hnew : new.all (·.oneCell') = true) : wp (growA size bytes (some ⟨b, o, none⟩) sl sc n news) Φ S =
    Φ (.slice (some ⟨S.next, 0, none⟩) (sl + n) (sl + n)) ((S.put b none).add (.cells (some size) s ((c.drop o).take (sl * size) ++ new))) := by
  unfold growA
  rw [if_pos hok, wp_bind hl (fun new => Lg.ite (by
    refine Lg.bind (Lg.rd _) fun o => ?_
    cases o with
    | loop => exact Lg.fail
    | map => exact Lg.fail
    | iter => exact Lg.fail
    | ro => exact Lg.fail
    | cells x t c =>
      refine Lg.ite ?_ Lg.fail
      cases x with
      | none => exact Lg.bind (Lg.nw _) fun _ => Lg.pure _
      | some z => exact Lg.ite (Lg.bind (Lg.wr _ _) fun _ => Lg.bind (Lg.nw _) fun _ => Lg.pure _) Lg.fail) Lg.fail), hf, if_pos hnew]
  dsimp only
  rw [wp_bind (Lg.rd _) (fun o => by
    cases o with
    | loop => exact Lg.fail
    | map => exact Lg.fail
    | iter => exact Lg.fail
    | ro => exact Lg.fail
    | cells x t c =>
      refine Lg.ite ?_ Lg.fail
      cases x with
      | none => exact Lg.bind (Lg.nw _) fun _ => Lg.pure _
      | some z => exact Lg.ite (Lg.bind (Lg.wr _ _) fun _ => Lg.bind (Lg.nw _) fun _ => Lg.pure _) Lg.fail), wp_rd, hb, optP_some]
  dsimp only
  rw [if_pos hc, if_pos ⟨rfl, (withinL_iff _ _).2 hw⟩, wp_bind (Lg.wr _ _) (fun _ => Lg.bind (Lg.nw _) fun _ => Lg.pure _), wp_wr, wp_nwp]
  rfl
theorem wp_putX {size b o sl sc n : Nat} {news : M (List Value)} (hl : Lg news) {e : Option Nat} {s : Bool} {c : List Value} (hb : S.heap.get b = some (.cells e s c))
    {new : List Value} (hf : ∀ Ψ : List Value → Hp → Prop, wp news Ψ S = Ψ new S) (hfit : o + sl * size + new.length ≤ c.length) (hnew : new.all (·.oneCell') = true) : wp (putA size (some ⟨b, o, none⟩) sl sc n news) Φ S =
    Φ (.slice (some ⟨b, o, none⟩) (sl + n) sc) (S.put b (some (.cells e s (splice c (o + sl * size) new)))) := by
  unfold putA
  rw [wp_bind hl (fun new => Lg.bind (Lg.stCells _ _ _) fun _ => Lg.pure _), hf]
  dsimp only
  rw [wp_bind (Lg.stCells _ _ _) (fun _ => Lg.pure _), wp_stCells, hb, blkP_cells, condP_of ⟨hfit, hnew⟩, wp_pure]
/-- an element is put in -/
theorem Lst.ins {by_ : Nat} (hF : F f = some (.ext (.insert 1 by_))) {n : Nat} {v x : Value} {xs : List Value} {W : List Nat} {i bx cx : Nat} {ex : Option Nat} {Φ : Value → Hp → Prop} (h : Lst S v xs W) (hi : i ≤ xs.length) (hx : S.heap.get bx = some (.cells ex false [x])) (hbx : bx ∉ W) (hbxl : bx < S.next)
    (hby : by_ ≠ 0) (hbig : 2 * ((xs.length + 1) * by_) ≤ 281474976710656) (hone : xs.all (·.oneCell') = true) (hx1 : x.oneCell' = true)
    (k : ∀ v' S' W', Fra W S S' → Lst S' v' (xs.take i ++ x :: xs.drop i) W' → (∀ b ∈ W', b ∈ W ∨ S.next ≤ b) → Φ v' S') : wp (callN F (n + 1) (.fn f) [v, .int .i64 i, .slice (some ⟨bx, 0, none⟩) 1 cx]) Φ S := by
  have e0 : callN F (n + 1) (.fn f) [v, .int .i64 i, .slice (some ⟨bx, 0, none⟩) 1 cx] = insS 1 by_ v i (some ⟨bx, 0, none⟩) cx := by
    funext S
    simp only [callN, hF, extA]
  have hfx : ∀ (S' : Hp), S'.heap.get bx = some (.cells ex false [x]) → ∀ Ψ : List Value → Hp → Prop, wp (firstN 1 1 (.slice (some ⟨bx, 0, none⟩) 1 cx)) Ψ S' = Ψ [x] S' := by
    intro S' hx' Ψ
    rw [W_firstN, hx', rdP_cells, condP_of (by simp)]
    rfl
  have hx1' : ([x] : List Value).all (·.oneCell') = true := by simp [hx1]
  rw [e0]
  have hap : ∀ (s : Value) (Φ : Value → Hp → Prop) (S : Hp), wp (appendA 1 by_ s (.slice (some ⟨bx, 0, none⟩) 1 cx)) Φ S = wp (X (fun _ _ => M.fail) (.app 1 by_ 0 (.const s) (.const (.slice (some ⟨bx, 0, none⟩) 1 cx)))) Φ S := fun s Φ S => by rw [X_app]
  rcases h with ⟨rfl, rfl, rfl⟩ | ⟨b, e, zs, rfl, rfl, hb, hbl, he⟩
  · obtain rfl : i = 0 := by simpa using hi
    have e1 : insS 1 by_ (.slice none 0 0) ((0 : Nat) : Int) (some ⟨bx, 0, none⟩) cx = appendA 1 by_ (.slice none 0 0) (.slice (some ⟨bx, 0, none⟩) 1 cx) := by
      funext S
      simp [insS, insA, chkC, M.bind, M.pure]
    rw [e1, hap, P_app_nil 1 by_ 0 rfl (by omega) ⟨by simpa using hbig, hby, by omega⟩, hfx S hx]
    refine ⟨hx1', ?_⟩
    exact k _ _ _ ((Fra.refl _ _).add _) (.inr ⟨S.next, some 1, [], rfl, rfl, add_at _ _, by (first | omega | (simp only [Hp.add_next, Hp.put_next]; done) | (simp only [Hp.add_next, Hp.put_next]; omega)), .inl rfl⟩) (by simp)
  · have hbne : bx ≠ b := by simpa using hbx
    by_cases hil : i = xs.length
    · subst hil
      have e1 : insS 1 by_ (.slice (some ⟨b, 0, none⟩) xs.length (xs.length + zs.length)) ((xs.length : Nat) : Int) (some ⟨bx, 0, none⟩) cx = (chkC 1 (some ⟨b, 0, none⟩)).bind fun _ => appendA 1 by_ (.slice (some ⟨b, 0, none⟩) xs.length (xs.length + zs.length)) (.slice (some ⟨bx, 0, none⟩) 1 cx) := by
        have hc : (0 : Int) ≤ (xs.length : Nat) ∧ ((xs.length : Nat) : Int) ≤ (xs.length : Nat) ∧ xs.length ≤ xs.length + zs.length := ⟨by omega, by omega, by omega⟩
        simp only [insS, insA, if_pos hc, if_true]
      have hchk : ∀ Ψ : Unit → Hp → Prop, wp (chkC 1 (some ⟨b, 0, none⟩)) Ψ S = Ψ () S := by
        intro Ψ
        have e2 : chkC 1 (some ⟨b, 0, none⟩) = (rd b).bind fun o => match o with
            | .cells x _ _ => if x = none ∨ x = some 1 then M.pure () else M.fail
            | _ => M.fail := rfl
        have hcc : e = none ∨ e = some 1 := by rcases he with h | ⟨h, _⟩; exact .inr h; exact .inl h
        rw [e2, wp_bind (Lg.rd _) (fun o => by split; exact Lg.ite (Lg.pure _) Lg.fail; exact Lg.fail), wp_rd, hb, optP_some]
        dsimp only
        rw [if_pos hcc, wp_pure]
      rw [e1, wp_bind (Lg.chkC _ _) (fun _ => Lg.appendA _ _ _ _), hchk, hap]
      have hlist : xs.take xs.length ++ x :: xs.drop xs.length = xs ++ [x] := by simp
      rw [hlist] at k
      cases zs with
      | cons z zs =>
        rw [P_app_fit 1 by_ 0 b 0 xs.length (xs.length + (z :: zs).length) (x := .slice (some ⟨bx, 0, none⟩) 1 cx) (n := 1) rfl (by simp), hfx S hx, wp_stCells, hb, blkP_cells]
        refine ⟨⟨by simp, hx1'⟩, ?_⟩
        have hsp : splice (xs ++ z :: zs) (0 + xs.length * 1) [x] = xs ++ [x] ++ zs := by
          have := splice_mid xs [z] [x] zs rfl
          rw [Nat.zero_add, Nat.mul_one]
          simpa using this
        rw [hsp]
        refine k _ _ [b] ((Fra.refl _ _).put (.inr (by simp)) _) (.inr ⟨b, e, zs, rfl, by simp; omega, put_at _ _ _, hbl, ?_⟩) (by simp)
        rcases he with he | ⟨_, _, he⟩
        · exact .inl he
        · cases he
      | nil =>
        rw [List.length_nil]
        rcases he with rfl | ⟨rfl, rfl, _⟩
        · rw [P_app_ext 1 by_ 0 b 0 xs.length (xs.length + 0) (x := .slice (some ⟨bx, 0, none⟩) 1 cx) (n := 1) rfl (by omega) ⟨hbig, hby, by omega⟩ hb (by simp) (by simp) (hfx S hx) hx1']
          refine k _ _ [S.next] (((Fra.refl _ _).put (.inr (by simp)) _).add _) (.inr ⟨S.next, some 1, [], rfl, by simp, (add_eq (S := S.put b none) rfl _).trans (by simp [List.take_of_length_le]), by (first | omega | (simp only [Hp.add_next, Hp.put_next]; done) | (simp only [Hp.add_next, Hp.put_next]; omega)), .inl rfl⟩) (by simp)
        · rw [List.length_nil, P_app_own 1 by_ 0 b 0 0 (0 + 0) (x := .slice (some ⟨bx, 0, none⟩) 1 cx) (n := 1) rfl (by omega) ⟨by simpa using hbig, hby, by omega⟩ hb (by simp) (hfx S hx) hx1']
          refine k _ _ [S.next] ((Fra.refl _ _).add _) (.inr ⟨S.next, some 1, [], rfl, rfl, add_at _ _, by (first | omega | (simp only [Hp.add_next, Hp.put_next]; done) | (simp only [Hp.add_next, Hp.put_next]; omega)), .inl rfl⟩) (by simp)
    · have hlt : i < xs.length := by omega
      have he1 : e = some 1 := by
        rcases he with h | ⟨_, rfl, _⟩
        · exact h
        · simp at hlt
      subst he1
      have hsmall : xs.length + 1 < 4611686018427387904 := by
        have : xs.length + 1 ≤ (xs.length + 1) * by_ := Nat.le_mul_of_pos_right _ (by omega)
        omega
      have e1 : insS 1 by_ (.slice (some ⟨b, 0, none⟩) xs.length (xs.length + zs.length)) ((i : Nat) : Int) (some ⟨bx, 0, none⟩) cx = (chkS false bx).bind fun _ => (chkS true b).bind fun _ => insG 1 by_ ⟨b, 0, none⟩ xs.length (xs.length + zs.length) i
          ((ldCells bx 0 1).bind fun l => (ldCells b (0 + i * 1) ((xs.length - i) * 1)).bind fun r => M.pure (l ++ r)) := by
        have hc : (0 : Int) ≤ (i : Nat) ∧ ((i : Nat) : Int) ≤ (xs.length : Nat) ∧ xs.length ≤ xs.length + zs.length := ⟨by omega, by omega, by omega⟩
        have hne : ¬ ((i : Nat) : Int) = (xs.length : Nat) := by omega
        have hbb : b ≠ bx := fun e => hbne e.symm
        simp only [insS, insA, if_pos hc, if_neg hne, if_pos hbb, Int.toNat_natCast]
      have hchk1 : ∀ Ψ : Unit → Hp → Prop, wp (chkS false bx) Ψ S = Ψ () S := by
        intro Ψ
        have e2 : chkS false bx = (rd bx).bind fun o => match o with
            | .cells (some _) false _ => M.pure ()
            | .cells none false _ => M.pure ()
            | _ => M.fail := by
          funext S
          simp only [chkS, M.bind]
          cases rd bx S with
          | none => rfl
          | some p =>
            obtain ⟨o, S'⟩ := p
            cases o <;> rfl
        rw [e2, wp_bind (Lg.rd _) (fun o => by split <;> first | exact Lg.pure _ | exact Lg.fail), wp_rd, hx, optP_some]
        cases ex <;> exact wp_pure ..
      have hchk2 : ∀ Ψ : Unit → Hp → Prop, wp (chkS true b) Ψ S = Ψ () S := by
        intro Ψ
        have e2 : chkS true b = (rd b).bind fun o => match o with
            | .cells (some _) false _ => M.pure ()
            | _ => M.fail := by
          funext S
          simp only [chkS, M.bind]
          cases rd b S with
          | none => rfl
          | some p =>
            obtain ⟨o, S'⟩ := p
            cases o <;> try rfl
            rename_i x s c
            cases x <;> cases s <;> rfl
        rw [e2, wp_bind (Lg.rd _) (fun o => by split <;> first | exact Lg.pure _ | exact Lg.fail), wp_rd, hb, optP_some]
        exact wp_pure ..
      have hnews : ∀ Ψ : List Value → Hp → Prop, wp ((ldCells bx 0 1).bind fun l => (ldCells b (0 + i * 1) ((xs.length - i) * 1)).bind fun r => M.pure (l ++ r)) Ψ S = Ψ ([x] ++ xs.drop i) S := by
        intro Ψ
        rw [wp_bind (Lg.ldCells _ _ _) (fun _ => Lg.bind (Lg.ldCells _ _ _) fun _ => Lg.pure _), wp_ldCells, hx, rdP_cells, condP_of (by simp), wp_bind (Lg.ldCells _ _ _) (fun _ => Lg.pure _), wp_ldCells, hb, rdP_cells, condP_of (by simp; omega), wp_pure]
        congr 2
        rw [Nat.zero_add, Nat.mul_one, Nat.mul_one, List.drop_append_of_le_length (by omega), List.take_append_of_le_length (by simp), List.take_of_length_le (by simp)]
      have hnl : Lg ((ldCells bx 0 1).bind fun l => (ldCells b (0 + i * 1) ((xs.length - i) * 1)).bind fun r => M.pure (l ++ r)) := Lg.bind (Lg.ldCells _ _ _) fun _ => Lg.bind (Lg.ldCells _ _ _) fun _ => Lg.pure _
      have hall : ([x] ++ xs.drop i).all (·.oneCell') = true := by
        rw [List.all_append, hx1', Bool.true_and, List.all_eq_true]
        exact fun y hy => (List.all_eq_true.1 hone) y (List.mem_of_mem_drop hy)
      have hnn : xs.length + 1 - i = xs.length - i + 1 := by omega
      rw [e1, wp_bind (Lg.chkS _ _) (fun _ => Lg.bind (Lg.chkS _ _) fun _ => Lg.insG _ _ _ _ _ _ hnl), hchk1, wp_bind (Lg.chkS _ _) (fun _ => Lg.insG _ _ _ _ _ _ hnl), hchk2]
      unfold insG
      have hcnd : (⟨b, 0, none⟩ : Addr).off = 0 ∧ 1 ≠ 0 ∧ xs.length + 1 < 4611686018427387904 := ⟨rfl, by omega, hsmall⟩
      rw [if_pos hcnd]
      have hil2 : i + (xs.length + 1 - i) = xs.length + 1 := by omega
      cases zs with
      | cons z zs =>
        rw [if_pos (by simp; omega), wp_putX hnl hb hnews (by simp; omega) hall, hil2]
        have hsp : splice (xs ++ z :: zs) (0 + i * 1) ([x] ++ xs.drop i) = xs.take i ++ x :: xs.drop i ++ zs := by
          have := splice_mid (xs.take i) (xs.drop i ++ [z]) ([x] ++ xs.drop i) zs (by simp)
          have h2 : (xs.take i).length = 0 + i * 1 := by simp; omega
          rw [h2] at this
          have h3 : xs.take i ++ (xs.drop i ++ [z]) ++ zs = xs ++ z :: zs := by
            rw [← List.append_assoc, List.take_append_drop]; simp
          rw [h3] at this
          rw [this]; simp
        rw [hsp]
        have hll : (xs.take i ++ x :: xs.drop i).length = xs.length + 1 := by simp; omega
        refine k _ _ [b] ((Fra.refl _ _).put (.inr (by simp)) _) (.inr ⟨b, some 1, zs, rfl, by rw [hll]; simp; omega, put_at _ _ _, hbl, .inl rfl⟩) (by simp)
      | nil =>
        rw [if_neg (by simp; omega), wp_growX (o := 0) hnl ⟨by rw [hil2]; exact hbig, hby, by omega⟩ hb (by simp; omega) (by simp; omega) hnews hall, hil2]
        have hll : (xs.take i ++ x :: xs.drop i).length = xs.length + 1 := by simp; omega
        have hcont : ((xs ++ []).drop 0).take (i * 1) ++ ([x] ++ xs.drop i) = xs.take i ++ x :: xs.drop i ++ [] := by simp
        rw [hcont]
        exact k _ _ [S.next] (((Fra.refl _ _).put (.inr (by simp)) _).add _) (.inr ⟨S.next, some 1, [], rfl, by rw [hll]; simp, add_eq (S := S.put b none) rfl _, by (first | omega | (simp only [Hp.add_next, Hp.put_next]; done) | (simp only [Hp.add_next, Hp.put_next]; omega)), .inl rfl⟩) (by simp)
/-- slices.Delete's text -/
def PDel (by_ el : Nat) (zero : Value) (C : Tgt → List Value → M Value) (Φ : Value → Hp → Prop) (t0 t1 t2 : Value) (S : Hp) : Prop :=
  wp (X C (.len .slice (.const t0))) (fun t12_0 S =>
  wp (X C (.slc 1 (.const t0) (some (.const t1)) (some (.const t2)) (some (.const t12_0)))) (fun t13_1 S =>
  wp (X C (.bin .eql (.const t1) (.const t2))) (fun t16_2 S =>
  ifP (Wb.asBool t16_2) (fun S =>
   Φ t0 S) (fun S =>
   wp (X C (.len .slice (.const t0))) (fun t19_3 S =>
   wp (X C (.slc 1 (.const t0) none (some (.const t1)) none)) (fun t22_4 S =>
   wp (X C (.slc 1 (.const t0) (some (.const t2)) none none)) (fun t25_5 S =>
   wp (X C (.app 1 by_ el (.const t22_4) (.const t25_5))) (fun t26_6 S =>
   okP (apartAll [0, 0, 3, 0, 0, 24, 63, 127] []) (fun S =>
   wp (X C (.len .slice (.const t26_6))) (fun t29_7 S =>
   wp (X C (.slc 1 (.const t26_6) (some (.const t29_7)) (some (.const t19_3)) none)) (fun t31_8 S =>
   wp (X C (.clear [zero] (.const t31_8))) (fun _ S =>
   Φ t26_6 S) S) S) S) S) S) S) S) S) S) S) S) S
theorem P_clear {zero : List Value} {b o n c : Nat} : wp (X C (.clear zero (.const (.slice (some ⟨b, o, none⟩) n c)))) Φ S = wp (stCells b o (rep n zero)) (fun _ S => Φ undef S) S := by
  have e : X C (.clear zero (.const (.slice (some ⟨b, o, none⟩) n c))) = (stCells b o (rep n zero)).bind fun _ => M.pure undef := by
    funext S
    rfl
  rw [e, wp_bind (Lg.stCells _ _ _) (fun _ => Lg.pure _)]
  simp only [wp_pure]
theorem P_clear0 {zero : List Value} : wp (X C (.clear zero (.const (.slice none 0 0)))) Φ S = Φ undef S := by
  have e : X C (.clear zero (.const (.slice none 0 0))) = M.pure undef := by
    funext S
    rfl
  rw [e, wp_pure]
theorem bnds_lhm {len cap i j m : Nat} (h : i ≤ j ∧ j ≤ m ∧ m ≤ cap) : bnds .leaf len cap (some (.const (.int .i64 i))) (some (.const (.int .i64 j))) (some (.const (.int .i64 m))) = some (i, j, m) := by
  have h1 : (0 : Int) ≤ (m : Nat) ∧ ((m : Nat) : Int) ≤ (cap : Nat) := ⟨by omega, by omega⟩
  have h2 : (0 : Int) ≤ (j : Nat) ∧ ((j : Nat) : Int) ≤ (m : Nat) := ⟨by omega, by omega⟩
  have h3 : (0 : Int) ≤ (i : Nat) ∧ ((i : Nat) : Int) ≤ (j : Nat) := ⟨by omega, by omega⟩
  simp only [bnds, bnd, Atom.ev, Option.bind_some, asInt, if_pos h1, Int.toNat_natCast, if_pos h2, if_pos h3]
/-- an element is taken out -/
theorem Lst.del {by_ el : Nat} {zero x : Value} {v : Value} {A B : List Value} {W : List Nat} (h : Lst S v (A ++ x :: B) W) (hone : (A ++ x :: B).all (·.oneCell') = true) (hz : zero.oneCell' = true) (k : ∀ v' S', Fra W S S' → S'.next = S.next → Lst S' v' (A ++ B) W → Φ v' S') : PDel by_ el zero C Φ v (.int .i64 A.length) (.int .i64 ((A.length : Nat) + 1)) S := by
  obtain ⟨b, zs, rfl, rfl, hb, hbl⟩ := h.pos (by simp; omega)
  have hn : (A ++ x :: B).length = A.length + 1 + B.length := by simp; omega
  obtain ⟨n, hnn⟩ : ∃ n, n = (A ++ x :: B).length := ⟨_, rfl⟩
  obtain ⟨c, hc⟩ : ∃ c, c = n + zs.length := ⟨_, rfl⟩
  rw [← hnn] at hn
  rw [← hnn, ← hc]
  unfold PDel
  have hj : ((A.length : Nat) : Int) + 1 = ((A.length + 1 : Nat) : Int) := by omega
  rw [hj, P_lenS, P_slcM 1 b 0 n c _ _ _ hb, bnds_lhm ⟨by omega, by omega, by omega⟩, optP_some]
  have e1 : decide (((A.length : Nat) : Int) = ((A.length + 1 : Nat) : Int)) = false := decide_eq_false (by omega)
  have q1 : (0 : Int) ≤ (A.length : Nat) ∧ ((A.length : Nat) : Int) ≤ (c : Nat) := ⟨by omega, by omega⟩
  have q2 : (0 : Int) ≤ (A.length + 1 : Nat) ∧ ((A.length + 1 : Nat) : Int) ≤ (n : Nat) := ⟨by omega, by omega⟩
  have q3 : ((0 : Int) ≤ (n : Nat) ∧ ((n : Nat) : Int) ≤ (c : Nat)) ∧ (0 : Int) ≤ (A.length + B.length : Nat) ∧ ((A.length + B.length : Nat) : Int) ≤ (n : Nat) := ⟨⟨by omega, by omega⟩, by omega, by omega⟩
  have q4 : slcR 1 b 0 0 0 A.length c = .slice (some ⟨b, 0, none⟩) A.length c := by simp [slcR]
  obtain ⟨o2, q5, q6⟩ : ∃ o2, slcR 1 b 0 0 (A.length + 1) n c = .slice (some ⟨b, o2, none⟩) B.length (c - (A.length + 1)) ∧ (o2 = A.length + 1 ∨ B.length = 0 ∧ o2 = 0) := by
    have hBl : n - (A.length + 1) = B.length := by omega
    by_cases hcc : c = A.length + 1
    · exact ⟨0, by rw [slcR, if_pos hcc, hBl], .inr ⟨by omega, rfl⟩⟩
    · exact ⟨A.length + 1, by rw [slcR, if_neg hcc, hBl]; simp, .inl rfl⟩
  have q7 : slcR 1 b 0 0 (A.length + B.length) n c = .slice (some ⟨b, A.length + B.length, none⟩) 1 (c - (A.length + B.length)) := by
    rw [slcR, if_neg (by omega)]; congr 2 <;> first | omega | simp
  refine ⟨by show A.length + 1 ≤ n; omega, ?_⟩
  rw [P_eql, e1, ifP_bool, ifB_false, P_lenS, P_slc, bnds_h, if_pos q1, optP_some, condP_of (by show A.length ≤ c; omega), hb, cutP_some]
  dsimp only
  rw [Int.toNat_natCast, q4, P_slc, bnds_l, if_pos q2, optP_some, condP_of (by show n ≤ c; omega), hb, cutP_some]
  dsimp only
  rw [Int.toNat_natCast, q5, P_app_fit 1 by_ el b 0 A.length c (x := .slice (some ⟨b, o2, none⟩) B.length (c - (A.length + 1))) (n := B.length) rfl (by omega), W_firstN, hb, rdP_cells]
  have hlist : A ++ x :: B ++ zs = A ++ x :: (B ++ zs) := by simp
  have hld : ((A ++ x :: B ++ zs).drop o2).take (B.length * 1) = B := by
    rcases q6 with rfl | ⟨h0, rfl⟩
    · rw [hlist, Nat.mul_one, List.drop_append, List.drop_of_length_le (by omega)]
      simp
    · obtain rfl : B = [] := List.eq_nil_of_length_eq_zero h0
      simp
  have hall := List.all_eq_true.1 hone
  have hBo : B.all (·.oneCell') = true := List.all_eq_true.2 fun y hy => hall y (by simp [hy])
  have hcl : (A ++ x :: B ++ zs).length = n + zs.length := by rw [List.length_append, hnn]
  rw [condP_of (by rw [hcl]; rcases q6 with rfl | ⟨h0, rfl⟩ <;> omega), hld, wp_stCells, hb, blkP_cells, condP_of ⟨by rw [hcl]; omega, hBo⟩]
  -- the list behind the move
  obtain ⟨l, hl⟩ : ∃ l, splice (A ++ x :: B ++ zs) (0 + A.length * 1) B = A ++ B ++ ([l] ++ zs) := by
    have hbx : ∃ Q l, x :: B = Q ++ [l] := ⟨(x :: B).dropLast, (x :: B).getLast (by simp), (List.dropLast_concat_getLast (by simp)).symm⟩
    obtain ⟨Q, l, hQ⟩ := hbx
    have hQl : Q.length = B.length := by
      have := congrArg List.length hQ
      simp at this; omega
    refine ⟨l, ?_⟩
    have h2 := splice_mid A Q B ([l] ++ zs) hQl
    have h3 : A ++ x :: B ++ zs = A ++ Q ++ ([l] ++ zs) := by rw [hQ]; simp
    rw [Nat.zero_add, Nat.mul_one, h3]; exact h2
  rw [hl, apart_nil, okP_true, P_lenS, P_slc, bnds_lh, if_pos q3, optP_some, condP_of (by show n ≤ c; omega), put_at, cutP_some]
  dsimp only
  rw [Int.toNat_natCast, Int.toNat_natCast, q7, P_clear, wp_stCells, put_at, blkP_cells]
  have hr1 : rep 1 [zero] = [zero] := rfl
  rw [hr1]
  refine ⟨⟨by simp; omega, by simp [hz]⟩, ?_⟩
  have hsp : splice (A ++ B ++ ([l] ++ zs)) (A.length + B.length) [zero] = A ++ B ++ (zero :: zs) := by
    have h2 := splice_mid (A ++ B) [l] [zero] zs rfl
    rw [List.length_append] at h2
    simpa using h2
  rw [hsp]
  refine k _ _ (((Fra.refl _ _).put (.inr (by simp)) _).put (.inr (by simp)) _) rfl (.inr ⟨b, some 1, zero :: zs, rfl, ?_, put_at _ _ _, hbl, .inl rfl⟩)
  congr 1
  · simp
  · simp; omega
/-- slices.Clone's text -/
def PCln (by_ el : Nat) (C : Tgt → List Value → M Value) (Φ : Value → Hp → Prop) (t0 : Value) (S : Hp) : Prop :=
  wp (X C (.eq false (.nil .slice) (.const t0) (.const (.slice none 0 0)))) (fun t4_0 S =>
  ifP (Wb.asBool t4_0) (fun S =>
   Φ (.slice none 0 0) S) (fun S =>
   wp (X C (.bslice el 0 [] [])) (fun t5_1 S =>
   wp (X C (.app 1 by_ el (.const t5_1) (.const t0))) (fun t7_2 S =>
   Φ t7_2 S) S) S) S) S
theorem Lst.cln {by_ el : Nat} {v : Value} {xs : List Value} {W : List Nat} (h : Lst S v xs W) (hone : xs.all (·.oneCell') = true) (hby : by_ ≠ 0) (hbig : 2 * (xs.length * by_) ≤ 281474976710656) (k : ∀ v' S' W', Fra [] S S' → Lst S' v' xs W' → (∀ b ∈ W', S.next ≤ b) → Φ v' S') : PCln by_ el C Φ v S := by
  unfold PCln
  rcases h with ⟨rfl, rfl, rfl⟩ | ⟨b, e, zs, rfl, rfl, hb, hbl, he⟩
  · simp (disch := first | omega | (simp only [Hp.add_next, Hp.put_next]; done) | (simp only [Hp.add_next, Hp.put_next]; omega) | fail) only [↓P_pick, ↓P_not, ↓P_ext, ↓P_fld, ↓P_fldA, ↓P_nil, ↓P_alloc, ↓P_box, ↓P_build, ↓P_bslice, ↓P_load1, ↓P_loadN, ↓P_cell1, ↓P_cellN, ↓D_load1, ↓D_loadN, ↓P_store, ↓P_ixA, ↓P_ix, ↓P_ixS, ↓P_lenS, ↓P_lenE, ↓P_lenStr, ↓P_mkif, ↓P_eqB, ↓P_eqC, ↓P_mkslice, ↓P_slc, ↓P_slc0, ↓P_andQ, andQ_tt, andQ_tf, andQ_ff, andQ_ft, andQ_p, orQ_p, ifP_bool, ifB_true, ifB_false, ↓P_eqptr0, ↓P_eqptr1, ↓P_eqptr0N, ↓P_eqptr1N, ↓P_eqsl0, ↓P_eqsl1, ↓P_eqsl0N, ↓P_eqsl1N, ↓P_eqmap0, ↓P_eqmap1, ↓P_eqmap0N, ↓P_eqmap1N, ↓P_eqfn0, ↓P_eqfn1, ↓P_eqfn0N, ↓P_eqfn1N, ↓P_lss, ↓P_leq, ↓P_gtr, ↓P_geq, ↓P_eql, ↓P_neq, ↓P_add64, ↓P_sub64, ↓P_addU64, ↓P_subU64, ↓P_addU32, ↓P_subU32, ↓P_addU16, ↓P_subU16, ↓P_addU8, ↓P_subU8, ↓P_convI64, ↓P_convU64, ↓P_convU32, ↓P_convU16, ↓P_convU8, ↓P_seql, ↓P_sneq, ↓P_sadd, ↓P_call0, ↓P_mkfn0, ↓P_call1, ↓P_mkfn1, ↓P_call2, ↓P_mkfn2, ↓P_call3, ↓P_mkfn3, ↓P_call4, ↓P_mkfn4, ↓P_call5, ↓P_mkfn5, ↓P_call6, ↓P_mkfn6, ↓P_call7, ↓P_mkfn7, ↓P_callF0, ↓P_callY0, ↓P_mkfnR0, ↓P_callF1, ↓P_callY1, ↓P_mkfnR1, ↓P_callF2, ↓P_callY2, ↓P_mkfnR2, ↓P_callF3, ↓P_callY3, ↓P_mkfnR3, ↓P_callF4, ↓P_callY4, ↓P_mkfnR4, blkP_cells, rdP_cells, rdP_ro, cutP_none, cutP_some, cutP_ro, optP_some, condP_true, condP_of, bnds_l, bnds_h, bnds_lh, bnds_0, put_at, put_off, add_at, add_eq, add_off, Hp.put_next, Hp.add_next, ↓P_b2strN, ↓P_b2str, ↓P_max, ↓P_mov, ↓P_Gff, ↓P_Gtt, ↓P_Gft, ↓P_Gtf, ↓D_Gff, ↓D_Gtt, ↓D_Gft, ↓D_Gtf, List.getElem?_cons_zero, List.getElem?_cons_succ, List.length_cons, List.length_nil, Nat.zero_add, Nat.add_zero, Nat.reduceAdd, Nat.reduceLeDiff, Nat.reduceSub, Nat.reduceMul, Nat.reduceEqDiff, List.drop_zero, List.drop_succ_cons, List.take_succ_cons, List.take_zero, and_self, and_true, true_and, if_true, if_false, Bool.false_eq_true, Bool.not_true, Bool.not_false, decide_true, decide_false, beq_true, beq_false, Bool.true_beq, Bool.false_beq, fillA, Atom.ev, setAll, List.set_cons_zero, List.set_cons_succ, List.size_toArray, splice_z, splice_1, splice_2, splice_3, splice_4, overlay_n, overlay_c, List.all_cons, List.all_nil, one_int, one_bool, one_str, one_ptr, one_sl, one_map, one_fn, one_nf, cells_agg, cells_int, cells_bool, cells_str, cells_ptr, cells_sl, cells_map, cells_fn, cells_nf, cells_tok, Bool.and_self, Bool.or_self, Bool.true_or, Bool.or_true, Bool.false_or, Bool.or_false, Bool.false_and, Bool.and_false, Bool.and_true, Bool.true_and, beq_self_eq_true, Int.reduceToNat, List.nil_append, List.append_nil, List.cons_append, Int.le_refl, Int.toNat_natCast, splice_5, splice_6]
    exact k _ _ [] (Fra.refl _ _) (Lst.nil _) (by simp)
  · simp (disch := first | omega | (simp only [Hp.add_next, Hp.put_next]; done) | (simp only [Hp.add_next, Hp.put_next]; omega) | fail) only [↓P_pick, ↓P_not, ↓P_ext, ↓P_fld, ↓P_fldA, ↓P_nil, ↓P_alloc, ↓P_box, ↓P_build, ↓P_bslice, ↓P_load1, ↓P_loadN, ↓P_cell1, ↓P_cellN, ↓D_load1, ↓D_loadN, ↓P_store, ↓P_ixA, ↓P_ix, ↓P_ixS, ↓P_lenS, ↓P_lenE, ↓P_lenStr, ↓P_mkif, ↓P_eqB, ↓P_eqC, ↓P_mkslice, ↓P_slc, ↓P_slc0, ↓P_andQ, andQ_tt, andQ_tf, andQ_ff, andQ_ft, andQ_p, orQ_p, ifP_bool, ifB_true, ifB_false, ↓P_eqptr0, ↓P_eqptr1, ↓P_eqptr0N, ↓P_eqptr1N, ↓P_eqsl0, ↓P_eqsl1, ↓P_eqsl0N, ↓P_eqsl1N, ↓P_eqmap0, ↓P_eqmap1, ↓P_eqmap0N, ↓P_eqmap1N, ↓P_eqfn0, ↓P_eqfn1, ↓P_eqfn0N, ↓P_eqfn1N, ↓P_lss, ↓P_leq, ↓P_gtr, ↓P_geq, ↓P_eql, ↓P_neq, ↓P_add64, ↓P_sub64, ↓P_addU64, ↓P_subU64, ↓P_addU32, ↓P_subU32, ↓P_addU16, ↓P_subU16, ↓P_addU8, ↓P_subU8, ↓P_convI64, ↓P_convU64, ↓P_convU32, ↓P_convU16, ↓P_convU8, ↓P_seql, ↓P_sneq, ↓P_sadd, ↓P_call0, ↓P_mkfn0, ↓P_call1, ↓P_mkfn1, ↓P_call2, ↓P_mkfn2, ↓P_call3, ↓P_mkfn3, ↓P_call4, ↓P_mkfn4, ↓P_call5, ↓P_mkfn5, ↓P_call6, ↓P_mkfn6, ↓P_call7, ↓P_mkfn7, ↓P_callF0, ↓P_callY0, ↓P_mkfnR0, ↓P_callF1, ↓P_callY1, ↓P_mkfnR1, ↓P_callF2, ↓P_callY2, ↓P_mkfnR2, ↓P_callF3, ↓P_callY3, ↓P_mkfnR3, ↓P_callF4, ↓P_callY4, ↓P_mkfnR4, blkP_cells, rdP_cells, rdP_ro, cutP_none, cutP_some, cutP_ro, optP_some, condP_true, condP_of, bnds_l, bnds_h, bnds_lh, bnds_0, put_at, put_off, add_at, add_eq, add_off, Hp.put_next, Hp.add_next, ↓P_b2strN, ↓P_b2str, ↓P_max, ↓P_mov, ↓P_Gff, ↓P_Gtt, ↓P_Gft, ↓P_Gtf, ↓D_Gff, ↓D_Gtt, ↓D_Gft, ↓D_Gtf, List.getElem?_cons_zero, List.getElem?_cons_succ, List.length_cons, List.length_nil, Nat.zero_add, Nat.add_zero, Nat.reduceAdd, Nat.reduceLeDiff, Nat.reduceSub, Nat.reduceMul, Nat.reduceEqDiff, List.drop_zero, List.drop_succ_cons, List.take_succ_cons, List.take_zero, and_self, and_true, true_and, if_true, if_false, Bool.false_eq_true, Bool.not_true, Bool.not_false, decide_true, decide_false, beq_true, beq_false, Bool.true_beq, Bool.false_beq, fillA, Atom.ev, setAll, List.set_cons_zero, List.set_cons_succ, List.size_toArray, splice_z, splice_1, splice_2, splice_3, splice_4, overlay_n, overlay_c, List.all_cons, List.all_nil, one_int, one_bool, one_str, one_ptr, one_sl, one_map, one_fn, one_nf, cells_agg, cells_int, cells_bool, cells_str, cells_ptr, cells_sl, cells_map, cells_fn, cells_nf, cells_tok, Bool.and_self, Bool.or_self, Bool.true_or, Bool.or_true, Bool.false_or, Bool.or_false, Bool.false_and, Bool.and_false, Bool.and_true, Bool.true_and, beq_self_eq_true, Int.reduceToNat, List.nil_append, List.append_nil, List.cons_append, Int.le_refl, Int.toNat_natCast, splice_5, splice_6]
    have hfx : ∀ Ψ : List Value → Hp → Prop, wp (firstN 1 xs.length (.slice (some ⟨b, 0, none⟩) xs.length (xs.length + zs.length))) Ψ (S.add (.cells none false [])) = Ψ xs (S.add (.cells none false [])) := by
      intro Ψ
      rw [W_firstN, add_off (by omega), hb, rdP_cells, condP_of (by simp)]
      simp
    by_cases h0 : xs = []
    · subst h0
      rw [P_app_fit 1 by_ el S.next 0 0 0 (x := .slice (some ⟨b, 0, none⟩) ([] : List Value).length (([] : List Value).length + zs.length)) (n := ([] : List Value).length) rfl (by simp), hfx, wp_stCells, add_at, blkP_cells]
      refine ⟨⟨by simp, rfl⟩, ?_⟩
      exact k _ _ [S.next] (((Fra.refl _ _).add _).put (.inl (by omega)) _) (.inr ⟨S.next, none, [], rfl, rfl, put_at _ _ _, by (first | omega | (simp only [Hp.add_next, Hp.put_next]; done) | (simp only [Hp.add_next, Hp.put_next]; omega)), .inr ⟨rfl, rfl, rfl⟩⟩) (by simp)
    · have hl : 0 < xs.length := List.length_pos_iff.2 h0
      rw [P_app_own 1 by_ el S.next 0 0 0 (x := .slice (some ⟨b, 0, none⟩) xs.length (xs.length + zs.length)) (n := xs.length) rfl (by omega) ⟨by simpa using hbig, hby, by omega⟩ (add_at _ _) (by simp) hfx hone]
      exact k _ _ [S.next + 1] (((Fra.refl _ _).add _).add _) (.inr ⟨S.next + 1, some 1, [], rfl, by simp, (add_eq (S := S.add (.cells none false [])) rfl _).trans (by simp), by (first | omega | (simp only [Hp.add_next, Hp.put_next]; done) | (simp only [Hp.add_next, Hp.put_next]; omega)), .inl rfl⟩) (by simp)
theorem D_bslice (j : Nat) (ts : List (Nat × Touch)) (t : TypeId) (n : Nat) (z : List Value) (p : List (Nat × Nat × Atom)) (Ψ : Value → List (Nat × Touch) → Hp → Prop) : optP (fillA .leaf p z) (fun c => Ψ (.slice (some ⟨S.next, 0, none⟩) n n) ((j, ⟨[], S.next, S.next + 1⟩) :: ts) (S.add (.cells none false c))) → dstepP j ts (X C (.bslice t n z p)) Ψ S := by
  intro h
  cases hc : fillA .leaf p z with
  | none => rw [hc] at h; exact h.elim
  | some c =>
    rw [hc] at h
    have hk : keepT j { log := [], lo := S.next, hi := S.next + 1 } ts = (j, ⟨[], S.next, S.next + 1⟩) :: ts := by
      unfold keepT
      have : Nat.beq S.next (S.next + 1) = false := by rw [Bool.eq_false_iff]; intro e; have := Nat.eq_of_beq_eq_true e; omega
      simp only [this]
    refine ⟨.slice (some ⟨S.next, 0, none⟩) n n, { heap := S.heap.set S.next (some (.cells none false c)), next := S.next + 1, log := [] }, ?_, ?_⟩
    · simp only [X, exec, M.bind, M.lift, hc, nw, M.pure, Hp.st]
    · show Ψ _ (keepT j { log := [], lo := S.next, hi := S.next + 1 } ts) _
      rw [hk]; exact h
theorem apt_ra {b n m k : Nat} (h : b < n) : apt ⟨[(b, false)], m, m⟩ ⟨[], n, k⟩ := (apt_new (t := ⟨[(b, false)], m, m⟩) (n := n) (m := k) fun x hx => by
  have : x = (b, false) := by simpa using hx
  subst this; exact h).symm
theorem apt_aa {a b c d : Nat} : apt ⟨[], a, b⟩ ⟨[], c, d⟩ := ⟨rfl, rfl⟩
end
end Go.Wb
end
/- The engine, part Ord: the order of strings; a rising list of them. -/
section
set_option linter.unusedSimpArgs false
set_option linter.unusedVariables false
namespace Go.Wb
/-- a string ahead of another one -/
def slt (a b : ByteArray) : Bool := Op.bytesLess a.toList b.toList
theorem P_slss {C : Tgt → List Value → M Value} {S : Hp} {Φ : Value → Hp → Prop} (a b : ByteArray) : wp (X C (.bin .lss (.const (.string a)) (.const (.string b)))) Φ S = Φ (.bool (slt a b)) S := by rw [wp_Xl (X_bin _ _ _)]; rfl
theorem P_sgtr {C : Tgt → List Value → M Value} {S : Hp} {Φ : Value → Hp → Prop} (a b : ByteArray) : wp (X C (.bin .gtr (.const (.string a)) (.const (.string b)))) Φ S = Φ (.bool !(slt a b || a.toList == b.toList)) S := by rw [wp_Xl (X_bin _ _ _)]; rfl
theorem less_irr : ∀ x : List UInt8, Op.bytesLess x x = false
  | [] => rfl
  | a :: x => by simp [Op.bytesLess, less_irr x]
theorem less_trans : ∀ {x y z : List UInt8}, Op.bytesLess x y = true → Op.bytesLess y z = true → Op.bytesLess x z = true
  | _, _, [], h1, h2 => by cases ‹List UInt8› <;> cases h2
  | [], _, _ :: _, h1, h2 => rfl
  | _ :: _, [], _ :: _, h1, h2 => by cases h1
  | a :: x, b :: y, c :: z, h1, h2 => by
    simp only [Op.bytesLess, Bool.or_eq_true, decide_eq_true_eq, Bool.and_eq_true, beq_iff_eq] at h1 h2 ⊢
    rcases h1 with h1 | ⟨rfl, h1⟩ <;> rcases h2 with h2 | ⟨rfl, h2⟩
    · exact .inl (UInt8.lt_trans h1 h2)
    · exact .inl h1
    · exact .inl h2
    · exact .inr ⟨rfl, less_trans h1 h2⟩
theorem less_total : ∀ (x y : List UInt8), Op.bytesLess x y = true ∨ x = y ∨ Op.bytesLess y x = true
  | [], [] => .inr (.inl rfl)
  | [], _ :: _ => .inl rfl
  | _ :: _, [] => .inr (.inr rfl)
  | a :: x, b :: y => by
    simp only [Op.bytesLess, Bool.or_eq_true, decide_eq_true_eq, Bool.and_eq_true, beq_iff_eq]
    rcases less_total x y with h | rfl | h
    · by_cases e : a = b
      · exact .inl (.inr ⟨e, h⟩)
      · rcases UInt8.lt_or_lt_of_ne e with h' | h'
        · exact .inl (.inl h')
        · exact .inr (.inr (.inl h'))
    · by_cases e : a = b
      · exact .inr (.inl (by rw [e]))
      · rcases UInt8.lt_or_lt_of_ne e with h' | h'
        · exact .inl (.inl h')
        · exact .inr (.inr (.inl h'))
    · by_cases e : a = b
      · exact .inr (.inr (.inr ⟨e.symm, h⟩))
      · rcases UInt8.lt_or_lt_of_ne e with h' | h'
        · exact .inl (.inl h')
        · exact .inr (.inr (.inl h'))
theorem bytes_ext {a b : ByteArray} (h : a.toList = b.toList) : a = b := by
  rw [ByteArray.toList_eq, ByteArray.toList_eq] at h
  obtain ⟨⟨a⟩⟩ := a
  obtain ⟨⟨b⟩⟩ := b
  simpa using h
theorem beq_bytes (a b : ByteArray) : (a.toList == b.toList) = decide (a = b) := by
  by_cases h : a = b
  · subst h; simp
  · rw [decide_eq_false h]
    by_cases h2 : a.toList = b.toList
    · exact absurd (bytes_ext h2) h
    · simpa using h2
theorem slt_irr (a : ByteArray) : slt a a = false := less_irr _
theorem slt_trans {a b c : ByteArray} (h : slt a b = true) (k : slt b c = true) : slt a c = true := less_trans h k
theorem slt_total (a b : ByteArray) : slt a b = true ∨ a = b ∨ slt b a = true := by
  rcases less_total a.toList b.toList with h | h | h
  · exact .inl h
  · exact .inr (.inl (bytes_ext h))
  · exact .inr (.inr h)
theorem slt_asymm {a b : ByteArray} (h : slt a b = true) : slt b a = false := by
  cases hb : slt b a with
  | false => rfl
  | true => have := slt_trans h hb; rw [slt_irr] at this; cases this
/-- rising -/
def Rise (ks : List ByteArray) : Prop := ks.Pairwise fun a b => slt a b = true
/-- how many stand ahead of a string -/
def lowB (ks : List ByteArray) (t : ByteArray) : Nat := (ks.takeWhile fun k => slt k t).length
theorem lowB_le (ks : List ByteArray) (t : ByteArray) : lowB ks t ≤ ks.length := by
  induction ks with
  | nil => exact Nat.le_refl _
  | cons k ks ih =>
    simp only [lowB, List.takeWhile_cons]
    split
    · simp only [List.length_cons]; exact Nat.succ_le_succ ih
    · simp
theorem lowB_cons (k : ByteArray) (ks : List ByteArray) (t : ByteArray) : lowB (k :: ks) t = if slt k t = true then lowB ks t + 1 else 0 := by
  simp only [lowB, List.takeWhile_cons]
  split <;> rfl
/-- what stands where -/
theorem lowB_iff : ∀ {ks : List ByteArray} {t : ByteArray}, Rise ks → ∀ {i : Nat} {k : ByteArray}, ks[i]? = some k → (slt k t = true ↔ i < lowB ks t)
  | [], t, h, i, k, hk => by simp at hk
  | a :: ks, t, h, 0, k, hk => by
    obtain rfl : a = k := by simpa using hk
    rw [lowB_cons]
    split
    · rename_i e; simp [e]
    · rename_i e; simp [e]
  | a :: ks, t, h, i + 1, k, hk => by
    have hk' : ks[i]? = some k := by simpa using hk
    have h' := List.pairwise_cons.1 h
    rw [lowB_cons]
    split
    · rename_i e
      rw [lowB_iff h'.2 hk']; omega
    · rename_i e
      have hak := h'.1 k (List.mem_of_getElem? hk')
      constructor
      · intro hkt; exact absurd (slt_trans hak hkt) e
      · intro h0; omega
/-- it is there just where it would be put -/
theorem lowB_mem {ks : List ByteArray} {t : ByteArray} (h : Rise ks) : t ∈ ks ↔ ks[lowB ks t]? = some t := by
  constructor
  · intro hm
    obtain ⟨i, hi⟩ := List.getElem?_of_mem hm
    have h1 := lowB_iff h (t := t) hi
    rw [slt_irr] at h1
    have h2 : lowB ks t ≤ i := by
      have : ¬ i < lowB ks t := fun c => Bool.noConfusion (h1.2 c)
      omega
    rcases Nat.lt_or_ge (lowB ks t) i with h3 | h3
    · have hlt : lowB ks t < ks.length := Nat.lt_trans h3 (List.getElem?_eq_some_iff.1 hi).1
      have hg : ks[lowB ks t]? = some ks[lowB ks t] := List.getElem?_eq_getElem hlt
      have h4 := (lowB_iff h (t := t) hg)
      have hp : slt ks[lowB ks t] t = true := by
        have := (List.pairwise_iff_getElem.1 h) (lowB ks t) i hlt (List.getElem?_eq_some_iff.1 hi).1 h3
        rw [(List.getElem?_eq_some_iff.1 hi).2] at this
        exact this
      have := h4.1 hp
      omega
    · have : lowB ks t = i := by omega
      rw [this]; exact hi
  · exact List.mem_of_getElem?
end Go.Wb
end
/- The engine, part Mk: a made slice in a drawn region. -/
section
set_option linter.unusedVariables false
set_option linter.unusedSimpArgs false
namespace Go.Wb
theorem D_mkslice {C : Tgt → List Value → M Value} {S : Hp} (j : Nat) (ts : List (Nat × Touch)) (t : TypeId) (size bytes : Nat) (z : List Value) (l c : Nat) (Ψ : Value → List (Nat × Touch) → Hp → Prop) (hc : l ≤ c ∧ bytes * c ≤ 281474976710656 ∧ c < 4611686018427387904 ∧ z.length = size) : Ψ (.slice (some ⟨S.next, 0, none⟩) l c) ((j, ⟨[], S.next, S.next + 1⟩) :: ts) (S.add (.cells none false (rep c z))) → dstepP j ts (X C (.mkslice t size bytes z (.const (.int .i64 l)) (.const (.int .i64 c)))) Ψ S := by
  intro h
  have e : X C (.mkslice t size bytes z (.const (.int .i64 l)) (.const (.int .i64 c))) = (nw (.cells none false (rep c z))).bind fun b => M.pure (.slice (some ⟨b, 0, none⟩) l c) := by
    funext S
    simp only [X, exec, M.bind, M.lift, Atom.ev, Option.bind_some, asInt, Int.toNat_natCast]
    rw [if_pos (show 0 ≤ (l : Int) ∧ (l : Int) ≤ (c : Int) ∧ (bytes : Int) * (c : Int) ≤ 281474976710656 ∧ (c : Int) < 4611686018427387904 ∧ z.length = size from ⟨by omega, by omega, by have := hc.2.1; omega, by omega, hc.2.2.2⟩)]
    rfl
  have hk : keepT j { log := [], lo := S.next, hi := S.next + 1 } ts = (j, ⟨[], S.next, S.next + 1⟩) :: ts := by
    unfold keepT
    have : Nat.beq S.next (S.next + 1) = false := by rw [Bool.eq_false_iff]; intro e; have := Nat.eq_of_beq_eq_true e; omega
    simp only [this]
  rw [e]
  refine ⟨.slice (some ⟨S.next, 0, none⟩) l c, { heap := S.heap.set S.next (some (.cells none false (rep c z))), next := S.next + 1, log := [] }, ?_, ?_⟩
  · simp only [M.bind, nw, M.pure, Hp.st]
  · rw [hk]
    exact h
end Go.Wb
end
/- The engine, part Hole: a computation does not look at a block that it does without. -/
section
set_option linter.unusedVariables false
namespace Go.Wb
theorem D_specH {j : Nat} {ts : List (Nat × Touch)} {m : M Value} (hm : Bd m) (hf : Framed m) {S : Hp} (hW : WF S) {n : Nat} (hn : n < S.next) {W : List Nat} (hnW : n ∉ W) {Post : Value → Prop} {Ψ : Value → List (Nat × Touch) → Hp → Prop}
    (h : wp m (fun v S' => Fra W { heap := S.heap.set n none, next := S.next, wl := S.wl } S' ∧ Post v) { heap := S.heap.set n none, next := S.next, wl := S.wl })
    (k : ∀ v S' t, Fra W S S' → Post v → WF S' → t.lo = S.next → t.hi = S'.next → (∀ b, (b, true) ∈ t.log → S.next ≤ b ∨ b ∈ W) → (∀ x ∈ t.log, x.1 < t.hi ∧ x.1 ≠ n) → Ψ v (keepT j t ts) S') : dstepP j ts m Ψ S := by
  obtain ⟨v, s', h1, h2, h3⟩ := h
  obtain ⟨w1, D, w2, w3, w4⟩ := hm (fun b => b = n) _ v s' (fun _ h => h.elim) ⟨fun b hb => hb ▸ hn, fun b o hb => by
    simp only [Hp.st, Tr.get_set] at hb
    split at hb
    · cases hb
    · rename_i hne; exact ⟨hW b o hb, fun e => hne e⟩⟩ h1
  have hD : s'.log = D := by rw [w2]; exact List.append_nil D
  obtain ⟨f1, D', f2, f3, f4⟩ := hf _ v s' h1
  have hD' : s'.log = D' := by rw [f2]; exact List.append_nil D'
  subst hD
  subst hD'
  obtain ⟨s2, e1, e2, e3, e4, e5⟩ := f4 S.st rfl fun id b hb => by
    simp only [Hp.st, Tr.get_set]
    rw [if_neg fun e => (w4 _ hb).2 e]
  have hlog : s2.log = s'.log := by rw [e3]; exact List.append_nil _
  have hnext : S.next ≤ s2.next := by rw [e2]; exact f1
  have hold : ∀ b, b < S.next → b ∉ W → s2.heap.get b = S.heap.get b := by
    intro b hb hbW
    by_cases hw : (b, true) ∈ s'.log
    · rw [e4 b (.inl hw)]
      have := h2.heap b hb hbW
      have hbn : b ≠ n := (w4 _ hw).2
      rw [show s'.heap.get b = (s'.over S.wl).heap.get b from rfl, this]
      simp only [Tr.get_set]
      rw [if_neg fun e => hbn e]
    · exact e5 b hw (by simp only [Hp.st]; omega)
  have hWF : WF (s2.over S.wl) := by
    intro b o hb
    show b < s2.next
    replace hb : s2.heap.get b = some o := hb
    by_cases hw : (b, true) ∈ s'.log ∨ (S.next ≤ b ∧ b < s'.next)
    · rw [e4 b hw] at hb
      rw [e2]
      exact (w1.2 b o hb).1
    · rw [e5 b (fun h => hw (.inl h)) (fun h => hw (.inr h))] at hb
      exact Nat.lt_of_lt_of_le (hW b o hb) hnext
  obtain ⟨ws, g1, g2⟩ := h2.wl
  have hws : wrs s'.log = ws := List.append_cancel_right g1
  refine ⟨v, s2, e1, k v _ _ ⟨hnext, hold, ws, ?_, g2⟩ h3 hWF rfl rfl (fun b hb => ?_) (fun x hx => ?_)⟩
  · show wrs s2.log ++ S.wl = ws ++ S.wl
    rw [hlog, hws]
  · rw [show ({ log := s2.log, lo := S.next, hi := s2.next } : Touch).log = s2.log from rfl, hlog] at hb
    exact g2 b (hws ▸ wrs_mem hb)
  · rw [show ({ log := s2.log, lo := S.next, hi := s2.next } : Touch).log = s2.log from rfl, hlog] at hx
    refine ⟨?_, (w4 x hx).2⟩
    show x.1 < s2.next
    rw [e2]
    exact (w4 x hx).1
end Go.Wb
end
