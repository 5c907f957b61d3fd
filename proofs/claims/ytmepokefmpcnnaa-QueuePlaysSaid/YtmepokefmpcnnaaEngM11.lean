/- The engine, part M11: a round; the calls. -/
import Derived.Test.YtmepokefmpcnnaaEngM10
set_option linter.unusedSimpArgs false
set_option linter.unusedVariables false
namespace Go.Wb
variable {P : Program} {r : Ren} {S S' : St} {w : World}
section
variable {call : Tgt → List Value → M Value}

theorem putObj_upd {b : Nat} {o : Obj} (h : b < w.heap.size) : Upd w (w.putObj b o) b o := ⟨by simp, World.putObj_heap_same h, fun k hk => World.putObj_heap_other hk, rfl, rfl, rfl⟩

def pendOf : Ext → Option Ext
  | .normal => none
  | x => some x

theorem yield_ok (hm : P.follows .mixedOrders = true) (hcall : CallOk P call) (hfr : ∀ t a, Framed (call t a)) {fuel l : Nat} {ps : List Nat} {as bd : ACode} {env e1 e2 : Env} {args : List Value} {args' : Array Value} {S2 S3 : St} {x : Ext} {p : Option Ext}
    (hb : S.heap.get l = some (.loop ps as bd env none)) (hlen : args.length = ps.length)
    (h1 : run call fuel as (zipSet ps args env) { heap := S.heap.set l none, next := S.next, log := (l, true) :: (l, false) :: S.log } = some ((.normal, e1), S2))
    (h2 : run call fuel bd e1 S2 = some ((x, e2), S3)) (hp : p = pendOf x)
    (hr : Rel P r S w) (hf : Fresh r S S3) (ha : LRel r args args'.toList) :
    ∃ D r' w', Sim P D r S w r' { heap := S3.heap.set l (some (.loop ps as bd env p)), next := S3.next, log := (l, true) :: S3.log } w' ∧ CallTo P (Instr.yield (r.to l) args') w (.bool p.isNone) w' := by
  obtain ⟨hdl, L, hL, hLp, ⟨n, hn, hca, hcb, hps⟩, hE, hst, hpn⟩ := loop_at hr hb
  have hlt := (Array.getElem?_eq_some_iff.1 hL).1
  have hk : Sim P [(l, true), (l, false)] r S w r { heap := S.heap.set l none, next := S.next, log := (l, true) :: (l, false) :: S.log } w := sim_kill hr rfl rfl rfl (by simp)
  have hnl1 : ¬ Live r { heap := S.heap.set l none, next := S.next, log := (l, true) :: (l, false) :: S.log } (r.to l) := by
    rintro ⟨i, y, hy, e⟩
    simp only [Tr.get_set] at hy
    split at hy
    · simp at hy
    · rename_i ne; exact ne (hr.inj _ _ _ _ hy hb e (.inr rfl))
  have hm1 := Framed.next (Framed.run hfr fuel as _) h1
  have hm2 := Framed.next (Framed.run hfr fuel bd _) h2
  obtain ⟨hE0, hsz0⟩ := zipSet_ok ps env L.tmps ha hE (fun q hq => Nat.lt_of_lt_of_le (hps q hq) hn)
  -- the assignment
  obtain ⟨D1, r1, w1, tmps1, ds1, a1, a2, a3, a4, a5, a6⟩ := code_ok (lb := 0) hm hcall hfr fuel L.assign n as hca _ _ .normal e1 S2 h1 r w _ (by rw [hsz0]; exact hn) hk.rel hE0 (fun id c d => hf id c (Nat.lt_of_lt_of_le d hm2)) L.fn (some (r.to l)) [] ⟨hnl1, L, hL⟩ ⟨Nat.zero_le _, [], rfl, by simp, by simp⟩
  obtain rfl : ds1 = [] := a5 (by simp)
  have hL1 : w1.heap[r.to l]? = some (.loop L) := by rw [a1.frame _ hlt hnl1]; exact hL
  have hlt1 := (Array.getElem?_eq_some_iff.1 hL1).1
  have hnl2 : ¬ Live r1 S2 (r.to l) := fun c => hnl1 (a1.live _ hlt c)
  have hA1 : Sim P _ r S w r1 S2 w1 := hk.trans (S2 := S2) (fun id c d => hf id c (Nat.lt_of_lt_of_le d hm2)) hr a1
  -- the round begins
  have hbs : Beside w1 (w1.putObj (r.to l) (.loop { L with state := .busy })) (r.to l) := (putObj_upd hlt1).beside
  have hA2 := sim_beside hr hA1 hbs hnl2 (.inr ⟨l, _, hb, rfl, by simp, rfl⟩)
  have hL2 : (w1.putObj (r.to l) (.loop { L with state := .busy })).heap[r.to l]? = some (.loop { L with state := .busy }) := World.putObj_heap_same hlt1
  have hlt2 := (Array.getElem?_eq_some_iff.1 hL2).1
  -- the body
  obtain ⟨D2, r2, w3, tmps2, ds2, b1, b2, b3, b4, b5, b6⟩ := code_ok (lb := 0) hm hcall hfr fuel L.body n bd hcb _ _ x e2 S3 h2 r1 _ tmps1 (by rw [a3, hsz0]; exact hn) hA2.rel a2 (hf.right hA2) L.fn (some (r.to l)) [] ⟨hnl2, _, hL2⟩ ⟨Nat.zero_le _, [], rfl, by simp, by simp⟩
  obtain rfl : ds2 = [] := b5 (by simp)
  have hL3 : w3.heap[r.to l]? = some (.loop { L with state := .busy }) := by rw [b1.frame _ hlt2 hnl2]; exact hL2
  have hlt3 := (Array.getElem?_eq_some_iff.1 hL3).1
  have hnl3 : ¬ Live r2 S3 (r.to l) := fun c => hnl2 (b1.live _ hlt2 c)
  have hA3 := hA2.trans hf hr b1
  -- its end
  have hend : ∃ L', PendOk L' p ∧ L'.params = L.params ∧ L'.tmps = L.tmps ∧ L'.assign = L.assign ∧ L'.body = L.body ∧ ∀ c cs,
      Steps P (lone (Frame.round (r.to l) L.fn ((ps.zip args'.toList).foldl (fun t x => t.setIfInBounds x.1 x.2) L.tmps) L.assign L.body .normal) (c :: cs) w) (lone (c.finish (.bool p.isNone)) cs (w3.putObj (r.to l) (.loop L'))) := by
    have hL' : ∃ L', PendOk L' p ∧ L'.params = L.params ∧ L'.tmps = L.tmps ∧ L'.assign = L.assign ∧ L'.body = L.body ∧ ∀ k, ArrTodo x [] k → ∀ c cs,
        step P (lone (Fr L.fn (some (r.to l)) tmps2 [] k) (c :: cs) w3) = .next (lone (c.finish (.bool p.isNone)) cs (w3.putObj (r.to l) (.loop L'))) := by
      subst hp
      cases x with
      | normal => exact ⟨{ L with state := .ready, pending := none }, ⟨rfl, rfl⟩, rfl, rfl, rfl, rfl, fun k hk c cs => by obtain rfl : k = [] := hk; exact st_round_end (L := { L with state := .busy }) hL3⟩
      | ret => exact ⟨{ L with state := .done, pending := some .ret }, ⟨rfl, by simp, rfl⟩, rfl, rfl, rfl, rfl, fun k hk c cs => by obtain ⟨k2, rfl⟩ := hk; exact st_round_ret (L := { L with state := .busy }) hL3⟩
      | exit id => exact ⟨{ L with state := .done, pending := some (.exit id) }, ⟨rfl, by simp, rfl⟩, rfl, rfl, rfl, rfl, fun k hk c cs => by
          obtain ⟨k2, rfl, hk2⟩ := hk; exact st_round_exit (L := { L with state := .busy }) (by rw [hk2]; rfl) hL3⟩
    obtain ⟨L', q1, q2, q3, q4, q5, q6⟩ := hL'
    refine ⟨L', q1, q2, q3, q4, q5, fun c cs => ?_⟩
    obtain ⟨k1, m1, m2⟩ := a6 [.beginRound, .code L.body] (c :: cs)
    obtain rfl : k1 = [.beginRound, .code L.body] := m1
    obtain ⟨k2, m3, m4⟩ := b6 [] (c :: cs)
    have e0 : Frame.round (r.to l) L.fn ((ps.zip args'.toList).foldl (fun t x => t.setIfInBounds x.1 x.2) L.tmps) L.assign L.body .normal =
      Fr L.fn (some (r.to l)) ((ps.zip args'.toList).foldl (fun t x => t.setIfInBounds x.1 x.2) L.tmps) [] (.code L.assign :: [.beginRound, .code L.body]) := rfl
    rw [e0]
    exact ((m2.trans (.one (st_beginRound hL1 hst))).trans m4).trans (.one (q6 k2 m3 c cs))
  obtain ⟨L', q1, q2, q3, q4, q5, q6⟩ := hend
  have hfin := sim_layback (S3 := { heap := S3.heap.set l (some (.loop ps as bd env p)), next := S3.next, log := (l, true) :: S3.log }) (D3 := [(l, true)]) hr hb hA3 hnl3 rfl rfl rfl (by simp) (putObj_upd (o := .loop L') hlt3)
    ⟨by rw [q2]; exact hLp, ⟨n, by rw [q3]; exact hn, by rw [q4]; exact hca, by rw [q5]; exact hcb, hps⟩, by rw [q3]; exact hE.mono hA3.le, q1⟩
  refine ⟨_, r2, _, hfin, .inr (.inr (.inr ⟨r.to l, L.fn, _, L.assign, L.body, ?_, q6⟩))⟩
  have hsz : args'.size = L.params.size := by
    have := ha.length
    rw [← Array.length_toList, ← this, hlen, ← hLp, Array.length_toList]
  rw [run_yield hL hsz]
  congr 2
  rw [← Array.foldl_toList, Array.toList_zip, hLp]
end
end Go.Wb
