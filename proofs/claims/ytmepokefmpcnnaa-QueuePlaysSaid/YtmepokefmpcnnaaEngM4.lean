/- The engine, part M4: regions that draw their order. -/
import Derived.Test.YtmepokefmpcnnaaEngM3
set_option linter.unusedSimpArgs false
set_option linter.unusedVariables false
namespace Go.Wb
variable {P : Program} {r : Ren} {S S' : St} {w : World}

/-! ### an operation looks at its operands alone -/
def Atom.tmps : Atom → List Nat | .tmp t => [t] | .const _ => []
theorem ev_congr {e e' : Env} {a : Atom} (h : ∀ t ∈ a.tmps, e.get t = e'.get t) : a.ev e = a.ev e' := by
  cases a with
  | tmp t => exact h t (by simp [Atom.tmps])
  | const v => rfl
def oTmps (l : List Operand) : List Nat := l.filterMap fun | .tmp t => some t | _ => none
theorem atom_tmps {x : Operand} {a : Atom} (h : atom x = some a) {t : Nat} (ht : t ∈ a.tmps) : x = .tmp t := by
  cases x with
  | tmp u => simp only [atom, Option.some.injEq] at h; subst h; simp [Atom.tmps] at ht; rw [ht]
  | const v =>
    simp only [atom] at h
    split at h
    · simp only [Option.some.injEq] at h; subst h; simp [Atom.tmps] at ht
    · simp at h
  | global g => simp [atom] at h
  | func f => simp only [atom, Option.some.injEq] at h; subst h; simp [Atom.tmps] at ht
theorem mem_oTmps {l : List Operand} {t : Nat} : t ∈ oTmps l ↔ .tmp t ∈ l := by
  unfold oTmps
  rw [List.mem_filterMap]
  constructor
  · rintro ⟨x, hx, h⟩
    split at h
    · simp at h; subst h; exact hx
    · simp at h
  · intro h; exact ⟨_, h, rfl⟩

section
variable {e e' : Env} {l : List Operand} (H : ∀ t, .tmp t ∈ l → e.get t = e'.get t)
include H
theorem atom_congr {x : Operand} {a : Atom} (h : atom x = some a) (hx : x ∈ l) : a.ev e = a.ev e' := ev_congr fun t ht => H t (by rw [← atom_tmps h ht]; exact hx)
theorem atoms_congr : ∀ {xs : List Operand} {as : List Atom}, atoms xs = some as → (∀ x ∈ xs, x ∈ l) → evs e as = evs e' as
  | [], as, h, _ => by simp only [atoms, Option.some.injEq] at h; subst h; rfl
  | x :: xs, as, h, hm => by
    simp only [atoms] at h
    split at h
    · rename_i a m ha hm2
      simp only [Option.some.injEq] at h; subst h
      simp only [evs]
      rw [atom_congr H ha (hm x (by simp)), atoms_congr hm2 (fun y hy => hm y (by simp [hy]))]
    · simp at h
theorem parts_congr {place : Nat → Option (Nat × Nat)} : ∀ {parts : List (Nat × Operand)} {as : List (Nat × Nat × Atom)} {c : List Value}, partsS place parts = some as → (∀ p ∈ parts, p.2 ∈ l) → fillA e as c = fillA e' as c
  | [], as, c, h, _ => by simp only [partsS, Option.some.injEq] at h; subst h; rfl
  | (i, x) :: parts, as, c, h, hm => by
    simp only [partsS] at h
    split at h
    · rename_i o s a m hp ha hm2
      simp only [Option.some.injEq] at h; subst h
      simp only [fillA]
      rw [atom_congr H ha (hm (i, x) (by simp))]
      split
      · split
        · exact parts_congr hm2 (fun p hp => hm p (by simp [hp]))
        · rfl
      · rfl
    · simp at h
theorem atomO_congr {x : Option Operand} {a : Option Atom} (h : atomO x = some a) (hx : ∀ y, x = some y → y ∈ l) (d y : Nat) : bnd e a d y = bnd e' a d y := by
  cases x with
  | none => simp only [atomO, Option.some.injEq] at h; subst h; rfl
  | some x =>
    simp only [atomO, Option.map_eq_some_iff] at h
    obtain ⟨b, hb, rfl⟩ := h
    simp only [bnd, atom_congr H hb (hx x rfl)]
theorem bnds_congr {lo hi mx : Option Operand} {la ha ma : Option Atom} (h1 : atomO lo = some la) (h2 : atomO hi = some ha) (h3 : atomO mx = some ma) (m1 : ∀ y, lo = some y → y ∈ l) (m2 : ∀ y, hi = some y → y ∈ l) (m3 : ∀ y, mx = some y → y ∈ l) (len cap : Nat) :
    bnds e len cap la ha ma = bnds e' len cap la ha ma := by
  simp only [bnds, atomO_congr H h1 m1, atomO_congr H h2 m2, atomO_congr H h3 m3]
end

theorem exec_congr0 (call : Tgt → List Value → M Value) {o : Op} {aop : AOp} (hc : compOp0 P o = some aop) {e e' : Env} (H : ∀ t, .tmp t ∈ o.operands.toList → e.get t = e'.get t) : exec call e aop = exec call e' aop := by
  cases o <;> (try (simp [compOp0] at hc; done))
  case move x =>
    simp only [compOp0, Option.bind_eq_bind, Option.bind_eq_some_iff, Option.some.injEq] at hc
    obtain ⟨a, ha, rfl⟩ := hc
    simp only [exec, atom_congr H ha (by simp [Op.operands])]
  case assign x =>
    simp only [compOp0, Option.bind_eq_bind, Option.bind_eq_some_iff, Option.some.injEq] at hc
    obtain ⟨a, ha, rfl⟩ := hc
    simp only [exec, atom_congr H ha (by simp [Op.operands])]
  case pick c a b =>
    simp only [compOp0, Option.bind_eq_bind, Option.bind_eq_some_iff, Option.some.injEq] at hc
    obtain ⟨c', h1, a', h2, b', h3, rfl⟩ := hc
    simp only [exec, atom_congr H h1 (by simp [Op.operands]), atom_congr H h2 (by simp [Op.operands]), atom_congr H h3 (by simp [Op.operands])]
  case alloc t =>
    simp only [compOp0, Option.bind_eq_bind, Option.bind_eq_some_iff, Option.some.injEq] at hc
    obtain ⟨z, hz, rfl⟩ := hc
    rfl
  case box t x =>
    simp only [compOp0, Option.bind_eq_bind, Option.bind_eq_some_iff, Option.some.injEq] at hc
    obtain ⟨a, ha, rfl⟩ := hc
    simp only [exec, atom_congr H ha (by simp [Op.operands])]
  case build t parts =>
    simp only [compOp0, Option.bind_eq_bind, Option.bind_eq_some_iff] at hc
    obtain ⟨d, hd, hc⟩ := hc
    have hm : ∀ p ∈ parts.toList, p.2 ∈ (Op.build t parts).operands.toList := fun p hp => by simp only [Op.operands, List.toList_toArray, List.mem_map]; exact ⟨p, hp, rfl⟩
    split at hc
    · split at hc
      · simp only [Option.bind_eq_some_iff, Option.some.injEq] at hc
        obtain ⟨z, hz, m, hm2, rfl⟩ := hc
        simp only [exec, parts_congr H hm2 hm]
      · simp at hc
    · simp only [Option.bind_eq_some_iff, Option.some.injEq] at hc
      obtain ⟨s, hs, z, hz, m, hm2, rfl⟩ := hc
      simp only [exec, parts_congr H hm2 hm]
    · simp at hc
  case buildSlice t n parts =>
    simp only [compOp0, Option.bind_eq_bind, Option.bind_eq_some_iff] at hc
    obtain ⟨d, hd, hc⟩ := hc
    have hm : ∀ p ∈ parts.toList, p.2 ∈ (Op.buildSlice t n parts).operands.toList := fun p hp => by simp only [Op.operands, List.toList_toArray, List.mem_map]; exact ⟨p, hp, rfl⟩
    split at hc
    · simp only [Option.bind_eq_some_iff] at hc
      obtain ⟨s, hs, z, hz, hc⟩ := hc
      split at hc
      · simp only [Option.bind_eq_some_iff, Option.some.injEq] at hc
        obtain ⟨m, hm2, rfl⟩ := hc
        simp only [exec, parts_congr H hm2 hm]
      · simp at hc
    · simp at hc
  case load t x =>
    simp only [compOp0, Option.bind_eq_bind, Option.bind_eq_some_iff, Option.some.injEq] at hc
    obtain ⟨sh, h0, a, ha, rfl⟩ := hc
    simp only [exec, atom_congr H ha (by simp [Op.operands])]
  case store t x y =>
    simp only [compOp0, Option.bind_eq_bind, Option.bind_eq_some_iff, Option.some.injEq] at hc
    obtain ⟨n, h0, a, ha, b, hb, rfl⟩ := hc
    simp only [exec, atom_congr H ha (by simp [Op.operands]), atom_congr H hb (by simp [Op.operands])]
  case nilCheck x =>
    simp only [compOp0, Option.bind_eq_bind, Option.bind_eq_some_iff, Option.some.injEq] at hc
    obtain ⟨a, ha, rfl⟩ := hc
    simp only [exec, atom_congr H ha (by simp [Op.operands])]
  case binOp op t x y yt =>
    simp only [compOp0, Option.bind_eq_bind, Option.bind_eq_some_iff] at hc
    obtain ⟨d, hd, hc⟩ := hc
    split at hc <;> (try simp only [Option.bind_eq_some_iff, Option.some.injEq] at hc)
    · obtain ⟨a, ha, b, hb, rfl⟩ := hc; simp only [exec, atom_congr H ha (by simp [Op.operands]), atom_congr H hb (by simp [Op.operands])]
    · obtain ⟨a, ha, b, hb, rfl⟩ := hc; simp only [exec, atom_congr H ha (by simp [Op.operands]), atom_congr H hb (by simp [Op.operands])]
    · obtain ⟨k, hk, a, ha, b, hb, rfl⟩ := hc; simp only [exec, atom_congr H ha (by simp [Op.operands]), atom_congr H hb (by simp [Op.operands])]
    · obtain ⟨k, hk, a, ha, b, hb, rfl⟩ := hc; simp only [exec, atom_congr H ha (by simp [Op.operands]), atom_congr H hb (by simp [Op.operands])]
    · simp at hc
  case unOp op t x =>
    simp only [compOp0, Option.bind_eq_bind, Option.bind_eq_some_iff, Option.some.injEq] at hc
    obtain ⟨a, ha, rfl⟩ := hc
    simp only [exec, atom_congr H ha (by simp [Op.operands])]
  case convert s d x =>
    simp only [compOp0, Option.bind_eq_bind, Option.bind_eq_some_iff] at hc
    obtain ⟨a, ha, ds, hds, dd, hdd, hc⟩ := hc
    have : ∀ k, exec call e (.conv k a) = exec call e' (.conv k a) := fun k => by simp only [exec, atom_congr H ha (by simp [Op.operands])]
    split at hc <;> (try simp only [Option.bind_eq_bind, Option.bind_eq_some_iff] at hc)
    · simp at hc; subst hc; exact this _
    · simp at hc; subst hc; exact this _
    · obtain ⟨u, hu, hc⟩ := hc
      split at hc
      · simp at hc; subst hc; exact this _
      · simp at hc
    · obtain ⟨u, hu, hc⟩ := hc
      split at hc
      · simp at hc; subst hc; exact this _
      · simp at hc
    · obtain ⟨u, hu, hc⟩ := hc
      split at hc
      · simp at hc; subst hc; exact this _
      · simp at hc
    · simp at hc
  case makeInterface t x =>
    simp only [compOp0, Option.bind_eq_bind, Option.bind_eq_some_iff] at hc
    obtain ⟨d, hd, hc⟩ := hc
    split at hc
    · simp at hc
    · simp only [Option.bind_eq_some_iff, Option.some.injEq] at hc
      obtain ⟨a, ha, rfl⟩ := hc
      simp only [exec, atom_congr H ha (by simp [Op.operands])]
  case makeFunc fn first captured =>
    cases fn <;> (try (simp [compOp0] at hc; done))
    simp only [compOp0, Option.bind_eq_bind, Option.bind_eq_some_iff, Option.some.injEq] at hc
    obtain ⟨a, ha, b, hb, rfl⟩ := hc
    simp only [exec, atoms_congr H ha (fun x hx => by simp only [Op.operands, Array.toList_append, List.mem_append]; exact .inl hx), atoms_congr H hb (fun x hx => by simp only [Op.operands, Array.toList_append, List.mem_append]; exact .inr hx)]
  case makeSlice t a b =>
    simp only [compOp0, Option.bind_eq_bind, Option.bind_eq_some_iff] at hc
    obtain ⟨d, hd, hc⟩ := hc
    split at hc
    · simp only [Option.bind_eq_some_iff, Option.some.injEq] at hc
      obtain ⟨sz, hsz, bt, hbt, z, hz, a', ha, b', hb, rfl⟩ := hc
      simp only [exec, atom_congr H ha (by simp [Op.operands]), atom_congr H hb (by simp [Op.operands])]
    · simp at hc
  case slice t x lo hi mx =>
    simp only [compOp0, Option.bind_eq_bind, Option.bind_eq_some_iff] at hc
    obtain ⟨a, ha, la, hla, hia, hhi, ma, hma, hc⟩ := hc
    have hb := bnds_congr H hla hhi hma (fun y hy => by subst hy; simp [Op.operands]) (fun y hy => by subst hy; simp [Op.operands]) (fun y hy => by subst hy; simp [Op.operands])
    have hx := atom_congr H ha (by simp [Op.operands])
    split at hc
    · simp at hc
    simp only [Option.bind_eq_some_iff] at hc
    obtain ⟨d, hd, hc⟩ := hc
    split at hc
    · simp only [Option.bind_eq_some_iff, Option.some.injEq] at hc
      obtain ⟨s, hs, rfl⟩ := hc
      simp only [exec, hx, hb]
    · split at hc
      · rename_i _ _ hmx
        simp at hc; subst hc
        have hma' : ma = none := by simpa [atomO] using hma.symm
        subst hma'
        simp only [exec, hx, hb]
      · simp at hc
    · simp only [Option.bind_eq_some_iff, Option.some.injEq] at hc
      obtain ⟨s, hs, rfl⟩ := hc
      simp only [exec, hx, hb]
    · simp only [Option.bind_eq_some_iff] at hc
      obtain ⟨d2, hd2, hc⟩ := hc
      split at hc
      · simp only [Option.bind_eq_some_iff, Option.some.injEq] at hc
        obtain ⟨s, hs, rfl⟩ := hc
        simp only [exec, hx, hb]
      · simp at hc
    · simp at hc
  case fieldAddr t x f =>
    simp only [compOp0, Option.bind_eq_bind, Option.bind_eq_some_iff] at hc
    obtain ⟨d, hd, hc⟩ := hc
    split at hc
    · simp only [Option.bind_eq_some_iff] at hc
      obtain ⟨fd, hfd, sz, hsz, hc⟩ := hc
      split at hc
      · simp at hc
      · simp only [Option.bind_eq_some_iff, Option.some.injEq] at hc
        obtain ⟨a, ha, rfl⟩ := hc
        simp only [exec, atom_congr H ha (by simp [Op.operands])]
    · simp at hc
  case field t x f =>
    simp only [compOp0, Option.bind_eq_bind, Option.bind_eq_some_iff] at hc
    obtain ⟨d, hd, hc⟩ := hc
    split at hc
    · simp only [Option.bind_eq_some_iff, Option.some.injEq] at hc
      obtain ⟨fd, hfd, sh, hsh, a, ha, rfl⟩ := hc
      simp only [exec, atom_congr H ha (by simp [Op.operands])]
    · simp at hc
  case indexAddr t x i =>
    simp only [compOp0, Option.bind_eq_bind, Option.bind_eq_some_iff] at hc
    obtain ⟨d, hd, hc⟩ := hc
    split at hc
    · simp only [Option.bind_eq_some_iff, Option.some.injEq] at hc
      obtain ⟨s, hs, a, ha, b, hb, rfl⟩ := hc
      simp only [exec, atom_congr H ha (by simp [Op.operands]), atom_congr H hb (by simp [Op.operands])]
    · simp only [Option.bind_eq_some_iff, Option.some.injEq] at hc
      obtain ⟨s, hs, a, ha, b, hb, rfl⟩ := hc
      simp only [exec, atom_congr H ha (by simp [Op.operands]), atom_congr H hb (by simp [Op.operands])]
    · simp at hc
  case index t x i =>
    simp only [compOp0, Option.bind_eq_bind, Option.bind_eq_some_iff] at hc
    obtain ⟨d, hd, hc⟩ := hc
    split at hc
    · simp only [Option.bind_eq_some_iff, Option.some.injEq] at hc
      obtain ⟨s, hs, sh, hsh, a, ha, b, hb, rfl⟩ := hc
      simp only [exec, atom_congr H ha (by simp [Op.operands]), atom_congr H hb (by simp [Op.operands])]
    · simp only [Option.bind_eq_some_iff, Option.some.injEq] at hc
      obtain ⟨a, ha, b, hb, rfl⟩ := hc
      simp only [exec, atom_congr H ha (by simp [Op.operands]), atom_congr H hb (by simp [Op.operands])]
    · simp at hc
  case extract x i =>
    simp only [compOp0, Option.bind_eq_bind, Option.bind_eq_some_iff, Option.some.injEq] at hc
    obtain ⟨a, ha, rfl⟩ := hc
    simp only [exec, atom_congr H ha (by simp [Op.operands])]
  case panic x =>
    obtain rfl : AOp.panic = aop := by simpa [compOp0] using hc
    rfl
  case call c =>
    have harg : ∀ {i : Nat} {x : Operand}, c.args[i]? = some x → x ∈ (Op.call c).operands.toList := by
      intro i x h
      simp only [Op.operands, Call.operands, Array.toList_append, List.mem_append]
      exact .inr (by rw [Array.mem_toList_iff]; exact Array.mem_of_getElem? h)
    have hargs : ∀ x ∈ c.args.toList, x ∈ (Op.call c).operands.toList := by
      intro x h
      simp only [Op.operands, Call.operands, Array.toList_append, List.mem_append]
      exact .inr h
    cases hcal : c.callee with
    | value f =>
      simp only [compOp0, hcal, Option.bind_eq_bind, Option.bind_eq_some_iff, Option.some.injEq] at hc
      obtain ⟨a, ha, as, has, rfl⟩ := hc
      simp only [exec, atom_congr H ha (by simp [Op.operands, Call.operands, hcal]), atoms_congr H has hargs]
    | invoke a m => simp [compOp0, hcal] at hc
    | builtin b =>
      have hc : compBuiltin P b c.argTypes c.args = some aop := by simpa [compOp0, hcal] using hc
      cases b <;> (try (simp [compBuiltin] at hc; done))
      case len =>
        simp only [compBuiltin, Option.bind_eq_bind, Option.bind_eq_some_iff] at hc
        obtain ⟨x, hx, a, ha, t, ht, d, hd, hc⟩ := hc
        have : ∀ k, exec call e (.len k a) = exec call e' (.len k a) := fun k => by simp only [exec, atom_congr H ha (harg hx)]
        split at hc
        · simp at hc; subst hc; exact this _
        · simp at hc; subst hc; exact this _
        · simp at hc; subst hc; exact this _
        · simp only [Option.bind_eq_some_iff] at hc
          obtain ⟨d2, hd2, hc⟩ := hc
          split at hc
          · simp at hc; subst hc; exact this _
          · simp at hc
        · simp at hc; subst hc; exact this _
        · simp at hc
      case cap =>
        simp only [compBuiltin, Option.bind_eq_bind, Option.bind_eq_some_iff] at hc
        obtain ⟨x, hx, a, ha, t, ht, d, hd, hc⟩ := hc
        split at hc
        · simp at hc; subst hc; simp only [exec, atom_congr H ha (harg hx)]
        · simp at hc
      case append =>
        simp only [compBuiltin, Option.bind_eq_bind, Option.bind_eq_some_iff] at hc
        obtain ⟨s, hs, a, ha, x, hx, b, hb, st, hst, sd, hsd, xt, hxt, xd, hxd, hc⟩ := hc
        split at hc
        · split at hc
          · simp only [Option.bind_eq_bind, Option.bind_eq_some_iff, Option.some.injEq] at hc
            obtain ⟨sz, h1, bt, h2, rfl⟩ := hc
            simp only [exec, atom_congr H ha (harg hs), atom_congr H hb (harg hx)]
          · simp at hc
        · split at hc
          · simp only [Option.bind_eq_bind, Option.bind_eq_some_iff, Option.some.injEq] at hc
            obtain ⟨sz, h1, bt, h2, rfl⟩ := hc
            simp only [exec, atom_congr H ha (harg hs), atom_congr H hb (harg hx)]
          · simp at hc
        · simp only [Option.bind_eq_bind, Option.bind_eq_some_iff, Option.some.injEq] at hc
          obtain ⟨sz, h1, bt, h2, z, hz, rfl⟩ := hc
          simp only [exec, atom_congr H ha (harg hs), atom_congr H hb (harg hx)]
        · simp at hc
      case copy =>
        simp only [compBuiltin, Option.bind_eq_bind, Option.bind_eq_some_iff] at hc
        obtain ⟨s, hs, a, ha, x, hx, b, hb, st, hst, sd, hsd, hc⟩ := hc
        split at hc
        · simp only [Option.bind_eq_bind, Option.bind_eq_some_iff, Option.some.injEq] at hc
          obtain ⟨sz, h1, rfl⟩ := hc
          simp only [exec, atom_congr H ha (harg hs), atom_congr H hb (harg hx)]
        · simp at hc
      case clear =>
        simp only [compBuiltin, Option.bind_eq_bind, Option.bind_eq_some_iff] at hc
        obtain ⟨x, hx, a, ha, st, hst, sd, hsd, hc⟩ := hc
        split at hc
        · simp only [Option.bind_eq_bind, Option.bind_eq_some_iff, Option.some.injEq] at hc
          obtain ⟨z, hz, rfl⟩ := hc
          simp only [exec, atom_congr H ha (harg hx)]
        · simp at hc
      case max =>
        simp only [compBuiltin, Option.bind_eq_bind, Option.bind_eq_some_iff, Option.some.injEq] at hc
        obtain ⟨as, has, rfl⟩ := hc
        simp only [exec, atoms_congr H has hargs]
      case min =>
        simp only [compBuiltin, Option.bind_eq_bind, Option.bind_eq_some_iff, Option.some.injEq] at hc
        obtain ⟨as, has, rfl⟩ := hc
        simp only [exec, atoms_congr H has hargs]
      case delete =>
        simp only [compBuiltin, Option.bind_eq_bind, Option.bind_eq_some_iff] at hc
        obtain ⟨m, hm, a, ha, k, hk, b, hb, mt, hmt, md, hmd, hc⟩ := hc
        split at hc
        · simp only [Option.bind_eq_some_iff, Option.some.injEq] at hc
          obtain ⟨kk, hkk, rfl⟩ := hc
          simp only [exec, atom_congr H ha (harg hm), atom_congr H hb (harg hk)]
        · simp at hc
  case makeMap t h =>
    simp only [compOp0, Option.bind_eq_bind, Option.bind_eq_some_iff] at hc
    obtain ⟨d, hd, hc⟩ := hc
    split at hc
    · simp only [Option.bind_eq_some_iff, Option.some.injEq] at hc
      obtain ⟨a, ha, rfl⟩ := hc
      have : hintOk e a = hintOk e' a := by
        cases h with
        | none => simp only [atomO, Option.some.injEq] at ha; subst ha; rfl
        | some x =>
          simp only [atomO, Option.map_eq_some_iff] at ha
          obtain ⟨b, hb, rfl⟩ := ha
          simp only [hintOk, atom_congr H hb (by simp [Op.operands])]
      simp only [exec, this]
    · simp at hc
  case lookup t x i ok =>
    simp only [compOp0, Option.bind_eq_bind, Option.bind_eq_some_iff] at hc
    obtain ⟨d, hd, hc⟩ := hc
    split at hc
    · simp only [Option.bind_eq_some_iff, Option.some.injEq] at hc
      obtain ⟨kk, hkk, z, hz, a, ha, b, hb, rfl⟩ := hc
      simp only [exec, atom_congr H ha (by simp [Op.operands]), atom_congr H hb (by simp [Op.operands])]
    · simp at hc
  case mapEntry t m k =>
    simp only [compOp0, Option.bind_eq_bind, Option.bind_eq_some_iff] at hc
    obtain ⟨d, hd, hc⟩ := hc
    split at hc
    · simp only [Option.bind_eq_some_iff, Option.some.injEq] at hc
      obtain ⟨kk, hkk, z, hz, a, ha, b, hb, rfl⟩ := hc
      simp only [exec, atom_congr H ha (by simp [Op.operands]), atom_congr H hb (by simp [Op.operands])]
    · simp at hc
  case entryStore t m s x =>
    simp only [compOp0, Option.bind_eq_bind, Option.bind_eq_some_iff, Option.some.injEq] at hc
    obtain ⟨a, ha, b, hb, c, hcc, rfl⟩ := hc
    simp only [exec, atom_congr H ha (by simp [Op.operands]), atom_congr H hb (by simp [Op.operands]), atom_congr H hcc (by simp [Op.operands])]
  case mapUpdate t m k x =>
    simp only [compOp0, Option.bind_eq_bind, Option.bind_eq_some_iff] at hc
    obtain ⟨d, hd, hc⟩ := hc
    split at hc
    · simp only [Option.bind_eq_some_iff, Option.some.injEq] at hc
      obtain ⟨kk, hkk, a, ha, b, hb, c, hcc, rfl⟩ := hc
      simp only [exec, atom_congr H ha (by simp [Op.operands]), atom_congr H hb (by simp [Op.operands]), atom_congr H hcc (by simp [Op.operands])]
    · simp at hc
theorem exec_congr (call : Tgt → List Value → M Value) {o : Op} {aop : AOp} (hc : compOp P o = some aop) {e e' : Env} (H : ∀ t, .tmp t ∈ o.operands.toList → e.get t = e'.get t) : exec call e aop = exec call e' aop := by
  rcases compOp_inv hc with h | rfl
  · exact exec_congr0 call h H
  · rfl

theorem instr_congr (call : Tgt → List Value → M Value) {n : Nat} {ops : Array Oper} {o : Oper} {ai : AInstr} (hc : compInstr P n ops o = some ai) {e e' : Env} (H : ∀ t ∈ namesOf ops o, e.get t = e'.get t) {S : St} {e1 : Env} {S1 : St}
    (h : instr call ai e S = some (e1, S1)) : ∃ v, e1 = putD e o.dst v ∧ instr call ai e' S = some (putD e' o.dst v, S1) := by
  obtain ⟨h1, h2, h3, h4⟩ := compInstr_some hc
  have hx := exec_congr call h2 (e := e) (e' := e') fun t ht => H t (by
    unfold namesOf
    exact List.mem_append.2 (.inl (mem_oTmps.2 ht)))
  rcases h4 with ⟨hg, hag⟩ | ⟨j, want, oj, d, hg, hoj, hdj, hag⟩
  · simp only [instr, hag, M.bind_some, M.pure_some] at h ⊢
    obtain ⟨v, S2, h5, rfl, rfl⟩ := h
    exact ⟨v, by rw [h1], v, _, by rw [← hx]; exact h5, by rw [h1], rfl⟩
  · have hgd : e.get d = e'.get d := H d (by unfold namesOf; exact List.mem_append.2 (.inr (by simp [hg, hoj, hdj])))
    simp only [instr, hag, M.bind_some, M.lift_some, Option.bind_eq_some_iff] at h ⊢
    obtain ⟨b, _, ⟨⟨gv, hgv, hw⟩, rfl⟩, h⟩ := h
    cases b with
    | true =>
      simp only [if_true, M.bind_some, M.pure_some] at h
      obtain ⟨v, S2, h5, rfl, rfl⟩ := h
      exact ⟨v, by rw [h1], true, _, ⟨⟨gv, by rw [← hgd]; exact hgv, hw⟩, rfl⟩, by simp only [if_true, M.bind_some, M.pure_some]; exact ⟨v, _, by rw [← hx]; exact h5, by rw [h1], rfl⟩⟩
    | false =>
      simp only [Bool.false_eq_true, if_false] at h
      obtain ⟨rfl, rfl⟩ := M.pure_some.1 h
      exact ⟨undef, by rw [h1], false, _, ⟨⟨gv, by rw [← hgd]; exact hgv, hw⟩, rfl⟩, by simp only [Bool.false_eq_true, if_false]; exact M.pure_some.2 ⟨by rw [h1], rfl⟩⟩
end Go.Wb
