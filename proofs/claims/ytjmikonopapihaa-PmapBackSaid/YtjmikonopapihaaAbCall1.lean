import Derived.Test.YtjmikonopapihaaAbOp16
/-
  AB: objects by other names: what is decoded stands for the same values.
-/
namespace Go.Ab
set_option linter.unusedSimpArgs false
theorem ren_sk (f g : Nat → Nat) : ∀ a : AV, (a.ren f g).sk = a.sk
  | .cons a b => by show Sk.cons _ _ = Sk.cons _ _; rw [ren_sk f g a, ren_sk f g b]
  | .v _ _ | .nsl | .nptr | .ptr _ _ _ | .pv _ _ | .hs _ _ | .fn _ _ | .sv _ _ _ _ _ | .nfn | .nil | .tup _ | .undef => rfl
theorem res_sk (h : List HO) : ∀ a : AV, (res h a).sk = a.sk
  | .cons a b => by show Sk.cons _ _ = Sk.cons _ _; rw [res_sk h a, res_sk h b]
  | .hs id ver => by
    unfold res
    cases h.getD id .hole with
    | frz v u c =>
      simp only
      cases hb : Nat.beq ver v with
      | true => rfl
      | false => rfl
    | _ => rfl
  | .v _ _ | .nsl | .nptr | .ptr _ _ _ | .pv _ _ | .fn _ _ | .sv _ _ _ _ _ | .nfn | .nil | .tup _ | .undef => rfl
theorem dec_ren (f g : Nat → Nat) : ∀ (u : Ty) (a : AV), dec u (a.ren f g) = dec u a
  | .pair u v, a => by
    cases a <;> first | rfl | skip
    rename_i p q
    show (match dec u (p.ren f g), dec v (q.ren f g) with | some x, some y => some (x, y) | _, _ => none) = _
    rw [dec_ren f g u p, dec_ren f g v q]
    rfl
  | .int _, a | .bool, a | .str, a | .arr _ _, a | .sl _, a | .unit, a => by cases a <;> rfl
structure View (c : Cx) (f : Nat → Nat) (os : List HO) : Prop where
  at_ : ∀ (id : Nat) (o' : HO), os[f id]? = some o' → ∃ (o : HO) (v : Value), c.H[id]? = some o ∧ c.σ[id]? = some v ∧
    ((o'.isBox = false ∧ o' = o) ∨ ∃ a a', o = .box a ∧ o' = .box (a'.ren f zeroN) ∧ a'.sk = a.sk ∧ ∀ cs, RepA c a cs → RepA c a' cs)
section
variable {c : Cx} {f : Nat → Nat} {os : List HO}
/-- frozen slices by the new names -/
def res2 (os : List HO) (f : Nat → Nat) : AV → AV
  | .hs id ver => match os.getD (f id) .hole with
    | .frz v u c => bif Nat.beq ver v then .v (.sl u) c else .hs id ver
    | _ => .hs id ver
  | .cons a b => .cons (res2 os f a) (res2 os f b)
  | a => a
theorem res_ren : ∀ a : AV, res os (a.ren f zeroN) = (res2 os f a).ren f zeroN
  | .cons a b => by show AV.cons _ _ = AV.cons _ _; rw [res_ren a, res_ren b]
  | .hs id ver => by
    show res os (.hs (f id) (zeroN id + ver)) = _
    have e0 : zeroN id + ver = ver := Nat.zero_add ver
    have e1 : (AV.hs id ver).ren f zeroN = .hs (f id) ver := by show AV.hs (f id) (zeroN id + ver) = _; rw [e0]
    rw [e0]
    unfold res res2
    cases os.getD (f id) .hole with
    | frz v u c =>
      simp only
      cases hb : Nat.beq ver v with
      | true => rfl
      | false => exact e1.symm
    | _ => exact e1.symm
  | .v _ _ | .nsl | .nptr | .ptr _ _ _ | .pv _ _ | .fn _ _ | .sv _ _ _ _ _ | .nfn | .nil | .tup _ | .undef => rfl
theorem getD_some {α : Type} {l : List α} {i : Nat} {d x : α} (h : l.getD i d = x) (hx : x ≠ d) : l[i]? = some x := by
  rw [List.getD_eq_getElem?_getD] at h
  cases hl : l[i]? with
  | none => rw [hl] at h; exact absurd h.symm hx
  | some y => rw [hl] at h; simp at h; rw [h]
theorem res2_rep (hs : Sim c) (hv : View c f os) : ∀ {a : AV} {cs : List Value}, RepA c a cs → RepA c (res2 os f a) cs
  | .cons a b, _, ⟨x, y, h, h1, h2⟩ => ⟨x, y, h, res2_rep hs hv h1, res2_rep hs hv h2⟩
  | .hs id ver, cs, h => by
    unfold res2
    cases ho : os.getD (f id) .hole with
    | frz v u cc =>
      simp only
      cases hb : Nat.beq ver v with
      | false => exact h
      | true =>
        obtain ⟨o, w, h1, h2, h3⟩ := hv.at_ id _ (getD_some ho (by intro e; cases e))
        rcases h3 with ⟨_, e⟩ | ⟨_, _, _, e, _⟩
        · subst e
          obtain ⟨o', v', k1, k2, k3, k4, k5, k6⟩ := h
          rw [h1] at k1; cases k1
          rw [h2] at k2; cases k2
          rw [k6 (beq_nat hb).symm]
          exact hs.obj id _ w h1 h2
        · cases e
    | _ => exact h
  | .v _ _, _, h | .nsl, _, h | .nptr, _, h | .ptr _ _ _, _, h | .pv _ _, _, h | .fn _ _, _, h | .sv _ _ _ _ _, _, h | .nfn, _, h | .nil, _, h | .tup _, _, h | .undef, _, h => h
/-- the context of what is decoded -/
structure Recode (c c1 : Cx) (f : Nat → Nat) (os : List HO) (hp : HP) : Prop where
  sim : Sim c
  view : View c f os
  S : c1.S = c.S
  w : c1.w = c.w
  box : ∀ (id : Nat), hp.isBox (f id) = true → ∃ v a a1 o', c.H[id]? = some (.box a) ∧ c.σ[id]? = some v ∧ c1.σ[f id]? = some v ∧ c1.H[f id]? = some (.box a1) ∧ os[f id]? = some o' ∧ o'.isBox = true
  row : ∀ (id : Nat), hp.isRow (f id) = true → ∃ v e ver u fn xs e1 u1 fn1 xs1, c.H[id]? = some (.row e ver u fn xs) ∧ os[f id]? = some (.row e ver u fn xs) ∧ c.σ[id]? = some v ∧ c1.σ[f id]? = some v ∧ c1.H[f id]? = some (.row e1 0 u1 fn1 xs1)
theorem decA_rep {c1 : Cx} {hp : HP} (hr : Recode c c1 f os hp) : ∀ {p : AP} {a : AV} {x : ElA p} {cs : List Value}, decA hp os p (a.ren f zeroN) = some x → RepA c a cs → RepA c1 (encA p x) cs
  | .val u, a, x, cs, h, ha => by
    simp only [decA] at h
    rw [res_ren, dec_ren] at h
    show RepC c1.S c1.w u x cs
    rw [hr.S, hr.w]
    exact dec_rep h (res2_rep hr.sim hr.view ha)
  | .ptr id, a, x, cs, h, ha => by
    cases a <;> simp only [decA, AV.ren] at h <;> try (cases h; done)
    rename_i id0 ver path
    cases path with
    | cons _ _ => cases h
    | nil =>
      simp only at h
      cases hb : (Nat.beq id (f id0) && Nat.beq ver 0 && hp.isBox id) with
      | false => rw [hb] at h; cases h
      | true =>
        simp only [Bool.and_eq_true] at hb
        have e1 := beq_nat hb.1.1
        have e2 := beq_nat hb.1.2
        subst e1; subst e2
        obtain ⟨v, a, a1, o', k1, k2, k3, k4, k5, k6⟩ := hr.box id0 hb.2
        obtain ⟨o, v', g1, g2, g3, g4, g5, g6⟩ := ha
        rw [k1] at g1; cases g1
        rw [k2] at g2; cases g2
        obtain ⟨b, q1, q2, q3⟩ := g6 rfl rfl
        exact ⟨_, v, k4, k3, rfl, Nat.le_refl _, g5, fun _ _ => ⟨b, q1, trivial, q3⟩⟩
  | .nptr, a, x, cs, h, ha => by
    cases a <;> simp only [decA, AV.ren] at h <;> try (cases h; done)
    exact ha
  | .hs id, a, x, cs, h, ha => by
    cases a <;> simp only [decA, AV.ren] at h <;> try (cases h; done)
    rename_i id0 ver
    cases hb : (Nat.beq id (f id0) && Nat.beq (zeroN id0 + ver) (os.getD id .hole).ver && hp.isRow id) with
    | false => rw [hb] at h; cases h
    | true =>
      simp only [Bool.and_eq_true] at hb
      have e1 := beq_nat hb.1.1
      have e2 := beq_nat hb.1.2
      subst e1
      rw [show zeroN id0 + ver = ver from Nat.zero_add ver] at e2
      obtain ⟨v, e, ver', u, fn, xs, e1, u1, fn1, xs1, k1, k2, k3, k4, k5⟩ := hr.row id0 hb.2
      rw [List.getD_eq_getElem?_getD, k2] at e2
      obtain ⟨o, v', g1, g2, g3, g4, g5, g6⟩ := ha
      rw [k1] at g1; cases g1
      rw [k3] at g2; cases g2
      exact ⟨_, v, k5, k4, rfl, Nat.le_refl _, g5, fun _ => g6 e2.symm⟩
  | .fn k p, a, x, cs, h, ha => by
    cases a <;> simp only [decA, AV.ren] at h <;> try (cases h; done)
    rename_i g cc
    cases hb : Nat.beq k g with
    | false => rw [hb] at h; cases h
    | true =>
      rw [hb] at h
      have e := beq_nat hb
      subst e
      obtain ⟨vs, h1, h2⟩ := ha
      exact ⟨vs, h1, decA_rep hr h h2⟩
  | .nil, a, x, cs, h, ha => by
    cases a <;> simp only [decA, AV.ren] at h <;> try (cases h; done)
    exact ha
  | .cons p q, a, x, cs, h, ha => by
    cases a <;> simp only [decA, AV.ren] at h <;> try (cases h; done)
    rename_i a b
    obtain ⟨y, z, e, h1, h2⟩ := ha
    cases hp1 : decA hp os p (a.ren f zeroN) with
    | none => rw [hp1] at h; cases h
    | some x1 =>
      cases hp2 : decA hp os q (b.ren f zeroN) with
      | none => rw [hp1, hp2] at h; cases h
      | some x2 =>
        rw [hp1, hp2] at h
        cases h
        exact ⟨y, z, e, decA_rep hr hp1 h1, decA_rep hr hp2 h2⟩
theorem decA_sk {hp : HP} {h : List HO} : ∀ {p : AP} {a : AV} {x : ElA p}, decA hp h p a = some x → (encA p x).sk = a.sk
  | .val u, a, x, hd => by
    simp only [decA] at hd
    rw [← res_sk h a, dec_sk hd]
    rfl
  | .ptr id, a, x, h => by cases a <;> simp only [decA] at h <;> first | (cases h; done) | rfl
  | .nptr, a, x, h => by cases a <;> simp only [decA] at h <;> first | (cases h; done) | rfl
  | .hs id, a, x, h => by cases a <;> simp only [decA] at h <;> first | (cases h; done) | rfl
  | .fn k p, a, x, h => by cases a <;> simp only [decA] at h <;> first | (cases h; done) | rfl
  | .nil, a, x, h => by cases a <;> simp only [decA] at h <;> first | (cases h; done) | rfl
  | .cons p q, a, x, hd => by
    cases a <;> simp only [decA] at hd <;> try (cases hd; done)
    rename_i a b
    cases hp1 : decA hp h p a with
    | none => rw [hp1] at hd; cases hd
    | some x1 =>
      cases hp2 : decA hp h q b with
      | none => rw [hp1, hp2] at hd; cases hd
      | some x2 =>
        rw [hp1, hp2] at hd
        cases hd
        show Sk.cons _ _ = Sk.cons _ _
        rw [decA_sk hp1, decA_sk hp2]
theorem encA_bad : ∀ {p : AP} {x : ElA p}, (encA p x).sk.noBad = true
  | .val u, x => Ty.sk_noBad u
  | .ptr _, _ | .nptr, _ | .hs _, _ | .fn _ _, _ | .nil, _ => rfl
  | .cons p q, x => by show (_ && _) = true; rw [encA_bad (p := p), encA_bad (p := q)]; rfl
theorem decA_repV {c1 : Cx} {hp : HP} (hr : Recode c c1 f os hp) {p : AP} {a : AV} {x : ElA p} {v : Value} (h : decA hp os p (a.ren f zeroN) = some x) (ha : RepV c a v) : RepV c1 (encA p x) v := by
  have hsk : (encA p x).sk = a.sk := by rw [decA_sk h, ren_sk]
  have hb : a.sk.isBad = false := by rw [← hsk]; exact Sk.noBad_isBad encA_bad
  have h1 := repV1_of hb ha
  refine repV_of (by rw [hsk]; exact hb) ?_
  have hagg : (encA p x).isAgg = a.isAgg := by unfold AV.isAgg; rw [hsk]
  unfold RepV1 at *
  rw [hagg]
  cases hag : a.isAgg with
  | true =>
    rw [hag] at h1
    obtain ⟨cs, e, h2⟩ := h1
    exact ⟨cs, e, decA_rep hr h h2⟩
  | false => rw [hag] at h1; exact decA_rep hr h h1
end
end Go.Ab
