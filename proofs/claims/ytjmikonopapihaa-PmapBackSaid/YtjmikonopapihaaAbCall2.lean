import Derived.Test.YtjmikonopapihaaAbCall1
/-
  AB: a context by a pattern.
-/
namespace Go.Ab
set_option linter.unusedSimpArgs false
theorem decRow_eq {u u' : Ty} {xs : List (El u')} {ys : List (El u)} (h : decRow u u' xs = some ys) : ∃ e : u' = u, ys = e ▸ xs := by
  unfold decRow at h
  cases hd : decV (.sl u) (.sl u') (some xs) with
  | none => rw [hd] at h; cases h
  | some o =>
    rw [hd] at h
    cases o with
    | none => cases h
    | some zs =>
      cases h
      unfold decV at hd
      split at hd
      · rename_i hq
        have e := Ty.eqb_eq hq
        cases e
        cases hd
        exact ⟨rfl, rfl⟩
      · cases hd
inductive Entry (hp : HP) (os : List HO) : HO → HO → Bool → Bool → Prop
  | box {a : AV} {ap : AP} {x : ElA ap} (h : decA hp os ap a = some x) : Entry hp os (.box a) (.box (encA ap x)) true false
  | row {e : TypeId} {ver : Nat} {u : Ty} {fn : Bool} {xs : List (El u)} : Entry hp os (.row e ver u fn xs) (.row e 0 u fn xs) false true
  | skip {o : HO} : Entry hp os o (.dead 0) false false
theorem decH_entry {hp : HP} {os : List HO} : ∀ {p : HP} {l : List HO} {x : ElH p}, decH hp os p l = some x → l.length = hlen p ∧ (encH p x).length = hlen p ∧
    ∀ (i : Nat), i < hlen p → ∃ o o', l[i]? = some o ∧ (encH p x)[i]? = some o' ∧ Entry hp os o o' (p.isBox i) (p.isRow i)
  | .nil, l, x, h => by
    cases l with
    | nil => exact ⟨rfl, rfl, fun i hi => absurd hi (Nat.not_lt_zero i)⟩
    | cons _ _ => cases h
  | .box a r, l, x, h => by
    cases l with
    | nil => cases h
    | cons o t =>
      cases o <;> simp only [decH] at h <;> try (cases h; done)
      rename_i av
      cases h1 : decA hp os a av with
      | none => rw [h1] at h; cases h
      | some y =>
        cases h2 : decH hp os r t with
        | none => rw [h1, h2] at h; cases h
        | some z =>
          rw [h1, h2] at h
          cases h
          obtain ⟨q1, q2, q3⟩ := decH_entry h2
          refine ⟨by simp [hlen, q1], by simp [encH, hlen, q2], fun i hi => ?_⟩
          cases i with
          | zero => exact ⟨_, _, rfl, rfl, .box h1⟩
          | succ i => exact q3 i (Nat.lt_of_succ_lt_succ hi)
  | .row e u fn r, l, x, h => by
    cases l with
    | nil => cases h
    | cons o t =>
      cases o <;> simp only [decH] at h <;> try (cases h; done)
      rename_i e' ver u' fn' xs
      cases hb : (Nat.beq e e' && bEq fn fn') with
      | false => rw [hb] at h; cases h
      | true =>
        rw [hb] at h
        simp only [Bool.and_eq_true] at hb
        have b1 := beq_nat hb.1
        have b2 := bEq_eq hb.2
        subst b1; subst b2
        simp only [cond_true] at h
        cases h1 : decRow u u' xs with
        | none => rw [h1] at h; cases h
        | some y =>
          cases h2 : decH hp os r t with
          | none => rw [h1, h2] at h; cases h
          | some z =>
            rw [h1, h2] at h
            cases h
            obtain ⟨e1, e2⟩ := decRow_eq h1
            subst e1
            subst e2
            obtain ⟨q1, q2, q3⟩ := decH_entry h2
            refine ⟨by simp [hlen, q1], by simp [encH, hlen, q2], fun i hi => ?_⟩
            cases i with
            | zero => exact ⟨_, _, rfl, rfl, .row⟩
            | succ i => exact q3 i (Nat.lt_of_succ_lt_succ hi)
  | .skip r, l, x, h => by
    cases l with
    | nil => cases h
    | cons o t =>
      simp only [decH] at h
      obtain ⟨q1, q2, q3⟩ := decH_entry h
      refine ⟨by simp [hlen, q1], by simp [encH, hlen, q2], fun i hi => ?_⟩
      cases i with
      | zero => exact ⟨_, _, rfl, rfl, .skip⟩
      | succ i => exact q3 i (Nat.lt_of_succ_lt_succ hi)
theorem isBox_lt : ∀ {hp : HP} {i : Nat}, hp.isBox i = true → i < hlen hp
  | .nil, i, h => by cases i <;> cases h
  | .box _ r, 0, _ => Nat.zero_lt_succ _
  | .box _ r, i + 1, h => Nat.succ_lt_succ (isBox_lt (hp := r) h)
  | .row _ _ _ r, 0, h => by cases h
  | .row _ _ _ r, i + 1, h => Nat.succ_lt_succ (isBox_lt (hp := r) h)
  | .skip r, 0, h => by cases h
  | .skip r, i + 1, h => Nat.succ_lt_succ (isBox_lt (hp := r) h)
theorem isRow_lt : ∀ {hp : HP} {i : Nat}, hp.isRow i = true → i < hlen hp
  | .nil, i, h => by cases i <;> cases h
  | .box _ r, 0, h => by cases h
  | .box _ r, i + 1, h => Nat.succ_lt_succ (isRow_lt (hp := r) h)
  | .row _ _ _ r, 0, _ => Nat.zero_lt_succ _
  | .row _ _ _ r, i + 1, h => Nat.succ_lt_succ (isRow_lt (hp := r) h)
  | .skip r, 0, h => by cases h
  | .skip r, i + 1, h => Nat.succ_lt_succ (isRow_lt (hp := r) h)
theorem get_take {α : Type} {l : List α} {n i : Nat} {x : α} (h : (l.take n)[i]? = some x) : l[i]? = some x := by
  rw [List.getElem?_take] at h
  split at h
  · exact h
  · cases h
section
variable {c : Cx} {f : Nat → Nat} {os : List HO} {hp : HP} {y : ElH hp} {σ1 : List Value}
theorem recode (hs : Sim c) (hv : View c f os) (hd : decH hp os hp (os.take (hlen hp)) = some y)
    (hσ : ∀ (id : Nat) (v : Value), f id < hlen hp → c.σ[id]? = some v → σ1[f id]? = some v) : Recode c ⟨c.S, σ1, encH hp y, c.w⟩ f os hp := by
  obtain ⟨q1, q2, q3⟩ := decH_entry hd
  refine ⟨hs, hv, rfl, rfl, fun id hb => ?_, fun id hb => ?_⟩
  · obtain ⟨o, o', g1, g2, g3⟩ := q3 (f id) (isBox_lt hb)
    have g1' := get_take g1
    obtain ⟨o2, v, k1, k2, k3⟩ := hv.at_ id o g1'
    rw [hb] at g3
    generalize hp.isRow (f id) = bb at g3
    cases g3 with
    | box h =>
      rcases k3 with ⟨e, _⟩ | ⟨a, a', e1, e2, _⟩
      · cases e
      · subst e1
        exact ⟨v, a, _, _, k1, k2, hσ id v (isBox_lt hb) k2, g2, g1', rfl⟩
  · obtain ⟨o, o', g1, g2, g3⟩ := q3 (f id) (isRow_lt hb)
    have g1' := get_take g1
    obtain ⟨o2, v, k1, k2, k3⟩ := hv.at_ id o g1'
    rw [hb] at g3
    generalize hp.isBox (f id) = bb at g3
    cases g3 with
    | row =>
      rcases k3 with ⟨_, e⟩ | ⟨a, a', e1, e2, _⟩
      · subst e
        exact ⟨v, _, _, _, _, _, _, _, _, _, k1, g1', k2, hσ id v (isRow_lt hb) k2, g2⟩
      · cases e2
/-- what an object of the new context is in the old one -/
theorem recode_obj (hv : View c f os) (hd : decH hp os hp (os.take (hlen hp)) = some y) (hsurj : ∀ i, i < hlen hp → ∃ id, f id = i)
    (hσ : ∀ (id : Nat) (v : Value), f id < hlen hp → c.σ[id]? = some v → σ1[f id]? = some v) {i : Nat} {o1 : HO} {v : Value} (h1 : (encH hp y)[i]? = some o1) (h2 : σ1[i]? = some v) :
    ∃ id o, f id = i ∧ c.H[id]? = some o ∧ c.σ[id]? = some v ∧ ((∃ n, o1 = .dead n) ∨
      (∃ a a' ap x, o = .box a ∧ o1 = .box (encA ap x) ∧ decA hp os ap (a'.ren f zeroN) = some x ∧ (∀ cs, RepA c a cs → RepA c a' cs)) ∨
      (∃ e ver u fn xs, o = .row e ver u fn xs ∧ o1 = .row e 0 u fn xs)) := by
  obtain ⟨q1, q2, q3⟩ := decH_entry hd
  have hi : i < hlen hp := by rw [← q2]; exact lt_of_get h1
  obtain ⟨id, hid⟩ := hsurj i hi
  obtain ⟨o, o', g1, g2, g3⟩ := q3 i hi
  rw [g2] at h1; cases h1
  have g1' := get_take g1
  rw [← hid] at g1'
  obtain ⟨o2, v2, k1, k2, k3⟩ := hv.at_ id o g1'
  have hv2 := hσ id v2 (by rw [hid]; exact hi) k2
  rw [hid, h2] at hv2; cases hv2
  refine ⟨id, o2, hid, k1, k2, ?_⟩
  generalize hp.isBox i = b1 at g3
  generalize hp.isRow i = b2 at g3
  cases g3 with
  | skip => exact .inl ⟨_, rfl⟩
  | box h =>
    rcases k3 with ⟨e, _⟩ | ⟨a, a', e1, e2, _, e3⟩
    · cases e
    · cases e2
      exact .inr (.inl ⟨a, a', _, _, e1, rfl, h, e3⟩)
  | row =>
    rcases k3 with ⟨_, e⟩ | ⟨a, a', e1, e2, _⟩
    · subst e
      exact .inr (.inr ⟨_, _, _, _, _, rfl, rfl⟩)
    · cases e2
theorem recode_sim (hs : Sim c) (hv : View c f os) (hd : decH hp os hp (os.take (hlen hp)) = some y) (hl : σ1.length = hlen hp) (hsurj : ∀ i, i < hlen hp → ∃ id, f id = i)
    (hσ : ∀ (id : Nat) (v : Value), f id < hlen hp → c.σ[id]? = some v → σ1[f id]? = some v) :
    Sim ⟨c.S, σ1, encH hp y, c.w⟩ ∧ ∀ b, Cx.live ⟨c.S, σ1, encH hp y, c.w⟩ b → c.live b := by
  have hr := recode hs hv hd hσ
  have hblk : ∀ {i : Nat} {o1 : HO} {v : Value} {b : Nat}, (encH hp y)[i]? = some o1 → σ1[i]? = some v → o1.blk v = some b → ∃ id o, f id = i ∧ c.H[id]? = some o ∧ c.σ[id]? = some v ∧ o.blk v = some b := by
    intro i o1 v b h1 h2 h3
    obtain ⟨id, o, e, k1, k2, ⟨n, k3⟩ | ⟨a, a', ap, x, k3, k4, _⟩ | ⟨e', ver, u, fn, xs, k3, k4⟩⟩ := recode_obj hv hd hsurj hσ h1 h2
    · subst k3; cases h3
    · subst k3; subst k4; exact ⟨id, _, e, k1, k2, h3⟩
    · subst k3; subst k4; exact ⟨id, _, e, k1, k2, h3⟩
  have hlive : ∀ b, Cx.live ⟨c.S, σ1, encH hp y, c.w⟩ b → c.live b := by
    rintro b ⟨i, o, v, h1, h2, h3⟩
    obtain ⟨id, o', _, k1, k2, k3⟩ := hblk h1 h2 h3
    exact ⟨id, o', v, k1, k2, k3⟩
  refine ⟨⟨by rw [hl]; exact (decH_entry hd).2.1.symm, fun i o v h1 h2 => ?_, fun i j oi oj vi vj b h1 h2 h3 h4 h5 h6 => ?_, fun b hb => hs.out b (hlive b hb), hs.lt, fun b hb => hs.ltl b (hlive b hb)⟩, hlive⟩
  · obtain ⟨id, o', e, k1, k2, ⟨n, k3⟩ | ⟨a, a', ap, x, k3, k4, k5, k6⟩ | ⟨e', ver, u, fn, xs, k3, k4⟩⟩ := recode_obj hv hd hsurj hσ h1 h2
    · subst k3; trivial
    · subst k3; subst k4
      obtain ⟨b, cs, T, g1, g2, g3, g4⟩ := hs.obj id _ v k1 k2
      exact ⟨b, cs, T, g1, g2, decA_rep hr k5 (k6 _ g3), encA_bad⟩
    · subst k3; subst k4
      exact hs.obj id _ v k1 k2
  · obtain ⟨idi, oi', ei, a1, a2, a3⟩ := hblk h1 h3 h5
    obtain ⟨idj, oj', ej, b1, b2, b3⟩ := hblk h2 h4 h6
    have := hs.apart idi idj oi' oj' vi vj b a1 b1 a2 b2 a3 b3
    rw [← ei, ← ej, this]
end
end Go.Ab
