import Derived.Test.YtjmikonopapihaaAbRep
/-
  AB: a part of a value: where it lies, and what stands there when it is another one.
-/
namespace Go.Ab

theorem Ty.sk_noBad : ∀ u : Ty, u.sk.noBad = true
  | .int _ => rfl
  | .bool => rfl
  | .str => rfl
  | .sl _ => rfl
  | .unit => rfl
  | .pair a b => by simp [Ty.sk, Sk.noBad, Ty.sk_noBad a, Ty.sk_noBad b]
  | .arr _ t => by simp [Ty.sk, Sk.noBad, Ty.sk_noBad t]
theorem Sk.noBad_isBad {s : Sk} (h : s.noBad = true) : s.isBad = false := by cases s <;> first | rfl | (simp [Sk.noBad] at h)
theorem fldC_sk : ∀ (j : Nat) (a : AV), (a.fldC j).sk = a.sk.fldC j
  | 0, a => by
    cases a with
    | v u x => cases u <;> rfl
    | _ => rfl
  | j + 1, a => by
    cases a with
    | v u x => cases u with
      | pair a b => exact fldC_sk j (.v b x.2)
      | _ => rfl
    | cons a b => exact fldC_sk j b
    | _ => rfl
theorem fld_sk (j : Nat) (a : AV) : (a.fld j).sk = a.sk.fld j := by
  cases a with
  | v u x => cases u <;> first | rfl | exact fldC_sk j _
  | cons a b => exact fldC_sk j (.cons a b)
  | _ => cases j <;> rfl
theorem getP_sk : ∀ (p : List Nat) (a : AV), (a.getP p).sk = a.sk.fldP p
  | [], _ => rfl
  | j :: p, a => by show ((a.fld j).getP p).sk = _; rw [getP_sk p, fld_sk]; rfl
theorem dec_noBad : ∀ {u : Ty} {a : AV} {y : El u}, dec u a = some y → a.sk.noBad = true := by
  intro u
  induction u with
  | pair u v ihu ihv =>
    intro a y h
    cases a <;> simp only [dec] at h <;> first | (cases h; done) | exact Ty.sk_noBad _ | skip
    rename_i p q
    cases hp : dec u p with
    | none => rw [hp] at h; cases h
    | some x =>
      cases hq : dec v q with
      | none => rw [hp, hq] at h; cases h
      | some z => simp [AV.sk, Sk.noBad, ihu hp, ihv hq]
  | _ => intro a y h; cases a <;> simp only [dec] at h <;> first | (cases h; done) | exact Ty.sk_noBad _ | rfl

theorem fldC_focus {c : Cx} : ∀ (j : Nat) {a : AV} {cs : List Value}, RepA c a cs → (a.fldC j).sk.isBad = false →
    ∃ pre mid post, cs = pre ++ (mid ++ post) ∧ pre.length = a.sk.foffC j ∧ RepA c (a.fldC j) mid ∧
      (∀ y mid', RepA c y mid' → RepA c (a.setC j y) (pre ++ (mid' ++ post))) ∧ (∀ y, (a.setC j y).sk.noBad = true → y.sk.noBad = true)
  | 0, a, cs, h, hb => by
    cases a with
    | v u x => cases u with
      | pair a b =>
        obtain ⟨c1, c2, e, h1, h2⟩ := h
        exact ⟨[], c1, c2, by simpa using e, rfl, h1, fun y mid' hy => ⟨mid', c2, by simp, hy, h2⟩, fun y hy => by
          simp only [AV.setC, AV.sk, Sk.noBad, Bool.and_eq_true] at hy; exact hy.1⟩
      | _ => simp [AV.fldC, AV.sk, Sk.isBad] at hb
    | cons a b =>
      obtain ⟨c1, c2, e, h1, h2⟩ := h
      exact ⟨[], c1, c2, by simpa using e, rfl, h1, fun y mid' hy => ⟨mid', c2, by simp, hy, h2⟩, fun y hy => by
        simp only [AV.setC, AV.sk, Sk.noBad, Bool.and_eq_true] at hy; exact hy.1⟩
    | _ => simp [AV.fldC, AV.sk, Sk.isBad] at hb
  | j + 1, a, cs, h, hb => by
    cases a with
    | v u x => cases u with
      | pair a b =>
        obtain ⟨c1, c2, e, h1, h2⟩ := h
        obtain ⟨pre, mid, post, e1, e2, e3, e4, e5⟩ := fldC_focus (c := c) j (a := .v b x.2) h2 hb
        refine ⟨c1 ++ pre, mid, post, by rw [e, e1, List.append_assoc], ?_, e3, fun y mid' hy => ⟨c1, pre ++ (mid' ++ post), by rw [List.append_assoc], h1, e4 y mid' hy⟩, fun y hy => ?_⟩
        · rw [List.length_append, e2, RepC.length h1]; rfl
        · simp only [AV.setC, AV.sk, Sk.noBad, Bool.and_eq_true] at hy; exact e5 y hy.2
      | _ => simp [AV.fldC, AV.sk, Sk.isBad] at hb
    | cons a b =>
      obtain ⟨c1, c2, e, h1, h2⟩ := h
      obtain ⟨pre, mid, post, e1, e2, e3, e4, e5⟩ := fldC_focus (c := c) j (a := b) h2 hb
      refine ⟨c1 ++ pre, mid, post, by rw [e, e1, List.append_assoc], ?_, e3, fun y mid' hy => ⟨c1, pre ++ (mid' ++ post), by rw [List.append_assoc], h1, e4 y mid' hy⟩, fun y hy => ?_⟩
      · rw [List.length_append, e2, RepA.length h1]; rfl
      · simp only [AV.setC, AV.sk, Sk.noBad, Bool.and_eq_true] at hy; exact e5 y hy.2
    | _ => simp [AV.fldC, AV.sk, Sk.isBad] at hb
theorem fld_focus {c : Cx} (j : Nat) {a : AV} {cs : List Value} (h : RepA c a cs) (hk : Sk.okF j a.sk) (hb : (a.fld j).sk.isBad = false) :
    ∃ pre mid post, cs = pre ++ (mid ++ post) ∧ pre.length = a.sk.foff j ∧ RepA c (a.fld j) mid ∧
      (∀ y mid', RepA c y mid' → (a.setF j y).sk.noBad = true → RepA c (a.setF j y) (pre ++ (mid' ++ post))) ∧ (∀ y, (a.setF j y).sk.noBad = true → y.sk.noBad = true) := by
  have plain : (a.fld j = a.fldC j) → (∀ y, a.setF j y = a.setC j y) → a.sk.foff j = a.sk.foffC j → ∃ pre mid post, cs = pre ++ (mid ++ post) ∧ pre.length = a.sk.foff j ∧ RepA c (a.fld j) mid ∧
      (∀ y mid', RepA c y mid' → (a.setF j y).sk.noBad = true → RepA c (a.setF j y) (pre ++ (mid' ++ post))) ∧ (∀ y, (a.setF j y).sk.noBad = true → y.sk.noBad = true) := by
    intro e1 e2 e3
    rw [e1] at hb ⊢
    obtain ⟨pre, mid, post, g1, g2, g3, g4, g5⟩ := fldC_focus j h hb
    exact ⟨pre, mid, post, g1, by rw [g2, e3], g3, fun y mid' hy _ => by rw [e2]; exact g4 y mid' hy, fun y hy => g5 y (by rw [e2] at hy; exact hy)⟩
  cases a with
  | v u x => cases u with
    | arr n t =>
      obtain ⟨h1, h2⟩ := h
      obtain ⟨pre, mid, post, e1, e2, e3, e4⟩ := RepCs.focus (n := t.csz) (fun _ _ h => RepC.length h) (zero t) j (by rw [h1]; exact hk) h2
      refine ⟨pre, mid, post, e1, e2, e3, fun y mid' hy hn => ?_, fun y hn => ?_⟩
      · cases hd : dec t y with
        | none => simp [AV.setF, hd, AV.sk, Sk.noBad] at hn
        | some z =>
          simp only [AV.setF, hd]
          exact ⟨by rw [List.length_set]; exact h1, e4 z mid' (dec_rep hd hy)⟩
      · cases hd : dec t y with
        | none => simp [AV.setF, hd, AV.sk, Sk.noBad] at hn
        | some z => exact dec_noBad hd
    | _ => exact plain rfl (fun _ => rfl) rfl
  | _ => exact plain rfl (fun _ => rfl) rfl
theorem getP_focus {c : Cx} : ∀ (p : List Nat) {a : AV} {cs : List Value}, RepA c a cs → Sk.okP p a.sk → (a.getP p).sk.isBad = false →
    ∃ pre mid post, cs = pre ++ (mid ++ post) ∧ pre.length = Sk.offP p a.sk ∧ RepA c (a.getP p) mid ∧
      (∀ y mid', RepA c y mid' → (a.setP p y).sk.noBad = true → RepA c (a.setP p y) (pre ++ (mid' ++ post)))
  | [], a, cs, h, _, _ => ⟨[], cs, [], by simp, rfl, h, fun y mid' hy _ => by simpa [AV.setP] using hy⟩
  | j :: p, a, cs, h, hk, hb => by
    have hb1 : (a.fld j).sk.isBad = false := by
      cases hx : (a.fld j).sk.isBad with
      | false => rfl
      | true =>
        have h0 : (a.fld j).sk = .bad := by cases hs : (a.fld j).sk <;> simp [hs, Sk.isBad] at hx; rfl
        have h1 : ∀ p, Sk.fldP p .bad = .bad := by
          intro p
          induction p with
          | nil => rfl
          | cons j p ih => cases j <;> exact ih
        have h2 : ((a.fld j).getP p).sk = .bad := by rw [getP_sk, h0, h1]
        have h3 : ((a.getP (j :: p)).sk.isBad) = true := by show ((a.fld j).getP p).sk.isBad = true; rw [h2]; rfl
        rw [h3] at hb; cases hb
    obtain ⟨pre, mid, post, e1, e2, e3, e4, e5⟩ := fld_focus j h hk.1 hb1
    obtain ⟨pre', mid', post', g1, g2, g3, g4⟩ := getP_focus p e3 (by rw [fld_sk]; exact hk.2) hb
    refine ⟨pre ++ pre', mid', post' ++ post, by rw [e1, g1]; simp, ?_, g3, fun y m hy hn => ?_⟩
    · rw [List.length_append, e2, g2, fld_sk]; rfl
    · have := e4 _ _ (g4 y m hy (e5 _ hn)) hn
      simpa [AV.setP] using this
end Go.Ab
