import Derived.Test.YtjmikonopapihaaAbOp2
/-
  AB: slices read: elements, lengths, parts; what is frozen.
-/
namespace Go.Ab
set_option linter.unusedSimpArgs false
theorem wrapLen {n : Nat} (h : n ≤ maxLen) : IntKind.wrap .i64 (n : Int) = n := by
  unfold maxLen at h
  simp [IntKind.wrap, IntKind.bits, IntKind.signed]
  omega
theorem bytesOf_len (s : ByteArray) : (bytesOf s).length = s.size := by unfold bytesOf; simp
section
variable {P : Program} {c : Cx}
/-- a slice and what it holds -/
def SlRep (S : Nat → Prop) (w : World) (u : Ty) (o : Option (List (El u))) (v : Value) : Prop :=
  ∃ cells, RepCs (RepC S w u) (o.getD []) cells ∧
    ((v = .slice none 0 0 ∧ o = none) ∨ ∃ b off cap sp, v = .slice (some ⟨b, off, sp⟩) (o.getD []).length cap ∧ (o.getD []).length ≤ cap ∧ cap ≤ maxLen ∧ At w b off cells ∧ o.isSome = true ∧ (cap ≠ 0 → sp = none))
theorem SlRep.of {S : Nat → Prop} {w : World} {u : Ty} {o : Option (List (El u))} {v : Value} (h : RepC S w (.sl u) o [v]) : SlRep S w u o v := by
  cases o with
  | none => exact ⟨[], rfl, .inl ⟨List.singleton_inj.1 h, rfl⟩⟩
  | some xs =>
    obtain ⟨b, off, cap, vs, sp, h1, h2, h3, _, h5, h6, h7⟩ := h
    exact ⟨vs, h5, .inr ⟨b, off, cap, sp, List.singleton_inj.1 h1, h2, h3, h6, rfl, h7⟩⟩
theorem SlRep.row {S : Nat → Prop} {w : World} {σ : List Value} {H : List HO} {e : TypeId} {ver : Nat} {u : Ty} {fn : Bool} {xs : List (El u)} {v : Value} (h : ObjRep ⟨S, σ, H, w⟩ (.row e ver u fn xs) v) :
    SlRep S w u (rowC fn xs) v := by
  obtain ⟨cells, ⟨hc0, hc⟩, q2, q3, q4, q5⟩ := h
  have hg : (rowC fn xs).getD [] = xs := by unfold rowC; cases fn <;> cases xs <;> rfl
  refine ⟨cells, by rw [hg]; exact q2, ?_⟩
  rw [hg]
  rcases hc with ⟨g1, g2⟩ | ⟨g, cap, cur, g1, _, g3, g4, g5, g6, g7⟩
  · refine .inl ⟨g1, ?_⟩
    have hx : xs = [] := List.eq_nil_of_length_eq_zero g2
    cases fn with
    | false => exact absurd g1 (q5 rfl)
    | true => rw [hx]; rfl
  · refine .inr ⟨g, 0, cap, none, g1, g4, g5, ?_, ?_, fun _ => rfl⟩
    · refine At.row (pre := []) (post := cur.toList.drop (xs.length * u.csz)) g3 ?_ rfl
      rw [List.nil_append, ← g7, List.take_append_drop]
    · cases fn with
      | false => rfl
      | true =>
        cases xs with
        | nil => have := (q4 rfl).2 rfl; rw [g1] at this; cases this
        | cons _ _ => rfl
theorem SlRep.rep {S S' : Nat → Prop} {w : World} {u : Ty} {o : Option (List (El u))} {v : Value} (h : SlRep S w u o v) (hS : ∀ b, S b → S' b) (hv : ∀ b, blkOf v = some b → S' b) : RepC S' w (.sl u) o [v] := by
  obtain ⟨cells, h1, h2 | ⟨b, off, cap, sp, h2, h3, h4, h5, h6, h7⟩⟩ := h
  · rw [h2.1, h2.2]; rfl
  · cases o with
    | none => cases h6
    | some xs => exact ⟨b, off, cap, cells, sp, by rw [h2]; rfl, h3, h4, fun _ => hv b (by rw [h2]; rfl), RepCs.mono (fun _ _ h => RepC.mono hS (fun _ _ => rfl) h) h1, h5, h7⟩
theorem SlRep.cast {S : Nat → Prop} {w : World} {u u' : Ty} {o : Option (List (El u'))} {o' : Option (List (El u))} {v : Value} (h : SlRep S w u' o v) (hd : decV (.sl u) (.sl u') o = some o') : SlRep S w u o' v := by
  unfold decV at hd
  split at hd
  · rename_i he
    have e := Ty.eqb_eq he
    cases e
    cases hd
    exact h
  · cases hd
theorem repHs {id ver : Nat} {v : Value} (h : RepV c (.hs id ver) v) {o : HO} (ho : c.H[id]? = some o) (hv : o.ver = ver) : c.σ[id]? = some v := by
  have h1 : RepA c (.hs id ver) [v] := h
  obtain ⟨o', v', h2, h3, _, _, _, h4⟩ := h1
  rw [ho] at h2; cases h2
  rw [List.singleton_inj.1 (h4 hv)]
  exact h3
theorem repInt {k : IntKind} {n : Int} {v : Value} (h : RepV c (.v (.int k) n) v) : v = .int k n ∧ k.wrap n = n := by
  have h1 : RepC c.S c.w (.int k) n [v] := h
  exact ⟨List.singleton_inj.1 h1.1, h1.2⟩
/-- what a slice holds, looked at -/
theorem sv_at (hs : Sim c) {id ver lo hi : Nat} {path : List Nat} {v : Value} (ha : RepV c (.sv id ver path lo hi) v) {a : AV} (ho : c.H[id]? = some (.box a)) (hv : ver = 0) {n : Nat} {u : Ty} {xs : List (El u)} (hg : a.getP path = .v (.arr n u) xs) :
    ∃ b off cs T pre mid post pv, v = .slice (some ⟨b, off, none⟩) (hi - lo) (n - lo) ∧ lo ≤ hi ∧ hi ≤ n ∧ n ≤ maxLen ∧ (lo < n → off = pre.length + lo * u.csz) ∧ c.σ[id]? = some pv ∧ pv = .pointer (some ⟨b, 0, none⟩) ∧
      c.w.heap[b]? = some (.cells cs T (0, 0)) ∧ RepA c a cs.toList ∧ a.sk.noBad = true ∧ cs.toList = pre ++ (mid ++ post) ∧ pre.length = Sk.offP path a.sk ∧ xs.length = n ∧ RepCs (RepC c.S c.w u) xs mid ∧
      (∀ y mid', RepA c y mid' → (a.setP path y).sk.noBad = true → RepA c (a.setP path y) (pre ++ (mid' ++ post))) := by
  obtain ⟨o', v', h1, h2, h3, h4, _, h5⟩ := (show RepA c (.sv id ver path lo hi) [v] from ha)
  rw [ho] at h1; cases h1
  obtain ⟨b, off, m, s, g1, g2, g3, g4, g5, g6, g7, g8⟩ := h5 hv.symm rfl
  obtain ⟨b', cs, T, q1, q2, q3, q4⟩ := hs.obj id _ v' ho h2
  have hbb : b' = b := by rw [q1] at g1; cases g1; rfl
  subst hbb
  have hsk : a.sk.fldP path = .arr n u.sk := by rw [← getP_sk, hg]; rfl
  have hsk' : a.sk.fldP path = .arr m s := g3
  rw [hsk] at hsk'
  cases hsk'
  obtain ⟨pre, mid, post, e1, e2, e3, e4⟩ := getP_focus path q3 g2 (by rw [hg]; rfl)
  rw [hg] at e3
  refine ⟨b', off, cs, T, pre, mid, post, v', List.singleton_inj.1 g8, g4, g5, g6, fun hl => by rw [e2]; exact g7 hl, h2, q1, q2, q3, q4, e1, e2, e3.1, e3.2, e4⟩
theorem sub_cells {u : Ty} {S : Nat → Prop} {w : World} {xs : List (El u)} {mid : List Value} (h : RepCs (RepC S w u) xs mid) (lo hi : Nat) : RepCs (RepC S w u) (dsub xs lo hi) ((mid.take (hi * u.csz)).drop (lo * u.csz)) :=
  RepCs.drop (fun _ _ h => RepC.length h) lo (RepCs.take (fun _ _ h => RepC.length h) hi h)
theorem sv_sl (hs : Sim c) {id ver lo hi : Nat} {path : List Nat} {v : Value} (ha : RepV c (.sv id ver path lo hi) v) {a : AV} (ho : c.H[id]? = some (.box a)) (hv : ver = 0) {n : Nat} {u : Ty} {xs : List (El u)} (hg : a.getP path = .v (.arr n u) xs) :
    SlRep c.S c.w u (some (dsub xs lo hi)) v := by
  obtain ⟨b, off, cs, T, pre, mid, post, pv, h1, h2, h3, h4, h5, _, _, h6, _, _, h7, _, h8, h9, _⟩ := sv_at hs ha ho hv hg
  have hlen : (dsub xs lo hi).length = hi - lo := by simp [dsub]; omega
  have hml : mid.length = n * u.csz := by rw [RepCs.length (n := u.csz) (fun _ _ h => RepC.length h) h9, h8]
  refine ⟨_, sub_cells h9 lo hi, .inr ⟨b, off, n - lo, none, by rw [h1]; show _ = Value.slice _ (dsub xs lo hi).length _; rw [hlen], by show (dsub xs lo hi).length ≤ _; rw [hlen]; omega, by omega, ?_, rfl, fun _ => rfl⟩⟩
  intro j x hj
  by_cases hlo : lo < n
  · have hj2 : mid[lo * u.csz + j]? = some x := by
      rw [List.getElem?_drop, List.getElem?_take] at hj
      split at hj
      · exact hj
      · cases hj
    have := At.row h6 h7 (show pre.length = pre.length from rfl) (lo * u.csz + j) x hj2
    rw [h5 hlo, Nat.add_assoc]
    exact this
  · have e1 : lo = n := by omega
    have e2 : hi = n := by omega
    subst e1; subst e2
    rw [List.getElem?_drop, List.getElem?_take] at hj
    split at hj
    · omega
    · cases hj
theorem peek_ok (hs : Sim c) {a : AV} {v : Value} (ha : RepV c a v) {R : Type} {k : AV → List HO → Option R} {r : R} (hr : (peekHs a).run c.H k = some r) :
    ∃ y, k y c.H = some r ∧ (∀ u o, y = .v (.sl u) o → SlRep c.S c.w u o v) ∧ (y = .nsl → v = .slice none 0 0) ∧ (∀ s, y = .v .str s → a = y) := by
  cases a with
  | hs id ver =>
    obtain ⟨o, ho, hh, hr⟩ := HM.run_get hr
    cases o <;> simp only at hr <;> try (cases hr; done)
    case row e ver' u fn xs =>
      by_cases hv : Nat.beq ver ver' = true
      · rw [if_pos hv] at hr
        have hσ := repHs ha ho (beq_nat hv).symm
        refine ⟨_, hr, fun u' o' he => ?_, fun he => (by cases he), fun s he => (by cases he)⟩
        cases he
        exact SlRep.row (hs.obj id _ v ho hσ)
      · rw [if_neg hv] at hr; cases hr
    case frz ver' u cc =>
      by_cases hv : Nat.beq ver ver' = true
      · rw [if_pos hv] at hr
        have hσ := repHs ha ho (beq_nat hv).symm
        refine ⟨_, hr, fun u' o' he => ?_, fun he => (by cases he), fun s he => (by cases he)⟩
        cases he
        exact SlRep.of (hs.obj id _ v ho hσ)
      · rw [if_neg hv] at hr; cases hr
  | sv id ver path lo hi =>
    obtain ⟨o, ho, hh, hr⟩ := HM.run_get hr
    cases o <;> simp only at hr <;> try (cases hr; done)
    rename_i bx
    cases hv : Nat.beq ver 0 with
    | false => rw [hv] at hr; cases hr
    | true =>
      rw [hv] at hr
      simp only [cond_true] at hr
      cases hg : bx.getP path <;> rw [hg] at hr <;> (try simp only at hr) <;> try (cases hr; done)
      rename_i u x
      cases u <;> (try simp only at hr) <;> try (cases hr; done)
      refine ⟨_, hr, fun u' o' he => ?_, fun he => (by cases he), fun s he => (by cases he)⟩
      cases he
      exact sv_sl hs ha ho (beq_nat hv) hg
  | v u x =>
    refine ⟨_, hr, fun u' o' he => ?_, fun he => (by cases he), fun s he => rfl⟩
    cases he
    exact SlRep.of ha
  | nsl => exact ⟨_, hr, fun u' o' he => (by cases he), fun _ => List.singleton_inj.1 (show RepA c .nsl [v] from ha), fun s he => (by cases he)⟩
  | _ => exact ⟨_, hr, fun u' o' he => (by cases he), fun he => (by cases he), fun s he => (by cases he)⟩
def Holes (c c' : Cx) : Prop := ∀ i : Nat, c.H[i]? = some HO.hole → c'.H[i]? = some HO.hole
/-- frozen: what is handed on is data -/
theorem unhs_okA : ∀ {a : AV} {c : Cx}, Sim c → ∀ {cs : List Value}, RepA c a cs → ∀ {R : Type} {k : AV → List HO → Option R} {r : R}, (unhs a).run c.H k = some r →
    ∃ c' a', Fr c c' ∧ Mn c c' ∧ Sim c' ∧ c'.w = c.w ∧ (c'.H.length = c.H.length ∧ Holes c c') ∧ RepA c' a' cs ∧ a'.sk = a.sk ∧ k a' c'.H = some r := by
  intro a
  induction a with
  | hs id ver =>
    intro c hs cs ha R k r hr
    obtain ⟨o, ho, hh, hr⟩ := HM.run_get hr
    obtain ⟨w1, hw1⟩ := (show ∃ u, cs = [u] from by obtain ⟨_, _, _, _, _, _, ⟨_, _, _, h⟩, _⟩ := ha; exact ⟨_, h⟩)
    subst hw1
    cases o <;> simp only at hr <;> try (cases hr; done)
    case row e ver' u fn xs =>
      by_cases hv : Nat.beq ver ver' = true
      · rw [if_pos hv] at hr
        have hσ := repHs (c := c) (v := w1) ha ho (beq_nat hv).symm
        obtain ⟨o0, _, hr⟩ := HM.run_set hr
        have hobj := hs.obj id _ w1 ho hσ
        have hsl := SlRep.row hobj
        have hlive : ∀ b, blkOf w1 = some b → c.live b := fun b hb => ⟨id, _, w1, ho, hσ, hb⟩
        obtain ⟨f1, f2, f3⟩ := upd hs ho hσ (.frz ver u (rowC fn xs)) w1 (fun b => c.S b ∨ blkOf w1 = some b) c.w (fun _ h => .inl h)
          (fun b hb => hb.elim .inl (fun h => .inr (.inr h))) (Nat.le_refl _) rfl rfl rfl (fun _ _ _ => rfl) (fun b hb => by cases hb)
          (fun b hb => hb.elim (hs.lt b) (fun h => hs.ltl b (hlive b h))) (fun _ => ⟨rfl, by rw [show HO.ver (.row e ver' u fn xs) = ver' from rfl, show HO.ver (.frz ver u (rowC fn xs)) = ver from rfl, beq_nat hv]; exact Nat.le_refl _, fun _ => ⟨rfl, fun h => by cases h⟩, fun h => by cases h⟩)
          (fun _ => hsl.rep (fun _ h => .inl h) (fun _ h => .inr h))
        exact ⟨_, .v (.sl u) (rowC fn xs), f1, f2, f3, rfl, ⟨by simp, fun i hi => by
          by_cases he : id = i
          · subst he; rw [ho] at hi; cases hi
          · show (c.H.set id _)[i]? = _; rw [List.getElem?_set_ne he]; exact hi⟩, hsl.rep (fun _ h => .inl h) (fun _ h => .inr h), rfl, hr⟩
      · rw [if_neg hv] at hr; cases hr
    case frz ver' u cc =>
      by_cases hv : Nat.beq ver ver' = true
      · rw [if_pos hv] at hr
        have hσ := repHs (c := c) (v := w1) ha ho (beq_nat hv).symm
        exact ⟨c, .v (.sl u) cc, Fr.refl c, Mn.refl c, hs, rfl, ⟨rfl, fun _ h => h⟩, hs.obj id _ w1 ho hσ, rfl, hr⟩
      · rw [if_neg hv] at hr; cases hr
  | cons a b iha ihb =>
    intro c hs cs ha R k r hr
    obtain ⟨x, y, e, h1, h2⟩ := ha
    simp only [unhs, HM.run_bind] at hr
    obtain ⟨c1, a1, f1, m1, s1, w1, l1, r1, k1, hr1⟩ := iha hs h1 hr
    obtain ⟨c2, a2, f2, m2, s2, w2, l2, r2, k2, hr2⟩ := ihb s1 (h2.mono m1) hr1
    exact ⟨c2, .cons a1 a2, f1.trans f2, m1.trans m2, s2, w2.trans w1, ⟨l2.1.trans l1.1, fun i hi => l2.2 i (l1.2 i hi)⟩, ⟨x, y, e, r1.mono m2, r2⟩, by simp only [AV.sk, k1, k2], hr2⟩
  | _ =>
    intro c hs cs ha R k r hr
    exact ⟨c, _, Fr.refl c, Mn.refl c, hs, rfl, ⟨rfl, fun _ h => h⟩, ha, rfl, hr⟩
theorem repV_of {c : Cx} {a : AV} {v : Value} (hb : a.sk.isBad = false) (h : RepV1 c a v) : RepV c a v := by
  cases a <;> first | exact h | (simp [AV.sk, Sk.isBad] at hb)
theorem repV1_of {c : Cx} {a : AV} {v : Value} (hb : a.sk.isBad = false) (h : RepV c a v) : RepV1 c a v := by
  cases a <;> first | exact h | (simp [AV.sk, Sk.isBad] at hb)
theorem unhs_ok (hs : Sim c) {a : AV} {v : Value} (ha : RepV c a v) {R : Type} {k : AV → List HO → Option R} {r : R} (hr : (unhs a).run c.H k = some r) :
    ∃ c' a', Fr c c' ∧ Mn c c' ∧ Sim c' ∧ c'.w = c.w ∧ (c'.H.length = c.H.length ∧ Holes c c') ∧ RepV c' a' v ∧ a'.sk = a.sk ∧ k a' c'.H = some r := by
  cases hb : a.sk.isBad with
  | true =>
    cases a <;> simp [AV.sk, Sk.isBad] at hb <;> try (exact ⟨c, _, Fr.refl c, Mn.refl c, hs, rfl, ⟨rfl, fun _ h => h⟩, ha, rfl, hr⟩)
  | false =>
    have h1 := repV1_of hb ha
    unfold RepV1 at h1
    cases hag : a.isAgg with
    | true =>
      rw [hag] at h1
      obtain ⟨cs, e, h2⟩ := h1
      obtain ⟨c1, a1, f1, m1, s1, w1, l1, r1, k1, hr1⟩ := unhs_okA hs h2 hr
      refine ⟨c1, a1, f1, m1, s1, w1, l1, repV_of (by rw [k1]; exact hb) ?_, k1, hr1⟩
      unfold RepV1
      rw [show a1.isAgg = true from by unfold AV.isAgg at hag ⊢; rw [k1]; exact hag]
      exact ⟨cs, e, r1⟩
    | false =>
      rw [hag] at h1
      obtain ⟨c1, a1, f1, m1, s1, w1, l1, r1, k1, hr1⟩ := unhs_okA hs h1 hr
      refine ⟨c1, a1, f1, m1, s1, w1, l1, repV_of (by rw [k1]; exact hb) ?_, k1, hr1⟩
      unfold RepV1
      rw [show a1.isAgg = false from by unfold AV.isAgg at hag ⊢; rw [k1]; exact hag]
      exact r1
end
end Go.Ab
