import Derived.Test.YtjmikonopapihaaAbDraw2
/-
  AB: any order of an open region goes as the listed one.
-/
namespace Go.Ab
set_option linter.unusedSimpArgs false
section
variable {P : Program} {K : Specs}
theorem stepV_stepA {all : List Oper} {o : Oper} {nid : Nat} {t : List AV} {h h' : List HO} {av : AV} {R W : List Nat} (e : stepV P K all o nid t h = some (av, h', R, W)) : stepA P K all o nid t h = some (putA t o.dst av, h') := by
  have main : (opA P K (evalO t) o.op nid).fx h [] [] = some (av, h', R, W) → ((opA P K (evalO t) o.op nid).ex h).map (fun p => (putA t o.dst p.1, p.2)) = some (putA t o.dst av, h') := fun e => by
    rw [← HM.fx_ex _ h [] [], e]; rfl
  unfold stepV at e
  unfold stepA
  cases hg : o.guard with
  | none => rw [hg] at e; exact main e
  | some gd =>
    obtain ⟨j, want⟩ := gd
    rw [hg] at e
    simp only at e ⊢
    cases hv : gval all t j <;> rw [hv] at e <;> (try simp only at e) <;> try (cases e; done)
    rename_i u b
    cases u <;> (try simp only at e) <;> try (cases e; done)
    cases hw : (bif want then b else !b) with
    | true => rw [hw] at e; simp only [hw, if_true]; exact main e
    | false =>
      rw [hw] at e
      simp only [cond_false, Option.some.injEq, Prod.mk.injEq] at e
      obtain ⟨e1, e2, e3, e4⟩ := e
      subst e1; subst e2
      simp only [hw]
      rfl
theorem binds_any (e : Edge) : Region.binds .any e = bindsB e := by
  unfold Region.binds bindsB
  cases e.ground <;> rfl
structure Inv (P : Program) (K : Specs) (ops : Array Oper) (base : Nat) (M : Nat → Nat) (H : List HO) (l : List It) (listed : Array Bool) : Prop where
  ind : l.Pairwise fun x y => Nat.testBit (M y.i) x.i = true ∨ Ind ops.toList x y
  ord : l.Pairwise fun x y => x.i < y.i ∧ x.nid + slots x.o.op ≤ y.nid
  own : ∀ x ∈ l, ∀ w ∈ x.wr, ∀ y ∈ l, y.nid ≤ w → w < y.nid + slots y.o.op → y.i = x.i ∨ Nat.testBit (M x.i) y.i = true
  bas : ∀ x ∈ l, base ≤ x.nid
  msk : ∀ x ∈ l, ∀ j, Nat.testBit (M x.i) j = true → ∃ e ∈ x.o.after.toList, bindsB e = true ∧ (j = e.on ∨ Nat.testBit (M e.on) j = true)
  bck : ∀ x ∈ l, backB x.i x.o.after.toList = true
  op : ∀ x ∈ l, ops[x.i]? = some x.o
  hol : ∀ x ∈ l, HolesAt H x.nid (slots x.o.op)
  size : listed.size = ops.size
  lst : ∀ i, i < ops.size → (listed.getD i true = false ↔ ∃ x ∈ l, x.i = i)
  cls : ∀ i, listed.getD i false = true → ∀ j, Nat.testBit (M i) j = true → listed.getD j false = true
theorem getD_contra {l : Array Bool} {i : Nat} (h1 : l.getD i true = false) (h2 : l.getD i false = true) : False := by
  rw [Array.getD_eq_getD_getElem?] at h1 h2
  cases h : l[i]? with
  | none => rw [h] at h1; cases h1
  | some b => rw [h] at h1 h2; simp at h1 h2; rw [h1] at h2; cases h2
theorem lt_of_op {ops : Array Oper} {i : Nat} {o : Oper} (h : ops[i]? = some o) : i < ops.size := (Array.getElem?_eq_some_iff.1 h).1
theorem any_ok (hK : ∀ f, ∀ s ∈ K f, SpecOk P f s) {ops : Array Oper} {base : Nat} {M : Nat → Nat} {R : Type} {k : List AV → List HO → Option R} {r : R} {Q : Exit → Act → World → Prop} {t' : List AV} {h' : List HO} (hfin : k t' h' = some r) : ∀ (fuel : Nat) (l : List It) (listed : Array Bool) (t : List AV) (a : Act) (c : Cx),
    l.length = fuel → Inv P K ops base M c.H l listed → Runs P K ops.toList l t c.H t' h' → Sim c → Sl c t a →
    (∀ c' a', Fr c c' → Mn c c' → Sim c' → Sl c' t' a' → a'.tmps.size = a.tmps.size → c'.H = h' → Q .normal a' c'.w) → wpAny P .any ops Q fuel listed a c.w
  | 0, l, listed, t, a, c, hlen, inv, hr, hs, hl, hk => by
    have : l = [] := List.eq_nil_of_length_eq_zero hlen
    subst this
    cases hr
    refine ⟨?_, hk c a (Fr.refl c) (Mn.refl c) hs hl rfl rfl⟩
    refine List.eq_nil_iff_forall_not_mem.2 fun i hi => ?_
    obtain ⟨h0, o, ho, _⟩ := mem_ready.1 hi
    obtain ⟨x, hx, _⟩ := (inv.lst i (lt_of_op ho)).1 h0
    cases hx
  | fuel + 1, l, listed, t, a, c, hlen, inv, hr, hs, hl, hk => by
    refine ⟨fun hempty => ?_, fun i hi => ?_⟩
    · exfalso
      cases l with
      | nil => cases hlen
      | cons x l =>
        have hx : x ∈ x :: l := List.mem_cons_self ..
        have hlt := lt_of_op (inv.op x hx)
        have : x.i ∈ Region.ready .any ops listed := by
          refine mem_ready.2 ⟨(inv.lst x.i hlt).2 ⟨x, hx, rfl⟩, x.o, inv.op x hx, fun e he hb => ?_⟩
          rw [binds_any] at hb
          have hon := backB_spec (inv.bck x hx) e (by simpa using he) hb
          cases hle : listed.getD e.on false with
          | true => rfl
          | false =>
            exfalso
            have hlt2 : e.on < ops.size := Nat.lt_trans hon hlt
            have : listed.getD e.on true = false := by
              rw [Array.getD_eq_getD_getElem?] at hle ⊢
              rw [Array.getElem?_eq_getElem (by rw [inv.size]; exact hlt2)] at hle ⊢
              exact hle
            obtain ⟨y, hy, hyi⟩ := (inv.lst e.on hlt2).1 this
            rcases List.mem_cons.1 hy with q | q
            · subst q; omega
            · have := (List.pairwise_cons.1 inv.ord).1 y q; omega
        rw [hempty] at this
        cases this
    · obtain ⟨h0, o, ho, hedge⟩ := mem_ready.1 hi
      obtain ⟨x, hx, hxi⟩ := (inv.lst i (lt_of_op ho)).1 h0
      subst hxi
      have hxo := inv.op x hx
      rw [hxo] at ho
      cases ho
      obtain ⟨pre, post, hsplit⟩ := List.append_of_mem hx
      subst hsplit
      have hbit : ∀ j, Nat.testBit (M x.i) j = true → listed.getD j false = true := fun j hj => by
        obtain ⟨e, g1, g2, g3⟩ := inv.msk x hx j hj
        have hon := hedge e (by simpa using g1) (by rw [binds_any]; exact g2)
        rcases g3 with g3 | g3
        · rw [g3]; exact hon
        · exact inv.cls e.on hon j g3
      have hpre : ∀ y ∈ pre, Ind ops.toList y x := fun y hy => by
        have := (List.pairwise_append.1 inv.ind).2.2 y hy x (List.mem_cons_self ..)
        rcases this with q | q
        · exfalso
          have hy' : y ∈ pre ++ x :: post := List.mem_append_left _ hy
          exact getD_contra ((inv.lst y.i (lt_of_op (inv.op y hy'))).2 ⟨y, hy', rfl⟩) (hbit y.i q)
        · exact q
      have hr2 := bubble hr hpre
      cases hr2 with
      | cons e rest =>
        rename_i av h1
        have hsub : (pre ++ post).Sublist (pre ++ x :: post) := List.Sublist.append (List.Sublist.refl _) (List.sublist_cons_self ..)
        have hstep := step_ok (Q := Q) (next := wpAny P .any ops Q fuel (listed.setIfInBounds x.i true)) hK hs hxo hl (stepV_stepA e) (fun _ => inv.hol x hx) fun c' a' f1 f2 f3 f4 f5 f6 => by
          refine any_ok (base := base) (M := M) hK hfin fuel (pre ++ post) _ _ a' c' ?_ ?_ (by rw [f6]; exact rest) f3 f4 fun c'' a'' g1 g2 g3 g4 g5 g6 => hk c'' a'' (f1.trans g1) (f2.trans g2) g3 g4 (g5.trans f5) g6
          · simp only [List.length_append, List.length_cons] at hlen ⊢; omega
          · have hne : ∀ y ∈ pre ++ post, y.i ≠ x.i ∧ (y.nid + slots y.o.op ≤ x.nid ∨ x.nid + slots x.o.op ≤ y.nid) := fun y hy => by
              rcases List.mem_append.1 hy with q | q
              · have := (List.pairwise_append.1 inv.ord).2.2 y q x (List.mem_cons_self ..)
                exact ⟨by omega, .inl this.2⟩
              · have := (List.pairwise_cons.1 (List.pairwise_append.1 inv.ord).2.1).1 y q
                exact ⟨by omega, .inr this.2⟩
            have hmem : ∀ y ∈ pre ++ post, y ∈ pre ++ x :: post := fun y hy => hsub.subset hy
            refine ⟨inv.ind.sublist hsub, inv.ord.sublist hsub, fun y hy w hw z hz => inv.own y (hmem y hy) w hw z (hmem z hz), fun y hy => inv.bas y (hmem y hy), fun y hy => inv.msk y (hmem y hy), fun y hy => inv.bck y (hmem y hy), fun y hy => inv.op y (hmem y hy), fun y hy j hj => ?_, by simpa using inv.size, fun i hi => ?_, fun i hi j hj => ?_⟩
            · obtain ⟨_, _, _, _, hloc⟩ := stepV_loc e (t2 := t) (fun _ _ => rfl) rfl (fun _ _ => rfl)
              rw [f6]
              have hh := inv.hol y (hmem y hy) j hj
              rcases hloc (y.nid + j) with ⟨q, _⟩ | ⟨_, _, q⟩
              · exfalso
                rcases inv.own x hx _ q y (hmem y hy) (by omega) (by omega) with g | g
                · exact (hne y hy).1 g
                · exact getD_contra ((inv.lst y.i (lt_of_op (inv.op y (hmem y hy)))).2 ⟨y, hmem y hy, rfl⟩) (hbit y.i g)
              · rw [q]; exact hh
            · by_cases hix : x.i = i
              · subst hix
                constructor
                · intro h
                  exfalso
                  rw [Array.getD_eq_getD_getElem?, Array.getElem?_setIfInBounds_self_of_lt (by rw [inv.size]; exact hi)] at h
                  cases h
                · rintro ⟨y, hy, hyi⟩
                  exact absurd hyi (hne y hy).1
              · rw [getD_set_ne true hix, inv.lst i hi]
                constructor
                · rintro ⟨y, hy, hyi⟩
                  refine ⟨y, ?_, hyi⟩
                  rcases List.mem_append.1 hy with q | q
                  · exact List.mem_append_left _ q
                  · rcases List.mem_cons.1 q with q | q
                    · subst q; exact absurd hyi hix
                    · exact List.mem_append_right _ q
                · rintro ⟨y, hy, hyi⟩
                  exact ⟨y, hmem y hy, hyi⟩
            · by_cases hix : x.i = i
              · subst hix
                exact getD_set_true (hbit j hj)
              · rw [getD_set_ne false hix] at hi
                exact getD_set_true (inv.cls i hi j hj)
        unfold wpOp
        rw [hxo]
        simp only
        by_cases hw : Region.wanted x.o (yielded ops a.tmps) = true
        · rw [if_pos hw] at hstep ⊢
          exact .inl hstep
        · rw [if_neg hw] at hstep ⊢
          exact hstep
theorem good_ge {all : List Oper} {base : Nat} {M : Nat → Nat} : ∀ {l : List It} {i nid : Nat}, Good all base M l i nid → ∀ x ∈ l, i ≤ x.i ∧ nid ≤ x.nid
  | _, _, _, .nil, x, hx => by cases hx
  | _, _, _, .cons hi hn _ _ _ r, x, hx => by
    rcases List.mem_cons.1 hx with q | q
    · subst q; omega
    · have := good_ge r x q; omega
theorem good_ord {all : List Oper} {base : Nat} {M : Nat → Nat} : ∀ {l : List It} {i nid : Nat}, Good all base M l i nid → l.Pairwise fun x y => x.i < y.i ∧ x.nid + slots x.o.op ≤ y.nid
  | _, _, _, .nil => .nil
  | _, _, _, .cons hi hn _ _ _ r => .cons (fun y hy => by have := good_ge r y hy; omega) (good_ord r)
theorem good_each {all : List Oper} {base : Nat} {M : Nat → Nat} : ∀ {l : List It} {i nid : Nat}, Good all base M l i nid → ∀ x ∈ l, backB x.i x.o.after.toList = true ∧ (∀ j, Nat.testBit (M x.i) j = true → ∃ e ∈ x.o.after.toList, bindsB e = true ∧ (j = e.on ∨ Nat.testBit (M e.on) j = true)) ∧
    (∀ w ∈ x.wr, OwnAt all (M x.i) base x.nid (slots x.o.op) w)
  | _, _, _, .nil, x, hx => by cases hx
  | _, _, _, .cons hi hn hb hm ho r, x, hx => by
    rcases List.mem_cons.1 hx with q | q
    · subst q; subst hi; subst hn; exact ⟨hb, hm, ho⟩
    · exact good_each r x q
theorem good_get {all : List Oper} {base : Nat} {M : Nat → Nat} : ∀ {l : List It} {i nid : Nat}, Good all base M l i nid → ∀ (p : Nat) (x : It), l[p]? = some x → x.i = i + p
  | _, _, _, .nil, p, x, h => by simp at h
  | _, _, _, .cons hi _ _ _ _ r, p, x, h => by
    cases p with
    | zero => simp at h; subst h; exact hi
    | succ p => have := good_get r p x h; omega
theorem good_nid {all : List Oper} {base : Nat} {M : Nat → Nat} : ∀ {l : List It} {i nid : Nat}, Good all base M l i nid → ∀ (p : Nat) (x : It), l[p]? = some x → x.nid = nid + slotsL ((l.map It.o).take p)
  | _, _, _, .nil, p, x, h => by simp at h
  | _, _, _, .cons _ hn _ _ _ r, p, x, h => by
    cases p with
    | zero => simp at h; subst h; simpa [slotsL] using hn
    | succ p =>
      have := good_nid r p x h
      simp only [List.map_cons, List.take_succ_cons, slotsL]
      omega
theorem good_holes {all : List Oper} {base : Nat} {M : Nat → Nat} : ∀ {l : List It} {i nid : Nat}, Good all base M l i nid → ∀ x ∈ l, x.nid + slots x.o.op ≤ nid + slotsL (l.map It.o)
  | _, _, _, .nil, x, hx => by cases hx
  | _, _, _, .cons (x := y) (l := l) hi hn _ _ _ r, x, hx => by
    have e : slotsL ((y :: l).map It.o) = slots y.o.op + slotsL (l.map It.o) := rfl
    rcases List.mem_cons.1 hx with q | q
    · subst q; rw [e]; omega
    · have := good_holes r x q; rw [e]; omega
theorem slots_take : ∀ {l : List Oper} {p q : Nat} {o : Oper}, l[p]? = some o → p < q → slotsL (l.take p) + slots o.op ≤ slotsL (l.take q)
  | [], _, _, _, h, _ => by simp at h
  | x :: l, 0, q, o, h, hq => by
    cases q with
    | zero => omega
    | succ q => simp at h; subst h; simp only [List.take_succ_cons, List.take_zero, slotsL]; omega
  | x :: l, p + 1, q, o, h, hq => by
    cases q with
    | zero => omega
    | succ q =>
      have := slots_take (l := l) (p := p) (q := q) h (by omega)
      simp only [List.take_succ_cons, slotsL]; omega
theorem draw_ok (hm : P.follows .mixedOrders = true) (hK : ∀ f, ∀ s ∈ K f, SpecOk P f s) : DrawOk P K := by
  intro ops id R k r Q c t a hs hl hr hk
  obtain ⟨its, t', h', M, q1, q2, q3, q4, q5, q6, _⟩ := opsD_runs ops.toList 0 c.H.length t _ [] [] hr rfl
  obtain ⟨c0, e1, e2, e3, e4, e5⟩ := ext_holes hs (slotsL ops.toList)
  obtain ⟨d1, d2, d3⟩ := drewC e3
  refine wp_region_any hm ?_
  have hw : ({ c.w with drawn := c.w.drawn + 1 } : World) = (⟨c0.S, c0.σ, c0.H, c0.w.drew⟩ : Cx).w := by show _ = c0.w.drew; rw [e5]; rfl
  rw [hw]
  have hilen : its.length = ops.size := by rw [← Array.length_toList, ← q3, List.length_map]
  have hop : ∀ (p : Nat) (x : It), its[p]? = some x → ops[p]? = some x.o := fun p x hp => by
    rw [← Array.getElem?_toList, ← q3, List.getElem?_map, hp]
    rfl
  refine any_ok (base := c.H.length) (M := M) hK q2 ops.size its _ t a ⟨c0.S, c0.σ, c0.H, c0.w.drew⟩ hilen ?_ (by show Runs P K ops.toList its t c0.H t' h'; rw [e4]; exact q1) d3 ((hl.mono e2).mono d2)
    fun c' a' f1 f2 f3 f4 f5 f6 => hk c' t' a' ((e1.trans d1).trans f1) ((e2.trans d2).trans f2) f3 f4 f5 (by rw [f6]; exact q2)
  have hxi : ∀ x ∈ its, ∃ p : Nat, its[p]? = some x ∧ x.i = p := fun x hx => by
    obtain ⟨p, hp⟩ := List.getElem?_of_mem hx
    exact ⟨p, hp, by have := good_get q5 p x hp; omega⟩
  refine ⟨q6, good_ord q5, fun x hx w hw y hy hy1 hy2 => ?_, fun x hx => (good_ge q5 x hx).2, fun x hx => (good_each q5 x hx).2.1, fun x hx => (good_each q5 x hx).1, fun x hx => ?_, fun x hx j hj => ?_, by simp, fun i hi => ?_, fun i hi => ?_⟩
  · rcases (good_each q5 x hx).2.2 w hw with g | g | ⟨p, o, g1, g2, g3, g4⟩
    · have := (good_ge q5 y hy).2; omega
    · left
      obtain ⟨px, hpx, hpxi⟩ := hxi x hx
      obtain ⟨py, hpy, hpyi⟩ := hxi y hy
      have ex := good_nid q5 px x hpx
      have ey := good_nid q5 py y hpy
      have ox : (its.map It.o)[px]? = some x.o := by rw [List.getElem?_map, hpx]; rfl
      have oy : (its.map It.o)[py]? = some y.o := by rw [List.getElem?_map, hpy]; rfl
      rw [hpxi, hpyi]
      rcases Nat.lt_trichotomy px py with q | q | q
      · have := slots_take ox q; omega
      · exact q.symm
      · have := slots_take oy q; omega
    · right
      obtain ⟨py, hpy, hpyi⟩ := hxi y hy
      have ey := good_nid q5 py y hpy
      rw [q3] at ey
      have oy : ops.toList[py]? = some y.o := by rw [← q3, List.getElem?_map, hpy]; rfl
      rw [hpyi]
      rcases Nat.lt_trichotomy p py with q | q | q
      · have := slots_take g1 q; omega
      · rw [← q]; exact g2
      · have := slots_take oy q; omega
  · obtain ⟨p, hp, hpi⟩ := hxi x hx
    rw [hpi]
    exact hop p x hp
  · have h1 := (good_ge q5 x hx).2
    have h2 := good_holes q5 x hx
    rw [q3] at h2
    show c0.H[x.nid + j]? = _
    rw [e4, List.getElem?_append_right (by omega), List.getElem?_replicate, if_pos (by omega)]
  · constructor
    · intro _
      have : i < its.length := by rw [hilen]; exact hi
      exact ⟨its[i], List.getElem_mem this, by have := good_get q5 i its[i] (List.getElem?_eq_getElem this); omega⟩
    · intro _
      rw [Array.getD_eq_getD_getElem?, Array.getElem?_replicate, if_pos hi]
      rfl
  · rw [Array.getD_eq_getD_getElem?, Array.getElem?_replicate] at hi
    split at hi <;> cases hi
end
end Go.Ab
