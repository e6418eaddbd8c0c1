import Derived.Test.YtjmikonopapihaaAbReg
/-
  AB: a context by a pattern, in place.
-/
namespace Go.Ab
set_option linter.unusedSimpArgs false
theorem set_same {α : Type} {t : List α} {i : Nat} {d x : α} (h : t.getD i d = x) (hx : x ≠ d) : t.set i x = t := by
  have h1 := getD_some h hx
  have hlt := lt_of_get h1
  have : t[i] = x := (List.getElem?_eq_some_iff.1 h1).2
  rw [← this]
  exact List.set_getElem_self hlt
theorem know_same {t : List AV} {c : Operand} {b : Bool} (h : evalO t c = .v .bool b) : knowA c b t = t := by
  cases c <;> try rfl
  rename_i i
  exact set_same (d := AV.undef) h (by intro e; cases e)
theorem gslot_eval {all : List Oper} {t : List AV} {j : Nat} {b : Bool} (h : gval all t j = .v .bool b) : knowA (gslot all j) b t = t := by
  unfold gval at h
  unfold gslot
  cases ho : all[j]? with
  | none => rw [ho] at h; cases h
  | some o =>
    rw [ho] at h
    simp only at h ⊢
    cases hd : o.dst with
    | none => rw [hd] at h; cases h
    | some d =>
      rw [hd] at h
      exact know_same (c := .tmp d) h
theorem want_eq {want b : Bool} (h : (bif want then b else !b) = true) : b = want := by cases want <;> cases b <;> first | rfl | cases h
theorem want_ne {want b : Bool} (h : (bif want then b else !b) = false) : b = !want := by cases want <;> cases b <;> first | rfl | cases h
theorem opsB_eq {P : Program} {K : Specs} {all : List Oper} {R : Type} {k : List AV → List HO → Option R} : ∀ (l : List Oper) (t : List AV) (h : List HO), opsB P K all l t h k = opsA P K all l t h k
  | [], _, _ => rfl
  | o :: r, t, h => by
    have ih := opsB_eq (P := P) (K := K) (all := all) (k := k) r
    simp only [opsB, opsA]
    cases hg : o.guard with
    | none =>
      simp only
      cases ho : o.op with
      | pick c x y =>
        simp only [opA, pickA, slots, holesA]
        cases hv : evalO t c <;> try rfl
        rename_i u b
        cases u <;> try rfl
        cases b with
        | true =>
          have e := know_same hv
          simp only [HM.run, cond_true]
          rw [e, ih]
        | false =>
          have e := know_same hv
          simp only [HM.run, cond_false]
          rw [e, ih]
      | _ => simp only [ih]
    | some g =>
      obtain ⟨j, want⟩ := g
      simp only
      cases hv : gval all t j <;> try rfl
      rename_i u b
      cases u <;> try rfl
      simp only
      cases hw : (bif want then b else !b) with
      | true =>
        have e1 := want_eq hw
        subst e1
        simp only [cond_true, gslot_eval hv, ih]
      | false =>
        have e1 := want_ne hw
        subst e1
        simp only [cond_false, gslot_eval hv, ih]
theorem opsE_eq {P : Program} {K : Specs} {all : List Oper} {base : Nat} {R : Type} {k : List AV → List HO → Option R} : ∀ (l : List Oper) (i nid : Nat) (t : List AV) (h : List HO) (ms : List Nat) (done : List Rec), opsE P K all base ms done l i nid t h k = opsD P K all base ms done l i nid t h k
  | [], _, _, _, _, _, _ => rfl
  | o :: r, i, nid, t, h, ms, done => by
    have ih := opsE_eq (P := P) (K := K) (all := all) (base := base) (k := k) r
    simp only [opsE, opsD]
    cases hq : (backB i o.after.toList && !(isSel o.op)) with
    | false => rfl
    | true =>
      simp only [cond_true]
      cases hg : o.guard with
      | none =>
        simp only
        cases ho : o.op with
        | pick c x y =>
          simp only [opA, pickA, slots]
          cases hv : evalO t c <;> try rfl
          rename_i u b
          cases u <;> try rfl
          cases b with
          | true =>
            have e := know_same hv
            simp only [HM.runF, cond_true, ownW, Bool.and_true, Nat.add_zero]
            rw [e]
            simp only [ih]
          | false =>
            have e := know_same hv
            simp only [HM.runF, cond_false, ownW, Bool.and_true, Nat.add_zero]
            rw [e]
            simp only [ih]
        | _ => simp only [ih]
      | some g =>
        obtain ⟨j, want⟩ := g
        simp only
        cases hv : gval all t j <;> try rfl
        rename_i u b
        cases u <;> try rfl
        simp only
        cases hw : (bif want then b else !b) with
        | true =>
          have e1 := want_eq hw
          subst e1
          simp only [cond_true, gslot_eval hv, ih]
        | false =>
          have e1 := want_ne hw
          subst e1
          simp only [cond_false, gslot_eval hv, ih]
/-- what is kept, of the first n objects -/
structure KpN (n : Nat) (c c' : Cx) : Prop where
  sub : ∀ b, c.S b → c'.S b
  heapS : ∀ b, c.S b → c'.w.heap[b]? = c.w.heap[b]?
  objs : ∀ (i : Nat) (o : HO) (v : Value), i < n → c.H[i]? = some o → c.σ[i]? = some v → o.isHole = false →
    ∃ (o' : HO) (v' : Value), c'.H[i]? = some o' ∧ c'.σ[i]? = some v' ∧ o'.isHole = false ∧ (o'.isBox = true → o.isBox = true ∧ v' = v)
theorem Kp.toN {c c' : Cx} (h : Kp c c') (n : Nat) : KpN n c c' := ⟨h.sub, h.heapS, fun i o v _ => h.objs i o v⟩
theorem KpN.toKp {n : Nat} {c c' : Cx} (h : KpN n c c') (hn : c.H.length ≤ n) : Kp c c' := ⟨h.sub, h.heapS, fun i o v h1 => h.objs i o v (Nat.lt_of_lt_of_le (lt_of_get h1) hn) h1⟩
theorem Kp.transN {n : Nat} {a b c : Cx} (h : Kp a b) (k : KpN n b c) (hn : a.H.length ≤ n) : Kp a c := ⟨fun x hx => k.sub x (h.sub x hx), fun x hx => (k.heapS x (h.sub x hx)).trans (h.heapS x hx), fun i o v h1 h2 h3 => by
  obtain ⟨o1, v1, g1, g2, g3, g4⟩ := h.objs i o v h1 h2 h3
  obtain ⟨o2, v2, k1, k2, k3, k4⟩ := k.objs i o1 v1 (Nat.lt_of_lt_of_le (lt_of_get h1) hn) g1 g2 g3
  exact ⟨o2, v2, k1, k2, k3, fun e => ⟨(g4 (k4 e).1).1, (k4 e).2.trans (g4 (k4 e).1).2⟩⟩⟩
theorem ren_id : ∀ a : AV, a.ren (fun i => i) zeroN = a
  | .cons a b => by show AV.cons _ _ = _; rw [ren_id a, ren_id b]
  | .fn f c => by show AV.fn _ _ = _; rw [ren_id c]
  | .tup a => by show AV.tup _ = _; rw [ren_id a]
  | .hs id ver => by show AV.hs id (0 + ver) = _; rw [Nat.zero_add]
  | .v _ _ | .nsl | .nptr | .ptr _ _ _ | .pv _ _ | .sv _ _ _ _ _ | .nfn | .nil | .undef => rfl
theorem view_id {c : Cx} (hs : Sim c) : View c (fun i => i) c.H := by
  refine ⟨fun id o' h => ?_⟩
  have hσ : id < c.σ.length := by rw [hs.len]; exact lt_of_get h
  refine ⟨o', c.σ[id], h, List.getElem?_eq_getElem hσ, ?_⟩
  cases ho : o'.isBox with
  | false => exact .inl ⟨rfl, rfl⟩
  | true =>
    cases o' <;> try (cases ho; done)
    rename_i a
    exact .inr ⟨a, a, rfl, by rw [ren_id], rfl, fun _ h => h⟩
theorem frzT_ex : ∀ {tp : TP} {c : Cx}, Sim c → ∀ {t t' : List AV} {a : Act}, Sl c t a → ∀ {h' : List HO}, (frzT tp t).ex c.H = some (t', h') → ∃ c', Fz c c' ∧ c'.H = h' ∧ Sl c' t' a
  | .nil, c, hs, t, t', a, hl, h', e => by cases e; exact ⟨c, Fz.refl hs, rfl, hl⟩
  | .cons i p r, c, hs, t, t', a, hl, h', e => by
    obtain ⟨x, h1, e1, e2⟩ := HM.ex_bind_some e
    obtain ⟨c1, z1, t1, r1, _⟩ := frzP_exV hs (hl.at_ i) e1
    subst t1
    have hl1 : Sl c1 (t.set i x) a := by
      refine ⟨fun j => ?_, by simpa using hl.len, hl.defers⟩
      by_cases hij : i = j
      · subst hij
        by_cases hi : i < t.length
        · rw [List.getD_eq_getElem?_getD, List.getElem?_set_self hi]; exact r1
        · rw [List.getD_eq_getElem?_getD, List.getElem?_eq_none (by rw [List.length_set]; exact Nat.le_of_not_lt hi)]; trivial
      · rw [List.getD_eq_getElem?_getD, List.getElem?_set_ne hij, ← List.getD_eq_getElem?_getD]
        exact (hl.at_ j).mono z1.mn
    obtain ⟨c2, z2, t2, r2⟩ := frzT_ex (tp := r) z1.sim hl1 e2
    exact ⟨c2, z1.trans z2, t2, r2⟩
theorem encT_len : ∀ (tp : TP) (x : ElT tp) (t : List AV), (encT tp x t).length = t.length
  | .nil, _, _ => rfl
  | .cons i a r, x, t => by show (encT r x.2 _).length = _; rw [encT_len r]; simp
/-- slots by a pattern -/
theorem encT_sl {c1 : Cx} {a : Act} : ∀ {tp : TP} {x : ElT tp} {t : List AV}, Sl c1 t a → (∀ (hp : HP) (h : List HO) (t0 : List AV), decT hp h tp t0 = some x → (∀ (p : AP) (i : Nat) (y : ElA p), decA hp h p (t0.getD i .undef) = some y → RepV c1 (encA p y) ((a.tmps[i]?).getD undef)) → Sl c1 (encT tp x t) a)
  | .nil, x, t, hl, hp, h, t0, hd, hv => hl
  | .cons i p r, x, t, hl, hp, h, t0, hd, hv => by
    simp only [decT] at hd
    cases h1 : decA hp h p (t0.getD i .undef) with
    | none => rw [h1] at hd; cases hd
    | some y =>
      cases h2 : decT hp h r t0 with
      | none => rw [h1, h2] at hd; cases hd
      | some z =>
        rw [h1, h2] at hd
        cases hd
        refine encT_sl (tp := r) ?_ hp h t0 h2 hv
        refine ⟨fun j => ?_, by simpa using hl.len, hl.defers⟩
        by_cases hij : i = j
        · subst hij
          by_cases hi : i < t.length
          · rw [List.getD_eq_getElem?_getD, List.getElem?_set_self hi]; exact hv p i y h1
          · rw [List.getD_eq_getElem?_getD, List.getElem?_eq_none (by rw [List.length_set]; exact Nat.le_of_not_lt hi)]; trivial
        · rw [List.getD_eq_getElem?_getD, List.getElem?_set_ne hij, ← List.getD_eq_getElem?_getD]
          exact hl.at_ j
theorem blank_sl {c : Cx} {a : Act} {n : Nat} (hn : n ≤ a.tmps.size) (hd : a.defers = []) : Sl c (blank n) a := by
  refine ⟨fun i => ?_, by unfold blank; simpa using hn, hd⟩
  unfold blank
  rw [List.getD_eq_getElem?_getD, List.getElem?_replicate]
  split <;> trivial
theorem norm_ok {c : Cx} (hs : Sim c) {t : List AV} {a : Act} (hl : Sl c t a) {tp : TP} {hp : HP} {R : Type} {k : Option (ElT tp × ElH hp) → Option R} {r : R} (h0 : k none = none) (hr : normA tp hp t c.H k = some r) :
    ∃ c' x, Fr c c' ∧ KpN (hlen hp) c c' ∧ Sim c' ∧ c'.w = c.w ∧ c'.H = encH hp x.2 ∧ (∀ n, n ≤ a.tmps.size → Sl c' (encT tp x.1 (blank n)) a) ∧ k (some x) = some r := by
  unfold normA at hr
  obtain ⟨t1, h1, e1, hr⟩ := HM.run_some hr
  obtain ⟨u, h2, e2, hr⟩ := HM.run_some hr
  obtain ⟨c1, z1, q1, sl1⟩ := frzT_ex hs hl e1
  subst q1
  obtain ⟨c2, z2, q2⟩ := frzH_ex z1.sim e2
  subst q2
  have sl2 := sl1.mono z2.mn
  have z := z1.trans z2
  cases hdT : decT hp c2.H tp t1 with
  | none => rw [hdT] at hr; simp only at hr; rw [h0] at hr; cases hr
  | some x =>
    cases hdH : decH hp c2.H hp (c2.H.take (hlen hp)) with
    | none => rw [hdT, hdH] at hr; simp only at hr; rw [h0] at hr; cases hr
    | some y =>
      rw [hdT, hdH] at hr
      simp only at hr
      have hs2 := z.sim
      have hview := view_id hs2
      have hle : hlen hp ≤ c2.H.length := by
        have := (decH_entry hdH).1
        rw [List.length_take] at this
        omega
      have hσ : ∀ (id : Nat) (v : Value), id < hlen hp → c2.σ[id]? = some v → (c2.σ.take (hlen hp))[id]? = some v := fun id v hi hv => by
        rw [List.getElem?_take, if_pos hi]; exact hv
      have hrec := recode (σ1 := c2.σ.take (hlen hp)) hs2 hview hdH hσ
      obtain ⟨hs3, hl3⟩ := recode_sim hs2 hview hdH (by rw [List.length_take, hs2.len]; omega) (fun i _ => ⟨i, rfl⟩) hσ
      have fr3 : Fr c2 ⟨c2.S, c2.σ.take (hlen hp), encH hp y, c2.w⟩ := ⟨fun b h => .inl h, fun b h => .inl (hl3 b h), Nat.le_refl _, rfl, rfl, rfl, fun _ _ _ => rfl⟩
      refine ⟨⟨c2.S, c2.σ.take (hlen hp), encH hp y, c2.w⟩, (x, y), z.fr.trans fr3, ⟨z.mn.sub, z.mn.heapS, fun i o v hi h1 h2 h3 => ?_⟩, hs3, z.w, rfl, fun n hn => ?_, hr⟩
      · obtain ⟨o2, v2, g1, g2, g3, _, _, g6⟩ := z.mn.objs i o v h1 h2 h3
        have hlt : i < (encH hp y).length := by rw [encH_len]; exact hi
        have h4 := List.getElem?_eq_getElem hlt
        have h5 := hσ i v2 hi g2
        obtain ⟨id, o', e, k1, k2, k3⟩ := recode_obj hview hdH (fun i _ => ⟨i, rfl⟩) hσ h4 h5
        subst e
        rw [g1] at k1; cases k1
        refine ⟨_, v2, h4, h5, ?_, fun hb => ?_⟩
        · rcases encH_shape h4 with ⟨_, e⟩ | ⟨_, _, _, _, e⟩ | e <;> rw [e] <;> rfl
        · rcases k3 with ⟨n, e⟩ | ⟨a, a', ap, x', e1, e2, _⟩ | ⟨e', ver, u', fn, xs, e1, e2⟩
          · rw [e] at hb; cases hb
          · exact g6 (by rw [e1]; rfl)
          · rw [e2] at hb; cases hb
      · refine encT_sl (blank_sl hn hl.defers) hp c2.H t1 hdT fun p i y' hy => ?_
        rw [← ren_id (t1.getD i .undef)] at hy
        exact decA_repV hrec hy (sl2.at_ i)
end Go.Ab
