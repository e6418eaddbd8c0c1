import Derived.Test.YtjmikonopapihaaAbFunc
/-
  AB: what an operation reads and writes; neighbours that may be swapped.
-/
namespace Go.Ab
set_option linter.unusedSimpArgs false
def HM.fx {α : Type} (m : HM α) (h : List HO) (rd wr : List Nat) : Option (α × List HO × List Nat × List Nat) := m.runF h rd wr fun a h' r w => some (a, h', r, w)
theorem HM.runF_fx {α R : Type} : ∀ (m : HM α) (h : List HO) (rd wr : List Nat) (k : α → List HO → List Nat → List Nat → Option R), m.runF h rd wr k = (m.fx h rd wr).bind fun p => k p.1 p.2.1 p.2.2.1 p.2.2.2
  | .ret _, _, _, _, _ => rfl
  | .get id g, h, rd, wr, k => by
    simp only [HM.fx, HM.runF]
    cases h[id]? with
    | none => rfl
    | some o => cases o <;> first | rfl | exact HM.runF_fx (g _) h _ _ k
  | .set id o m, h, rd, wr, k => by
    simp only [HM.fx, HM.runF]
    cases h[id]? with
    | none => rfl
    | some _ => exact HM.runF_fx m _ _ _ k
  | .ite c a b, h, rd, wr, k => by
    simp only [HM.fx, HM.runF]
    cases c with
    | true => exact HM.runF_fx a h _ _ k
    | false => exact HM.runF_fx b h _ _ k
  | .opt o g, h, rd, wr, k => by
    simp only [HM.fx, HM.runF]
    cases o with
    | none => rfl
    | some x => exact HM.runF_fx (g x) h _ _ k
  | .fail, _, _, _, _ => rfl
theorem HM.fx_ex {α : Type} : ∀ (m : HM α) (h : List HO) (rd wr : List Nat), (m.fx h rd wr).map (fun p => (p.1, p.2.1)) = m.ex h
  | .ret _, _, _, _ => rfl
  | .get id g, h, rd, wr => by
    simp only [HM.fx, HM.runF, HM.ex, HM.run]
    cases h[id]? with
    | none => rfl
    | some o => cases o <;> first | rfl | exact HM.fx_ex (g _) h _ _
  | .set id o m, h, rd, wr => by
    simp only [HM.fx, HM.runF, HM.ex, HM.run]
    cases h[id]? with
    | none => rfl
    | some _ => exact HM.fx_ex m _ _ _
  | .ite c a b, h, rd, wr => by
    simp only [HM.fx, HM.runF, HM.ex, HM.run]
    cases c with
    | true => exact HM.fx_ex a h _ _
    | false => exact HM.fx_ex b h _ _
  | .opt o g, h, rd, wr => by
    simp only [HM.fx, HM.runF, HM.ex, HM.run]
    cases o with
    | none => rfl
    | some x => exact HM.fx_ex (g x) h _ _
  | .fail, _, _, _ => rfl
structure Loc {α : Type} (m : HM α) (h : List HO) (rd wr : List Nat) (a : α) (h' : List HO) (rd' wr' : List Nat) : Prop where
  rsub : ∀ i ∈ rd, i ∈ rd'
  wsub : ∀ i ∈ wr, i ∈ wr'
  len : h'.length = h.length
  at_ : ∀ g : List HO, g.length = h.length → (∀ i ∈ rd', g[i]? = h[i]?) → ∃ g', m.fx g rd wr = some (a, g', rd', wr') ∧ g'.length = g.length ∧
    ∀ i : Nat, (i ∈ wr' ∧ g'[i]? = h'[i]?) ∨ ((i ∉ wr' ∨ i ∈ wr) ∧ g'[i]? = g[i]? ∧ h'[i]? = h[i]?)
theorem fx_loc {α : Type} : ∀ (m : HM α) {h : List HO} {rd wr : List Nat} {a : α} {h' : List HO} {rd' wr' : List Nat}, m.fx h rd wr = some (a, h', rd', wr') → Loc m h rd wr a h' rd' wr'
  | .ret x, h, rd, wr, a, h', rd', wr', e => by
    cases e
    refine ⟨fun _ h => h, fun _ h => h, rfl, fun g hg ha => ⟨g, rfl, rfl, fun i => .inr ⟨?_, rfl, rfl⟩⟩⟩
    by_cases hi : i ∈ wr
    · exact .inr hi
    · exact .inl hi
  | .get id f, h, rd, wr, a, h', rd', wr', e => by
    have e' := e
    simp only [HM.fx, HM.runF] at e
    cases ho : h[id]? with
    | none => rw [ho] at e; cases e
    | some o =>
      rw [ho] at e
      have key : (f o).fx h (id :: rd) wr = some (a, h', rd', wr') := by cases o <;> first | (cases e; done) | exact e
      have hole : o ≠ .hole := by intro he; subst he; cases e
      have L := fx_loc (f o) key
      refine ⟨fun i hi => L.rsub i (List.mem_cons_of_mem _ hi), L.wsub, L.len, fun g hg ha => ?_⟩
      obtain ⟨g', q1, q2, q3⟩ := L.at_ g hg ha
      refine ⟨g', ?_, q2, q3⟩
      have hgid : g[id]? = some o := by rw [ha id (L.rsub id (List.mem_cons_self ..)), ho]
      simp only [HM.fx, HM.runF, hgid]
      cases o <;> first | (exact absurd rfl hole) | exact q1
  | .set id o m, h, rd, wr, a, h', rd', wr', e => by
    simp only [HM.fx, HM.runF] at e
    cases ho : h[id]? with
    | none => rw [ho] at e; cases e
    | some o0 =>
      rw [ho] at e
      have L := fx_loc m (show m.fx (h.set id o) rd (id :: wr) = some (a, h', rd', wr') from e)
      have hlt := lt_of_get ho
      refine ⟨L.rsub, fun i hi => L.wsub i (List.mem_cons_of_mem _ hi), by rw [L.len, List.length_set], fun g hg ha => ?_⟩
      obtain ⟨g', q1, q2, q3⟩ := L.at_ (g.set id o) (by simp [hg]) (fun i hi => by
        by_cases hid : id = i
        · subst hid; rw [List.getElem?_set_self (by rw [hg]; exact hlt), List.getElem?_set_self hlt]
        · rw [List.getElem?_set_ne hid, List.getElem?_set_ne hid]; exact ha i hi)
      refine ⟨g', ?_, by rw [q2, List.length_set], fun i => ?_⟩
      · have hgid : g[id]? = some g[id] := List.getElem?_eq_getElem (by rw [hg]; exact hlt)
        simp only [HM.fx, HM.runF, hgid]
        exact q1
      · rcases q3 i with h1 | ⟨h1, h2, h3⟩
        · exact .inl h1
        · by_cases hid : id = i
          · subst hid
            refine .inl ⟨L.wsub _ (List.mem_cons_self ..), ?_⟩
            rw [h2, h3, List.getElem?_set_self (by rw [hg]; exact hlt), List.getElem?_set_self hlt]
          · rw [List.getElem?_set_ne hid] at h2 h3
            refine .inr ⟨?_, h2, h3⟩
            rcases h1 with h1 | h1
            · exact .inl h1
            · rcases List.mem_cons.1 h1 with h1 | h1
              · exact absurd h1.symm hid
              · exact .inr h1
  | .ite b x y, h, rd, wr, a, h', rd', wr', e => by
    cases b with
    | true =>
      have L := fx_loc x (show x.fx h rd wr = some (a, h', rd', wr') from e)
      exact ⟨L.rsub, L.wsub, L.len, L.at_⟩
    | false =>
      have L := fx_loc y (show y.fx h rd wr = some (a, h', rd', wr') from e)
      exact ⟨L.rsub, L.wsub, L.len, L.at_⟩
  | .opt o f, h, rd, wr, a, h', rd', wr', e => by
    cases o with
    | none => cases e
    | some x =>
      have L := fx_loc (f x) (show (f x).fx h rd wr = some (a, h', rd', wr') from e)
      exact ⟨L.rsub, L.wsub, L.len, L.at_⟩
  | .fail, h, rd, wr, a, h', rd', wr', e => by cases e
/-- one operation of a region, with what it reads and writes -/
def stepV (P : Program) (K : Specs) (all : List Oper) (o : Oper) (nid : Nat) (t : List AV) (h : List HO) : Option (AV × List HO × List Nat × List Nat) :=
  match o.guard with
  | none => (opA P K (evalO t) o.op nid).fx h [] []
  | some (j, want) => match gval all t j with
    | .v .bool b => bif (bif want then b else !b) then (opA P K (evalO t) o.op nid).fx h [] [] else some (.undef, h, [], [])
    | _ => none
section
variable {P : Program} {K : Specs} {all : List Oper}
theorem opA_congr {ρ ρ' : Operand → AV} {op : Op} {nid : Nat} (h : ∀ x ∈ op.operands.toList, ρ x = ρ' x) : opA P K ρ op nid = opA P K ρ' op nid := by
  have pairs : ∀ ps : Array (Nat × Operand), (∀ x ∈ ps.toList.map (·.2), ρ x = ρ' x) → (ps.toList.map fun q => (q.1, ρ q.2)) = (ps.toList.map fun q => (q.1, ρ' q.2)) := fun ps hp =>
    List.map_congr_left fun p hm => by rw [hp p.2 (List.mem_map.2 ⟨p, hm, rfl⟩)]
  cases op <;> simp only [Op.operands] at h <;> simp only [opA]
  case build t ps => rw [pairs ps fun x hx => h x (by simpa using hx)]
  case buildSlice t n ps => rw [pairs ps fun x hx => h x (by simpa using hx)]
  case makeFunc fn first captured =>
    cases fn <;> simp only [opA]
    rw [List.map_congr_left fun x hx => h x (by simp [hx])]
  case slice t x lo hi mx => cases lo <;> cases hi <;> cases mx <;> simp_all [opA]
  case call c =>
    obtain ⟨callee, args, ats⟩ := c
    cases callee with
    | value f =>
      simp only [Call.operands] at h
      simp only [opA]
      rw [List.map_congr_left (l := args.toList) fun x hx => h x (by simp [hx]), h f (by simp)]
    | invoke _ _ => simp only [opA]
    | builtin b =>
      simp only [Call.operands] at h
      cases b <;> simp only [opA]
      case len =>
        cases ha : args.toList with
        | nil => rfl
        | cons x l =>
          cases l with
          | cons _ _ => rfl
          | nil =>
            have : ρ x = ρ' x := h x (by simp [← Array.mem_toList_iff, ha])
            show (match [x], ats.toList with | [x], [t] => lenA P t (ρ x) | _, _ => HM.fail) = _
            cases ats.toList with
            | nil => rfl
            | cons t l =>
              cases l with
              | nil => show lenA P t (ρ x) = lenA P t (ρ' x); rw [this]
              | cons _ _ => rfl
      case append =>
        cases ha : args.toList with
        | nil => rfl
        | cons x l =>
          cases l with
          | nil => rfl
          | cons y l' =>
            cases l' with
            | cons _ _ => rfl
            | nil =>
              have h1 : ρ x = ρ' x := h x (by simp [← Array.mem_toList_iff, ha])
              have h2 : ρ y = ρ' y := h y (by simp [← Array.mem_toList_iff, ha])
              cases ats.toList with
              | nil => rfl
              | cons t l =>
                cases l with
                | nil => rfl
                | cons t' l' =>
                  cases l' with
                  | cons _ _ => rfl
                  | nil => show (bif Nat.beq t t' then appA P t (ρ x) (ρ y) nid else .fail) = (bif Nat.beq t t' then appA P t (ρ' x) (ρ' y) nid else .fail); rw [h1, h2]
      case copy =>
        cases ha : args.toList with
        | nil => rfl
        | cons x l =>
          cases l with
          | nil => rfl
          | cons y l' =>
            cases l' with
            | cons _ _ => rfl
            | nil =>
              have h1 : ρ x = ρ' x := h x (by simp [← Array.mem_toList_iff, ha])
              have h2 : ρ y = ρ' y := h y (by simp [← Array.mem_toList_iff, ha])
              cases ats.toList with
              | nil => rfl
              | cons t l =>
                cases l with
                | nil => rfl
                | cons t' l' =>
                  cases l' with
                  | cons _ _ => rfl
                  | nil => show cpyA P t (ρ x) (ρ y) = cpyA P t (ρ' x) (ρ' y); rw [h1, h2]
      case min => rw [List.map_congr_left (l := args.toList) fun x hx => h x (by simpa using hx)]
      case max => rw [List.map_congr_left (l := args.toList) fun x hx => h x (by simpa using hx)]
  all_goals (first | rfl | (simp_all; done))
theorem memN_true {n : Nat} : ∀ {l : List Nat}, n ∈ l → memN n l = true
  | m :: r, h => by
    simp only [memN, Bool.or_eq_true]
    rcases List.mem_cons.1 h with e | e
    · subst e; exact .inl (Nat.beq_refl n)
    · exact .inr (memN_true e)
theorem disj_spec : ∀ {a b : List Nat}, disj a b = true → ∀ i ∈ a, i ∉ b
  | x :: r, b, h, i, hi => by
    simp only [disj, Bool.and_eq_true, Bool.not_eq_true'] at h
    rcases List.mem_cons.1 hi with e | e
    · subst e; exact memN_false h.1
    · exact disj_spec h.2 i e
theorem tmps_mem {i : Nat} : ∀ {l : List Operand}, .tmp i ∈ l → i ∈ tmpsOf l
  | x :: r, h => by
    rcases List.mem_cons.1 h with e | e
    · subst e; exact List.mem_cons_self ..
    · cases x <;> simp only [tmpsOf] <;> first | exact tmps_mem e | exact List.mem_cons_of_mem _ (tmps_mem e)
theorem looks_tmps {o : Oper} {i : Nat} (h : i ∈ tmpsOf o.op.operands.toList) : i ∈ looks all o := by
  unfold looks
  split
  · exact h
  · split
    · split
      · exact List.mem_cons_of_mem _ h
      · exact h
    · exact h
theorem stepV_loc {o : Oper} {nid : Nat} {t t2 : List AV} {h h' g : List HO} {av : AV} {R W : List Nat} (e : stepV P K all o nid t h = some (av, h', R, W)) (ht : ∀ i ∈ looks all o, t2.getD i .undef = t.getD i .undef)
    (hg : g.length = h.length) (ha : ∀ i ∈ R, g[i]? = h[i]?) : h'.length = h.length ∧ ∃ g', stepV P K all o nid t2 g = some (av, g', R, W) ∧ g'.length = g.length ∧ ∀ i : Nat, (i ∈ W ∧ g'[i]? = h'[i]?) ∨ (i ∉ W ∧ g'[i]? = g[i]? ∧ h'[i]? = h[i]?) := by
  have hop : opA P K (evalO t2) o.op nid = opA P K (evalO t) o.op nid := opA_congr fun x hx => by
    cases x <;> try rfl
    rename_i i
    exact ht i (looks_tmps (tmps_mem hx))
  have main : (opA P K (evalO t) o.op nid).fx h [] [] = some (av, h', R, W) → h'.length = h.length ∧ ∃ g', (opA P K (evalO t2) o.op nid).fx g [] [] = some (av, g', R, W) ∧ g'.length = g.length ∧ ∀ i : Nat, (i ∈ W ∧ g'[i]? = h'[i]?) ∨ (i ∉ W ∧ g'[i]? = g[i]? ∧ h'[i]? = h[i]?) := fun e => by
    have L := fx_loc _ e
    obtain ⟨g', q1, q2, q3⟩ := L.at_ g hg ha
    refine ⟨L.len, g', by rw [hop]; exact q1, q2, fun i => ?_⟩
    rcases q3 i with h1 | ⟨h1 | h1, h2⟩
    · exact .inl h1
    · exact .inr ⟨h1, h2⟩
    · cases h1
  unfold stepV at e ⊢
  cases hgd : o.guard with
  | none => rw [hgd] at e; exact main e
  | some gd =>
    obtain ⟨j, want⟩ := gd
    rw [hgd] at e
    simp only at e ⊢
    have hgv : gval all t2 j = gval all t j := by
      unfold gval
      cases hj : all[j]? with
      | none => rfl
      | some og =>
        simp only
        cases hd : og.dst with
        | none => rfl
        | some d =>
          simp only
          refine ht d ?_
          unfold looks
          rw [hgd]
          simp only [hj, hd]
          exact List.mem_cons_self ..
    rw [hgv]
    cases hv : gval all t j <;> rw [hv] at e <;> (try simp only at e) <;> try (cases e; done)
    rename_i u b
    cases u <;> (try simp only at e) <;> try (cases e; done)
    cases hw : (bif want then b else !b) with
    | true => rw [hw] at e; simp only [hw, cond_true] at e ⊢; exact main e
    | false =>
      rw [hw] at e
      simp only [hw, cond_false]
      simp only [cond_false, Option.some.injEq, Prod.mk.injEq] at e
      obtain ⟨e1, e2, e3, e4⟩ := e
      subst e1; subst e2; subst e3; subst e4
      exact ⟨rfl, g, rfl, rfl, fun i => .inr ⟨by simp, rfl, rfl⟩⟩
theorem putA_ne {t : List AV} {d : Option Tmp} {a : AV} {i : Nat} (h : ∀ j, d = some j → j ≠ i) : (putA t d a).getD i .undef = t.getD i .undef := by
  cases d with
  | none => rfl
  | some j =>
    show (t.set j a).getD i .undef = _
    rw [List.getD_eq_getElem?_getD, List.getElem?_set_ne (h j rfl), ← List.getD_eq_getElem?_getD]
theorem putA_comm {t : List AV} {d e : Option Tmp} {a b : AV} (h : ∀ i j, d = some i → e = some j → i ≠ j) : putA (putA t d a) e b = putA (putA t e b) d a := by
  cases d with
  | none => rfl
  | some i =>
    cases e with
    | none => rfl
    | some j => exact List.set_comm a b (h i j rfl rfl)
theorem apB_spec {x y : Oper} (h : apB all x y = true) : (∀ d, x.dst = some d → d ∉ looks all y) ∧ (∀ d, y.dst = some d → d ∉ looks all x) ∧ (∀ i j, x.dst = some i → y.dst = some j → i ≠ j) := by
  simp only [apB, Bool.and_eq_true, Bool.not_eq_true'] at h
  obtain ⟨⟨h1, h2⟩, h3⟩ := h
  refine ⟨fun d hd => ?_, fun d hd => ?_, fun i j hi hj e => ?_⟩
  · rw [hd] at h1; exact memN_false h1
  · rw [hd] at h2; exact memN_false h2
  · rw [hi, hj] at h3
    subst e
    have : Nat.beq i i = false := h3
    rw [Nat.beq_refl] at this
    cases this
/-- neighbours swapped -/
theorem swap {x y : Oper} {nx ny : Nat} {t : List AV} {h h1 h2 : List HO} {ax ay : AV} {Rx Wx Ry Wy : List Nat} (ap : apB all x y = true) (d1 : disj Wx Ry = true) (d2 : disj Wx Wy = true) (d3 : disj Rx Wy = true)
    (ex : stepV P K all x nx t h = some (ax, h1, Rx, Wx)) (ey : stepV P K all y ny (putA t x.dst ax) h1 = some (ay, h2, Ry, Wy)) :
    ∃ g1, stepV P K all y ny t h = some (ay, g1, Ry, Wy) ∧ stepV P K all x nx (putA t y.dst ay) g1 = some (ax, h2, Rx, Wx) ∧ putA (putA t x.dst ax) y.dst ay = putA (putA t y.dst ay) x.dst ax := by
  obtain ⟨a1, a2, a3⟩ := apB_spec ap
  obtain ⟨l1, _, _, _, lx⟩ := stepV_loc ex (t2 := t) (fun _ _ => rfl) rfl (fun _ _ => rfl)
  have lx : ∀ i : Nat, i ∉ Wx → h1[i]? = h[i]? := fun i hi => by
    rcases lx i with ⟨q, _⟩ | ⟨_, _, q⟩
    · exact absurd q hi
    · exact q
  obtain ⟨l2, g1, q1, q2, q3⟩ := stepV_loc ey (t2 := t) (g := h) (fun i hi => (putA_ne fun j hj e => a1 j hj (e ▸ hi)).symm) l1.symm (fun i hi => (lx i (fun hw => disj_spec d1 i hw hi)).symm)
  obtain ⟨_, g2, r1, r2, r3⟩ := stepV_loc ex (t2 := putA t y.dst ay) (g := g1) (fun i hi => putA_ne fun j hj e => a2 j hj (e ▸ hi)) q2 (fun i hi => by
    rcases q3 i with ⟨k, _⟩ | ⟨_, k, _⟩
    · exact absurd k (disj_spec d3 i hi)
    · exact k)
  refine ⟨g1, q1, ?_, putA_comm a3⟩
  have : g2 = h2 := by
    apply List.ext_getElem?
    intro i
    rcases r3 i with ⟨k1, k2⟩ | ⟨k1, k2, k3⟩
    · rw [k2]
      rcases q3 i with ⟨k, _⟩ | ⟨_, _, k⟩
      · exact absurd k (disj_spec d2 i k1)
      · exact k.symm
    · rw [k2]
      rcases q3 i with ⟨k, k'⟩ | ⟨_, k, k'⟩
      · exact k'
      · rw [k, k', k3]
  rw [← this]
  exact r1
end
end Go.Ab
