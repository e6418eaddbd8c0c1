import Derived.Test.YtjmikonopapihaaAbOps
/-
  AB: regions that go in their own order.
-/
namespace Go.Ab
set_option linter.unusedSimpArgs false
/-- one operation of a region: what it leaves -/
def stepA (P : Program) (K : Specs) (all : List Oper) (o : Oper) (nid : Nat) (t : List AV) (h : List HO) : Option (List AV × List HO) :=
  match o.guard with
  | none => ((opA P K (evalO t) o.op nid).ex h).map fun p => (putA t o.dst p.1, p.2)
  | some (j, want) => match gval all t j with
    | .v .bool b => bif (bif want then b else !b) then ((opA P K (evalO t) o.op nid).ex h).map fun p => (putA t o.dst p.1, p.2)
      else some (putA t o.dst .undef, h)
    | _ => none
/-- is it wanted? -/
def wantA (all : List Oper) (o : Oper) (t : List AV) : Bool := match o.guard with
  | none => true
  | some (j, want) => match gval all t j with
    | .v .bool b => bif want then b else !b
    | _ => true
theorem opsA_step {R : Type} (P : Program) (K : Specs) (all : List Oper) (o : Oper) (r : List Oper) (t : List AV) (h : List HO) (k : List AV → List HO → Option R) :
    opsA P K all (o :: r) t h k = bif wantA all o t then (stepA P K all o h.length t (holesA (slots o.op) h)).bind fun p => opsA P K all r p.1 p.2 k else (stepA P K all o h.length t h).bind fun p => opsA P K all r p.1 p.2 k := by
  simp only [opsA, stepA, wantA]
  cases hg : o.guard with
  | none =>
    simp only [cond_true]
    rw [HM.run_ex]
    cases (opA P K (evalO t) o.op h.length).ex (holesA (slots o.op) h) <;> rfl
  | some g =>
    obtain ⟨j, want⟩ := g
    simp only
    cases gval all t j <;> try rfl
    rename_i u b
    cases u <;> try rfl
    simp only
    cases (bif want then b else !b) with
    | false => rfl
    | true =>
      simp only [cond_true]
      rw [HM.run_ex]
      cases (opA P K (evalO t) o.op h.length).ex (holesA (slots o.op) h) <;> rfl
section
variable {P : Program} {c : Cx} {K : Specs}
theorem gval_rep {ops : Array Oper} {t : List AV} {a : Act} (hl : Sl c t a) {j : Nat} {b : Bool} (h : gval ops.toList t j = .v .bool b) : yielded ops a.tmps j = some b := by
  unfold gval at h
  unfold yielded
  rw [Array.getElem?_toList] at h
  cases ho : ops[j]? with
  | none => rw [ho] at h; cases h
  | some o =>
    rw [ho] at h
    simp only at h
    cases hd : o.dst with
    | none => rw [hd] at h; cases h
    | some d =>
      rw [hd] at h
      simp only at h
      have := hl.at_ d
      rw [h] at this
      have e := List.singleton_inj.1 (show [(a.tmps[d]?).getD undef] = [.bool b] from this)
      simp only [Option.bind_some, hd]
      cases ht : a.tmps[d]? with
      | none => rw [ht] at e; cases e
      | some v => rw [ht] at e; simp at e; subst e; rfl
/-- holes where an operation wants them -/
def HolesAt (H : List HO) (nid n : Nat) : Prop := ∀ j, j < n → H[nid + j]? = some .hole
theorem put_size (a : Act) (d : Option Tmp) (v : Value) : (a.put d v).tmps.size = a.tmps.size := by cases d <;> simp [Act.put]
theorem step_ok (hK : ∀ f, ∀ s ∈ K f, SpecOk P f s) (hs : Sim c) {ops : Array Oper} {i : Nat} {o : Oper} (_ : ops[i]? = some o) {t t' : List AV} {a : Act} (hl : Sl c t a) {nid : Nat} {h' : List HO}
    (hst : stepA P K ops.toList o nid t c.H = some (t', h')) (hh : wantA ops.toList o t = true → HolesAt c.H nid (slots o.op)) {Q : Exit → Act → World → Prop} {next : Act → World → Prop}
    (hk : ∀ c' a', Fr c c' → Mn c c' → Sim c' → Sl c' t' a' → a'.tmps.size = a.tmps.size → c'.H = h' → next a' c'.w) : 
    if Region.wanted o (yielded ops a.tmps) then o.wp P a c.w next Q else next (a.put o.dst undef) c.w := by
  have doit : wantA ops.toList o t = true → ((opA P K (evalO t) o.op nid).ex c.H).map (fun p => (putA t o.dst p.1, p.2)) = some (t', h') → o.wp P a c.w next Q := fun hwt e => by
    cases hx : (opA P K (evalO t) o.op nid).ex c.H with
    | none => rw [hx] at e; cases e
    | some p =>
      rw [hx] at e
      cases e
      have hop := opA_ok hs hK (nid := nid) (fun x => eval_rep hl x) o (hh hwt) (AV × List HO) (fun av h => some (av, h)) (p.1, p.2) (fun v w => next (a.put o.dst v) w) hx
        (fun c' av v f1 f2 f3 f4 f5 => by
          have q1 : av = p.1 := congrArg Prod.fst (Option.some.inj f5)
          have q2 : c'.H = p.2 := congrArg Prod.snd (Option.some.inj f5)
          subst q1
          exact hk c' (a.put o.dst v) f1 f2 f3 ((hl.mono f2).put o.dst f4) (put_size _ _ _) q2)
      show o.upon P a next Q ((execOp a.eval o).run P c.w)
      cases hr : (execOp a.eval o).run P c.w with
      | halt x w' => rw [hr] at hop; exact hop.elim
      | ok n w' =>
        rw [hr] at hop
        cases n <;> simp only [Goes, Oper.upon] at hop ⊢ <;> try (exact hop.elim)
        · exact hop
        · exact hop
        · exact Calls.mono hop fun e w'' ⟨v, he, hn⟩ => by subst he; exact hn
  unfold stepA at hst
  unfold Region.wanted
  cases hg : o.guard with
  | none =>
    rw [hg] at hst
    simpa using doit (by unfold wantA; rw [hg]) hst
  | some g =>
    obtain ⟨j, want⟩ := g
    rw [hg] at hst
    simp only at hst
    cases hv : gval ops.toList t j <;> rw [hv] at hst <;> (try simp only at hst) <;> try (cases hst; done)
    rename_i u b
    cases u <;> (try simp only at hst) <;> try (cases hst; done)
    have hy := gval_rep hl hv
    cases hwb : (bif want then b else !b) with
    | true =>
      rw [hwb] at hst
      have : want = b := by cases want <;> cases b <;> first | rfl | cases hwb
      subst this
      simp only [hy]
      simpa using doit (by unfold wantA; rw [hg]; simp only [hv]; exact hwb) hst
    | false =>
      rw [hwb] at hst
      have : b ≠ want := by cases want <;> cases b <;> first | (intro e; cases e; done) | cases hwb
      simp only [hy]
      rw [if_neg (by simpa using this)]
      cases hst
      exact hk c _ (Fr.refl c) (Mn.refl c) hs (hl.put o.dst (show RepV c .undef undef from trivial)) (put_size _ _ _) rfl
theorem ext_holes (hs : Sim c) (n : Nat) : ∃ c', Fr c c' ∧ Mn c c' ∧ Sim c' ∧ c'.H = c.H ++ List.replicate n .hole ∧ c'.w = c.w := by
  have hlen : (c.σ ++ List.replicate n undef).length = (c.H ++ List.replicate n HO.hole).length := by simp [hs.len]
  have hold : ∀ (i : Nat) (o : HO) (v : Value), (c.H ++ List.replicate n HO.hole)[i]? = some o → (c.σ ++ List.replicate n undef)[i]? = some v → (c.H[i]? = some o ∧ c.σ[i]? = some v) ∨ o = .hole := by
    intro i o v h1 h2
    by_cases hi : i < c.H.length
    · rw [List.getElem?_append_left hi] at h1
      rw [List.getElem?_append_left (by rw [hs.len]; exact hi)] at h2
      exact .inl ⟨h1, h2⟩
    · rw [List.getElem?_append_right (by omega)] at h1
      exact .inr (List.eq_of_mem_replicate (List.mem_of_getElem? h1))
  have hnew : ∀ (i : Nat) (o : HO) (v : Value), c.H[i]? = some o → c.σ[i]? = some v → (c.H ++ List.replicate n HO.hole)[i]? = some o ∧ (c.σ ++ List.replicate n undef)[i]? = some v := fun i o v h1 h2 =>
    ⟨by rw [List.getElem?_append_left (lt_of_get h1)]; exact h1, by rw [List.getElem?_append_left (lt_of_get h2)]; exact h2⟩
  have hlive : ∀ b, Cx.live ⟨c.S, c.σ ++ List.replicate n undef, c.H ++ List.replicate n .hole, c.w⟩ b → c.live b := by
    rintro b ⟨i, o, v, h1, h2, h3⟩
    rcases hold i o v h1 h2 with ⟨k1, k2⟩ | e
    · exact ⟨i, o, v, k1, k2, h3⟩
    · subst e; cases h3
  have hm : Mn c ⟨c.S, c.σ ++ List.replicate n undef, c.H ++ List.replicate n .hole, c.w⟩ := ⟨fun _ h => h, fun _ _ => rfl, fun i o v h1 h2 h3 =>
    ⟨o, v, (hnew i o v h1 h2).1, (hnew i o v h1 h2).2, h3, Nat.le_refl _, fun _ => ⟨rfl, fun h => ⟨h, rfl⟩⟩, fun h => ⟨h, rfl⟩⟩⟩
  refine ⟨⟨c.S, c.σ ++ List.replicate n undef, c.H ++ List.replicate n .hole, c.w⟩, ⟨fun _ h => .inl h, fun b hb => .inl (hlive b hb), Nat.le_refl _, rfl, rfl, rfl, fun _ _ _ => rfl⟩, hm,
    ⟨hlen, fun i o v h1 h2 => ?_, fun i j oi oj vi vj b h1 h2 h3 h4 h5 h6 => ?_, fun b hb => hs.out b (hlive b hb), hs.lt, fun b hb => hs.ltl b (hlive b hb)⟩, rfl, rfl⟩
  · rcases hold i o v h1 h2 with ⟨k1, k2⟩ | e
    · exact (hs.obj i o v k1 k2).mono hm fun _ _ => rfl
    · subst e; trivial
  · rcases hold i oi vi h1 h3 with ⟨k1, k2⟩ | e
    · rcases hold j oj vj h2 h4 with ⟨g1, g2⟩ | e
      · exact hs.apart i j oi oj vi vj b k1 g1 k2 g2 h5 h6
      · subst e; cases h6
    · subst e; cases h5
theorem ext_holesA (hs : Sim c) (n : Nat) : ∃ c', Fr c c' ∧ Mn c c' ∧ Sim c' ∧ c'.H = holesA n c.H ∧ c'.w = c.w ∧ HolesAt c'.H c.H.length n := by
  cases n with
  | zero => exact ⟨c, Fr.refl c, Mn.refl c, hs, rfl, rfl, fun j hj => absurd hj (Nat.not_lt_zero j)⟩
  | succ n =>
    obtain ⟨c', h1, h2, h3, h4, h5⟩ := ext_holes hs (n + 1)
    refine ⟨c', h1, h2, h3, h4, h5, fun j hj => ?_⟩
    rw [h4, List.getElem?_append_right (by omega), Nat.add_sub_cancel_left, List.getElem?_replicate]
    rw [if_pos hj]
theorem ops_ok (hK : ∀ f, ∀ s ∈ K f, SpecOk P f s) {ops : Array Oper} {R : Type} {k : List AV → List HO → Option R} {r : R} {Q : Exit → Act → World → Prop} : ∀ (l : List Oper) (t : List AV) (a : Act) (c : Cx), Sim c → Sl c t a →
    (∀ o ∈ l, ∃ i : Nat, ops[i]? = some o) → opsA P K ops.toList l t c.H k = some r →
    (∀ c' t' a', Fr c c' → Mn c c' → Sim c' → Sl c' t' a' → a'.tmps.size = a.tmps.size → k t' c'.H = some r → Q .normal a' c'.w) → wpList P ops Q l a c.w
  | [], t, a, c, hs, hl, _, hr, hk => hk c t a (Fr.refl c) (Mn.refl c) hs hl rfl hr
  | o :: l, t, a, c, hs, hl, hm, hr, hk => by
    rw [opsA_step] at hr
    obtain ⟨i, hi⟩ := hm o (List.mem_cons_self ..)
    refine wpList_step fun KK hKK => ?_
    cases hwt : wantA ops.toList o t with
    | true =>
      rw [hwt] at hr
      simp only [cond_true] at hr
      obtain ⟨c0, e1, e2, e3, e4, e5, e6⟩ := ext_holesA hs (slots o.op)
      rw [← e4] at hr
      cases hst : stepA P K ops.toList o c.H.length t c0.H with
      | none => rw [hst] at hr; cases hr
      | some p =>
        rw [hst] at hr
        rw [← e5]
        refine step_ok hK e3 hi (hl.mono e2) hst (fun _ => e6) fun c' a' f1 f2 f3 f4 f6 f5 => hKK _ _ ?_
        exact ops_ok hK l p.1 a' c' f3 f4 (fun o' ho' => hm o' (List.mem_cons_of_mem _ ho')) (by rw [f5]; exact hr)
          fun c'' t' a'' g1 g2 g3 g4 g6 g5 => hk c'' t' a'' ((e1.trans f1).trans g1) ((e2.trans f2).trans g2) g3 g4 (g6.trans f6) g5
    | false =>
      rw [hwt] at hr
      simp only [cond_false] at hr
      cases hst : stepA P K ops.toList o c.H.length t c.H with
      | none => rw [hst] at hr; cases hr
      | some p =>
        rw [hst] at hr
        refine step_ok hK hs hi hl hst (fun h => by rw [hwt] at h; cases h) fun c' a' f1 f2 f3 f4 f6 f5 => hKK _ _ ?_
        exact ops_ok hK l p.1 a' c' f3 f4 (fun o' ho' => hm o' (List.mem_cons_of_mem _ ho')) (by rw [f5]; exact hr)
          fun c'' t' a'' g1 g2 g3 g4 g6 g5 => hk c'' t' a'' (f1.trans g1) (f2.trans g2) g3 g4 (g6.trans f6) g5
theorem region_ok (hK : ∀ f, ∀ s ∈ K f, SpecOk P f s) {ops : Array Oper} {id : Nat} {R : Type} {k : List AV → List HO → Option R} {r : R} {Q : Exit → Act → World → Prop} {t : List AV} {a : Act} (hs : Sim c) (hl : Sl c t a)
    (hr : opsA P K ops.toList ops.toList t c.H k = some r) (hk : ∀ c' t' a', Fr c c' → Mn c c' → Sim c' → Sl c' t' a' → a'.tmps.size = a.tmps.size → k t' c'.H = some r → Q .normal a' c'.w) : (Code.region id ops false).wp P Q a c.w :=
  wp_region_list (ops_ok hK ops.toList t a c hs hl (fun o ho => by
    obtain ⟨i, hi⟩ := List.getElem?_of_mem ho
    exact ⟨i, by rw [← hi]; exact Array.getElem?_toList.symm⟩) hr hk)
end
end Go.Ab
