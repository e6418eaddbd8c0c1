import Derived.Test.YtjmikonopapihaaAbOp14
/-
  AB: the abstract run said at once; function values; nil checks; the least and the greatest.
-/
namespace Go.Ab
set_option linter.unusedSimpArgs false
def HM.ex {α : Type} (m : HM α) (h : List HO) : Option (α × List HO) := m.run h fun a h' => some (a, h')
theorem HM.run_ex {α R : Type} : ∀ (m : HM α) (h : List HO) (k : α → List HO → Option R), m.run h k = (m.ex h).bind fun p => k p.1 p.2
  | .ret _, _, _ => rfl
  | .get id g, h, k => by
    simp only [HM.ex, HM.run]
    cases h[id]? with
    | none => rfl
    | some o => cases o <;> first | rfl | exact HM.run_ex (g _) h k
  | .set id o m, h, k => by
    simp only [HM.ex, HM.run]
    cases h[id]? with
    | none => rfl
    | some _ => exact HM.run_ex m _ k
  | .ite c a b, h, k => by
    simp only [HM.ex, HM.run]
    cases c with
    | true => exact HM.run_ex a h k
    | false => exact HM.run_ex b h k
  | .opt o g, h, k => by
    simp only [HM.ex, HM.run]
    cases o with
    | none => rfl
    | some x => exact HM.run_ex (g x) h k
  | .fail, _, _ => rfl
theorem HM.run_some {α R : Type} {m : HM α} {h : List HO} {k : α → List HO → Option R} {r : R} (e : m.run h k = some r) : ∃ a h', m.ex h = some (a, h') ∧ k a h' = some r := by
  rw [HM.run_ex] at e
  cases hx : m.ex h with
  | none => rw [hx] at e; cases e
  | some p => rw [hx] at e; exact ⟨p.1, p.2, rfl, e⟩
theorem HM.run_of {α R : Type} {m : HM α} {h h' : List HO} {a : α} (e : m.ex h = some (a, h')) (k : α → List HO → Option R) : m.run h k = k a h' := by
  rw [HM.run_ex, e]; rfl
section
variable {P : Program} {c : Cx}
theorem rep_chain {ρ : Operand → AV} {ρ' : Operand → Value} (hρ : ∀ x, RepV c (ρ x) (ρ' x)) : ∀ (l : List Operand), capsOk (l.map ρ) = true → RepA c (chain (l.map ρ)) (l.map ρ')
  | [], _ => rfl
  | x :: l, h => by
    simp only [capsOk, List.map_cons, List.all_cons, Bool.and_eq_true, Bool.not_eq_true'] at h
    have h1 := repV1_of h.1.2 (hρ x)
    unfold RepV1 at h1
    rw [h.1.1] at h1
    exact ⟨[ρ' x], l.map ρ', rfl, h1, rep_chain hρ l h.2⟩
theorem mkf_ok (hs : Sim c) {ρ : Operand → AV} {ρ' : Operand → Value} (hρ : ∀ x, RepV c (ρ x) (ρ' x)) {f : FuncId} {first caps : Array Operand} :
    OpS P c (do pure (.value (← Instr.makeFunc (.func f) (first.map ρ') (caps.map ρ'))) : Sem Next) (mkfA f first.toList (caps.toList.map ρ)) := by
  refine OpS.pure hs fun R k r hr => ?_
  unfold mkfA at hr
  cases hf : first.toList with
  | cons _ _ => rw [hf] at hr; cases hr
  | nil =>
    rw [hf] at hr
    obtain ⟨hb, hr⟩ := HM.run_bif hr
    have h0 : first = #[] := Array.toList_eq_nil_iff.1 hf
    subst h0
    have hrep : RepA c (.fn f (chain (caps.toList.map ρ))) [.func (.func f) #[] (caps.map ρ')] := ⟨caps.map ρ', rfl, by rw [Array.toList_map]; exact rep_chain hρ _ hb⟩
    exact ⟨.fn f (chain (caps.toList.map ρ)), .func (.func f) #[] (caps.map ρ'), by simp [Instr.makeFunc], hrep, hr⟩
theorem nilc_ok (hs : Sim c) {x : AV} {xv : Value} (hx : RepV c x xv) {ρ' : Operand → Value} {o : Operand} (ho : ρ' o = xv) {oper : Oper} (hop : oper.op = .nilCheck o) :
    OpS P c (execOp ρ' oper) (nilcA x) := by
  refine OpS.pure hs fun R k r hr => ?_
  unfold nilcA at hr
  unfold execOp
  rw [hop]
  simp only
  rw [ho]
  cases x <;> (try simp only at hr) <;> try (cases hr; done)
  case ptr id ver path =>
    obtain ⟨o', v', h2, h3, _, _, ⟨p, hp⟩, _⟩ := (show RepA c (.ptr id ver path) [xv] from hx)
    have e := List.singleton_inj.1 hp
    rw [e] at hx
    subst e
    exact ⟨_, _, rfl, hx, hr⟩
  case pv u y =>
    obtain ⟨b, off, vs, hp, _⟩ := (show RepA c (.pv u y) [xv] from hx)
    have e := List.singleton_inj.1 hp
    subst e
    exact ⟨_, _, rfl, hx, hr⟩
  case fn f cc =>
    obtain ⟨vs, hp, _⟩ := (show RepA c (.fn f cc) [xv] from hx)
    have e := List.singleton_inj.1 hp
    subst e
    exact ⟨_, _, rfl, hx, hr⟩
def mmV (isMax : Bool) (a b : Int) : Int := bif isMax then (if a < b then b else a) else (if b < a then b else a)
theorem min2_run (k j : IntKind) (x y : Int) (w : World) : (Builtin.min2 (.int k x) (.int j y)).run P w = .ok (.int k (mmV false x y)) w := by
  simp [Builtin.min2, mmV]
theorem max2_run (k j : IntKind) (x y : Int) (w : World) : (Builtin.max2 (.int k x) (.int j y)).run P w = .ok (.int k (mmV true x y)) w := by
  simp [Builtin.max2, mmV]
theorem mm_go (isMax : Bool) (f : Value → Value → Sem Value) (hf : ∀ (k j : IntKind) (x y : Int) (w : World), (f (.int k x) (.int j y)).run P w = .ok (.int k (mmV isMax x y)) w) :
    ∀ (l : List AV) (lv : List Value) (x : AV) (xv : Value), l.length = lv.length → (∀ (i : Nat) (a : AV) (v : Value), l[i]? = some a → lv[i]? = some v → RepV c a v) → RepV c x xv →
    ∀ {R : Type} {k : AV → List HO → Option R} {r : R}, (minA.go isMax x l).run c.H k = some r → ∃ av v, (lv.foldlM f xv).run P c.w = .ok v c.w ∧ RepV c av v ∧ k av c.H = some r
  | [], lv, x, xv, hl, _, hx, R, k, r, hr => by
    cases lv with
    | nil => exact ⟨x, xv, by simp, hx, hr⟩
    | cons _ _ => simp at hl
  | a :: l, lv, x, xv, hl, h, hx, R, k, r, hr => by
    cases lv with
    | nil => simp at hl
    | cons v lv =>
      simp only [minA.go] at hr
      cases x <;> (try simp only at hr) <;> try (cases hr; done)
      rename_i u n
      cases u <;> (try simp only at hr) <;> try (cases hr; done)
      rename_i ki
      cases a <;> (try simp only at hr) <;> try (cases hr; done)
      rename_i u' m
      cases u' <;> (try simp only at hr) <;> try (cases hr; done)
      rename_i ki'
      cases hk : kEq ki ki' with
      | false => rw [hk] at hr; cases hr
      | true =>
        rw [hk] at hr
        have e := kEq_eq hk
        subst e
        obtain ⟨e1, w1⟩ := repInt hx
        obtain ⟨e2, w2⟩ := repInt (h 0 _ _ rfl rfl)
        subst e1; subst e2
        obtain ⟨av, v', q1, q2, q3⟩ := mm_go isMax f hf l lv (.v (.int ki) (mmV isMax n m)) (.int ki (mmV isMax n m)) (by simpa using hl) (fun i a v h1 h2 => h (i + 1) a v h1 h2)
          (show RepC c.S c.w (.int ki) _ [_] from ⟨rfl, by unfold mmV; cases isMax <;> simp only [cond_true, cond_false] <;> split <;> assumption⟩) hr
        refine ⟨av, v', ?_, q2, q3⟩
        simp only [List.foldlM_cons, Sem.run_bind, hf, Result.andThen_ok]
        exact q1
theorem mm_ok (hs : Sim c) {ρ : Operand → AV} {ρ' : Operand → Value} (hρ : ∀ x, RepV c (ρ x) (ρ' x)) (isMax : Bool) {args : Array Operand} {at' : Array TypeId} {t : TypeId} :
    OpS P c (do pure (.value (← (bif isMax then Builtin.max_ at' t (args.map ρ') else Builtin.min_ at' t (args.map ρ')))) : Sem Next) (minA isMax (args.toList.map ρ)) := by
  refine OpS.pure hs fun R k r hr => ?_
  cases ha : args.toList with
  | nil => rw [ha] at hr; cases hr
  | cons x l =>
    rw [ha] at hr
    simp only [List.map_cons, minA] at hr
    have hargs : (args.map ρ').toList = ρ' x :: l.map ρ' := by rw [Array.toList_map, ha]; rfl
    have hrep : ∀ (i : Nat) (a : AV) (v : Value), (l.map ρ)[i]? = some a → (l.map ρ')[i]? = some v → RepV c a v := by
      intro i a v h1 h2
      rw [List.getElem?_map] at h1 h2
      cases hi : l[i]? with
      | none => rw [hi] at h1; cases h1
      | some o => rw [hi] at h1 h2; cases h1; cases h2; exact hρ o
    cases isMax with
    | true =>
      obtain ⟨av, v, q1, q2, q3⟩ := mm_go (P := P) true Builtin.max2 (fun k j x y w => max2_run k j x y w) (l.map ρ) (l.map ρ') (ρ x) (ρ' x) (by simp) hrep (hρ x) hr
      exact ⟨av, v, by simp only [cond_true]; unfold Builtin.max_; rw [hargs]; simp only; exact run_v q1, q2, q3⟩
    | false =>
      obtain ⟨av, v, q1, q2, q3⟩ := mm_go (P := P) false Builtin.min2 (fun k j x y w => min2_run k j x y w) (l.map ρ) (l.map ρ') (ρ x) (ρ' x) (by simp) hrep (hρ x) hr
      exact ⟨av, v, by simp only [cond_false]; unfold Builtin.min_; rw [hargs]; simp only; exact run_v q1, q2, q3⟩
end
end Go.Ab
