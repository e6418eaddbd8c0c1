import Derived.Test.YtjmikonopapihaaAbNorm
/-
  AB: code; pieces of it by functions.
-/
namespace Go.Ab
set_option linter.unusedSimpArgs false
def Ex.x : Ex → Exit
  | .normal => .normal
  | .exit id => .exit id
  | .ret => .ret
theorem Ex.eqb_eq {a b : Ex} (h : a.eqb b = true) : a = b := by
  cases a <;> cases b <;> first | rfl | (rw [beq_nat h]) | cases h
def DrawOk (P : Program) (K : Specs) : Prop := ∀ {ops : Array Oper} {id : Nat} {R : Type} {k : List AV → List HO → Option R} {r : R} {Q : Exit → Act → World → Prop} {c : Cx} {t : List AV} {a : Act}, Sim c → Sl c t a →
  opsD P K ops.toList c.H.length [] [] ops.toList 0 c.H.length t (c.H ++ List.replicate (slotsL ops.toList) .hole) k = some r →
  (∀ c' t' a', Fr c c' → Mn c c' → Sim c' → Sl c' t' a' → a'.tmps.size = a.tmps.size → k t' c'.H = some r → Q .normal a' c'.w) → (Code.region id ops true).wp P Q a c.w
section
variable {P : Program} {K : Specs} {L : Frags}
theorem decX_ok {c : Cx} (hs : Sim c) {t : List AV} {a : Act} (hl : Sl c t a) {e : Ex} {n m : Nat} (hn : n ≤ a.tmps.size) : ∀ {xp : XP} {R : Type} {k0 : ElX xp → Option R} {z : R}, decX e t c.H xp k0 = some z → wfX m xp = true →
    ∃ y, k0 y = some z ∧ ∃ c' t', Fr c c' ∧ KpN m c c' ∧ Sim c' ∧ c'.w = c.w ∧ Sl c' t' a ∧ ∀ (R : Type) (k : Kont R) (r : R), putX n xp y k = some r → k e t' c'.H = some r
  | .nil, R, k0, z, hr, _ => by cases hr
  | .cons e' tp hp xr, R, k0, z, hr, hw => by
    simp only [decX] at hr
    simp only [wfX, Bool.and_eq_true] at hw
    cases hb : e.eqb e' with
    | true =>
      rw [hb] at hr
      simp only [cond_true] at hr
      have he := Ex.eqb_eq hb
      subst he
      obtain ⟨c', x, f1, f2, f3, f4, f5, f6, f7⟩ := norm_ok hs hl (by rfl) hr
      refine ⟨.inl x, f7, c', encT tp x.1 (blank n), f1, ⟨f2.sub, f2.heapS, fun i o v hi => f2.objs i o v (Nat.lt_of_lt_of_le hi (Nat.le_of_ble_eq_true hw.1))⟩, f3, f4, f6 n hn, fun R k r hp' => ?_⟩
      rw [f5]
      exact hp'
    | false =>
      rw [hb] at hr
      simp only [cond_false] at hr
      obtain ⟨y, h1, c', t', f1, f2, f3, f4, f5, f6⟩ := decX_ok hs hl hn (xp := xr) hr hw.2
      exact ⟨.inr y, h1, c', t', f1, f2, f3, f4, f5, fun R k r hp' => f6 R k r hp'⟩
/-- a piece goes by its function -/
def FragOk (P : Program) (f : Frag) (body : Code) : Prop := ∀ {R : Type} {k : Kont R} {r : R} {Q : Exit → Act → World → Prop} {c : Cx} {a : Act} (x : ElT f.tp × ElH f.hp), Sim c → c.H = encH f.hp x.2 → Sl c (encT f.tp x.1 (blank f.n)) a → f.n ≤ a.tmps.size →
  (f.G x).bind (fun o => putX f.n f.xp o k) = some r →
  (∀ e c' t' a', Fr c c' → Kp c c' → Sim c' → Sl c' t' a' → a'.tmps.size = a.tmps.size → k e t' c'.H = some r → Q e.x a' c'.w) → (Code.loop body).wp P Q a c.w
def loopsL : Code → List Code
  | .seq a b => loopsL a ++ loopsL b
  | .cond _ a b => loopsL a ++ loopsL b
  | .block _ a => loopsL a
  | .loop a => [a]
  | _ => []
theorem row_new {c : Cx} (hs : Sim c) {e : TypeId} {u : Ty} (hu : 0 < u.csz) : ∃ c', Fr c c' ∧ Mn c c' ∧ Sim c' ∧ c'.w = c.w ∧ c'.H = c.H ++ [.row e 0 u true []] ∧ RepV c' (.hs c.H.length 0) (.slice none 0 0) := by
  obtain ⟨c1, e1, e2, e3, e4, e5⟩ := ext_holes hs 1
  have hh : c1.H[c.H.length]? = some .hole := by rw [e4]; simp
  have hσ : c.H.length < c1.σ.length := by rw [e3.len, e4]; simp
  obtain ⟨c', f1, f2, f3, f4, f5, f6⟩ := app_row (c := c1) (v' := .slice none 0 0) (w' := c1.w) (e := e) (ver' := 0) (u := u) (fn := true) (xs := []) (cells := []) (row := none) e3 hh (List.getElem?_eq_getElem hσ) (fun b hb => by cases hb)
    ⟨by simp, .inl ⟨rfl, rfl⟩⟩ rfl hu (grownBy_refl _ _) (fun b hb => by cases hb) (fun _ => ⟨fun _ => rfl, fun _ => rfl⟩) (fun h => by cases h) (fun h => by cases h)
  refine ⟨c', e1.trans f1, e2.trans f2, f3, f4.trans e5, ?_, f6⟩
  rw [f5, e4]
  simp
theorem rows_ok : ∀ (l : List (Tmp × TypeId)) {c : Cx} {t t1 : List AV} {h1 : List HO} {a : Act}, Sim c → Sl c t a → entryRows P l t c.H = some (t1, h1) →
    ∃ c', Fr c c' ∧ Mn c c' ∧ Sim c' ∧ c'.w = c.w ∧ c'.H = h1 ∧ Sl c' t1 a
  | [], c, t, t1, h1, a, hs, hl, e => by cases e; exact ⟨c, Fr.refl c, Mn.refl c, hs, rfl, rfl, hl⟩
  | (i, T) :: l, c, t, t1, h1, a, hs, hl, e => by
    have main : RepV c .nsl ((a.tmps[i]?).getD undef) → (match elemOf P T with
      | some e => match ty P e with
        | some u => bif Nat.blt 0 u.csz then entryRows P l (t.set i (.hs c.H.length 0)) (c.H ++ [.row e 0 u true []]) else none
        | none => none
      | none => none) = some (t1, h1) → ∃ c', Fr c c' ∧ Mn c c' ∧ Sim c' ∧ c'.w = c.w ∧ c'.H = h1 ∧ Sl c' t1 a := fun hv e => by
      cases he : elemOf P T with
      | none => rw [he] at e; cases e
      | some el =>
        rw [he] at e
        simp only at e
        cases hu : ty P el with
        | none => rw [hu] at e; cases e
        | some u =>
          rw [hu] at e
          simp only at e
          cases hb : Nat.blt 0 u.csz with
          | false => rw [hb] at e; cases e
          | true =>
            rw [hb] at e
            simp only [cond_true] at e
            obtain ⟨c1, f1, f2, f3, f4, f5, f6⟩ := row_new (e := el) hs (Nat.le_of_ble_eq_true hb)
            have hval := List.singleton_inj.1 (show [(a.tmps[i]?).getD undef] = [.slice none 0 0] from hv)
            rw [← f5] at e
            obtain ⟨c2, g1, g2, g3, g4, g5, g6⟩ := rows_ok l (c := c1) (t := t.set i (.hs c.H.length 0)) (a := a) f3 (by
              refine ⟨fun j => ?_, by simpa using hl.len, hl.defers⟩
              by_cases hij : i = j
              · subst hij
                by_cases hi : i < t.length
                · rw [List.getD_eq_getElem?_getD, List.getElem?_set_self hi, hval]; exact f6
                · rw [List.getD_eq_getElem?_getD, List.getElem?_eq_none (by rw [List.length_set]; exact Nat.le_of_not_lt hi)]; trivial
              · rw [List.getD_eq_getElem?_getD, List.getElem?_set_ne hij, ← List.getD_eq_getElem?_getD]
                exact (hl.at_ j).mono f2) e
            exact ⟨c2, f1.trans g1, f2.trans g2, g3, g4.trans f4, g5, g6⟩
    simp only [entryRows] at e
    have hv := hl.at_ i
    generalize t.getD i .undef = av at e hv
    cases av <;> (try simp only at e) <;> try (exact rows_ok l hs hl e)
    case nsl => exact main hv e
    case v u x =>
      cases u <;> (try simp only at e) <;> try (exact rows_ok l hs hl e)
      rename_i u'
      cases x with
      | none => exact main hv e
      | some _ => exact rows_ok l hs hl e
theorem know_sl {c : Cx} {t : List AV} {a : Act} (hl : Sl c t a) {x : Operand} {b : Bool} (hb : a.eval x = .bool b) : Sl c (knowA x b t) a := by
  cases x <;> try exact hl
  rename_i i
  refine ⟨fun j => ?_, by unfold knowA; simpa using hl.len, hl.defers⟩
  unfold knowA
  by_cases hij : i = j
  · subst hij
    by_cases hi : i < t.length
    · rw [List.getD_eq_getElem?_getD, List.getElem?_set_self hi]
      have hb : a.tmps.getD i undef = .bool b := hb
      rw [Array.getD_eq_getD_getElem?] at hb
      rw [hb]
      exact (show RepC c.S c.w .bool b [_] from rfl)
    · rw [List.getD_eq_getElem?_getD, List.getElem?_eq_none (by rw [List.length_set]; exact Nat.le_of_not_lt hi)]; trivial
  · rw [List.getD_eq_getElem?_getD, List.getElem?_set_ne hij, ← List.getD_eq_getElem?_getD]
    exact hl.at_ j
theorem padK_ok {n : Nat} {R : Type} {k : Kont R} {r : R} {Q : Exit → Act → World → Prop} {c : Cx} {a : Act}
    (hk : ∀ e c' t' a', Fr c c' → Kp c c' → Sim c' → Sl c' t' a' → a'.tmps.size = a.tmps.size → k e t' c'.H = some r → Q e.x a' c'.w) :
    ∀ e c' t' a', Fr c c' → Kp c c' → Sim c' → Sl c' t' a' → a'.tmps.size = a.tmps.size → padK n k e t' c'.H = some r → Q e.x a' c'.w := by
  intro e c' t' a' f1 f2 f3 f4 f5 f6
  cases e with
  | normal =>
    obtain ⟨c0, q1, q2, q3, q4, q5⟩ := ext_holes f3 (n - c'.H.length)
    rw [← q5]
    exact hk .normal c0 t' a' (f1.trans q1) (f2.trans q2.kp) q3 (f4.mono q2) f5 (by rw [q4]; exact f6)
  | exit id => exact hk _ c' t' a' f1 f2 f3 f4 f5 f6
  | ret => exact hk _ c' t' a' f1 f2 f3 f4 f5 f6
theorem code_ok (hK : ∀ f, ∀ s ∈ K f, SpecOk P f s) (hD : DrawOk P K) : ∀ (code : Code), (∀ body ∈ loopsL code, ∀ f, L (firstId body) = some f → FragOk P f body) →
    ∀ {R : Type} {k : Kont R} {r : R} {Q : Exit → Act → World → Prop} {c : Cx} {t : List AV} {a : Act}, Sim c → Sl c t a → codeA P K L code t c.H k = some r →
    (∀ e c' t' a', Fr c c' → Kp c c' → Sim c' → Sl c' t' a' → a'.tmps.size = a.tmps.size → k e t' c'.H = some r → Q e.x a' c'.w) → code.wp P Q a c.w
  | .skip, _, R, k, r, Q, c, t, a, hs, hl, hr, hk => wp_skip (hk .normal c t a (Fr.refl c) (Kp.refl c) hs hl rfl hr)
  | .region id ops draw, _, R, k, r, Q, c, t, a, hs, hl, hr, hk => by
    cases draw with
    | false => exact region_ok hK hs hl (by rw [← opsB_eq]; exact hr) fun c' t' a' f1 f2 f3 f4 f5 f6 => hk .normal c' t' a' f1 f2.kp f3 f4 f5 f6
    | true => exact hD hs hl (by rw [← opsE_eq]; exact hr) fun c' t' a' f1 f2 f3 f4 f5 f6 => hk .normal c' t' a' f1 f2.kp f3 f4 f5 f6
  | .seq x y, hL, R, k, r, Q, c, t, a, hs, hl, hr, hk => by
    refine wp_seq (code_ok hK hD x (fun b hb => hL b (List.mem_append_left _ hb)) hs hl hr fun e c' t' a' f1 f2 f3 f4 f5 f6 => ?_)
    cases e with
    | normal =>
      exact code_ok hK hD y (fun b hb => hL b (List.mem_append_right _ hb)) f3 f4 f6 fun e c'' t'' a'' g1 g2 g3 g4 g5 g6 => hk e c'' t'' a'' (f1.trans g1) (f2.trans g2) g3 g4 (g5.trans f5) g6
    | exit id => exact hk _ c' t' a' f1 f2 f3 f4 f5 f6
    | ret => exact hk _ c' t' a' f1 f2 f3 f4 f5 f6
  | .cond x y z, hL, R, k, r, Q, c, t, a, hs, hl, hr, hk => by
    simp only [codeA] at hr
    have hx := eval_rep hl x
    cases hv : evalO t x <;> rw [hv] at hr <;> (try simp only at hr) <;> try (cases hr; done)
    rename_i u b
    cases u <;> (try simp only at hr) <;> try (cases hr; done)
    rw [hv] at hx
    have hb : a.eval x = .bool b := List.singleton_inj.1 (show [a.eval x] = [.bool b] from hx)
    refine wp_cond hb ?_
    cases b with
    | true => exact code_ok hK hD y (fun b hb => hL b (List.mem_append_left _ hb)) hs (know_sl hl hb) hr (padK_ok hk)
    | false => exact code_ok hK hD z (fun b hb => hL b (List.mem_append_right _ hb)) hs (know_sl hl hb) hr (padK_ok hk)
  | .block id x, hL, R, k, r, Q, c, t, a, hs, hl, hr, hk => by
    refine wp_block (code_ok hK hD x (fun b hb => hL b hb) hs hl hr fun e c' t' a' f1 f2 f3 f4 f5 f6 => ?_)
    cases e with
    | normal => exact hk .normal c' t' a' f1 f2 f3 f4 f5 f6
    | ret => exact hk .ret c' t' a' f1 f2 f3 f4 f5 f6
    | exit id' =>
      show if id' = id then Q .normal a' c'.w else Q (.exit id') a' c'.w
      simp only at f6
      cases hb : Nat.beq id' id with
      | true =>
        rw [hb] at f6
        rw [if_pos (beq_nat hb)]
        exact hk .normal c' t' a' f1 f2 f3 f4 f5 f6
      | false =>
        rw [hb] at f6
        rw [if_neg (fun e => by rw [e, Nat.beq_refl] at hb; cases hb)]
        exact hk (.exit id') c' t' a' f1 f2 f3 f4 f5 f6
  | .exit id, _, R, k, r, Q, c, t, a, hs, hl, hr, hk => wp_exit (hk (.exit id) c t a (Fr.refl c) (Kp.refl c) hs hl rfl hr)
  | .ret, _, R, k, r, Q, c, t, a, hs, hl, hr, hk => wp_ret (hk .ret c t a (Fr.refl c) (Kp.refl c) hs hl rfl hr)
  | .loop x, hL, R, k, r, Q, c, t, a, hs, hl, hr, hk => by
    simp only [codeA] at hr
    cases hf : L (firstId x) with
    | none => rw [hf] at hr; cases hr
    | some f =>
      rw [hf] at hr
      simp only [Frag.run] at hr
      have hok : FragOk P f x := hL x (List.mem_singleton.2 rfl) f hf
      obtain ⟨c0, q1, q2, q3, q4, q5⟩ := ext_holes hs (f.pad - c.H.length)
      rw [← q4] at hr
      cases he : entryRows P f.rows t c0.H with
      | none => rw [he] at hr; cases hr
      | some p =>
        rw [he] at hr
        obtain ⟨t1, h1⟩ := p
        simp only at hr
        obtain ⟨c1, e1, e2, e3, e4, e5, e6⟩ := rows_ok f.rows q3 (hl.mono q2) he
        subst e5
        cases hb : (Nat.beq (hlen f.hp) c1.H.length && Nat.ble f.n t1.length) with
        | false => rw [hb] at hr; cases hr
        | true =>
          rw [hb] at hr
          simp only [Bool.and_eq_true] at hb
          simp only [cond_true] at hr
          obtain ⟨c2, y, f1, f2, f3, f4, f5, f6, f7⟩ := norm_ok e3 e6 (by rfl) hr
          have hn : f.n ≤ a.tmps.size := Nat.le_trans (Nat.le_of_ble_eq_true hb.2) e6.len
          have hkp : Kp c1 c2 := f2.toKp (by rw [beq_nat hb.1]; exact Nat.le_refl _)
          rw [← q5, ← e4, ← f4]
          exact hok y f3 f5 (f6 f.n hn) hn f7 fun e c' t' a' g1 g2 g3 g4 g5 g6 => hk e c' t' a' (q1.trans (e1.trans (f1.trans g1))) (q2.kp.trans (e2.kp.trans (hkp.trans g2))) g3 g4 g5 g6
  | .rangeFunc _ _ _ _, _, R, k, r, Q, c, t, a, hs, hl, hr, hk => by cases hr
  | .scope _, _, R, k, r, Q, c, t, a, hs, hl, hr, hk => by cases hr
  | .label _, _, R, k, r, Q, c, t, a, hs, hl, hr, hk => by cases hr
  | .goto _, _, R, k, r, Q, c, t, a, hs, hl, hr, hk => by cases hr
  | .refuse _, _, R, k, r, Q, c, t, a, hs, hl, hr, hk => by cases hr
end
end Go.Ab
