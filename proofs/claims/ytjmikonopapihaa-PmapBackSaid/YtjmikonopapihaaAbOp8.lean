import Derived.Test.YtjmikonopapihaaAbOp7
/-
  AB: comparisons, conversions, and what only computes.
-/
namespace Go.Ab
set_option linter.unusedSimpArgs false
section
variable {P : Program} {c : Cx}
theorem decV_sk {u u' : Ty} {x : El u'} {y : El u} (h : decV u u' x = some y) : u'.sk = u.sk := by
  unfold decV at h
  split at h
  · rename_i he; rw [Ty.eqb_eq he]
  · cases h
theorem dec_sk : ∀ {u : Ty} {a : AV} {y : El u}, dec u a = some y → a.sk = u.sk := by
  intro u
  induction u with
  | pair u v ihu ihv =>
    intro a y h
    cases a <;> simp only [dec] at h <;> first | (cases h; done) | exact decV_sk h | skip
    rename_i p q
    cases hp : dec u p with
    | none => rw [hp] at h; cases h
    | some x =>
      cases hq : dec v q with
      | none => rw [hp, hq] at h; cases h
      | some z => simp only [AV.sk, Ty.sk, ihu hp, ihv hq]
  | _ => intro a y h; cases a <;> simp only [dec] at h <;> first | (cases h; done) | exact decV_sk h | rfl
theorem nkOf_spec {t : TypeId} {k : NK} (h : nkOf P t = some k) : (k = .ptr ∧ ∃ e, P.underlying t = some (.pointer e)) ∨ (k = .sl ∧ ∃ e, P.underlying t = some (.slice e)) ∨ (k = .fn ∧ ∃ a b v, P.underlying t = some (.func a b v)) := by
  unfold nkOf at h
  split at h
  · rename_i e he; cases h; exact .inl ⟨rfl, e, he⟩
  · rename_i e he; cases h; exact .inr (.inl ⟨rfl, e, he⟩)
  · rename_i a b v he; cases h; exact .inr (.inr ⟨rfl, a, b, v, he⟩)
  · cases h
theorem NK.eqb_eq {a b : NK} (h : a.eqb b = true) : a = b := by cases a <;> cases b <;> first | rfl | cases h
/-- nil or not: what the value is -/
theorem isNil_rep {x : AV} {xv : Value} {k : NK} {b : Bool} (h : isNilA x = some (k, b)) (hx : RepV c x xv) :
    (k = .ptr ∧ ∃ p : Option Addr, xv = .pointer p ∧ p.isNone = b) ∨ (k = .sl ∧ ∃ p n m, xv = .slice p n m ∧ p.isNone = b) ∨ (k = .fn ∧ ((xv = .nilFunc ∧ b = true) ∨ ∃ f a d, xv = .func f a d ∧ b = false)) := by
  cases x <;> simp only [isNilA] at h <;> try (cases h; done)
  case nsl => cases h; exact .inr (.inl ⟨rfl, none, 0, 0, List.singleton_inj.1 (show RepA c .nsl [xv] from hx), rfl⟩)
  case nptr => cases h; exact .inl ⟨rfl, none, List.singleton_inj.1 (show RepA c .nptr [xv] from hx), rfl⟩
  case nfn => cases h; exact .inr (.inr ⟨rfl, .inl ⟨List.singleton_inj.1 (show RepA c .nfn [xv] from hx), rfl⟩⟩)
  case pv u y =>
    cases h
    obtain ⟨b, off, vs, e, _⟩ := (show RepA c (.pv u y) [xv] from hx)
    exact .inl ⟨rfl, _, List.singleton_inj.1 e, rfl⟩
  case fn f a =>
    cases h
    obtain ⟨vs, e, _⟩ := (show RepA c (.fn f a) [xv] from hx)
    exact .inr (.inr ⟨rfl, .inr ⟨_, _, _, List.singleton_inj.1 e, rfl⟩⟩)
  case v u o =>
    cases u <;> (try simp only at h) <;> try (cases h; done)
    cases h
    have hx' : RepC c.S c.w (.sl _) o [xv] := hx
    cases o with
    | none => exact .inr (.inl ⟨rfl, none, 0, 0, List.singleton_inj.1 hx', rfl⟩)
    | some xs =>
      obtain ⟨b, off, cap, vs, sp, e, _⟩ := hx'
      exact .inr (.inl ⟨rfl, _, _, _, List.singleton_inj.1 e, rfl⟩)
  case ptr id ver path =>
    cases h
    obtain ⟨_, _, _, _, _, _, ⟨p, e⟩, _⟩ := (show RepA c (.ptr id ver path) [xv] from hx)
    exact .inl ⟨rfl, _, List.singleton_inj.1 e, rfl⟩
theorem nilKind_rep {y : AV} {yv : Value} {k : NK} (h : nilKind y = some k) (hy : RepV c y yv) :
    (k = .ptr ∧ yv = .pointer none) ∨ (k = .sl ∧ yv = .slice none 0 0) ∨ (k = .fn ∧ yv = .nilFunc) := by
  cases y <;> simp only [nilKind] at h <;> try (cases h; done)
  case nsl => cases h; exact .inr (.inl ⟨rfl, List.singleton_inj.1 (show RepA c .nsl [yv] from hy)⟩)
  case nptr => cases h; exact .inl ⟨rfl, List.singleton_inj.1 (show RepA c .nptr [yv] from hy)⟩
  case nfn => cases h; exact .inr (.inr ⟨rfl, List.singleton_inj.1 (show RepA c .nfn [yv] from hy)⟩)
theorem tyOk_int {t : TypeId} {u : Ty} (h : eqG P u (.inl t) = true) : ∀ {a b : El u} {va vb : Value}, RepV c (.v u a) va → RepV c (.v u b) vb →
    (∃ p q : Bool, va = .bool p ∧ vb = .bool q) ∨ (∃ cs ds : List Value, va = .agg cs.toArray ∧ vb = .agg ds.toArray) ∨ (∃ k n m, va = .int k n ∧ vb = .int k m) ∨ (∃ s r, va = .string s ∧ vb = .string r) := by
  intro a b va vb ha hb
  cases u with
  | int k => exact .inr (.inr (.inl ⟨k, _, _, (repInt ha).1, (repInt hb).1⟩))
  | bool => exact .inl ⟨a, b, List.singleton_inj.1 (show [va] = [.bool a] from ha), List.singleton_inj.1 (show [vb] = [.bool b] from hb)⟩
  | str =>
    obtain ⟨s1, e1, _⟩ := (show RepC c.S c.w .str a [va] from ha)
    obtain ⟨s2, f1, _⟩ := (show RepC c.S c.w .str b [vb] from hb)
    exact .inr (.inr (.inr ⟨s1, s2, List.singleton_inj.1 e1, List.singleton_inj.1 f1⟩))
  | sl u => simp [eqG] at h
  | _ =>
    obtain ⟨cs, e1, _⟩ := repV_agg ha rfl
    obtain ⟨ds, e2, _⟩ := repV_agg hb rfl
    exact .inr (.inl ⟨cs, ds, e1, e2⟩)
/-- an abstract value as data, where the model's value is the same -/
theorem dec_repV {u : Ty} {a : AV} {y : El u} {v : Value} (h : dec u a = some y) (hr : RepV c a v) : RepV c (.v u y) v := by
  have hb := Sk.noBad_isBad (dec_noBad h)
  have hsk : a.sk = u.sk := dec_sk h
  have h1 := repV1_of hb hr
  refine repV_of (Sk.noBad_isBad (Ty.sk_noBad u)) ?_
  unfold RepV1 at h1 ⊢
  rw [show (AV.v u y).isAgg = a.isAgg from by unfold AV.isAgg; rw [hsk]; rfl]
  cases hag : a.isAgg with
  | true => rw [hag] at h1; obtain ⟨cs, e, h2⟩ := h1; exact ⟨cs, e, dec_rep h h2⟩
  | false => rw [hag] at h1; exact dec_rep h h1
theorem eqNilP (d : Nat) {t e : TypeId} (hu : P.underlying t = some (.pointer e)) (p : Option Addr) (w : World) : (Op.equalIn (d + 1) t (.pointer p) (.pointer none)).run P w = .ok p.isNone w := by
  cases p <;> simp [Op.equalIn, run_underlying hu]
theorem eqNilS (d : Nat) {t e : TypeId} (hu : P.underlying t = some (.slice e)) (p : Option Addr) (n m : Nat) (w : World) : (Op.equalIn (d + 1) t (.slice p n m) (.slice none 0 0)).run P w = .ok p.isNone w := by
  cases p <;> simp [Op.equalIn, run_underlying hu]
theorem eqNilF (d : Nat) {t : TypeId} {a b : Array TypeId} {v : Bool} (hu : P.underlying t = some (.func a b v)) (w : World) : (Op.equalIn (d + 1) t .nilFunc .nilFunc).run P w = .ok true w := by
  simp [Op.equalIn, run_underlying hu]
theorem eqNilG (d : Nat) {t : TypeId} {a b : Array TypeId} {v : Bool} (hu : P.underlying t = some (.func a b v)) (f : Fn) (x y : Array Value) (w : World) : (Op.equalIn (d + 1) t (.func f x y) .nilFunc).run P w = .ok false w := by
  simp [Op.equalIn, run_underlying hu]
theorem eqA_ok {t : TypeId} {x y : AV} {xv yv : Value} (hx : RepV c x xv) (hy : RepV c y yv) (px py : Operand) {op : BinOp} (hop : op = .eql ∨ op = .neq) {R : Type} {k : Bool → List HO → Option R} {r : R} {H : List HO} (hr : (eqA P t x y).run H k = some r) (w : World) :
    ∃ b, (do eqGuard op t px py xv yv; binOp op t xv yv : Sem Value).run P w = .ok (.bool (if op = .eql then b else !b)) w ∧ k b H = some r := by
  unfold eqA at hr
  cases hn : nilKind y with
  | some kk =>
    rw [hn] at hr
    simp only at hr
    cases hi : isNilA x with
    | none => rw [hi] at hr; cases hr
    | some kb =>
      obtain ⟨k', b⟩ := kb
      cases hk : nkOf P t with
      | none => rw [hi, hk] at hr; cases hr
      | some k'' =>
        rw [hi, hk] at hr
        obtain ⟨h1, hr2⟩ := HM.run_bif hr
        simp only [Bool.and_eq_true] at h1
        have e1 := NK.eqb_eq h1.1
        have e2 := NK.eqb_eq h1.2
        subst e1; subst e2
        refine ⟨b, ?_, hr2⟩
        have hg : (eqGuard op t px py xv yv).run P w = .ok () w := by
          refine run_eqGuard ?_ ?_ w
          · rintro cs ds ⟨_, hh⟩
            rcases nilKind_rep hn hy with ⟨_, e⟩ | ⟨_, e⟩ | ⟨_, e⟩ <;> rw [e] at hh <;> cases hh
          · rintro ⟨_, hh⟩
            rcases nilKind_rep hn hy with ⟨_, e⟩ | ⟨_, e⟩ | ⟨_, e⟩ <;> rw [e] at hh <;> cases hh
        have heq : (Op.equal t xv yv).run P w = .ok b w ∧ binOp .eql t xv yv = (do pure (.bool (← Op.equal t xv yv))) ∧ binOp .neq t xv yv = (do pure (.bool (!(← Op.equal t xv yv)))) := by
          rcases nkOf_spec hk with ⟨q, e, hu⟩ | ⟨q, e, hu⟩ | ⟨q, a1, a2, a3, hu⟩ <;> subst q
          · rcases isNil_rep hi hx with ⟨_, p, f1, f2⟩ | ⟨f0, _⟩ | ⟨f0, _⟩ <;> try (cases f0; done)
            rcases nilKind_rep hn hy with ⟨_, g⟩ | ⟨g0, _⟩ | ⟨g0, _⟩ <;> try (cases g0; done)
            subst f1; subst g; subst f2
            exact ⟨eqNilP 9999 hu p w, rfl, rfl⟩
          · rcases isNil_rep hi hx with ⟨f0, _⟩ | ⟨_, p, n, m, f1, f2⟩ | ⟨f0, _⟩ <;> try (cases f0; done)
            rcases nilKind_rep hn hy with ⟨g0, _⟩ | ⟨_, g⟩ | ⟨g0, _⟩ <;> try (cases g0; done)
            subst f1; subst g; subst f2
            exact ⟨eqNilS 9999 hu p n m w, rfl, rfl⟩
          · rcases isNil_rep hi hx with ⟨f0, _⟩ | ⟨f0, _⟩ | ⟨_, f1⟩ <;> try (cases f0; done)
            rcases nilKind_rep hn hy with ⟨g0, _⟩ | ⟨g0, _⟩ | ⟨_, g⟩ <;> try (cases g0; done)
            subst g
            rcases f1 with ⟨f1, f2⟩ | ⟨q1, q2, q3, f1, f2⟩ <;> subst f1 <;> subst f2
            · exact ⟨eqNilF 9999 hu w, rfl, rfl⟩
            · exact ⟨eqNilG 9999 hu _ _ _ w, rfl, rfl⟩
        obtain ⟨h1, h2, h3⟩ := heq
        rcases hop with rfl | rfl
        · simp [hg, h2, h1]
        · simp [hg, h3, h1]
  | none =>
    rw [hn] at hr
    simp only at hr
    cases hu : ty P t with
    | none => rw [hu] at hr; cases hr
    | some u =>
      rw [hu] at hr
      obtain ⟨h1, hr⟩ := HM.run_bif hr
      simp only [Bool.and_eq_true] at h1
      obtain ⟨⟨h1, h2⟩, h3⟩ := h1
      have h3 : P.eqGuardType P.depth t = false := by simpa using h3
      cases hdx : dec u x with
      | none => rw [hdx] at hr; cases hr
      | some a =>
        cases hdy : dec u y with
        | none => rw [hdx, hdy] at hr; cases hr
        | some b =>
          rw [hdx, hdy] at hr
          have ra := dec_repV hdx hx
          have rb := dec_repV hdy hy
          have he := (eqG_run (c := c) u (.inl t) h1).1 t rfl a b xv yv Op.maxDepth (by have := Nat.le_of_ble_eq_true h2; unfold Op.maxDepth; omega) ra rb w
          refine ⟨eqT u a b, ?_, hr⟩
          rcases tyOk_int h1 ra rb with ⟨p, q, e1, e2⟩ | ⟨cs, ds, e1, e2⟩ | ⟨kk, n, m, e1, e2⟩ | ⟨s1, s2, e1, e2⟩
          · subst e1; subst e2
            have hg : (eqGuard op t px py (.bool p) (.bool q)).run P w = .ok () w := run_eqGuard (by simp) (by simp) w
            rcases hop with rfl | rfl <;> simp [hg, binOp, Op.equal, he]
          · subst e1; subst e2
            have hg := run_eqGuard_agg (P := P) w op t px py cs.toArray ds.toArray h3
            rcases hop with rfl | rfl <;> simp [hg, binOp, Op.equal, he]
          · subst e1; subst e2
            have hg : (eqGuard op t px py (.int kk n) (.int kk m)).run P w = .ok () w := run_eqGuard (by simp) (by simp) w
            cases u with
            | int k1 =>
              have ea : n = a := by have := (repInt ra).1; cases this; rfl
              have eb : m = b := by have := (repInt rb).1; cases this; rfl
              subst ea; subst eb
              rcases hop with rfl | rfl
              · simp [hg, binOp, Op.intCmp, eqT]; rfl
              · simp [hg, binOp, Op.intCmp, eqT]; rfl
            | bool => have hh := List.singleton_inj.1 (show [Value.int kk n] = [.bool a] from ra); cases hh
            | str => obtain ⟨s, hh, _⟩ := (show RepC c.S c.w .str a [Value.int kk n] from ra); have := List.singleton_inj.1 hh; cases this
            | sl u => simp [eqG] at h1
            | _ => obtain ⟨cs, hh, _⟩ := repV_agg ra rfl; cases hh
          · subst e1; subst e2
            have hg : (eqGuard op t px py (.string s1) (.string s2)).run P w = .ok () w := run_eqGuard (by simp) (by simp) w
            cases u with
            | str =>
              obtain ⟨q1, q2, q3, _⟩ := (show RepC c.S c.w .str a [Value.string s1] from ra)
              obtain ⟨q4, q5, q6, _⟩ := (show RepC c.S c.w .str b [Value.string s2] from rb)
              have f1 := List.singleton_inj.1 q2
              have f2 := List.singleton_inj.1 q5
              cases f1; cases f2
              have hq : eqT .str a b = (s1.toList == s2.toList) := by show eqbL a b = _; rw [q3, q6, eqbL_bytes]
              rcases hop with rfl | rfl <;> simp [hg, binOp, Op.stringOp, hq]
            | bool => have hh := List.singleton_inj.1 (show [Value.string s1] = [.bool a] from ra); cases hh
            | int k1 => have hh := (repInt ra).1; cases hh
            | sl u => simp [eqG] at h1
            | _ => obtain ⟨cs, hh, _⟩ := repV_agg ra rfl; cases hh
theorem bin_ok (hs : Sim c) {op : BinOp} {t : TypeId} {x y : AV} {xv yv : Value} (hx : RepV c x xv) (hy : RepV c y yv) (px py : Operand) :
    OpS P c (do pure (.value (← (do eqGuard op t px py xv yv; binOp op t xv yv : Sem Value))) : Sem Next) (binA P op t x y) := by
  refine OpS.pure hs fun R k r hr => ?_
  have general : (binA P op t x y = match op with
    | .eql => (eqA P t x y).bind fun b => .ret (.v .bool b)
    | .neq => (eqA P t x y).bind fun b => .ret (.v .bool (!b))
    | _ => .fail) → ∃ av v, ((do pure (.value (← (do eqGuard op t px py xv yv; binOp op t xv yv : Sem Value))) : Sem Next)).run P c.w = .ok (.value v) c.w ∧ RepV c av v ∧ k av c.H = some r := by
    intro he
    rw [he] at hr
    cases op <;> simp only at hr <;> try (cases hr; done)
    · rw [HM.run_bind] at hr
      obtain ⟨b, h1, h2⟩ := eqA_ok hx hy px py (.inl rfl) hr c.w
      exact ⟨_, _, run_v h1, repBoolMk rfl, h2⟩
    · rw [HM.run_bind] at hr
      obtain ⟨b, h1, h2⟩ := eqA_ok hx hy px py (.inr rfl) hr c.w
      exact ⟨_, _, run_v h1, repBoolMk rfl, h2⟩
  by_cases hxi : ∃ k a, x = .v (.int k) a
  · obtain ⟨k1, a, rfl⟩ := hxi
    by_cases hyi : ∃ k a, y = .v (.int k) a
    · obtain ⟨k2, b, rfl⟩ := hyi
      obtain ⟨e1, w1⟩ := repInt hx
      obtain ⟨e2, w2⟩ := repInt hy
      subst e1; subst e2
      simp only [binA] at hr
      cases hsh : isShift op with
      | true =>
        rw [hsh] at hr
        obtain ⟨av, v, h1, h2, h3⟩ := shift_ok (c := c) (P := P) (t := t) (x := px) (y := py) (k' := k2) w1 hr c.w
        exact ⟨av, v, run_v h1, h2, h3⟩
      | false =>
        rw [hsh] at hr
        obtain ⟨hk, hr⟩ := HM.run_bif hr
        have := kEq_eq hk
        subst this
        obtain ⟨av, v, h1, h2, h3⟩ := int_ok (c := c) (P := P) (t := t) (x := px) (y := py) w1 hsh hr c.w
        exact ⟨av, v, run_v h1, h2, h3⟩
    · refine general ?_
      cases y <;> try (cases op <;> rfl; done)
      rename_i u z
      cases u <;> first | (cases op <;> rfl; done) | exact absurd ⟨_, _, rfl⟩ hyi
  · by_cases hxs : ∃ a, x = .v .str a
    · obtain ⟨a, rfl⟩ := hxs
      by_cases hys : ∃ a, y = .v .str a
      · obtain ⟨b, rfl⟩ := hys
        simp only [binA] at hr
        obtain ⟨av, v, h1, h2, h3⟩ := str_ok (P := P) (t := t) (x := px) (y := py) hx hy hr c.w
        exact ⟨av, v, run_v h1, h2, h3⟩
      · refine general ?_
        cases y <;> try (cases op <;> rfl; done)
        rename_i u z
        cases u <;> first | (cases op <;> rfl; done) | exact absurd ⟨_, rfl⟩ hys
    · refine general ?_
      cases x <;> try (cases op <;> rfl; done)
      rename_i u z
      cases u <;> first | (cases op <;> rfl; done) | exact absurd ⟨_, _, rfl⟩ hxi | exact absurd ⟨_, rfl⟩ hxs
end
end Go.Ab
