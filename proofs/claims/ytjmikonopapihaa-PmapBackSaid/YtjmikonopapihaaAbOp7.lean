import Derived.Test.YtjmikonopapihaaAbOp6
import Derived.ChangeKeysEq
/-
  AB: comparisons of data.
-/
namespace Go.Ab
set_option linter.unusedSimpArgs false
section
variable {P : Program} {c : Cx}
/-- a part of a struct's cells, as a value -/
theorem run_part {t : TypeId} {a : AV} {pre mid post : List Value} {off : Nat} (h : szOk P t a = true) (hr : RepA c a mid) (ho : pre.length = off) (w : World) :
    ∃ v, (part t (pre ++ (mid ++ post)).toArray off).run P w = .ok v w ∧ RepV c a v := by
  obtain ⟨i, hi, hs, hg, hb⟩ := szOk_spec h
  have hl : mid.length = i.size := by rw [hs]; exact hr.length
  unfold part
  simp only [Sem.run_bind, run_isAgg hg, Result.andThen_ok]
  cases hag : a.isAgg with
  | true =>
    refine ⟨.agg mid.toArray, ?_, repV_of hb ?_⟩
    · simp [run_size hi, ← ho, ← hl]
    · unfold RepV1; rw [hag]; exact ⟨mid, rfl, hr⟩
  | false =>
    have h1 : mid.length = 1 := by
      rw [hr.length]
      unfold AV.isAgg at hag
      unfold AV.csz
      cases hk : a.sk <;> simp [hk, Sk.isAgg, Sk.isBad, Sk.csz] at hag hb ⊢
    obtain ⟨v, hv⟩ : ∃ v, mid = [v] := by
      match mid, h1 with
      | [v], _ => exact ⟨v, rfl⟩
    subst hv
    refine ⟨v, ?_, repV_of hb ?_⟩
    · simp [← ho]
    · unfold RepV1; rw [hag]; exact hr
theorem repV_agg {u : Ty} {x : El u} {v : Value} (h : RepV c (.v u x) v) (hu : u.isAgg = true) : ∃ cs : List Value, v = .agg cs.toArray ∧ RepC c.S c.w u x cs := by
  have h1 : RepV1 c (.v u x) v := h
  unfold RepV1 at h1
  rw [show (AV.v u x).isAgg = true from hu] at h1
  exact h1
theorem eqItems_run {u : Ty} {e : TypeId} {d : Nat} (he : szOk P e (.v u (zero u)) = true) (w : World)
    (ih : ∀ (a b : El u) (va vb : Value), RepV c (.v u a) va → RepV c (.v u b) vb → (Op.equalIn d e va vb).run P w = .ok (eqT u a b) w) :
    ∀ (xs ys : List (El u)) (pre pre' cs ds : List Value) (j : Nat), xs.length = ys.length → RepCs (RepC c.S c.w u) xs cs → RepCs (RepC c.S c.w u) ys ds → pre.length = j * P.cellsOf e → pre'.length = j * P.cellsOf e →
      (Op.eqItems d e (P.cellsOf e) (pre ++ cs).toArray (pre' ++ ds).toArray (List.range' j xs.length)).run P w = .ok (eqLs (eqT u) xs ys) w
  | [], ys, pre, pre', cs, ds, j, hl, _, _, _, _ => by
    cases ys with
    | nil => simp [Op.eqItems, eqLs]
    | cons _ _ => simp at hl
  | x :: xs, ys, pre, pre', cs, ds, j, hl, h1, h2, hp, hp' => by
    cases ys with
    | nil => simp at hl
    | cons y ys =>
      obtain ⟨c1, c2, e1, g1, g2⟩ := h1
      obtain ⟨d1, d2, e2, k1, k2⟩ := h2
      have he1 : szOk P e (.v u x) = true := he
      have he2 : szOk P e (.v u y) = true := he
      obtain ⟨i, hi, hs, _, _⟩ := szOk_spec he
      have hcs : P.cellsOf e = u.csz := by unfold Program.cellsOf; rw [hi]; exact hs
      obtain ⟨va, r1, r2⟩ := run_part (c := c) (pre := pre) (post := c2) he1 g1 hp w
      obtain ⟨vb, s1, s2⟩ := run_part (c := c) (pre := pre') (post := d2) he2 k1 hp' w
      have hrest := eqItems_run he w ih xs ys (pre ++ c1) (pre' ++ d1) c2 d2 (j + 1) (by simpa using hl) g2 k2
        (by rw [List.length_append, hp, RepC.length g1, hcs, Nat.succ_mul]) (by rw [List.length_append, hp', RepC.length k1, hcs, Nat.succ_mul])
      rw [e1, e2, List.length_cons, List.range'_succ]
      simp only [Op.eqItems, Sem.run_bind, r1, s1, Result.andThen_ok, ih x y va vb r2 s2]
      cases hq : eqT u x y with
      | false => simp [eqLs, hq]
      | true =>
        rw [List.append_assoc, List.append_assoc] at hrest
        simp only [Bool.not_true, Bool.false_eq_true, if_false, eqLs, hq, Bool.true_and]
        exact hrest
theorem eqG_run : ∀ (u : Ty) (m : TypeId ⊕ (List Field × Nat)), eqG P u m = true →
    (∀ t, m = .inl t → ∀ (a b : El u) (va vb : Value) (d : Nat), u.depth ≤ d → RepV c (.v u a) va → RepV c (.v u b) vb → ∀ w, (Op.equalIn d t va vb).run P w = .ok (eqT u a b) w) ∧
    (∀ fs off, m = .inr (fs, off) → ∀ (a b : El u) (pre pre' cs ds : List Value) (d : Nat), u.depth ≤ d → RepC c.S c.w u a cs → RepC c.S c.w u b ds → pre.length = off → pre'.length = off → ∀ w, (Op.eqFields d (pre ++ cs).toArray (pre' ++ ds).toArray fs).run P w = .ok (eqT u a b) w) := by
  intro u
  induction u with
  | int k =>
    intro m h
    refine ⟨fun t hm a b va vb d hd ha hb w => ?_, fun fs off hm => by subst hm; simp [eqG] at h⟩
    subst hm
    simp only [eqG] at h
    split at h
    · rename_i k' hu
      obtain ⟨e1, _⟩ := repInt ha
      obtain ⟨e2, _⟩ := repInt hb
      subst e1; subst e2
      obtain ⟨d, rfl⟩ : ∃ e, d = e + 1 := ⟨d - 1, by simp only [Ty.depth] at hd; omega⟩
      rw [run_equalIn_int w d t k k' a b hu]
      show Result.ok (a == b) w = Result.ok (decide (a = b)) w
      congr 1
    · cases h
  | bool =>
    intro m h
    refine ⟨fun t hm a b va vb d hd ha hb w => ?_, fun fs off hm => by subst hm; simp [eqG] at h⟩
    subst hm
    simp only [eqG] at h
    split at h
    · rename_i hu
      have e1 := List.singleton_inj.1 (show [va] = [.bool a] from ha)
      have e2 := List.singleton_inj.1 (show [vb] = [.bool b] from hb)
      subst e1; subst e2
      obtain ⟨d, rfl⟩ : ∃ e, d = e + 1 := ⟨d - 1, by simp only [Ty.depth] at hd; omega⟩
      exact run_equalIn_bool w d t a b hu
    · cases h
  | str =>
    intro m h
    refine ⟨fun t hm a b va vb d hd ha hb w => ?_, fun fs off hm => by subst hm; simp [eqG] at h⟩
    subst hm
    simp only [eqG] at h
    split at h
    · rename_i hu
      obtain ⟨s1, e1, e2, e3⟩ := (show RepC c.S c.w .str a [va] from ha)
      obtain ⟨s2, f1, f2, f3⟩ := (show RepC c.S c.w .str b [vb] from hb)
      rw [List.singleton_inj.1 e1, List.singleton_inj.1 f1]
      obtain ⟨d, rfl⟩ : ∃ e, d = e + 1 := ⟨d - 1, by simp only [Ty.depth] at hd; omega⟩
      rw [run_equalIn_string w d t s1 s2 hu]
      show _ = Result.ok (eqbL a b) w
      rw [e2, f2, eqbL_bytes]
    · cases h
  | sl u ih => intro m h; simp [eqG] at h
  | unit =>
    intro m h
    simp only [eqG] at h
    split at h
    · rename_i off hf
      refine ⟨fun t hm a b va vb d hd ha hb w => ?_, fun fs off' hm a b pre pre' cs ds d hd ha hb hp hp' w => ?_⟩
      · subst hm
        simp only [eqFlds] at hf
        split at hf
        · rename_i fs hu
          cases hst : P.stoodInHeld t with
          | true => rw [hst] at hf; cases hf
          | false =>
            rw [hst] at hf
            have hfs : fs.toList = [] := congrArg Prod.fst (Option.some.inj hf)
            obtain ⟨cs, e1, _⟩ := repV_agg ha rfl
            obtain ⟨ds, e2, _⟩ := repV_agg hb rfl
            subst e1; subst e2
            obtain ⟨d, rfl⟩ : ∃ e, d = e + 1 := ⟨d - 1, by simp only [Ty.depth] at hd; omega⟩
            rw [run_equalIn_struct w d t _ _ (by unfold Program.fieldsOf; rw [hu]) hst]
            rw [show (P.fieldsOf t).toList = [] from by unfold Program.fieldsOf; rw [hu]; exact hfs]
            rfl
        · cases hf
      · subst hm
        cases hf
        rfl
    · cases h
  | arr n u ih =>
    intro m h
    refine ⟨fun t hm a b va vb d hd ha hb w => ?_, fun fs off hm => by subst hm; simp [eqG] at h⟩
    subst hm
    simp only [eqG] at h
    split at h
    · rename_i n' e hu
      simp only [Bool.and_eq_true] at h
      obtain ⟨⟨h1, h2⟩, h3⟩ := h
      have hn := beq_nat h1
      subst hn
      obtain ⟨cs, e1, ha1, ha2⟩ := repV_agg ha rfl
      obtain ⟨ds, e2, hb1, hb2⟩ := repV_agg hb rfl
      subst e1; subst e2
      obtain ⟨i, hi, hs, _, _⟩ := szOk_spec h2
      have hd' : u.depth + 1 ≤ d := hd
      obtain ⟨d, rfl⟩ : ∃ e, d = e + 1 := ⟨d - 1, by omega⟩
      rw [run_equalIn_array w d _ _ hu hi]
      have := eqItems_run (P := P) (c := c) (d := d) h2 w (fun a b va vb r1 r2 => (ih (.inl e) h3).1 e rfl a b va vb d (by omega) r1 r2 w) a b [] [] cs ds 0 (by rw [ha1, hb1]) ha2 hb2 (by simp) (by simp)
      rw [ha1] at this
      rw [List.range_eq_range']
      exact this
    · cases h
  | pair u v ihu ihv =>
    intro m h
    simp only [eqG] at h
    split at h
    · rename_i f r off hf
      simp only [Bool.and_eq_true] at h
      obtain ⟨⟨⟨⟨h1, h2⟩, h3⟩, h4⟩, h5⟩ := h
      have hname : f.name ≠ "_" := by simpa using h1
      have fields : ∀ (a b : El (.pair u v)) (pre pre' cs ds : List Value) (d : Nat), (Ty.pair u v).depth ≤ d + 1 → RepC c.S c.w (.pair u v) a cs → RepC c.S c.w (.pair u v) b ds → pre.length = off → pre'.length = off → ∀ w, (Op.eqFields d (pre ++ cs).toArray (pre' ++ ds).toArray (f :: r)).run P w = .ok (eqT (.pair u v) a b) w := by
        intro a b pre pre' cs ds d hd ha hb hp hp' w
        obtain ⟨c1, c2, e1, g1, g2⟩ := ha
        obtain ⟨d1, d2, e2, k1, k2⟩ := hb
        have hd' : u.depth + v.depth + 1 ≤ d + 1 := hd
        obtain ⟨i, hi, hs, _, _⟩ := szOk_spec h3
        have ho := beq_nat h2
        obtain ⟨va, r1, r2⟩ := run_part (P := P) (c := c) (pre := pre) (post := c2) (a := .v u a.1) h3 g1 (hp.trans ho.symm) w
        obtain ⟨vb, s1, s2⟩ := run_part (P := P) (c := c) (pre := pre') (post := d2) (a := .v u b.1) h3 k1 (hp'.trans ho.symm) w
        have he := (ihu (.inl f.type) h4).1 f.type rfl a.1 b.1 va vb d (by omega) r2 s2 w
        have hrest := (ihv (.inr (r, off + u.csz)) h5).2 r (off + u.csz) rfl a.2 b.2 (pre ++ c1) (pre' ++ d1) c2 d2 d (by omega) g2 k2 (by rw [List.length_append, hp, RepC.length g1]) (by rw [List.length_append, hp', RepC.length k1]) w
        rw [e1, e2]
        simp only [Op.eqFields, hname, ne_eq, not_false_eq_true, if_true, Sem.run_bind, r1, s1, Result.andThen_ok, he]
        cases hq : eqT u a.1 b.1 with
        | false => simp [eqT, hq]
        | true =>
          rw [List.append_assoc, List.append_assoc] at hrest
          simp only [Bool.not_true, Bool.false_eq_true, if_false, eqT, hq, Bool.true_and]
          exact hrest
      refine ⟨fun t hm a b va vb d hd ha hb w => ?_, fun fs off' hm a b pre pre' cs ds d hd ha hb hp hp' w => ?_⟩
      · subst hm
        simp only [eqFlds] at hf
        split at hf
        · rename_i fs hu
          cases hst : P.stoodInHeld t with
          | true => rw [hst] at hf; cases hf
          | false =>
            rw [hst] at hf
            obtain ⟨hfs, hoff⟩ : fs.toList = f :: r ∧ 0 = off := by
              have := Option.some.inj hf
              exact ⟨congrArg Prod.fst this, congrArg Prod.snd this⟩
            obtain ⟨cs, e1, ha1⟩ := repV_agg ha rfl
            obtain ⟨ds, e2, hb1⟩ := repV_agg hb rfl
            subst e1; subst e2
            have hd' : u.depth + v.depth + 1 ≤ d := hd
            obtain ⟨d, rfl⟩ : ∃ e, d = e + 1 := ⟨d - 1, by omega⟩
            rw [run_equalIn_struct w d t _ _ (by unfold Program.fieldsOf; rw [hu]) hst]
            rw [show (P.fieldsOf t).toList = f :: r from by unfold Program.fieldsOf; rw [hu]; exact hfs]
            exact fields a b [] [] cs ds d hd ha1 hb1 hoff hoff w
        · cases hf
      · subst hm
        cases hf
        exact fields a b pre pre' cs ds d (by omega) ha hb hp hp' w
    · cases h
end
end Go.Ab
