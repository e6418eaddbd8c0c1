import Derived.Test.YtjmikonopapihaaAbOp4
/-
  AB: slices cut; conversions; arithmetic; comparisons.
-/
namespace Go.Ab
set_option linter.unusedSimpArgs false
theorem List.drop_take' {α : Type} (l : List α) (a b : Nat) : (l.drop a).take (b - a) = (l.take b).drop a := by
  rw [List.drop_take]
theorem bytesOf_extract (s : ByteArray) (l h : Nat) : bytesOf (s.extract l h) = ((bytesOf s).take h).drop l := by
  unfold bytesOf
  rw [ByteArray.data_extract, Array.toList_extract, List.extract_eq_take_drop, List.map_take, List.map_drop, List.drop_take']
section
variable {P : Program} {c : Cx}
theorem bnd_ok {ρ : Operand → AV} {ρ' : Operand → Value} (hρ : ∀ x, RepV c (ρ x) (ρ' x)) {lo : Option Operand} {d l : Int} (h : bndA (lo.map ρ) d = some l) :
    (lo = none ∧ l = d) ∨ ∃ x k, lo = some x ∧ ρ' x = .int k l := by
  cases lo with
  | none => exact .inl ⟨rfl, (Option.some.inj h).symm⟩
  | some x =>
    simp only [Option.map_some] at h
    have hx := hρ x
    cases hρx : ρ x <;> rw [hρx] at h hx <;> simp only [bndA] at h <;> try (cases h; done)
    rename_i u y
    cases u <;> simp only at h <;> try (cases h; done)
    cases h
    exact .inr ⟨x, _, rfl, (repInt hx).1⟩
theorem bounds_ok {ρ : Operand → AV} {ρ' : Operand → Value} (hρ : ∀ x, RepV c (ρ x) (ρ' x)) {lo hi : Option Operand} {l h : Int} {len cap : Nat} {b : Bool} (hl : bndA (lo.map ρ) 0 = some l) (hh : bndA (hi.map ρ) len = some h)
    (h0 : 0 ≤ l) (h1 : l ≤ h) (h2 : h ≤ len) (h3 : len ≤ cap) (w : World) :
    (Instr.sliceBounds b len cap (lo.map ρ') (hi.map ρ') none).run P w = .ok (l.toNat, h.toNat, cap) w := by
  rcases bnd_ok hρ hl with ⟨e1, e2⟩ | ⟨x, k, e1, e2⟩ <;> rcases bnd_ok hρ hh with ⟨f1, f2⟩ | ⟨y, j, f1, f2⟩
  · subst e1; subst e2; subst f1; subst f2
    simp [Instr.sliceBounds]
  · subst e1; subst e2; subst f1
    have : h ≤ (cap : Int) := by omega
    simp [Instr.sliceBounds, f2, Instr.sliceBound, asIntOf, h1, this]
  · subst e1; subst f1; subst f2
    simp [Instr.sliceBounds, e2, Instr.sliceBound, asIntOf, h0, h1]
  · subst e1; subst f1
    have : h ≤ (cap : Int) := by omega
    have hh0 : 0 ≤ h := by omega
    have hl' : l ≤ (h.toNat : Int) := by omega
    simp [Instr.sliceBounds, e2, f2, Instr.sliceBound, asIntOf, h0, this, hh0, hl']
    omega
theorem subOk_spec {l h n : Int} (e : subOk l h n = true) : 0 ≤ l ∧ l ≤ h ∧ h ≤ n := by
  unfold subOk at e
  simpa using e
theorem run_isAny {t : TypeId} {d : TypeDesc} (h : P.underlying t = some d) (w : World) : (underlying t).run P w = .ok d w := run_underlying h w
theorem osub_none {α : Type} (o : Option (List α)) (l h : Nat) : (osub o l h) = o.map fun xs => (xs.take h).drop l := by cases o <;> rfl
/-- a part of a slice of data -/
theorem sub_rep {u : Ty} {xs : List (El u)} {b off cap cap' : Nat} {vs : List Value} {l h : Nat} (h2 : xs.length ≤ cap) (h3 : cap ≤ maxLen) (h4 : xs ≠ [] → c.S b) (h5 : RepCs (RepC c.S c.w u) xs vs) (h6 : At c.w b off vs)
    (k1 : l ≤ h) (k2 : h ≤ xs.length) (hcap : cap' = cap - l) :
    RepC c.S c.w (.sl u) (some ((xs.take h).drop l)) [.slice (some ⟨b, off + l * u.csz, none⟩) (h - l) cap'] := by
  have hlen : ((xs.take h).drop l).length = h - l := by rw [List.length_drop, List.length_take]; omega
  have hc1 := RepCs.take (n := u.csz) (fun _ _ h => RepC.length h) h h5
  have hc2 := RepCs.drop (n := u.csz) (fun _ _ h => RepC.length h) l hc1
  refine ⟨b, off + l * u.csz, cap', _, none, by rw [hlen], by rw [hlen]; omega, by omega, fun hne => h4 (fun e => hne (by rw [e]; simp)), hc2, ?_, fun _ => rfl⟩
  intro j z hj
  rw [List.getElem?_drop] at hj
  have hj' : (l * u.csz + j) < h * u.csz := by
    have := lt_of_get hj
    rw [List.length_take] at this
    omega
  rw [List.getElem?_take_of_lt hj'] at hj
  have := h6 (l * u.csz + j) z hj
  rw [Nat.add_assoc]
  exact this
theorem slice_add (b off l n : Nat) (hm : Bool) : (if hm = true then (⟨b, off, none⟩ : Addr) else (⟨b, off, none⟩ : Addr).add (l * n)) = ⟨b, off + (if hm = true then 0 else l * n), none⟩ := by
  cases hm <;> simp [add_lit]
theorem slice_ok (hs : Sim c) {ρ : Operand → AV} {ρ' : Operand → Value} (hρ : ∀ x, RepV c (ρ x) (ρ' x)) {t : TypeId} {x : Operand} {lo hi : Option Operand} :
    OpS P c (do pure (.value (← Instr.sliceAt t (ρ' x) (lo.map ρ') (hi.map ρ') none)) : Sem Next) (sliceA P t (ρ x) (lo.map ρ) (hi.map ρ)) := by
  intro R k r next hr hk
  unfold sliceA at hr
  rw [HM.run_bind] at hr
  obtain ⟨c1, y, f1, m1, s1, w1, l1, r1, k1, hr⟩ := unhs_ok hs (hρ x) hr
  have hρ1 : ∀ z, RepV c1 (ρ z) (ρ' z) := fun z => (hρ z).mono m1
  have done : ∀ (av : AV) (v : Value), (Instr.sliceAt t (ρ' x) (lo.map ρ') (hi.map ρ') none).run P c1.w = .ok v c1.w → RepV c1 av v → k av c1.H = some r →
      Goes P next ((do pure (.value (← Instr.sliceAt t (ρ' x) (lo.map ρ') (hi.map ρ') none)) : Sem Next).run P c.w) := fun av v h1 h2 h3 => by
    rw [← w1, run_v h1]
    exact hk c1 av v f1 m1 s1 h2 h3
  cases y <;> (try simp only at hr) <;> try (cases hr; done)
  case v u o =>
    cases u <;> (try simp only at hr) <;> try (cases hr; done)
    case str =>
      obtain ⟨s, e1, e2, e3⟩ := (show RepC c1.S c1.w .str o [ρ' x] from r1)
      cases hl : bndA (lo.map ρ) 0 with
      | none => rw [hl] at hr; cases hr
      | some l =>
        cases hh : bndA (hi.map ρ) (o.length : Int) with
        | none => rw [hl, hh] at hr; cases hr
        | some h =>
          rw [hl, hh] at hr
          obtain ⟨h1, hr⟩ := HM.run_bif hr
          obtain ⟨h2, hr⟩ := HM.run_need hr
          obtain ⟨p0, p1, p2⟩ := subOk_spec h2
          have p2 : h ≤ (o.length : Int) := p2
          have hsz : o.length = s.size := by rw [e2, bytesOf_len]
          rw [hsz] at hh p2
          have hb := bounds_ok (P := P) (b := false) (cap := s.size) hρ1 hl hh p0 p1 p2 (Nat.le_refl _) c1.w
          refine done _ (.string (s.extract l.toNat h.toNat)) ?_ ?_ hr
          · rw [List.singleton_inj.1 e1]
            simp only [Instr.sliceAt, Sem.run_bind, run_underlying (stOk_spec h1), Result.andThen_ok, Instr.slice, hb]
            simp
            rw [hb]
            rfl
          · exact ⟨_, rfl, by rw [bytesOf_extract, e2], by
              have : (s.extract l.toNat h.toNat).size ≤ s.size := by
                rw [← bytesOf_len, ← bytesOf_len, bytesOf_extract, List.length_drop, List.length_take]; omega
              omega⟩
    case sl u =>
      cases hl : bndA (lo.map ρ) 0 with
      | none => rw [hl] at hr; cases hr
      | some l =>
        cases hh : bndA (hi.map ρ) (olen o) with
        | none => rw [hl, hh] at hr; cases hr
        | some h =>
          rw [hl, hh] at hr
          obtain ⟨h1, hr⟩ := HM.run_bif hr
          obtain ⟨h2, hr⟩ := HM.run_need hr
          obtain ⟨p0, p1, p2⟩ := subOk_spec h2
          obtain ⟨e, ti, q1, q2, q3⟩ := slOk_spec h1
          have r1' : RepC c1.S c1.w (.sl u) o [ρ' x] := r1
          cases o with
          | none =>
            have hb := bounds_ok (P := P) (b := true) (len := 0) (cap := 0) hρ1 hl hh p0 p1 p2 (Nat.le_refl _) c1.w
            refine done _ (.slice none (h.toNat - l.toNat) (0 - l.toNat)) ?_ ?_ hr
            · rw [List.singleton_inj.1 (show [ρ' x] = [.slice none 0 0] from r1')]
              simp only [Instr.sliceAt, Sem.run_bind, run_underlying q1, Result.andThen_ok, Instr.slice, hb, run_size q2]
              simp
            · have : (olen (none : Option (List (El u)))) = 0 := rfl
              rw [this] at p2
              have e1 : h.toNat - l.toNat = 0 := by omega
              have e2 : 0 - l.toNat = 0 := by omega
              rw [e1, e2]
              exact (rfl : [Value.slice none 0 0] = [Value.slice none 0 0])
          | some xs =>
            obtain ⟨b, off, cap, vs, sp, g1, g2, g3, g4, g5, g6, g7⟩ := r1'
            have hb := bounds_ok (P := P) (b := true) (len := xs.length) (cap := cap) hρ1 hl hh p0 p1 p2 g2 c1.w
            have p2' : h ≤ (xs.length : Int) := p2
            refine done _ (.slice (some (if cap = l.toNat then ⟨b, off, sp⟩ else ⟨b, off + l.toNat * u.csz, none⟩)) (h.toNat - l.toNat) (cap - l.toNat)) ?_ ?_ hr
            · rw [List.singleton_inj.1 g1]
              simp only [Instr.sliceAt, Sem.run_bind, run_underlying q1, Result.andThen_ok, Instr.slice, hb, run_size q2]
              by_cases hc : cap = l.toNat
              · simp [hc]
              · have hsp : sp = none := g7 (by omega)
                simp [hc, add_lit, q3, hsp]
            · by_cases hc : cap = l.toNat
              · rw [if_pos hc]
                have h1 : h.toNat - l.toNat = 0 := by omega
                have h2 : dsub xs l.toNat h.toNat = [] := List.drop_eq_nil_of_le (by rw [List.length_take]; omega)
                refine ⟨b, off, cap - l.toNat, [], sp, ?_, ?_, by omega, fun hne => absurd h2 hne, ?_, fun j z hj => by simp at hj, fun q => absurd (by omega) q⟩
                · rw [h2, h1]; rfl
                · rw [h2]; simp
                · rw [h2]; rfl
              · rw [if_neg hc]
                exact sub_rep g2 g3 g4 g5 g6 (by omega) (by omega) rfl
  case pv u xs =>
    cases u <;> (try simp only at hr) <;> try (cases hr; done)
    rename_i n u
    cases hl : bndA (lo.map ρ) 0 with
    | none => rw [hl] at hr; cases hr
    | some l =>
      cases hh : bndA (hi.map ρ) (n : Int) with
      | none => rw [hl, hh] at hr; cases hr
      | some h =>
        rw [hl, hh] at hr
        obtain ⟨h1, hr⟩ := HM.run_bif hr
        obtain ⟨h2, hr⟩ := HM.run_need hr
        obtain ⟨p0, p1, p2⟩ := subOk_spec h2
        obtain ⟨e, ti, q1, q2, q3⟩ := arOk_spec h1
        have q4 := arOk_le h1
        obtain ⟨b, off, vs, g1, g2, ⟨g3, g4⟩, g5⟩ := (show RepA c1 (.pv (.arr n u) xs) [ρ' x] from r1)
        have hb := bounds_ok (P := P) (b := false) (len := n) (cap := n) hρ1 hl hh p0 p1 p2 (Nat.le_refl _) c1.w
        · have hn : n ≤ maxLen := by unfold maxLen; omega
          refine done _ (.slice (some (if n = l.toNat then ⟨b, off, none⟩ else ⟨b, off + l.toNat * u.csz, none⟩)) (h.toNat - l.toNat) (n - l.toNat)) ?_ ?_ hr
          · rw [List.singleton_inj.1 g1]
            simp only [Instr.sliceAt, Sem.run_bind, run_underlying q1, Result.andThen_ok, Instr.sureAddr, Sem.run_pure, hb, run_size q2]
            by_cases hc : n = l.toNat
            · simp [hc]
            · simp [hc, add_lit, q3]
          · by_cases hc : n = l.toNat
            · rw [if_pos hc]
              have h1 : h.toNat - l.toNat = 0 := by omega
              have h2 : dsub xs l.toNat h.toNat = [] := List.drop_eq_nil_of_le (by rw [List.length_take]; omega)
              refine ⟨b, off, n - l.toNat, [], none, ?_, ?_, by omega, fun _ => g2, ?_, fun j z hj => by simp at hj, fun _ => rfl⟩
              · rw [h2, h1]; rfl
              · rw [h2]; simp
              · rw [h2]; rfl
            · rw [if_neg hc]
              exact sub_rep (by omega) hn (fun _ => g2) g4 g5 (by omega) (by omega) rfl
  case ptr id ver path =>
    obtain ⟨ob, ho, hh0, hr⟩ := HM.run_get hr
    cases ob <;> (try simp only at hr) <;> try (cases hr; done)
    rename_i bx
    cases hv : Nat.beq ver 0 with
    | false => rw [hv] at hr; cases hr
    | true =>
      rw [hv] at hr
      simp only [cond_true] at hr
      cases hg : bx.getP path <;> rw [hg] at hr <;> (try simp only at hr) <;> try (cases hr; done)
      rename_i u0 xs
      cases u0 <;> (try simp only at hr) <;> try (cases hr; done)
      rename_i n u
      cases hl : bndA (lo.map ρ) 0 with
      | none => rw [hl] at hr; cases hr
      | some l =>
        cases hh : bndA (hi.map ρ) (n : Int) with
        | none => rw [hl, hh] at hr; cases hr
        | some h =>
          rw [hl, hh] at hr
          obtain ⟨h1, hr⟩ := HM.run_bif hr
          obtain ⟨h2, hr⟩ := HM.run_need hr
          obtain ⟨p0, p1, p2⟩ := subOk_spec h2
          obtain ⟨e, ti, q1, q2, q3⟩ := arOk_spec h1
          have q4 := arOk_le h1
          obtain ⟨v', b, g1, g2, g3, g4⟩ := repPtr r1 ho (show HO.ver (.box bx) = ver from (beq_nat hv).symm) rfl
          have hb := bounds_ok (P := P) (b := false) (len := n) (cap := n) hρ1 hl hh p0 p1 p2 (Nat.le_refl _) c1.w
          have hn : n ≤ maxLen := by unfold maxLen; omega
          have hsk : (HO.box bx).sk.fldP path = .arr n u.sk := by show bx.sk.fldP path = _; rw [← getP_sk, hg]; rfl
          refine done _ (.slice (some ⟨b, if n = l.toNat then Sk.offP path (HO.box bx).sk else Sk.offP path (HO.box bx).sk + l.toNat * u.csz, none⟩) (h.toNat - l.toNat) (n - l.toNat)) ?_ ?_ hr
          · rw [g4]
            simp only [Instr.sliceAt, Sem.run_bind, run_underlying q1, Result.andThen_ok, Instr.sureAddr, Sem.run_pure, hb, run_size q2]
            by_cases hc : n = l.toNat
            · simp [hc]
            · simp [hc, add_lit, q3]
          · refine (show RepA c1 (.sv id ver path l.toNat h.toNat) [_] from ⟨.box bx, v', ho, g1, rfl, by rw [beq_nat hv]; exact Nat.le_refl _, ⟨_, _, _, rfl⟩, fun _ _ => ⟨b, _, n, u.sk, g2, g3, hsk, by omega, by omega, hn, fun hlt => ?_, rfl⟩⟩)
            rw [if_neg (by omega)]
            rfl
end
end Go.Ab
