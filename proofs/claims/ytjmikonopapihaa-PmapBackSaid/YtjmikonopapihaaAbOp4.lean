import Derived.Test.YtjmikonopapihaaAbOp3
/-
  AB: elements' addresses, elements, lengths, slices cut.
-/
namespace Go.Ab
set_option linter.unusedSimpArgs false
section
variable {P : Program} {c : Cx}
theorem repIntMk {k : IntKind} {n : Int} (h : k.wrap n = n) : RepV c (.v (.int k) n) (.int k n) := ⟨rfl, h⟩
theorem repPvMk {u : Ty} {x : El u} {b off : Nat} {vs : List Value} (h2 : c.S b) (h3 : RepC c.S c.w u x vs) (h4 : At c.w b off vs) : RepV c (.pv u x) (.pointer (some ⟨b, off, none⟩)) := ⟨b, off, vs, rfl, h2, h3, h4⟩
theorem slOk_spec {t : TypeId} {n : Nat} (h : slOk P t n = true) : ∃ e i, P.underlying t = some (.slice e) ∧ P.info? e = some i ∧ i.size = n := by
  unfold slOk at h
  split at h
  · rename_i e he
    split at h
    · rename_i i hi; exact ⟨e, i, he, hi, beq_nat h⟩
    · cases h
  · cases h
theorem arOk_spec {t : TypeId} {m n : Nat} (h : arOk P t m n = true) : ∃ e i, P.underlying t = some (.array m e) ∧ P.info? e = some i ∧ i.size = n := by
  unfold arOk at h
  split at h
  · rename_i l e he
    simp only [Bool.and_eq_true] at h
    obtain ⟨⟨h1, _⟩, h⟩ := h
    split at h
    · rename_i i hi; exact ⟨e, i, by rw [he, beq_nat h1], hi, beq_nat h⟩
    · cases h
  · cases h
theorem arOk_le {t : TypeId} {m n : Nat} (h : arOk P t m n = true) : m ≤ 16777216 := by
  unfold arOk at h
  split at h
  · simp only [Bool.and_eq_true] at h
    exact Nat.le_of_ble_eq_true h.1.2
  · cases h
theorem stOk_spec {t : TypeId} (h : stOk P t = true) : P.underlying t = some .string := by
  unfold stOk at h
  split at h
  · assumption
  · cases h
theorem idxOk_spec {n len : Int} (h : idxOk n len = true) : 0 ≤ n ∧ n < len := by
  unfold idxOk at h
  simpa using h
theorem run_indexAt_slice {t e : TypeId} {i : TypeInfo} (ht : P.underlying t = some (.slice e)) (hi : P.info? e = some i) {b off len cap : Nat} {k : IntKind} {n : Int} (h0 : 0 ≤ n) (h1 : n < len) (w : World) :
    (Instr.indexAt t (.slice (some ⟨b, off, none⟩) len cap) (.int k n)).run P w = .ok (.pointer (some ⟨b, off + n.toNat * i.size, none⟩)) w := by
  simp [Instr.indexAt, asIntOf, run_underlying ht, h0, h1, run_size hi, add_lit]
theorem run_indexAt_array {t e : TypeId} {m : Nat} {i : TypeInfo} (ht : P.underlying t = some (.array m e)) (hi : P.info? e = some i) {b off : Nat} {k : IntKind} {n : Int} (h0 : 0 ≤ n) (h1 : n < m) (w : World) :
    (Instr.indexAt t (.pointer (some ⟨b, off, none⟩)) (.int k n)).run P w = .ok (.pointer (some ⟨b, off + n.toNat * i.size, none⟩)) w := by
  simp [Instr.indexAt, asIntOf, run_underlying ht, Instr.sureAddr, h0, h1, run_size hi, add_lit]
theorem At.sub {w : World} {b off : Nat} {cs pre mid post : List Value} (h : At w b off cs) (e : cs = pre ++ (mid ++ post)) : At w b (off + pre.length) mid := fun q z hq => by
  have := h (pre.length + q) z (by
    rw [e, List.getElem?_append_right (by omega), Nat.add_sub_cancel_left, List.getElem?_append_left (lt_of_get hq)]; exact hq)
  rw [show off + pre.length + q = off + (pre.length + q) from by omega]
  exact this
theorem oget_getD {α : Type} (o : Option (List α)) (i : Nat) (d : α) : oget o i d = (o.getD []).getD i d := by cases o <;> simp [oget]
theorem olen_getD {α : Type} (o : Option (List α)) : olen o = ((o.getD []).length : Int) := by cases o <;> simp [olen]
/-- an element of a slice of data -/
theorem sl_elem {u : Ty} {o : Option (List (El u))} {v : Value} (h : RepC c.S c.w (.sl u) o [v]) {n : Int} (hn : idxOk n (olen o) = true) :
    ∃ b off cap mid, v = .slice (some ⟨b, off, none⟩) (o.getD []).length cap ∧ c.S b ∧ RepC c.S c.w u (oget o n.toNat (zero u)) mid ∧ At c.w b (off + n.toNat * u.csz) mid := by
  obtain ⟨h0, h1⟩ := idxOk_spec hn
  cases o with
  | none => simp [olen] at h1; omega
  | some xs =>
    obtain ⟨b, off, cap, vs, sp, e1, e2, e3, e4, e5, e6, e7⟩ := h
    have hxs : xs ≠ [] := by intro e; rw [e] at h1; simp [olen, dlen] at h1; omega
    have hsp : sp = none := e7 (by have := List.length_pos_iff.2 hxs; omega)
    subst hsp
    obtain ⟨pre, mid, post, g1, g2, g3, _⟩ := RepCs.focus (n := u.csz) (fun _ _ h => RepC.length h) (zero u) n.toNat (by simp [olen, dlen] at h1; omega) e5
    exact ⟨b, off, cap, mid, List.singleton_inj.1 e1, e4 (by intro e; rw [e] at h1; simp [olen, dlen] at h1; omega), g3, by rw [← g2]; exact e6.sub g1⟩
theorem iaddr_ok (hs : Sim c) {t : TypeId} {x i : AV} {xv iv : Value} (hx : RepV c x xv) (hi : RepV c i iv) :
    OpS P c (do pure (.value (← Instr.indexAt t xv iv)) : Sem Next) (iaddrA P t x i) := by
  refine OpS.pure hs fun R k r hr => ?_
  cases i <;> simp only [iaddrA, dlen, dget] at hr <;> try (cases hr; done)
  rename_i iu n
  cases iu <;> simp only at hr <;> try (cases hr; done)
  rename_i ik
  obtain ⟨e, _⟩ := repInt hi
  subst e
  cases x <;> (try simp only at hr) <;> try (cases hr; done)
  case v u o =>
    cases u <;> simp only at hr <;> try (cases hr; done)
    rename_i u
    obtain ⟨h1, hr⟩ := HM.run_bif hr
    obtain ⟨h2, hr⟩ := HM.run_need hr
    obtain ⟨e, ti, k1, k2, k3⟩ := slOk_spec h1
    obtain ⟨b, off, cap, mid, g1, g2, g3, g4⟩ := sl_elem hx h2
    obtain ⟨p0, p1⟩ := idxOk_spec h2
    rw [olen_getD] at p1
    rw [g1]
    exact ⟨_, _, run_v (run_indexAt_slice k1 k2 p0 p1 c.w), repPvMk g2 g3 (by rw [k3]; exact g4), hr⟩
  case hs id ver =>
    obtain ⟨o, ho, hh, hr⟩ := HM.run_get hr
    cases o <;> simp only at hr <;> try (cases hr; done)
    case row e0 ver' u fn xs =>
      obtain ⟨h1, hr⟩ := HM.run_bif hr
      obtain ⟨h2, hr⟩ := HM.run_need hr
      simp only [Bool.and_eq_true] at h1
      obtain ⟨e, ti, k1, k2, k3⟩ := slOk_spec h1.2
      obtain ⟨p0, p1⟩ := idxOk_spec h2
      have hσ := repHs hx ho (beq_nat h1.1).symm
      obtain ⟨cells, ⟨hc0, hc⟩, q2, q3, q4, q5⟩ := hs.obj id _ xv ho hσ
      rcases hc with ⟨g1, g2⟩ | ⟨g, cap, cur, g1, _, g3, g4, g5, g6, g7⟩
      · omega
      · refine ⟨_, _, run_v (by rw [g1]; exact run_indexAt_slice k1 k2 p0 p1 c.w), ?_, hr⟩
        refine ⟨_, xv, ho, hσ, rfl, by rw [beq_nat h1.1]; exact Nat.le_refl _, ⟨_, rfl⟩, fun _ _ => ⟨g, by rw [g1]; rfl, ⟨by show n.toNat < xs.length; omega, trivial⟩, ?_⟩⟩
        rw [k3]
        simp [HO.sk, Sk.offP, Sk.foff, Ty.csz]
    case frz ver' u o =>
      obtain ⟨h1, hr⟩ := HM.run_bif hr
      obtain ⟨h2, hr⟩ := HM.run_need hr
      simp only [Bool.and_eq_true] at h1
      obtain ⟨e, ti, k1, k2, k3⟩ := slOk_spec h1.2
      have hσ := repHs hx ho (beq_nat h1.1).symm
      have hx' : RepC c.S c.w (.sl u) o [xv] := hs.obj id _ xv ho hσ
      obtain ⟨b, off, cap, mid, g1, g2, g3, g4⟩ := sl_elem hx' h2
      obtain ⟨p0, p1⟩ := idxOk_spec h2
      rw [olen_getD] at p1
      rw [g1]
      exact ⟨_, _, run_v (run_indexAt_slice k1 k2 p0 p1 c.w), repPvMk g2 g3 (by rw [k3]; exact g4), hr⟩
  case ptr id ver path =>
    obtain ⟨o, ho, hh, hr⟩ := HM.run_get hr
    obtain ⟨hb, hr⟩ := HM.run_bif hr
    cases hg : o.getP path <;> rw [hg] at hr <;> try (cases hr; done)
    rename_i u y
    cases u <;> simp only at hr <;> try (cases hr; done)
    rename_i m u
    obtain ⟨h1, hr⟩ := HM.run_bif hr
    obtain ⟨h2, hr⟩ := HM.run_need hr
    obtain ⟨e, ti, k1, k2, k3⟩ := arOk_spec h1
    obtain ⟨p0, p1⟩ := idxOk_spec h2
    have hbad : (o.getP path).sk.isBad = false := by rw [hg]; rfl
    have hl := live_of_sz hbad
    have hver := (beq_nat hb).symm
    obtain ⟨v', b, g1, g2, g3, g4⟩ := repPtr hx ho hver hl
    subst g4
    have hsk : o.sk.fldP path = .arr m u.sk := by rw [← HO.getP_sk hbad, hg]; rfl
    refine ⟨_, _, run_v (run_indexAt_array k1 k2 p0 p1 c.w), ?_, hr⟩
    refine ⟨o, v', ho, g1, hh, by omega, ⟨_, rfl⟩, fun _ _ => ⟨b, g2, ?_, ?_⟩⟩
    · rw [okP_snoc, hsk]
      exact ⟨g3, by show n.toNat < m; omega⟩
    · rw [offP_snoc, hsk, k3]; rfl
  case pv u y =>
    cases u <;> simp only at hr <;> try (cases hr; done)
    rename_i m u
    obtain ⟨h1, hr⟩ := HM.run_bif hr
    obtain ⟨h2, hr⟩ := HM.run_need hr
    obtain ⟨e, ti, k1, k2, k3⟩ := arOk_spec h1
    obtain ⟨p0, p1⟩ := idxOk_spec h2
    have hx' : RepA c (.pv (.arr m u) y) [xv] := hx
    obtain ⟨b, off, vs, g1, g2, ⟨g3, g4⟩, g5⟩ := hx'
    rw [List.singleton_inj.1 g1]
    obtain ⟨pre, mid, post, e1, e2, e3, _⟩ := RepCs.focus (n := u.csz) (fun _ _ h => RepC.length h) (zero u) n.toNat (by rw [g3]; omega) g4
    exact ⟨_, _, run_v (run_indexAt_array k1 k2 p0 p1 c.w), repPvMk g2 e3 (by rw [k3, ← e2]; exact g5.sub e1), hr⟩
theorem bytesOf_get {s : ByteArray} {i : Nat} (h : i < s.size) : (bytesOf s).getD i 0 = (s[i].toNat : Int) := by
  unfold bytesOf
  rw [List.getD_eq_getElem?_getD, List.getElem?_map, List.getElem?_eq_getElem (by simpa using h)]
  rfl
theorem byte_in (b : UInt8) : IntKind.wrap .u8 (b.toNat : Int) = b.toNat := by
  have := b.toNat_lt
  simp [IntKind.wrap, IntKind.bits, IntKind.signed]
  omega
theorem index_ok (hs : Sim c) {t : TypeId} {x i : AV} {xv iv : Value} (hx : RepV c x xv) (hi : RepV c i iv) :
    OpS P c (do pure (.value (← Instr.index t xv iv)) : Sem Next) (indexA P t x i) := by
  refine OpS.pure hs fun R k r hr => ?_
  cases i <;> simp only [indexA, dlen, dget] at hr <;> try (cases hr; done)
  rename_i iu n
  cases iu <;> simp only at hr <;> try (cases hr; done)
  rename_i ik
  obtain ⟨e, _⟩ := repInt hi
  subst e
  cases x <;> (try simp only at hr) <;> try (cases hr; done)
  rename_i u y
  cases u <;> simp only at hr <;> try (cases hr; done)
  case str =>
    obtain ⟨h1, hr⟩ := HM.run_bif hr
    obtain ⟨h2, hr⟩ := HM.run_need hr
    obtain ⟨p0, p1⟩ := idxOk_spec h2
    obtain ⟨s, e1, e2, e3⟩ := (show RepC c.S c.w .str y [xv] from hx)
    rw [List.singleton_inj.1 e1]
    have hlt : n.toNat < s.size := by rw [← bytesOf_len, ← e2]; omega
    refine ⟨_, .int .u8 s[n.toNat].toNat, run_v ?_, ?_, hr⟩
    · simp [Instr.index, asIntOf, run_underlying (stOk_spec h1), p0, hlt]
    · rw [e2, bytesOf_get hlt]; exact ⟨rfl, byte_in _⟩
  case arr m u =>
    cases hu : P.underlying t with
    | none => rw [hu] at hr; cases hr
    | some d =>
      rw [hu] at hr
      cases d <;> simp only at hr <;> try (cases hr; done)
      rename_i m' e
      obtain ⟨h1, hr1⟩ := HM.run_bif hr
      obtain ⟨h2, hr2⟩ := HM.run_need hr1
      simp only [Bool.and_eq_true] at h1
      obtain ⟨p0, p1⟩ := idxOk_spec h2
      have hm := beq_nat h1.1
      subst hm
      obtain ⟨ti, k1, k2, k3, k4⟩ := szOk_spec h1.2
      have hx1 : RepV1 c (.v (.arr m u) y) xv := hx
      obtain ⟨cs, e1, e2, e3⟩ := hx1
      obtain ⟨pre, mid, post, g1, g2, g3, _⟩ := RepCs.focus (n := u.csz) (fun _ _ h => RepC.length h) (zero u) n.toNat (by rw [e2]; omega) e3
      have hml : mid.length = ti.size := by rw [RepC.length g3, k2]; rfl
      have hps : (cs.toArray.extract (n.toNat * ti.size) (n.toNat * ti.size + ti.size)) = mid.toArray := by
        have hq : n.toNat * ti.size = pre.length := by rw [g2, k2]; rfl
        rw [hq, g1, ← hml]
        simp
      subst e1
      cases hag : u.isAgg with
      | true =>
        refine ⟨_, .agg mid.toArray, run_v ?_, ?_, hr2⟩
        · simp [Instr.index, asIntOf, run_underlying hu, p0, p1, run_size k1, part, run_isAgg k3, show (AV.v u (zero u)).isAgg = true from hag, asAgg]
          simpa using hps
        · show RepV1 c (.v u _) _
          unfold RepV1
          rw [show (AV.v u (y.getD n.toNat (zero u))).isAgg = true from hag]
          exact ⟨mid, rfl, g3⟩
      | false =>
        have h1 : mid.length = 1 := by
          rw [hml, k2]
          have : (AV.v u (zero u)).sk.isAgg = false := hag
          unfold AV.csz
          cases hk : (AV.v u (zero u)).sk <;> rw [hk] at this k4 <;> simp [Sk.isAgg, Sk.isBad, Sk.csz] at this k4 ⊢
        obtain ⟨v, hv⟩ : ∃ v, mid = [v] := by
          match mid, h1 with
          | [v], _ => exact ⟨v, rfl⟩
        subst hv
        refine ⟨_, v, run_v ?_, ?_, hr2⟩
        · have hget : cs[n.toNat * ti.size]? = some v := by
            have hq : n.toNat * ti.size = pre.length := by rw [g2, k2]; rfl
            rw [hq, g1]; simp
          simp [Instr.index, asIntOf, run_underlying hu, p0, p1, run_size k1, part, run_isAgg k3, show (AV.v u (zero u)).isAgg = false from hag, asAgg, hget]
        · show RepV1 c (.v u _) _
          unfold RepV1
          rw [show (AV.v u (y.getD n.toNat (zero u))).isAgg = false from hag]
          exact g3
theorem elemOf_spec {t : TypeId} (h : (elemOf P t).isSome = true) : ∃ e, P.underlying t = some (.slice e) := by
  unfold elemOf at h
  split at h
  · rename_i e he; exact ⟨e, he⟩
  · cases h
theorem run_len_slice {t e : TypeId} (h : P.underlying t = some (.slice e)) (a : Option Addr) (n cap : Nat) (ty : TypeId) (w : World) : (Builtin.len_ #[t] ty #[.slice a n cap]).run P w = .ok (.int .i64 n) w := by
  simp [Builtin.len_, run_underlying h, goInt]
theorem len_ok (hs : Sim c) {t ty : TypeId} {x : AV} {xv : Value} (hx : RepV c x xv) :
    OpS P c (do pure (.value (← Builtin.len_ #[t] ty #[xv])) : Sem Next) (lenA P t x) := by
  refine OpS.pure hs fun R k r hr => ?_
  have ofsl : ∀ (u : Ty) (o : Option (List (El u))) e, P.underlying t = some (.slice e) → SlRep c.S c.w u o xv →
      (Builtin.len_ #[t] ty #[xv]).run P c.w = .ok (.int .i64 ((o.getD []).length : Nat)) c.w ∧ IntKind.wrap .i64 (((o.getD []).length : Nat) : Int) = ((o.getD []).length : Nat) := by
    intro u o e he ⟨cells, _, h2⟩
    rcases h2 with ⟨h2, h3⟩ | ⟨b, off, cap, sp, h2, h3, h4, _, _⟩
    · rw [h2, h3]; exact ⟨run_len_slice he _ _ _ _ _, rfl⟩
    · rw [h2]; exact ⟨run_len_slice he _ _ _ _ _, wrapLen (Nat.le_trans h3 h4)⟩
  cases x <;> simp only [lenA, dlen, dget] at hr <;> try (cases hr; done)
  case v u y =>
    cases u <;> simp only at hr <;> try (cases hr; done)
    case str =>
      obtain ⟨h1, hr⟩ := HM.run_bif hr
      obtain ⟨s, e1, e2, e3⟩ := (show RepC c.S c.w .str y [xv] from hx)
      rw [List.singleton_inj.1 e1]
      refine ⟨_, .int .i64 s.size, run_v ?_, ?_, hr⟩
      · simp [Builtin.len_, run_underlying (stOk_spec h1), goInt]
      · rw [e2, bytesOf_len]; exact ⟨rfl, wrapLen e3⟩
    case sl u =>
      obtain ⟨h1, hr⟩ := HM.run_bif hr
      obtain ⟨e, he⟩ := elemOf_spec h1
      obtain ⟨g1, g2⟩ := ofsl u y e he (SlRep.of hx)
      rw [olen_getD] at hr
      exact ⟨_, _, run_v g1, repIntMk g2, hr⟩
  case nsl =>
    obtain ⟨h1, hr⟩ := HM.run_bif hr
    obtain ⟨e, he⟩ := elemOf_spec h1
    rw [List.singleton_inj.1 (show RepA c .nsl [xv] from hx)]
    exact ⟨_, _, run_v (run_len_slice he _ _ _ _ _), repIntMk rfl, hr⟩
  case hs id ver =>
    obtain ⟨h1, hr⟩ := HM.run_bif hr
    obtain ⟨e, he⟩ := elemOf_spec h1
    obtain ⟨o, ho, hh, hr⟩ := HM.run_get hr
    cases o <;> simp only at hr <;> try (cases hr; done)
    case row e0 ver' u fn xs =>
      obtain ⟨h2, hr⟩ := HM.run_bif hr
      have hσ := repHs hx ho (beq_nat h2).symm
      obtain ⟨g1, g2⟩ := ofsl u _ e he (SlRep.row (hs.obj id _ xv ho hσ))
      have hg : (rowC fn xs).getD [] = xs := by unfold rowC; cases fn <;> cases xs <;> rfl
      rw [hg] at g1 g2
      exact ⟨_, _, run_v g1, repIntMk g2, hr⟩
    case frz ver' u o =>
      obtain ⟨h2, hr⟩ := HM.run_bif hr
      have hσ := repHs hx ho (beq_nat h2).symm
      obtain ⟨g1, g2⟩ := ofsl u o e he (SlRep.of (hs.obj id _ xv ho hσ))
      rw [olen_getD] at hr
      exact ⟨_, _, run_v g1, repIntMk g2, hr⟩
end
end Go.Ab
