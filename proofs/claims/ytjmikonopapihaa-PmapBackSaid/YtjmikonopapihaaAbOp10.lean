import Derived.Test.YtjmikonopapihaaAbOp9
/-
  AB: new memory: boxes, zero values, literals.
-/
namespace Go.Ab
set_option linter.unusedSimpArgs false
theorem noneLeft_spec {x : Option (List Value)} (h : noneLeft x = true) : x = some [] := by
  unfold noneLeft at h
  split at h
  · rfl
  · cases h
theorem repTake_rep {α : Type} {R : α → List Value → Prop} {z : α} {f : List Value → Option (List Value)} (hf : ∀ cs r, f cs = some r → ∃ d, cs = d ++ r ∧ R z d) : ∀ (n : Nat) (cs r : List Value), repTake f n cs = some r → ∃ d, cs = d ++ r ∧ RepCs R (List.replicate n z) d
  | 0, cs, r, h => ⟨[], by cases h; rfl, rfl⟩
  | n + 1, cs, r, h => by
    simp only [repTake] at h
    cases hq : f cs with
    | none => rw [hq] at h; cases h
    | some r1 =>
      rw [hq] at h
      obtain ⟨d1, e1, g1⟩ := hf cs r1 hq
      obtain ⟨d2, e2, g2⟩ := repTake_rep hf n r1 r h
      exact ⟨d1 ++ d2, by rw [e1, e2, List.append_assoc], d1, d2, rfl, g1, g2⟩
theorem wrap_zero (k : IntKind) : k.wrap 0 = 0 := by cases k <;> rfl
theorem zTake_rep (S : Nat → Prop) (w : World) : ∀ (u : Ty) (cs r : List Value), zTake u cs = some r → ∃ d, cs = d ++ r ∧ RepC S w u (zero u) d
  | .int k, cs, r, h => by
    simp only [zTake] at h
    split at h
    · rename_i k' r'
      cases hk : kEq k k' with
      | false => rw [hk] at h; cases h
      | true =>
        rw [hk] at h; cases h
        rw [kEq_eq hk]
        exact ⟨[.int k' 0], rfl, rfl, wrap_zero _⟩
    · cases h
  | .bool, cs, r, h => by
    simp only [zTake] at h
    split at h
    · cases h; exact ⟨[.bool false], rfl, rfl⟩
    · cases h
  | .str, cs, r, h => by
    simp only [zTake] at h
    split at h
    · rename_i s r'
      cases hk : Nat.beq s.data.toList.length 0 with
      | false => rw [hk] at h; cases h
      | true =>
        rw [hk] at h; cases h
        have h0 : s.data.toList = [] := List.eq_nil_of_length_eq_zero (beq_nat hk)
        refine ⟨[.string s], rfl, s, rfl, ?_, ?_⟩
        · unfold bytesOf; rw [h0]; rfl
        · have : s.size = 0 := by rw [← bytesOf_len]; unfold bytesOf; rw [h0]; rfl
          omega
    · cases h
  | .sl _, cs, r, h => by
    simp only [zTake] at h
    split at h
    · cases h; exact ⟨[.slice none 0 0], rfl, rfl⟩
    · cases h
  | .unit, cs, r, h => by cases h; exact ⟨[], rfl, rfl⟩
  | .pair a b, cs, r, h => by
    simp only [zTake] at h
    cases hq : zTake a cs with
    | none => rw [hq] at h; cases h
    | some r1 =>
      rw [hq] at h
      obtain ⟨d1, e1, g1⟩ := zTake_rep S w a cs r1 hq
      obtain ⟨d2, e2, g2⟩ := zTake_rep S w b r1 r h
      exact ⟨d1 ++ d2, by rw [e1, e2, List.append_assoc], d1, d2, rfl, g1, g2⟩
  | .arr n t, cs, r, h => by
    obtain ⟨d, e, g⟩ := repTake_rep (z := zero t) (fun cs r h => zTake_rep S w t cs r h) n cs r h
    exact ⟨d, e, List.length_replicate, g⟩
theorem mt_rep (c : Cx) : ∀ (m : MT) (cs r : List Value), m.zTake cs = some r → ∃ d, cs = d ++ r ∧ RepA c m.zero d
  | .pure u, cs, r, h => zTake_rep c.S c.w u cs r h
  | .ptr, cs, r, h => by
    simp only [MT.zTake] at h
    split at h
    · cases h; exact ⟨[.pointer none], rfl, rfl⟩
    · cases h
  | .fn, cs, r, h => by
    simp only [MT.zTake] at h
    split at h
    · cases h; exact ⟨[.nilFunc], rfl, rfl⟩
    · cases h
  | .sl, cs, r, h => by
    simp only [MT.zTake] at h
    split at h
    · cases h; exact ⟨[.slice none 0 0], rfl, rfl⟩
    · cases h
  | .nil, cs, r, h => by cases h; exact ⟨[], rfl, rfl⟩
  | .cons a b, cs, r, h => by
    simp only [MT.zTake] at h
    cases hq : a.zTake cs with
    | none => rw [hq] at h; cases h
    | some r1 =>
      rw [hq] at h
      obtain ⟨d1, e1, g1⟩ := mt_rep c a cs r1 hq
      obtain ⟨d2, e2, g2⟩ := mt_rep c b r1 r h
      exact ⟨d1 ++ d2, by rw [e1, e2, List.append_assoc], d1, d2, rfl, g1, g2⟩
theorem mt_noBad : ∀ m : MT, m.zero.sk.noBad = true
  | .pure u => Ty.sk_noBad u
  | .ptr => rfl
  | .fn => rfl
  | .sl => rfl
  | .nil => rfl
  | .cons a b => by show (a.zero.sk.noBad && b.zero.sk.noBad) = true; rw [mt_noBad a, mt_noBad b]; rfl
section
variable {P : Program} {c : Cx}
theorem mchain_mem {f : TypeId → Option MT} : ∀ {fs : List Field} {m : MT}, mchain f fs = some m → ∀ fd ∈ fs, (f fd.type).isSome = true
  | fd :: r, m, h, x, hx => by
    simp only [mchain] at h
    cases hq : f fd.type with
    | none => rw [hq] at h; cases h
    | some a =>
      cases hr : mchain f r with
      | none => rw [hq, hr] at h; cases h
      | some b =>
        rcases List.mem_cons.1 hx with rfl | hx
        · rw [hq]; rfl
        · exact mchain_mem hr x hx
theorem fieldsTy_mem {f : TypeId → Option Ty} : ∀ {fs : List Field} {u : Ty}, fieldsTy f fs = some u → ∀ fd ∈ fs, (f fd.type).isSome = true
  | fd :: r, m, h, x, hx => by
    simp only [fieldsTy] at h
    cases hq : f fd.type with
    | none => rw [hq] at h; cases h
    | some a =>
      cases hr : fieldsTy f r with
      | none => rw [hq, hr] at h; cases h
      | some b =>
        rcases List.mem_cons.1 hx with rfl | hx
        · rw [hq]; rfl
        · exact fieldsTy_mem hr x hx
theorem info_of_und {t : TypeId} (h : (P.underlying t).isSome = true) : (P.info? t).isSome = true := by
  unfold Program.underlying at h
  cases hi : P.info? t with
  | none => rw [hi] at h; cases h
  | some i => rfl
theorem und_of_tyOf : ∀ {n : Nat} {t : TypeId}, (tyOf P n t).isSome = true → (P.underlying t).isSome = true
  | 0, _, h => by cases h
  | n + 1, t, h => by
    simp only [tyOf] at h
    cases hu : P.underlying t with
    | none => rw [hu] at h; cases h
    | some d => rfl
theorem und_of_mt : ∀ {n : Nat} {t : TypeId}, (mtOf P n t).isSome = true → (P.underlying t).isSome = true
  | 0, _, h => by cases h
  | n + 1, t, h => by
    simp only [mtOf] at h
    cases hy : ty P t with
    | some u => exact und_of_tyOf (n := 12) (by unfold ty at hy; rw [hy]; rfl)
    | none =>
      rw [hy] at h
      cases hu : P.underlying t with
      | none => rw [hu] at h; cases h
      | some d => rfl
theorem ty_fields {n : Nat} {t : TypeId} {u : Ty} {fs : Array Field} (h : tyOf P (n + 1) t = some u) (hu : P.underlying t = some (.struct fs)) : ∀ fd ∈ fs.toList, (tyOf P n fd.type).isSome = true := by
  simp only [tyOf, hu] at h
  exact fieldsTy_mem h
theorem mt_fields {n : Nat} {t : TypeId} {m : MT} {fs : Array Field} (h : mtOf P n t = some m) (hu : P.underlying t = some (.struct fs)) : ∀ fd ∈ fs.toList, (P.info? fd.type).isSome = true := by
  intro fd hfd
  cases n with
  | zero => cases h
  | succ n =>
    simp only [mtOf] at h
    cases hy : ty P t with
    | some u =>
      exact info_of_und (und_of_tyOf (ty_fields (n := 11) hy hu fd hfd))
    | none =>
      rw [hy, hu] at h
      exact info_of_und (und_of_mt (mchain_mem h fd hfd))
theorem zeroAV_spec {t : TypeId} {a : AV} (h : zeroAV P t = some a) : ∃ i z m, P.info? t = some i ∧ i.zero = some z ∧ mtOf P 6 t = some m ∧ a = m.zero ∧ (∀ c, RepA c a z.cells.toList) ∧ a.sk.noBad = true ∧ isAggV z = a.isAgg := by
  unfold zeroAV at h
  cases hm : mtOf P 6 t with
  | none => rw [hm] at h; cases h
  | some m =>
    cases hi : P.info? t with
    | none => rw [hm, hi] at h; cases h
    | some i =>
      rw [hm, hi] at h
      simp only at h
      cases hz : i.zero with
      | none => rw [hz] at h; cases h
      | some z =>
        rw [hz] at h
        simp only at h
        cases hb : (noneLeft (m.zTake z.cells.toList) && bEq (isAggV z) m.zero.isAgg) with
        | false => rw [hb] at h; cases h
        | true =>
          rw [hb] at h
          cases h
          simp only [Bool.and_eq_true] at hb
          refine ⟨i, z, m, rfl, hz, rfl, rfl, fun c => ?_, mt_noBad m, bEq_eq hb.2⟩
          obtain ⟨d, e, g⟩ := mt_rep c m _ _ (noneLeft_spec hb.1)
          rw [e, List.append_nil]
          exact g
/-- a new box -/
theorem box_step (hs : Sim c) {nid : Nat} (hh : c.H[nid]? = some .hole) {a : AV} {cs : Array Value} {T : TypeId} (hr : RepA c a cs.toList) (hn : a.sk.noBad = true) :
    ∃ c', Fr c c' ∧ Mn c c' ∧ Sim c' ∧ c'.w = c.w.alloc (.cells cs T) ∧ c'.H = c.H.set nid (.box a) ∧ RepV c' (.ptr nid 0 []) (.pointer (some ⟨c.w.heap.size, 0, none⟩)) := by
  obtain ⟨v0, hv0⟩ : ∃ v, c.σ[nid]? = some v := by
    have : nid < c.σ.length := by rw [hs.len]; exact lt_of_get hh
    exact ⟨_, List.getElem?_eq_getElem this⟩
  obtain ⟨f1, f2, f3⟩ := upd hs hh hv0 (.box a) (.pointer (some ⟨c.w.heap.size, 0, none⟩)) c.S (c.w.alloc (.cells cs T)) (fun _ h => h) (fun _ h => .inl h)
    (by rw [World.size_alloc]; omega) rfl rfl rfl (fun b hb _ => alloc_old _ _ _ hb)
    (fun b hb => by cases hb; exact ⟨.inr (Nat.le_refl _), by rw [World.size_alloc]; exact Nat.lt_succ_self _, fun h => by have := hs.lt _ h; exact Nat.lt_irrefl _ this⟩)
    (fun b hb => by rw [World.size_alloc]; have := hs.lt b hb; omega) (fun h => by cases h)
    (fun hm => ⟨c.w.heap.size, cs, T, rfl, alloc_new _ _, hr.mono hm, hn⟩)
  refine ⟨_, f1, f2, f3, rfl, rfl, .box a, .pointer (some ⟨c.w.heap.size, 0, none⟩), List.getElem?_set_self (lt_of_get hh), List.getElem?_set_self (lt_of_get hv0), rfl, Nat.le_refl _, ⟨_, rfl⟩, fun _ _ => ⟨c.w.heap.size, rfl, trivial, rfl⟩⟩
theorem box_ok (hs : Sim c) {nid : Nat} (hh : c.H[nid]? = some .hole) {e : TypeId} {x : AV} {xv : Value} (hx : RepV c x xv) :
    OpS P c (do pure (.value (← Instr.box e xv)) : Sem Next) (bif szOk P e x && x.sk.noBad then .set nid (.box x) (.ret (.ptr nid 0 [])) else .fail) := by
  intro R k r next hr hk
  obtain ⟨hb, hr⟩ := HM.run_bif hr
  simp only [Bool.and_eq_true] at hb
  obtain ⟨_, _, hr⟩ := HM.run_set hr
  obtain ⟨_, _, _, _, hbad⟩ := szOk_spec hb.1
  obtain ⟨c', f1, f2, f3, e1, e2, e3⟩ := box_step (T := e) (cs := xv.cells) hs hh (hx.cells hbad) hb.2
  rw [run_v (show (Instr.box e xv).run P c.w = .ok (.pointer (some ⟨c.w.heap.size, 0, none⟩)) (c.w.alloc (.cells xv.cells e)) from by simp [Instr.box, newVar, newRow])]
  rw [← e1]
  exact hk c' _ _ f1 f2 f3 e3 (by rw [e2]; exact hr)
theorem alloc_ok (hs : Sim c) {nid : Nat} (hh : c.H[nid]? = some .hole) {e : TypeId} :
    OpS P c (do pure (.value (← Instr.alloc e true (.tuple #[]))) : Sem Next) ((ofOpt (zeroAV P e)).bind fun z => .set nid (.box z) (.ret (.ptr nid 0 []))) := by
  intro R k r next hr hk
  rw [HM.run_bind] at hr
  cases hz : zeroAV P e with
  | none => rw [hz] at hr; cases hr
  | some a =>
    rw [hz] at hr
    obtain ⟨_, _, hr⟩ := HM.run_set (show (HM.set nid (.box a) (.ret (.ptr nid 0 []))).run c.H k = some r from hr)
    obtain ⟨i, z, m, k1, k2, _, _, k3, k4, _⟩ := zeroAV_spec hz
    obtain ⟨c', f1, f2, f3, e1, e2, e3⟩ := box_step (T := e) (cs := z.cells) hs hh (k3 c) k4
    rw [run_v (show (Instr.alloc e true (.tuple #[])).run P c.w = .ok (.pointer (some ⟨c.w.heap.size, 0, none⟩)) (c.w.alloc (.cells z.cells e)) from by simp [Instr.alloc, zeroValue, typeInfo, k1, k2, newVar, newRow])]
    rw [← e1]
    exact hk c' _ _ f1 f2 f3 e3 (by rw [e2]; exact hr)
end
end Go.Ab
