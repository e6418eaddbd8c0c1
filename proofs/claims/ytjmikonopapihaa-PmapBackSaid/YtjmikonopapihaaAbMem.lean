import Derived.Test.YtjmikonopapihaaAbStep
/-
  AB: loads, stores and addresses: what the model's operations come to.
-/
namespace Go.Ab
set_option linter.unusedSimpArgs false

theorem HM.run_bind {α β R : Type} : ∀ (m : HM α) (f : α → HM β) (h : List HO) (k : β → List HO → Option R), (m.bind f).run h k = m.run h fun a h' => (f a).run h' k
  | .ret _, _, _, _ => rfl
  | .get id g, f, h, k => by
    simp only [HM.bind, HM.run]
    cases h[id]? with
    | none => rfl
    | some o => cases o <;> first | rfl | exact HM.run_bind (g _) f h k
  | .set id o m, f, h, k => by
    simp only [HM.bind, HM.run]
    cases h[id]? with
    | none => rfl
    | some _ => exact HM.run_bind m f _ k
  | .ite c a b, f, h, k => by
    simp only [HM.bind, HM.run]
    rw [HM.run_bind a f, HM.run_bind b f]
  | .opt o g, f, h, k => by
    simp only [HM.bind, HM.run]
    cases o with
    | none => rfl
    | some x => exact HM.run_bind (g x) f h k
  | .fail, _, _, _ => rfl
theorem HM.run_get {α R : Type} {id : Nat} {f : HO → HM α} {h : List HO} {k : α → List HO → Option R} {r : R} (e : (HM.get id f).run h k = some r) :
    ∃ o : HO, h[id]? = some o ∧ o.isHole = false ∧ (f o).run h k = some r := by
  simp only [HM.run] at e
  cases ho : h[id]? with
  | none => rw [ho] at e; cases e
  | some o => rw [ho] at e; cases o <;> first | (cases e; done) | exact ⟨_, rfl, rfl, e⟩
theorem HM.run_set {α R : Type} {id : Nat} {o : HO} {m : HM α} {h : List HO} {k : α → List HO → Option R} {r : R} (e : (HM.set id o m).run h k = some r) :
    ∃ o0 : HO, h[id]? = some o0 ∧ m.run (h.set id o) k = some r := by
  simp only [HM.run] at e
  cases ho : h[id]? with
  | none => rw [ho] at e; cases e
  | some o0 => rw [ho] at e; exact ⟨o0, rfl, e⟩
theorem HM.run_need {α R : Type} {b : Bool} {m : HM α} {h : List HO} {k : α → List HO → Option R} {r : R} (e : (need b m).run h k = some r) :
    b = true ∧ m.run h k = some r := by
  cases b with
  | true => exact ⟨rfl, e⟩
  | false => cases e
theorem HM.run_bif {α R : Type} {b : Bool} {m : HM α} {h : List HO} {k : α → List HO → Option R} {r : R} (e : (bif b then m else HM.fail).run h k = some r) :
    b = true ∧ m.run h k = some r := by
  cases b with
  | true => exact ⟨rfl, e⟩
  | false => cases e

theorem bEq_eq {a b : Bool} (h : bEq a b = true) : a = b := by cases a <;> cases b <;> first | rfl | cases h
section
variable {P : Program}
theorem run_isAgg {t : TypeId} {g : Bool} (h : aggOf P t = some g) (w : World) : (isAgg t).run P w = .ok g w := by
  unfold aggOf at h
  unfold isAgg
  cases hu : P.underlying t with
  | none => rw [hu] at h; cases h
  | some d =>
    simp only [Sem.run_bind, run_underlying hu, Result.andThen_ok]
    rw [hu] at h
    cases d <;> simp at h <;> subst h <;> rfl
theorem szOk_spec {t : TypeId} {a : AV} (h : szOk P t a = true) : ∃ i, P.info? t = some i ∧ i.size = a.csz ∧ aggOf P t = some a.isAgg ∧ a.sk.isBad = false := by
  unfold szOk at h
  cases hi : P.info? t with
  | none => rw [hi] at h; cases h
  | some i =>
    cases hg : aggOf P t with
    | none => rw [hi, hg] at h; cases h
    | some g =>
      rw [hi, hg] at h
      simp only [Bool.and_eq_true] at h
      obtain ⟨⟨h1, h2⟩, h3⟩ := h
      exact ⟨i, rfl, Nat.eq_of_beq_eq_true h1, by rw [bEq_eq h2], by simpa using h3⟩
theorem run_size {t : TypeId} {i : TypeInfo} (h : P.info? t = some i) (w : World) : (sizeOf t).run P w = .ok i.size w := by
  simp [sizeOf, typeInfo, h]
theorem add_lit (b off j : Nat) : (⟨b, off, none⟩ : Addr).add j = ⟨b, off + j, none⟩ := by unfold Addr.add; split <;> simp_all
/-- a variable read -/
theorem run_loadVar {c : Cx} {t : TypeId} {a : AV} {cs : List Value} {b off : Nat} (h : szOk P t a = true) (hr : RepA c a cs) (hat : At c.w b off cs) :
    ∃ v, (loadVar t ⟨b, off, none⟩).run P c.w = .ok v c.w ∧ RepV c a v := by
  obtain ⟨i, hi, hs, hg, hb⟩ := szOk_spec h
  have hl : cs.length = i.size := by rw [hs]; exact hr.length
  have v1 : ∀ v, RepV1 c a v → RepV c a v := fun v hv => by
    cases a <;> first | exact hv | (simp [AV.sk, Sk.isBad] at hb)
  unfold loadVar
  simp only [Sem.run_bind, run_isAgg hg, Result.andThen_ok]
  cases hag : a.isAgg with
  | true =>
    have hload := run_loadCells_list (P := P) c.w ⟨b, off, none⟩ cs (fun j v hj => by rw [add_lit]; exact hat j v hj)
    rw [hl] at hload
    refine ⟨.agg cs.toArray, ?_, v1 _ ?_⟩
    · simp [run_size hi, hload]
    · unfold RepV1; rw [hag]; exact ⟨cs, rfl, hr⟩
  | false =>
    have h1 : cs.length = 1 := by
      rw [hr.length]
      unfold AV.isAgg at hag
      unfold AV.csz
      cases hk : a.sk <;> simp [hk, Sk.isAgg, Sk.isBad, Sk.csz] at hag hb ⊢
    obtain ⟨v, hv⟩ : ∃ v, cs = [v] := by
      match cs, h1 with
      | [v], _ => exact ⟨v, rfl⟩
    subst hv
    refine ⟨v, ?_, v1 _ ?_⟩
    · have := hat 0 v rfl
      simp only [Nat.add_zero] at this
      simp [this]
    · unfold RepV1; rw [hag]; exact hr
/-- the cells of a value -/
theorem RepV.cells {c : Cx} {a : AV} {v : Value} (hb : a.sk.isBad = false) (h : RepV c a v) : RepA c a v.cells.toList := by
  have h1 : RepV1 c a v := by cases a <;> first | exact h | (simp [AV.sk, Sk.isBad] at hb)
  unfold RepV1 at h1
  cases hag : a.isAgg with
  | true => rw [hag] at h1; obtain ⟨cs, e, hr⟩ := h1; subst e; simpa [Value.cells] using hr
  | false =>
    rw [hag] at h1
    have := h1.one v (by simp)
    cases v <;> first | (simpa [Value.cells] using h1) | (simp [Value.oneCell'] at this)
theorem At.row {w : World} {b off : Nat} {cur : Array Value} {T : TypeId} {fr : Nat × Nat} (h : w.heap[b]? = some (.cells cur T fr)) {pre mid post : List Value} (e : cur.toList = pre ++ (mid ++ post)) (hp : pre.length = off) :
    At w b off mid := by
  intro j u hj
  rw [cell_of_row w b (off + j) cur T fr h]
  have : cur.toList[off + j]? = some u := by
    rw [e, ← hp, List.getElem?_append_right (by omega), Nat.add_sub_cancel_left]
    rw [List.getElem?_append_left (lt_of_get hj)]
    exact hj
  simpa using this
/-- a variable written -/
theorem run_storeVar {c : Cx} {t : TypeId} {y : AV} {v : Value} {b off : Nat} {cur : Array Value} {T : TypeId} {pre mid post : List Value} (h : szOk P t y = true) (hr : RepV c y v)
    (hg : c.w.heap[b]? = some (.cells cur T (0, 0))) (e : cur.toList = pre ++ (mid ++ post)) (hp : pre.length = off) (hm : mid.length = y.csz) :
    (storeVar t ⟨b, off, none⟩ v).run P c.w = .ok () (c.w.setRow b (pre ++ (v.cells.toList ++ post)).toArray) := by
  obtain ⟨i, hi, hs, hg', hb⟩ := szOk_spec h
  have hc := hr.cells hb
  have hl : v.cells.toList.length = mid.length := by rw [hc.length, hm]
  have hsz : v.cells.size = i.size := by rw [← Array.length_toList, hl, hm, hs]
  have hst := run_storeCells_at P b off T v.cells.toList 0 cur c.w hg (by
    rw [← Array.length_toList, e]; simp only [List.length_append]; omega) hc.one
  unfold storeVar
  simp only [Sem.run_bind, run_size hi, Result.andThen_ok, hsz]
  simp only [ne_eq, not_true_eq_false, if_false, Sem.run_pure, Result.andThen_ok]
  rw [hst]
  congr 3
  rw [e, Nat.add_zero, ← hp, List.take_left, show pre.length + v.cells.toList.length = pre.length + mid.length from by rw [hl]]
  rw [List.drop_length_add_append, List.drop_left]
  simp
end
end Go.Ab
