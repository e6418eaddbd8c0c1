import Derived.Test.YtjmikonopapihaaAbOp10
/-
  AB: literals of structs, arrays and slices; make; append.
-/
namespace Go.Ab
set_option linter.unusedSimpArgs false
theorem foldl_put (off : Nat) : ∀ (l : List Value) (j : Nat) (cur : Array Value) (pre mid post : List Value), cur.toList = pre ++ (mid ++ post) → pre.length = off + j → mid.length = l.length →
    ((l.zipIdx j).foldl (fun (cs : Array Value) (q : Value × Nat) => cs.setIfInBounds (off + q.2) q.1) cur).toList = pre ++ (l ++ post)
  | [], j, cur, pre, mid, post, h, _, hl => by
    have : mid = [] := List.eq_nil_of_length_eq_zero hl
    rw [this] at h
    simpa using h
  | v :: l, j, cur, pre, mid, post, h, hp, hl => by
    cases mid with
    | nil => simp at hl
    | cons m mid =>
      rw [List.zipIdx_cons, List.foldl_cons]
      have := foldl_put off l (j + 1) (cur.setIfInBounds (off + j) v) (pre ++ [v]) mid post (by
        rw [Array.toList_setIfInBounds, h, ← hp, List.set_append_right _ _ (Nat.le_refl _)]
        simp) (by simp; omega) (by simpa using hl)
      rw [this]; simp
theorem foldl_zip (off : Nat) (vs cur : Array Value) {pre mid post : List Value} (h : cur.toList = pre ++ (mid ++ post)) (hp : pre.length = off) (hl : mid.length = vs.toList.length) :
    (vs.zipIdx.foldl (fun cs (c, j) => cs.setIfInBounds (off + j) c) cur).toList = pre ++ (vs.toList ++ post) := by
  rw [← Array.foldl_toList, Array.toList_zipIdx]
  exact foldl_put off vs.toList 0 cur pre mid post h (by omega) hl
/-- one part filled in -/
theorem fill_one {place : Nat → Option (Nat × Nat)} {cells : Array Value} {j off size : Nat} {v : Value} {rest : List (Nat × Value)} (hp : place j = some (off, size)) (hs : v.cells.size = size)
    {pre mid post : List Value} (h : cells.toList = pre ++ (mid ++ post)) (ho : pre.length = off) (hl : mid.length = size) :
    ∃ cells' : Array Value, Instr.fill place cells ((j, v) :: rest) = Instr.fill place cells' rest ∧ cells'.toList = pre ++ (v.cells.toList ++ post) := by
  have hlen : off + v.cells.size ≤ cells.size := by
    have e := congrArg List.length h
    simp only [Array.length_toList, List.length_append] at e
    omega
  refine ⟨_, ?_, foldl_zip off v.cells cells h ho (by rw [hl, ← hs, Array.length_toList])⟩
  simp only [Instr.fill, hp, hs]
  rw [if_neg]
  simp only [ne_eq, not_true_eq_false, decide_false, Bool.false_or, gt_iff_lt, decide_eq_true_eq, Nat.not_lt, ← hs]
  exact hlen
theorem range_add' (a b : Nat) : List.range (a + b) = List.range a ++ (List.range b).map (a + ·) := List.range_add
theorem madeCells_list (z : Array Value) : ∀ n, (madeCells z (n * z.size)).toList = (List.replicate n z.toList).flatten
  | 0 => by simp [madeCells]
  | n + 1 => by
    have ih := madeCells_list z n
    unfold madeCells at ih ⊢
    rw [Array.toList_map, Array.toList_range] at ih ⊢
    rw [Nat.succ_mul, range_add', List.map_append, ih, List.replicate_succ', List.flatten_append]
    congr 1
    simp only [List.map_map, List.flatten_cons, List.flatten_nil, List.append_nil]
    apply List.ext_getElem?
    intro j
    rw [List.getElem?_map]
    by_cases hj : j < z.size
    · rw [List.getElem?_range hj]
      simp [Nat.mul_add_mod_self_right, Nat.mod_eq_of_lt hj, hj]
    · rw [List.getElem?_eq_none (by simpa using hj), List.getElem?_eq_none (by simpa using hj)]
      rfl
theorem rep_flatten {α : Type} {R : α → List Value → Prop} {z : α} {d : List Value} (h : R z d) : ∀ n, RepCs R (List.replicate n z) (List.replicate n d).flatten
  | 0 => rfl
  | n + 1 => ⟨d, _, by rw [List.replicate_succ, List.flatten_cons], h, rep_flatten h n⟩
section
variable {P : Program} {c : Cx}
theorem elOk_spec {e : TypeId} {u : Ty} (h : elOk P e u = true) : ∃ i z, P.info? e = some i ∧ i.size = u.csz ∧ 0 < u.csz ∧ i.zero = some z ∧ z.cells.size = u.csz ∧ ∀ S w, RepC S w u (zero u) z.cells.toList := by
  unfold elOk at h
  cases hi : P.info? e with
  | none => rw [hi] at h; cases h
  | some i =>
    rw [hi] at h
    simp only [Bool.and_eq_true] at h
    obtain ⟨⟨h1, h2⟩, h3⟩ := h
    cases hz : i.zero with
    | none => rw [hz] at h3; cases h3
    | some z =>
      rw [hz] at h3
      have hall : ∀ S w, RepC S w u (zero u) z.cells.toList := fun S w => by
        obtain ⟨d, e, g⟩ := zTake_rep S w u _ _ (noneLeft_spec h3)
        rw [e, List.append_nil]; exact g
      refine ⟨i, z, rfl, beq_nat h1, ?_, hz, ?_, hall⟩
      · have := Nat.le_of_ble_eq_true (show Nat.ble (0 + 1) u.csz = true from h2)
        omega
      · rw [← Array.length_toList]; exact RepC.length (hall (fun _ => True) default)
/-- the parts of a literal, frozen -/
theorem unhsL_ok : ∀ {l : List (Nat × AV)} {l' : List (Nat × Value)} {c : Cx}, Sim c → l.length = l'.length → (∀ (j i i' : Nat) (a : AV) (v : Value), l[j]? = some (i, a) → l'[j]? = some (i', v) → i = i' ∧ RepV c a v) →
    ∀ {R : Type} {k : List (Nat × AV) → List HO → Option R} {r : R}, (unhsL l).run c.H k = some r →
    ∃ c' m, Fr c c' ∧ Mn c c' ∧ Sim c' ∧ c'.w = c.w ∧ (c'.H.length = c.H.length ∧ Holes c c') ∧ m.length = l'.length ∧ (∀ (j i i' : Nat) (a : AV) (v : Value), m[j]? = some (i, a) → l'[j]? = some (i', v) → i = i' ∧ RepV c' a v) ∧ k m c'.H = some r
  | [], l', c, hs, hl, _, R, k, r, hr => ⟨c, [], Fr.refl c, Mn.refl c, hs, rfl, ⟨rfl, fun _ h => h⟩, hl, fun j i i' a v h => by simp at h, hr⟩
  | (i, a) :: l, l', c, hs, hl, h, R, k, r, hr => by
    cases l' with
    | nil => simp at hl
    | cons q l' =>
      obtain ⟨i', v⟩ := q
      obtain ⟨e0, h0⟩ := h 0 i i' a v rfl rfl
      simp only [unhsL, HM.run_bind] at hr
      obtain ⟨c1, a1, f1, m1, s1, w1, l1, r1, k1, hr1⟩ := unhs_ok hs h0 hr
      obtain ⟨c2, m, f2, m2, s2, w2, l2, l3, g2, hr2⟩ := unhsL_ok (l := l) (l' := l') s1 (by simpa using hl) (fun j i i' a v h1 h2 => by
        obtain ⟨e1, e2⟩ := h (j + 1) i i' a v h1 h2
        exact ⟨e1, e2.mono m1⟩) hr1
      refine ⟨c2, (i, a1) :: m, f1.trans f2, m1.trans m2, s2, w2.trans w1, ⟨l2.1.trans l1.1, fun i hi => l2.2 i (l1.2 i hi)⟩, by simpa using l3, fun j => ?_, hr2⟩
      cases j with
      | zero => intro x x' y z h1 h2; cases h1; cases h2; exact ⟨e0, r1.mono m2⟩
      | succ j => exact fun x x' y z h1 h2 => g2 j x x' y z h1 h2
/-- elements laid one by one -/
theorem fill_elems {u : Ty} {size : Nat} (hsz : u.csz = size) : ∀ (ps : List (Nat × AV)) (pv : List (Nat × Value)) (xs ys : List (El u)) (cells : Array Value), ps.length = pv.length →
    (∀ (j i i' : Nat) (a : AV) (v : Value), ps[j]? = some (i, a) → pv[j]? = some (i', v) → i = i' ∧ RepV c a v) → RepCs (RepC c.S c.w u) xs cells.toList → decSet u xs ps = some ys →
    (∀ q ∈ ps, q.1 < xs.length) → ∃ cells' : Array Value, Instr.fill (fun i => some (i * size, size)) cells pv = some cells' ∧ RepCs (RepC c.S c.w u) ys cells'.toList ∧ ys.length = xs.length
  | [], pv, xs, ys, cells, hl, _, hr, hd, _ => by
    cases pv with
    | nil => cases hd; exact ⟨cells, rfl, hr, rfl⟩
    | cons _ _ => simp at hl
  | (i, a) :: ps, pv, xs, ys, cells, hl, h, hr, hd, hb => by
    cases pv with
    | nil => simp at hl
    | cons q pv =>
      obtain ⟨i', v⟩ := q
      obtain ⟨e0, h0⟩ := h 0 i i' a v rfl rfl
      subst e0
      simp only [decSet] at hd
      cases hx : dec u a with
      | none => rw [hx] at hd; cases hd
      | some x =>
        rw [hx] at hd
        have hi : i < xs.length := hb (i, a) (by simp)
        obtain ⟨pre, mid, post, e1, e2, e3, e4⟩ := RepCs.focus (n := u.csz) (fun _ _ h => RepC.length h) (zero u) i hi hr
        have hc := dec_rep hx (h0.cells (Sk.noBad_isBad (dec_noBad hx)))
        have hvs : v.cells.size = size := by rw [← Array.length_toList, RepC.length hc, hsz]
        obtain ⟨cells', f1, f2⟩ := fill_one (place := fun i => some (i * size, size)) (rest := pv) (j := i) rfl hvs e1 (by rw [e2, hsz]) (by rw [RepC.length e3, hsz])
        obtain ⟨cells2, g1, g2, g3⟩ := fill_elems hsz ps pv (xs.set i x) ys cells' (by simpa using hl) (fun j i i' a v h1 h2 => h (j + 1) i i' a v h1 h2) (by rw [f2]; exact e4 x _ hc) hd
          (fun q hq => by rw [List.length_set]; exact hb q (by simp [hq]))
        exact ⟨cells2, by rw [f1]; exact g1, g2, by rw [g3, List.length_set]⟩
/-- a new row -/
theorem row_step (hs : Sim c) {nid : Nat} (hh : c.H[nid]? = some .hole) {e : TypeId} {u : Ty} {xs : List (El u)} {cur : Array Value} {cap : Nat} {cells : List Value} (h1 : cells = cur.toList.take (xs.length * u.csz)) (hc : RepCs (RepC c.S c.w u) xs cells) (hz : 0 < u.csz)
    (h2 : xs.length ≤ cap) (h3 : cap ≤ maxLen) (h4 : cur.size = cap * u.csz) :
    ∃ c', Fr c c' ∧ Mn c c' ∧ Sim c' ∧ c'.w = c.w.alloc (.cells cur e) ∧ c'.H = c.H.set nid (.row e 0 u false xs) ∧ RepV c' (.hs nid 0) (.slice (some ⟨c.w.heap.size, 0, none⟩) xs.length cap) := by
  obtain ⟨v0, hv0⟩ : ∃ v, c.σ[nid]? = some v := by
    have : nid < c.σ.length := by rw [hs.len]; exact lt_of_get hh
    exact ⟨_, List.getElem?_eq_getElem this⟩
  obtain ⟨f1, f2, f3⟩ := upd hs hh hv0 (.row e 0 u false xs) (.slice (some ⟨c.w.heap.size, 0, none⟩) xs.length cap) c.S (c.w.alloc (.cells cur e)) (fun _ h => h) (fun _ h => .inl h)
    (by rw [World.size_alloc]; omega) rfl rfl rfl (fun b hb _ => alloc_old _ _ _ hb)
    (fun b hb => by cases hb; exact ⟨.inr (Nat.le_refl _), by rw [World.size_alloc]; exact Nat.lt_succ_self _, fun h => by have := hs.lt _ h; exact Nat.lt_irrefl _ this⟩)
    (fun b hb => by rw [World.size_alloc]; have := hs.lt b hb; omega) (fun h => by cases h)
    (fun hm => ⟨cells, ⟨RepCs.length (n := u.csz) (fun _ _ h => RepC.length h) hc, .inr ⟨c.w.heap.size, cap, cur, rfl, Nat.zero_le _, alloc_new _ _, h2, h3, h4, h1.symm⟩⟩,
      RepCs.mono (fun _ _ h => RepC.mono hm.sub hm.heapS h) hc, hz, (fun h => by cases h), (fun _ h => by cases h)⟩)
  exact ⟨_, f1, f2, f3, rfl, rfl, .row e 0 u false xs, .slice (some ⟨c.w.heap.size, 0, none⟩) xs.length cap, List.getElem?_set_self (lt_of_get hh), List.getElem?_set_self (lt_of_get hv0), rfl, Nat.le_refl _, ⟨_, _, _, rfl⟩, fun _ => rfl⟩
theorem pairs_ok {ρ : Operand → AV} {ρ' : Operand → Value} (hρ : ∀ x, RepV c (ρ x) (ρ' x)) (parts : List (Nat × Operand)) : (parts.map fun q => (q.1, ρ q.2)).length = (parts.map fun q => (q.1, ρ' q.2)).length ∧
    ∀ (j i i' : Nat) (a : AV) (v : Value), (parts.map fun q => (q.1, ρ q.2))[j]? = some (i, a) → (parts.map fun q => (q.1, ρ' q.2))[j]? = some (i', v) → i = i' ∧ RepV c a v := by
  refine ⟨by simp, fun j i i' a v h1 h2 => ?_⟩
  rw [List.getElem?_map] at h1 h2
  cases hp : parts[j]? with
  | none => rw [hp] at h1; cases h1
  | some q =>
    rw [hp] at h1 h2
    cases h1; cases h2
    exact ⟨rfl, hρ q.2⟩
theorem decSet_lt {u : Ty} : ∀ {ps : List (Nat × AV)} {xs ys : List (El u)}, decSet u xs ps = some ys → ys.length = xs.length
  | [], xs, ys, h => by cases h; rfl
  | (i, a) :: ps, xs, ys, h => by
    simp only [decSet] at h
    cases hx : dec u a with
    | none => rw [hx] at h; cases h
    | some x => rw [hx] at h; rw [decSet_lt h, List.length_set]
end
end Go.Ab
