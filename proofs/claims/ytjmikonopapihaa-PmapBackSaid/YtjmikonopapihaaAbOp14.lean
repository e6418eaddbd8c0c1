import Derived.Test.YtjmikonopapihaaAbOp13
/-
  AB: literals of structs and arrays; function values; the least and the greatest; moves.
-/
namespace Go.Ab
set_option linter.unusedSimpArgs false
section
variable {P : Program} {c : Cx}
theorem places_of : ∀ (fs : List Field), (∀ fd ∈ fs, (P.info? fd.type).isSome = true) → ∃ places, fs.mapM (fun f => (P.info? f.type).map fun i => (f.offset, i.size)) = some places ∧
    ∀ (j : Nat) (f : Field) (i : TypeInfo), fs[j]? = some f → P.info? f.type = some i → places[j]? = some (f.offset, i.size)
  | [], _ => ⟨[], rfl, fun j f i h => by simp at h⟩
  | fd :: fs, h => by
    obtain ⟨places, h1, h2⟩ := places_of fs fun f hf => h f (List.mem_cons_of_mem _ hf)
    obtain ⟨i, hi⟩ := Option.isSome_iff_exists.1 (h fd (List.mem_cons_self ..))
    refine ⟨(fd.offset, i.size) :: places, by simp [List.mapM_cons, hi, h1], fun j f i' hj hi' => ?_⟩
    cases j with
    | zero => simp at hj; subst hj; rw [hi] at hi'; cases hi'; rfl
    | succ j => exact h2 j f i' hj hi'
theorem fill_parts {t : TypeId} {fs : Array Field} (hu : P.underlying t = some (.struct fs)) {places : List (Nat × Nat)} (hp : ∀ (j : Nat) (f : Field) (i : TypeInfo), fs.toList[j]? = some f → P.info? f.type = some i → places[j]? = some (f.offset, i.size)) :
    ∀ (ps : List (Nat × AV)) (pv : List (Nat × Value)) (a b : AV) (cells : Array Value), ps.length = pv.length →
    (∀ (j i i' : Nat) (a : AV) (v : Value), ps[j]? = some (i, a) → pv[j]? = some (i', v) → i = i' ∧ RepV c a v) → RepA c a cells.toList → setParts P t a ps = some b →
    ∃ cells' : Array Value, Instr.fill (places.toArray[·]?) cells pv = some cells' ∧ RepA c b cells'.toList ∧ b.isAgg = true
  | [], pv, a, b, cells, hl, _, hr, hd => by
    cases pv with
    | nil =>
      simp only [setParts] at hd
      cases ha : a.isAgg with
      | false => rw [ha] at hd; cases hd
      | true => rw [ha] at hd; cases hd; exact ⟨cells, rfl, hr, ha⟩
    | cons _ _ => simp at hl
  | (j, y) :: ps, pv, a, b, cells, hl, h, hr, hd => by
    cases pv with
    | nil => simp at hl
    | cons q pv =>
      obtain ⟨j', v⟩ := q
      obtain ⟨e0, h0⟩ := h 0 j j' y v rfl rfl
      subst e0
      simp only [setParts] at hd
      cases hg : (fieldOk P t j (a.sk.foffC j) y && Nat.beq (a.fldC j).csz y.csz && !(a.fldC j).sk.isBad) with
      | false => rw [hg] at hd; cases hd
      | true =>
        rw [hg] at hd
        simp only [Bool.and_eq_true, Bool.not_eq_true'] at hg
        obtain ⟨⟨g1, g2⟩, g3⟩ := hg
        obtain ⟨fs', f, k1, k2, k3, k4, k5⟩ := fieldOk_spec g1
        rw [hu] at k1; cases k1
        obtain ⟨i, hi, hsz, _, hbad⟩ := szOk_spec k4
        obtain ⟨pre, mid, post, e1, e2, e3, e4, _⟩ := fldC_focus j hr g3
        have hc := h0.cells hbad
        have hpl := hp j f i (by simpa using k2) hi
        have hvs : v.cells.size = i.size := by rw [← Array.length_toList, hc.length, hsz]
        obtain ⟨cells', f1, f2⟩ := fill_one (place := (places.toArray[·]?)) (rest := pv) (j := j) (off := f.offset) (size := i.size) (by simpa using hpl) hvs e1 (by rw [e2, k3]) (by rw [e3.length, hsz]; exact beq_nat g2)
        obtain ⟨cells2, q1, q2, q3⟩ := fill_parts hu hp ps pv (a.setC j y) b cells' (by simpa using hl) (fun j i i' a v h1 h2 => h (j + 1) i i' a v h1 h2) (by rw [f2]; exact e4 y _ hc) hd
        exact ⟨cells2, by rw [f1]; exact q1, q2, q3⟩
theorem fill_arr {u : Ty} {size : Nat} (hsz : u.csz = size) : ∀ (ps : List (Nat × AV)) (pv : List (Nat × Value)) (xs ys : List (El u)) (cells : Array Value), ps.length = pv.length →
    (∀ (j i i' : Nat) (a : AV) (v : Value), ps[j]? = some (i, a) → pv[j]? = some (i', v) → i = i' ∧ RepV c a v) → RepCs (RepC c.S c.w u) xs cells.toList → setArr u u.csz xs ps = some ys →
    ∃ cells' : Array Value, Instr.fill (fun i => some (i * size, size)) cells pv = some cells' ∧ RepCs (RepC c.S c.w u) ys cells'.toList ∧ ys.length = xs.length
  | [], pv, xs, ys, cells, hl, _, hr, hd => by
    cases pv with
    | nil => cases hd; exact ⟨cells, rfl, hr, rfl⟩
    | cons _ _ => simp at hl
  | (i, a) :: ps, pv, xs, ys, cells, hl, h, hr, hd => by
    cases pv with
    | nil => simp at hl
    | cons q pv =>
      obtain ⟨i', v⟩ := q
      obtain ⟨e0, h0⟩ := h 0 i i' a v rfl rfl
      subst e0
      simp only [setArr] at hd
      cases hg : (Nat.blt i xs.length && Nat.beq a.csz u.csz) with
      | false => rw [hg] at hd; cases hd
      | true =>
        rw [hg] at hd
        simp only [Bool.and_eq_true] at hg
        cases hx : dec u a with
        | none => rw [hx] at hd; cases hd
        | some x =>
          rw [hx] at hd
          have hi : i < xs.length := Nat.le_of_ble_eq_true hg.1
          obtain ⟨pre, mid, post, e1, e2, e3, e4⟩ := RepCs.focus (n := u.csz) (fun _ _ h => RepC.length h) (zero u) i hi hr
          have hc := dec_rep hx (h0.cells (Sk.noBad_isBad (dec_noBad hx)))
          have hvs : v.cells.size = size := by rw [← Array.length_toList, RepC.length hc, hsz]
          obtain ⟨cells', f1, f2⟩ := fill_one (place := fun i => some (i * size, size)) (rest := pv) (j := i) rfl hvs e1 (by rw [e2, hsz]) (by rw [RepC.length e3, hsz])
          obtain ⟨cells2, g1, g2, g3⟩ := fill_arr hsz ps pv (xs.set i x) ys cells' (by simpa using hl) (fun j i i' a v h1 h2 => h (j + 1) i i' a v h1 h2) (by rw [f2]; exact e4 x _ hc) hd
          exact ⟨cells2, by rw [f1]; exact g1, g2, by rw [g3, List.length_set]⟩
theorem und_info {t : TypeId} {d : TypeDesc} (h : P.underlying t = some d) : ∃ i, P.info? t = some i := Option.isSome_iff_exists.1 (info_of_und (by rw [h]; rfl))
theorem build_ok (hs : Sim c) {ρ : Operand → AV} {ρ' : Operand → Value} (hρ : ∀ x, RepV c (ρ x) (ρ' x)) {t : TypeId} {parts : Array (Nat × Operand)} :
    OpS P c (do pure (.value (← Instr.build t (parts.map fun (i, x) => (i, ρ' x)))) : Sem Next) (buildA P t (parts.toList.map fun q => (q.1, ρ q.2))) := by
  intro R k r next hr hk
  unfold buildA at hr
  obtain ⟨pl, pg⟩ := pairs_ok hρ parts.toList
  have hlist : (parts.map fun (i, x) => (i, ρ' x)).toList = parts.toList.map fun q => (q.1, ρ' q.2) := by rw [Array.toList_map]
  cases hz : zeroAV P t with
  | none => rw [hz] at hr; cases hr
  | some z =>
    rw [hz] at hr
    simp only at hr
    obtain ⟨it, zv, m, z1, z2, z3, z4, z5, z6, z7⟩ := zeroAV_spec hz
    cases hu : P.underlying t with
    | none => rw [hu] at hr; cases hr
    | some d =>
      rw [hu] at hr
      cases d <;> (try simp only at hr) <;> try (cases hr; done)
      case struct fs =>
        cases hp : setParts P t z (parts.toList.map fun q => (q.1, ρ q.2)) with
        | none => rw [hp] at hr; cases hr
        | some a =>
          rw [hp] at hr
          obtain ⟨places, q1, q2⟩ := places_of fs.toList (mt_fields z3 hu)
          obtain ⟨cells, g1, g2, g3⟩ := fill_parts (c := c) hu q2 _ _ z a zv.cells pl pg (z5 c) hp
          have hb : P.built t (parts.map fun (i, x) => (i, ρ' x)).toList = some cells := by
            unfold Program.built
            rw [hlist, z1, hu]
            simp only [z2, q1]
            exact g1
          rw [run_v (run_build c.w t _ cells hb)]
          refine hk c a _ (Fr.refl c) (Mn.refl c) hs ?_ hr
          refine repV_of ?_ ?_
          · unfold AV.isAgg at g3; cases hk' : a.sk <;> rw [hk'] at g3 <;> first | rfl | cases g3
          · unfold RepV1; rw [g3]; exact ⟨cells.toList, rfl, g2⟩
      case array n e =>
        cases z <;> (try simp only at hr) <;> try (cases hr; done)
        rename_i u0 xs0
        cases u0 <;> (try simp only at hr) <;> try (cases hr; done)
        rename_i mm u
        obtain ⟨hb, hr2⟩ := HM.run_bif hr
        clear hr
        simp only [Bool.and_eq_true] at hb
        rw [HM.run_bind] at hr2
        obtain ⟨c1, ps, f1, m1, s1, w1, ⟨l1, o1⟩, l2, g1, hr⟩ := unhsL_ok hs pl pg hr2
        clear hr2
        cases hd : setArr u u.csz xs0 ps with
        | none => rw [hd] at hr; cases hr
        | some ys =>
          rw [hd] at hr
          obtain ⟨i, ze, k1, k2, k3, k4, k5, k6⟩ := elOk_spec hb.2
          have hrep : RepC c1.S c1.w (.arr mm u) xs0 zv.cells.toList := z5 c1
          obtain ⟨cells, q1, q2, q3⟩ := fill_arr (c := c1) (size := i.size) k2.symm ps _ xs0 ys zv.cells l2 g1 hrep.2 hd
          have hbt : P.built t (parts.map fun (i, x) => (i, ρ' x)).toList = some cells := by
            unfold Program.built
            rw [hlist, z1, hu]
            simp only [z2, k1]
            exact q1
          rw [run_v (run_build c.w t _ cells hbt), ← w1]
          exact hk c1 (.v (.arr mm u) ys) _ f1 m1 s1 ⟨cells.toList, rfl, by rw [q3]; exact hrep.1, q2⟩ hr
end
end Go.Ab
