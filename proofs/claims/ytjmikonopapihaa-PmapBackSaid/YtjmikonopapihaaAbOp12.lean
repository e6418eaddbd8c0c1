import Derived.Test.YtjmikonopapihaaAbOp11
/-
  AB: literals of slices, structs and arrays; make; append; function values; the least and the greatest.
-/
namespace Go.Ab
set_option linter.unusedSimpArgs false
section
variable {P : Program} {c : Cx}
theorem bsl_ok (hs : Sim c) {nid : Nat} (hh : c.H[nid]? = some .hole) {ρ : Operand → AV} {ρ' : Operand → Value} (hρ : ∀ x, RepV c (ρ x) (ρ' x)) {t : TypeId} {n : Nat} {parts : Array (Nat × Operand)} :
    OpS P c (do pure (.value (← Instr.buildSlice t n (parts.map fun (i, x) => (i, ρ' x)))) : Sem Next) (bslA P t n (parts.toList.map fun q => (q.1, ρ q.2)) nid) := by
  intro R k r next hr hk
  unfold bslA at hr
  cases he : elemOf P t with
  | none => rw [he] at hr; cases hr
  | some e =>
    rw [he] at hr
    simp only at hr
    cases hu : ty P e with
    | none => rw [hu] at hr; cases hr
    | some u =>
      rw [hu] at hr
      obtain ⟨hb, hr⟩ := HM.run_bif hr
      simp only [Bool.and_eq_true] at hb
      obtain ⟨⟨hb1, hb2⟩, hb3⟩ := hb
      rw [HM.run_bind] at hr
      obtain ⟨pl, pg⟩ := pairs_ok hρ parts.toList
      obtain ⟨c1, m, f1, m1, s1, w1, ⟨l1, o1⟩, l2, g1, hr⟩ := unhsL_ok hs pl pg hr
      cases hd : decSet u (List.replicate n (zero u)) m with
      | none => rw [hd] at hr; cases hr
      | some xs =>
        rw [hd] at hr
        obtain ⟨_, _, hr⟩ := HM.run_set hr
        have ht : P.underlying t = some (.slice e) := by
          unfold elemOf at he
          split at he
          · rename_i e' he'; cases he; exact he'
          · cases he
        obtain ⟨i, z, k1, k2, k3, k4, k5, k6⟩ := elOk_spec hb1
        have hcells : RepCs (RepC c1.S c1.w u) (List.replicate n (zero u)) (madeCells z.cells (n * z.cells.size)).toList := by
          rw [madeCells_list]; exact rep_flatten (k6 _ _) n
        have hmlt : ∀ q ∈ m, q.1 < (List.replicate n (zero u)).length := by
          intro q hq
          rw [List.length_replicate]
          obtain ⟨j, hj, rfl⟩ := List.getElem_of_mem hq
          have hj' : j < (parts.toList.map fun q => (q.1, ρ' q.2)).length := by rw [← l2]; exact hj
          have hj'' : j < parts.toList.length := by simpa using hj'
          obtain ⟨e1, _⟩ := g1 j m[j].1 (parts.toList[j].1) m[j].2 (ρ' parts.toList[j].2) (by rw [List.getElem?_eq_getElem hj]) (by rw [List.getElem?_map, List.getElem?_eq_getElem hj'']; rfl)
          have hall := List.all_eq_true.1 hb3 (parts.toList[j].1, ρ parts.toList[j].2) (List.mem_map.2 ⟨parts.toList[j], List.getElem_mem hj'', rfl⟩)
          rw [e1]
          exact Nat.le_of_ble_eq_true hall
        obtain ⟨cells, q1, q2, q3⟩ := fill_elems (c := c1) (size := z.cells.size) k5.symm m _ _ xs _ l2 g1 hcells hd hmlt
        rw [List.length_replicate] at q3
        have hsz : cells.size = n * u.csz := by rw [← Array.length_toList, RepCs.length (n := u.csz) (fun _ _ h => RepC.length h) q2, q3]
        have hrun : (Instr.buildSlice t n (parts.map fun (i, x) => (i, ρ' x))).run P c1.w = .ok (.slice (some ⟨c1.w.heap.size, 0, none⟩) n n) (c1.w.alloc (.cells cells e)) := by
          have hsmall : ¬ (16777216 < n * i.size) := by have := Nat.le_of_ble_eq_true hb2; rw [k2]; omega
          have hfill : Instr.fill (fun i_1 => some (i_1 * i.size, i.size)) (madeCells z.cells (n * i.size)) ((parts.map fun (i, x) => (i, ρ' x)).toList) = some cells := by
            rw [k2, ← k5, Array.toList_map]; exact q1
          by_cases hn : n * i.size = 0
          · have hm0 : madeCells z.cells (n * i.size) = #[] := by unfold madeCells; rw [hn]; simp
            rw [hm0] at hfill
            simp [Instr.buildSlice, run_underlying ht, run_size k1, hsmall, hn, newRow, Array.range_zero']
            simp at hfill
            rw [hfill]
            rfl
          · simp only [madeCells] at hfill
            simp [Instr.buildSlice, run_underlying ht, run_size k1, hsmall, hn, newRow, zeroValue, typeInfo, k1, k4]
            simp at hfill
            rw [hfill]
            rfl
        rw [← w1, run_v hrun]
        have hn : n ≤ maxLen := by
          have h1 := Nat.le_of_ble_eq_true hb2
          have h2 : n ≤ n * u.csz := Nat.le_mul_of_pos_right n k3
          unfold maxLen; omega
        obtain ⟨c2, f2, m2, s2, w2, e2, e3⟩ := row_step (e := e) (u := u) (xs := xs) (cur := cells) (cap := n) s1 (o1 nid hh) (by rw [q3, ← hsz, ← Array.length_toList, List.take_length]) q2 k3 (by omega) hn hsz
        rw [← w2]
        rw [q3] at e3
        exact hk c2 _ _ (f1.trans f2) (m1.trans m2) s2 e3 (by rw [e2]; exact hr)
theorem replicate_add' {α : Type} (a b : Nat) (x : α) : List.replicate (a + b) x = List.replicate a x ++ List.replicate b x := List.replicate_append_replicate.symm
theorem elemOf_eq {t e : TypeId} (he : elemOf P t = some e) : P.underlying t = some (.slice e) := by
  unfold elemOf at he
  split at he
  · rename_i e' he'; cases he; exact he'
  · cases he
theorem mk_core (hs : Sim c) {nid : Nat} (hh : c.H[nid]? = some .hole) {t e : TypeId} {u : Ty} {i : TypeInfo} {kl km : IntKind} (n mm : Int) (he : elemOf P t = some e) (hi : P.info? e = some i) (hb1 : elOk P e u = true) (hb2 : Nat.blt 0 i.bytes = true)
    (c1 : 0 ≤ n) (c2 : n ≤ mm) (c3 : mm * i.bytes ≤ 140737488355328) :
    ∃ c', Fr c c' ∧ Mn c c' ∧ Sim c' ∧ (Instr.makeSlice t (.int kl n) (.int km mm)).run P c.w = .ok (.slice (some ⟨c.w.heap.size, 0, none⟩) n.toNat mm.toNat) c'.w ∧ c'.H = c.H.set nid (.row e 0 u false (List.replicate n.toNat (zero u))) ∧ RepV c' (.hs nid 0) (.slice (some ⟨c.w.heap.size, 0, none⟩) n.toNat mm.toNat) := by
  obtain ⟨i', z, k1, k2, k3, k4, k5, k6⟩ := elOk_spec hb1
  rw [hi] at k1; cases k1
  have ht := elemOf_eq he
  have hby : 1 ≤ (i.bytes : Int) := by have := Nat.le_of_ble_eq_true (show Nat.ble (0 + 1) i.bytes = true from hb2); omega
  have hmm : mm ≤ mm * i.bytes := by
    have := Int.mul_le_mul_of_nonneg_left hby (show 0 ≤ mm by omega)
    rwa [Int.mul_one] at this
  have h63 : mm ≤ 9223372036854775807 := by omega
  have hrun := run_make (P := P) c.w t e i z ht hi k4 kl km n mm c1 c2 (by rw [Int.mul_comm]; omega) h63
  have hsz : (madeCells z.cells (mm.toNat * i.size)).size = mm.toNat * u.csz := by rw [size_madeCells, k2]
  have hcells : (madeCells z.cells (mm.toNat * i.size)).toList.take (n.toNat * u.csz) = (List.replicate n.toNat z.cells.toList).flatten := by
    rw [k2, ← k5, madeCells_list]
    have hnm : mm.toNat = n.toNat + (mm.toNat - n.toNat) := by omega
    rw [hnm, replicate_add', List.flatten_append]
    have hll : (List.replicate n.toNat z.cells.toList).flatten.length = n.toNat * z.cells.size := by simp
    rw [← hll, List.take_left]
  have hrep := rep_flatten (R := RepC c.S c.w u) (k6 c.S c.w) n.toNat
  obtain ⟨c2', f2, m2, s2, w2, e2, e3⟩ := row_step (e := e) (u := u) (xs := List.replicate n.toNat (zero u)) (cur := madeCells z.cells (mm.toNat * i.size)) (cap := mm.toNat) hs hh (by rw [List.length_replicate]; exact hcells.symm) hrep k3 (by rw [List.length_replicate]; omega) (by unfold maxLen; omega) hsz
  rw [List.length_replicate] at e3
  exact ⟨c2', f2, m2, s2, by rw [hrun, w2], e2, e3⟩
theorem mk_ok (hs : Sim c) {nid : Nat} (hh : c.H[nid]? = some .hole) {t : TypeId} {l m : AV} {lv mv : Value} (hl : RepV c l lv) (hm : RepV c m mv) :
    OpS P c (do pure (.value (← Instr.makeSlice t lv mv)) : Sem Next) (mkA P t l m nid) := by
  intro R k r next hr hk
  cases l <;> (try simp only [mkA] at hr) <;> try (cases hr; done)
  rename_i ul n
  cases ul <;> (try simp only at hr) <;> try (cases hr; done)
  rename_i kl
  cases m <;> (try simp only at hr) <;> try (cases hr; done)
  rename_i um mm
  cases um <;> (try simp only at hr) <;> try (cases hr; done)
  rename_i km
  obtain ⟨e1, _⟩ := repInt hl
  obtain ⟨e2, _⟩ := repInt hm
  subst e1; subst e2
  cases he : elemOf P t with
  | none => rw [he] at hr; cases hr
  | some e =>
    rw [he] at hr
    simp only at hr
    cases hu : ty P e with
    | none => rw [hu] at hr; cases hr
    | some u =>
      cases hi : P.info? e with
      | none => rw [hu, hi] at hr; cases hr
      | some i =>
        rw [hu, hi] at hr
        obtain ⟨hb, hr⟩ := HM.run_bif hr
        obtain ⟨hc, hr⟩ := HM.run_need hr
        obtain ⟨_, _, hr⟩ := HM.run_set hr
        simp only [Bool.and_eq_true] at hb
        simp only [Bool.and_eq_true, decide_eq_true_eq] at hc
        obtain ⟨c', f, m, s, hrun, e2, e3⟩ := mk_core (P := P) (kl := kl) (km := km) hs hh n mm he hi hb.1 hb.2 hc.1 hc.2.1 hc.2.2
        rw [run_v hrun]
        exact hk c' _ _ f m s e3 (by rw [e2]; exact hr)
theorem decSl_val {u u' : Ty} {o : Option (List (El u'))} {y : Option (List (El u))} (h : dec (.sl u) (.v (.sl u') o) = some y) : decV (.sl u) (.sl u') o = some y := h
/-- what is appended: the cells -/
theorem src_cells {u : Ty} {o : Option (List (El u))} {v : Value} (h : SlRep c.S c.w u o v) :
    ∃ news, RepCs (RepC c.S c.w u) (o.getD []) news ∧ ((v = .slice none 0 0 ∧ o = none) ∨ ∃ ad m, v = .slice (some ad) (o.getD []).length m ∧ ∀ j x, news[j]? = some x → c.w.cell? (ad.add j) = some x) := by
  obtain ⟨cells, h1, h2 | ⟨b, off, cap, sp, h2, h3, h4, h5, h6, h7⟩⟩ := h
  · exact ⟨cells, h1, .inl h2⟩
  · by_cases hc : cap = 0
    · have hl : (o.getD []).length = 0 := by omega
      have hn : cells = [] := by
        have e : o.getD [] = [] := List.eq_nil_of_length_eq_zero hl
        rw [e] at h1
        exact h1
      exact ⟨cells, h1, .inr ⟨⟨b, off, sp⟩, cap, h2, fun j x hj => by rw [hn] at hj; simp at hj⟩⟩
    · have hsp := h7 hc
      subst hsp
      exact ⟨cells, h1, .inr ⟨⟨b, off, none⟩, cap, h2, fun j x hj => by rw [add_lit]; exact h5 j x hj⟩⟩
theorem run_append_nothing {t ty e : TypeId} {i : TypeInfo} (ht : P.underlying t = some (.slice e)) (hi : P.info? e = some i) (base : Option Addr) (n cap : Nat) (hn : n ≤ cap) (w : World) :
    (Builtin.append_ #[t, t] ty #[.slice base n cap, .slice none 0 0]).run P w = .ok (.slice base n cap) w := by
  cases base <;> simp [Builtin.append_, run_underlying ht, run_size hi, Builtin.lenOf, hn, Builtin.firstCells, storeCells]
end
end Go.Ab
