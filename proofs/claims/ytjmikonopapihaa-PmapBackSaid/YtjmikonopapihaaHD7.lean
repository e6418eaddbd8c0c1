import Derived.Test.YtjmikonopapihaaHD6
/-
  Mappings: packed and unpacked. Plain lemmas.
-/
namespace Go.Proofs.Ytjmikonopapihaa
open Go.Ab
set_option maxRecDepth 100000
set_option linter.unusedSimpArgs false
theorem sz_cases {k : Int} (h : 0 < sz k) : sz k = 1 ∨ sz k = 2 ∨ sz k = 4 := by
  rcases kinds k with q | ⟨h1, h2, h3, h4, h5, h6, h7⟩
  · rcases q with rfl | rfl | rfl | rfl | rfl | rfl | rfl <;> decide
  · simp [sz, h1, h2, h3, h4, h5, h6, h7] at h
/-- the bytes of an entry -/
def val (rows : List Row) (k : Key) : List Int := dor ((find rows k).getD noEnt).2.1
def pack (rows : List Row) (l : List Slot) : List Int := l.flatMap fun s => val rows s.1
theorem pack_take {rows : List Row} {l : List Slot} {i : Nat} (h : i < l.length) : pack rows (l.take (i + 1)) = pack rows (l.take i) ++ val rows l[i].1 := by
  unfold pack
  rw [List.take_succ_eq_append_getElem h, List.flatMap_append]
  simp
theorem pack_drop {rows : List Row} {l : List Slot} {i : Nat} (h : i < l.length) : pack rows (l.drop i) = val rows l[i].1 ++ pack rows (l.drop (i + 1)) := by
  unfold pack
  rw [List.drop_eq_getElem_cons h, List.flatMap_cons]
theorem pack_pre (rows : List Row) (l : List Slot) (i : Nat) : (pack rows (l.take i)).length ≤ (pack rows l).length := by
  have : pack rows l = pack rows (l.take i) ++ pack rows (l.drop i) := by unfold pack; rw [← List.flatMap_append, List.take_append_drop]
  rw [this, List.length_append]; omega
/-- a mapping that fits: each slot's entry -/
structure Fit (rows : List Row) (l : List Slot) : Prop where
  ent : ∀ s ∈ l, ∃ e, find rows s.1 = some e ∧ e.1.2.1 ≠ 4 ∧ 0 < sz e.1.1 ∧ s.2.1 = 8 * sz e.1.1 ∧ ((val rows s.1).length : Int) = sz e.1.1 ∧ Byt (val rows s.1) ∧ fits e.1 (val rows s.1) = 0
  all : (pack rows l).length ≤ 8
theorem fit_of {rows : List Row} (hg : Good rows) {l : List Slot} (h : chk rows 64 l = 0) : Fit rows l := by
  obtain ⟨h1, h2⟩ := chk_ok hg h
  refine ⟨fun s hs => ?_, ?_⟩
  · obtain ⟨e, g1, g2, g3, g4, g5⟩ := h1 s hs
    have hv : val rows s.1 = dor e.2.1 := by unfold val; rw [g1]; rfl
    exact ⟨e, g1, g2, g3, g4, by rw [hv]; exact g5, by rw [hv]; exact (good_find hg g1).1, by rw [hv]; exact (good_find hg g1).2⟩
  · have : 8 * ((pack rows l).length : Int) ≤ max 64 0 := h2
    omega
theorem dcpy_end {A b : List Int} (h : A.length + b.length ≤ 8) : dcpy (A ++ List.replicate (8 - A.length) 0) A.length 8 b = (A ++ b) ++ List.replicate (8 - (A ++ b).length) 0 := by
  unfold dcpy
  have e1 : b.take (8 - A.length) = b := List.take_of_length_le (by omega)
  rw [e1, List.take_left' rfl, List.drop_append, List.drop_of_length_le (by omega), List.nil_append, List.drop_replicate, List.append_assoc, List.length_append]
  congr 3
  omega
theorem g12_ok {rows : List Row} (hg : Good rows) {l : Option (List Slot)} (hf : Fit rows (dor l)) (hl : (dor l).length ≤ 8) (ch : Int) :
    g12_0 0 l (olen l) 0 ch rows (List.replicate 8 0) = some (.inl (((), ((pack rows (dor l)).length : Int), ()), ((), ch, ()), ((), ()), rows, pack rows (dor l) ++ List.replicate (8 - (pack rows (dor l)).length) 0, ())) := by
  have main := iter_fu (f := r12_0)
    (fun x => ∃ i : Nat, x = (((), (), ((pack rows ((dor l).take i)).length : Int), l, olen l, (i : Int), ()), ((), ch, ()), ((), ()), rows, pack rows ((dor l).take i) ++ List.replicate (8 - (pack rows ((dor l).take i)).length) 0, ()) ∧ i ≤ (dor l).length)
    (fun x => (olen l - x.1.2.2.2.2.2.1 : Int).toNat)
    (fun _ y => y = .inl (((), ((pack rows (dor l)).length : Int), ()), ((), ch, ()), ((), ()), rows, pack rows (dor l) ++ List.replicate (8 - (pack rows (dor l)).length) 0, ())) (fun x hx => by
      obtain ⟨i, rfl, hi⟩ := hx
      by_cases hlt : i < (dor l).length
      · left
        have e1 : decide ((i : Int) < olen l) = true := by rw [olen_dor]; exact decide_eq_true (by omega)
        have e2 : idxOk (i : Int) (olen l) = true := by rw [olen_dor]; exact idx_true (by omega) (by omega)
        have e3 := oget_sl hlt
        have e5 : IntKind.wrap .i64 ((i : Int) + 1) = ((i + 1 : Nat) : Int) := w64 (by omega) (by omega)
        have h8 := pack_pre rows (dor l) (i + 1)
        have ha := hf.all
        have hp := pack_take (rows := rows) hlt
        rw [hp, List.length_append] at h8
        have hcp := dcpy_end (A := pack rows ((dor l).take i)) (b := val rows (dor l)[i].1) (by omega)
        rw [← hp] at hcp
        generalize hA : pack rows ((dor l).take i) = A at *
        generalize hsl : (dor l)[i] = sl at *
        have e6 : subOk (A.length : Int) 8 8 = true := sub_true (by omega) (by omega) (by omega)
        have e7 : f15 sl.1 ch rows = some ((((find rows sl.1).getD noEnt).2.1, (find rows sl.1).isSome, ()), dic ch rows) := f15_ok hg _ _
        have e8 : dlen (dor ((find rows sl.1).getD noEnt).2.1) = (val rows sl.1).length := rfl
        have e9 : min (val rows sl.1).length (8 - A.length) = (val rows sl.1).length := by omega
        have e10 : IntKind.wrap .i64 ((A.length : Int) + ((val rows sl.1).length : Int)) = ((pack rows ((dor l).take (i + 1))).length : Int) := by
          rw [hp, List.length_append, w64 (by omega) (by omega)]; omega
        refine ⟨(((), (), ((pack rows ((dor l).take (i + 1))).length : Int), l, olen l, ((i + 1 : Nat) : Int), ()), ((), ch, ()), ((), ()), rows, pack rows ((dor l).take (i + 1)) ++ List.replicate (8 - (pack rows ((dor l).take (i + 1))).length) 0, ()), ?_, ⟨i + 1, rfl, hlt⟩, ?_, fun _ h => h⟩
        · simp only [r12_0, R12_0, e1, e2, e3, Int.toNat_natCast, cond_true, e7, Option.bind_some, e6, e8, e9, e10, e5]
          show some (Sum.inl (((), (), _, l, olen l, _, ()), ((), ch, ()), ((), ()), rows, dcpy _ _ 8 (val rows sl.1), ())) = _
          rw [hcp]
        · show (olen l - ((i + 1 : Nat) : Int)).toNat < (olen l - (i : Int)).toNat
          rw [olen_dor]; omega
      · right
        have e1 : decide ((i : Int) < olen l) = false := by rw [olen_dor]; exact decide_eq_false (by omega)
        have e2 : (dor l).take i = dor l := List.take_of_length_le (by omega)
        refine ⟨_, ?_, rfl⟩
        simp only [r12_0, R12_0, e1, cond_false, e2])
    (a := (((), (), 0, l, olen l, 0, ()), ((), ch, ()), ((), ()), rows, List.replicate 8 0, ())) ⟨0, by simp [pack], by omega⟩ (by show (olen l - 0).toNat < _; rw [olen_dor]; omega)
  obtain ⟨y, h1, h2⟩ := main
  unfold g12_0
  rw [h1, h2]
theorem f12_no {rows : List Row} (hg : Good rows) {l : Option (List Slot)} (hl : (dor l).length ≤ 1000000000000) (h : 8 < (dor l).length ∨ chk rows 64 (dor l) ≠ 0) (ch : Int) : f12 l ch rows = some ((none, 14, ()), dic ch rows) := by
  unfold f12
  rw [f50_ok hg l hl]
  by_cases h8 : 8 < (dor l).length
  · rw [if_pos h8]; rfl
  · rw [if_neg h8]
    have hc : chk rows 64 (dor l) ≠ 0 := h.resolve_left h8
    simp [hc]
theorem f12_ok {rows : List Row} (hg : Good rows) {l : Option (List Slot)} (hl : (dor l).length ≤ 8) (hc : chk rows 64 (dor l) = 0) (ch : Int) :
    ∃ o : Option (List Int), dor o = pack rows (dor l) ∧ f12 l ch rows = some ((o, 0, ()), dic ch rows) := by
  have hf := fit_of hg hc
  have ha := hf.all
  refine ⟨rowC true (pack rows (dor l)), by cases pack rows (dor l) <;> rfl, ?_⟩
  unfold f12
  rw [f50_ok hg l (by omega), if_neg (by omega), hc]
  simp only [Option.bind_some, decide_true, Bool.not_true, cond_false]
  rw [g12_ok hg hf hl ch]
  have e1 : subOk 0 ((pack rows (dor l)).length : Int) 8 = true := sub_true (by omega) (by omega) (by omega)
  have e2 : dsub (pack rows (dor l) ++ List.replicate (8 - (pack rows (dor l)).length) 0) 0 (pack rows (dor l)).length = pack rows (dor l) := by
    unfold dsub
    rw [List.take_left' rfl, List.drop_zero]
  have e3 : Nat.ble (dlen (pack rows (dor l)) * 1) 140737488355328 = true := Nat.ble_eq_true_of_le (by show (pack rows (dor l)).length * 1 ≤ _; omega)
  simp only [Option.bind_some, e1, cond_true, Int.toNat_natCast]
  rw [e2, e3]
  rfl
theorem f51_ok {rows : List Row} {l : Option (List Slot)} (hf : Fit rows (dor l)) (hl : (dor l).length ≤ 8) : f51 l = some ((((pack rows (dor l)).length : Int), ()), ()) := by
  have main := iter_fu (f := r51_0)
    (fun x => ∃ i : Nat, x = ((((pack rows ((dor l).take i)).length : Int), l, olen l, (i : Int), ()), ()) ∧ i ≤ (dor l).length)
    (fun x => (olen l - x.1.2.2.2.1 : Int).toNat) (fun _ y => y = .inl ((((pack rows (dor l)).length : Int), ()), ())) (fun x hx => by
      obtain ⟨i, rfl, hi⟩ := hx
      by_cases hlt : i < (dor l).length
      · left
        have e1 : decide ((i : Int) < olen l) = true := by rw [olen_dor]; exact decide_eq_true (by omega)
        have e2 : idxOk (i : Int) (olen l) = true := by rw [olen_dor]; exact idx_true (by omega) (by omega)
        have e3 := oget_sl hlt
        have e5 : IntKind.wrap .i64 ((i : Int) + 1) = ((i + 1 : Nat) : Int) := w64 (by omega) (by omega)
        obtain ⟨e, g1, g2, g3, g4, g5, g6, g7⟩ := hf.ent _ (List.getElem_mem hlt)
        have h8 := pack_pre rows (dor l) (i + 1)
        have ha := hf.all
        have hp := pack_take (rows := rows) hlt
        rw [hp, List.length_append] at h8
        have e6 : Int.tdiv (dor l)[i].2.1 8 = ((val rows (dor l)[i].1).length : Int) := by rw [g4, Int.tdiv_eq_ediv_of_nonneg (by omega)]; omega
        have e7 : IntKind.wrap .i64 ((val rows (dor l)[i].1).length : Int) = ((val rows (dor l)[i].1).length : Int) := w64 (by omega) (by omega)
        have e8 : IntKind.wrap .i64 (((pack rows ((dor l).take i)).length : Int) + ((val rows (dor l)[i].1).length : Int)) = ((pack rows ((dor l).take (i + 1))).length : Int) := by
          rw [hp, List.length_append, w64 (by omega) (by omega)]; omega
        have hz := sz_le e.1.1
        have hz2 : sz e.1.1 = 1 ∨ sz e.1.1 = 2 ∨ sz e.1.1 = 4 := sz_cases g3
        refine ⟨((((pack rows ((dor l).take (i + 1))).length : Int), l, olen l, ((i + 1 : Nat) : Int), ()), ()), ?_, ⟨i + 1, rfl, hlt⟩, ?_, fun _ h => h⟩
        · have hcase : (dor l)[i].2.1 = 8 ∨ (dor l)[i].2.1 = 16 ∨ (dor l)[i].2.1 = 32 := by omega
          generalize (dor l)[i] = sl at *
          rcases hcase with q | q | q
          · have q1 : decide (sl.2.1 = 8) = true := decide_eq_true q
            simp only [r51_0, R51_0, e1, e2, e3, Int.toNat_natCast, cond_true, q1, e6, e7, e8, e5]
          · have q1 : decide (sl.2.1 = 8) = false := decide_eq_false (by omega)
            have q2 : decide (sl.2.1 = 16) = true := decide_eq_true q
            simp only [r51_0, R51_0, e1, e2, e3, Int.toNat_natCast, cond_true, cond_false, q1, q2, e6, e7, e8, e5]
          · have q1 : decide (sl.2.1 = 8) = false := decide_eq_false (by omega)
            have q2 : decide (sl.2.1 = 16) = false := decide_eq_false (by omega)
            have q3 : decide (sl.2.1 = 32) = true := decide_eq_true q
            simp only [r51_0, R51_0, e1, e2, e3, Int.toNat_natCast, cond_true, cond_false, q1, q2, q3, e6, e7, e8, e5]
        · show (olen l - ((i + 1 : Nat) : Int)).toNat < (olen l - (i : Int)).toNat
          rw [olen_dor]; omega
      · right
        have e1 : decide ((i : Int) < olen l) = false := by rw [olen_dor]; exact decide_eq_false (by omega)
        have e2 : (dor l).take i = dor l := List.take_of_length_le (by omega)
        exact ⟨_, by simp only [r51_0, R51_0, e1, cond_false, e2], rfl⟩)
    (a := ((0, l, olen l, 0, ()), ())) ⟨0, by simp [pack], by omega⟩ (by show (olen l - 0).toNat < _; rw [olen_dor]; omega)
  obtain ⟨y, h1, h2⟩ := main
  unfold f51 g51_0
  have e1 : decide ((8 : Int) < olen l) = false := by rw [olen_dor]; exact decide_eq_false (by omega)
  rw [e1, h1, h2]
  rfl
theorem dor_osub (b : Option (List Int)) (l h : Nat) : dor (osub b l h) = dsub (dor b) l h := by cases b <;> simp [osub, dsub]
theorem g52_ok {rows rx : List Row} (hgx : Good rx) (hs : SameS rows rx) {l : Option (List Slot)} (hf : Fit rows (dor l)) (hl : (dor l).length ≤ 8) {b : Option (List Int)} (hb : dor b = pack rows (dor l)) (ch : Int) :
    ∃ out : List (Option (List Int)), out.map dor = (dor l).map (fun s => val rows s.1) ∧ g52_0 b l (olen l) 0 ch rx ([] : List (Option (List Int))) = some (.inl (((), ()), ((), ch, ()), ((), ()), rx, out, ())) := by
  have main := iter_fu (f := r52_0)
    (fun x => ∃ (i : Nat) (b : Option (List Int)) (out : List (Option (List Int))), x = (((), b, (), l, olen l, (i : Int), ()), ((), ch, ()), ((), ()), rx, out, ()) ∧ i ≤ (dor l).length ∧ dor b = pack rows ((dor l).drop i) ∧ out.map dor = ((dor l).take i).map (fun s => val rows s.1))
    (fun x => (olen l - x.1.2.2.2.2.2.1 : Int).toNat)
    (fun _ y => ∃ out : List (Option (List Int)), out.map dor = (dor l).map (fun s => val rows s.1) ∧ y = .inl (((), ()), ((), ch, ()), ((), ()), rx, out, ())) (fun x hx => by
      obtain ⟨i, b, out, rfl, hi, hb, ho⟩ := hx
      by_cases hlt : i < (dor l).length
      · left
        have e1 : decide ((i : Int) < olen l) = true := by rw [olen_dor]; exact decide_eq_true (by omega)
        have e2 : idxOk (i : Int) (olen l) = true := by rw [olen_dor]; exact idx_true (by omega) (by omega)
        have e3 := oget_sl hlt
        have e5 : IntKind.wrap .i64 ((i : Int) + 1) = ((i + 1 : Nat) : Int) := w64 (by omega) (by omega)
        obtain ⟨e, g1, g2, g3, g4, g5, g6, g7⟩ := hf.ent _ (List.getElem_mem hlt)
        have hp := pack_drop (rows := rows) hlt
        rw [hp] at hb
        have hlen : out.length = i := by have := congrArg List.length ho; simpa [Nat.min_eq_left hi] using this
        have htk : ((dor l).take (i + 1)).map (fun s => val rows s.1) = ((dor l).take i).map (fun s => val rows s.1) ++ [val rows (dor l)[i].1] := by rw [List.take_succ_eq_append_getElem hlt, List.map_append]; rfl
        have hsame := hs (dor l)[i].1
        have ha := hf.all
        have h8 : (val rows (dor l)[i].1).length ≤ 8 := by have := sz_le e.1.1; omega
        have e6 : Int.tdiv (dor l)[i].2.1 8 = ((val rows (dor l)[i].1).length : Int) := by rw [g4, Int.tdiv_eq_ediv_of_nonneg (by have := sz_le e.1.1; omega)]; omega
        generalize (dor l)[i] = sl at *
        rw [g1] at hsame
        obtain ⟨ex, hx1, hx2⟩ : ∃ ex, find rx sl.1 = some ex ∧ ex.1 = e.1 := by
          cases hfx : find rx sl.1 with
          | none => rw [hfx] at hsame; cases hsame
          | some ex => rw [hfx] at hsame; exact ⟨ex, rfl, by simpa using hsame⟩
        have e7 : IntKind.wrap .i64 ((val rows sl.1).length : Int) = ((val rows sl.1).length : Int) := w64 (by omega) (by omega)
        have hbl : olen b = (((val rows sl.1).length + (pack rows ((dor l).drop (i + 1))).length : Nat) : Int) := by rw [olen_dor, hb, List.length_append]
        have e8 : subOk 0 ((val rows sl.1).length : Int) (olen b) = true := by rw [hbl]; exact sub_true (by omega) (by omega) (by omega)
        have e9 : subOk ((val rows sl.1).length : Int) (olen b) (olen b) = true := by rw [hbl]; exact sub_true (by omega) (by omega) (by omega)
        have e10 : dor (osub b 0 (val rows sl.1).length) = val rows sl.1 := by rw [dor_osub, hb]; unfold dsub; rw [List.take_left' rfl, List.drop_zero]
        have e11 : dor (osub b (val rows sl.1).length (olen b).toNat) = pack rows ((dor l).drop (i + 1)) := by
          rw [dor_osub, hb, hbl, Int.toNat_natCast]
          unfold dsub
          rw [List.take_of_length_le (by rw [List.length_append]; omega), List.drop_left' rfl]
        have e12 := f104_ok ex.1 (b := osub b 0 (val rows sl.1).length) (by rw [e10]; exact g6)
        rw [e10, hx2, g7] at e12
        have e13 : f91 sl.1 ch rx = some ((e.1, true, ()), dic ch rx) := by rw [f91_ok hgx, hx1, ← hx2]; rfl
        have e14 : Nat.ble ((dlen out + dlen [osub b 0 (val rows sl.1).length]) * 24) 140737488355328 = true := Nat.ble_eq_true_of_le (by show (out.length + 1) * 24 ≤ _; omega)
        refine ⟨(((), osub b (val rows sl.1).length (olen b).toNat, (), l, olen l, ((i + 1 : Nat) : Int), ()), ((), ch, ()), ((), ()), rx, out ++ [osub b 0 (val rows sl.1).length], ()), ?_, ⟨i + 1, _, _, rfl, hlt, e11, ?_⟩, ?_, fun _ h => h⟩
        · simp only [r52_0, R52_0, e1, e2, e3, Int.toNat_natCast, cond_true, e13, Option.bind_some, e6, e7, e8, e12, decide_true, Bool.not_true, cond_false, e9, e5]
          erw [e14]
          rfl
        · rw [List.map_append, ho, htk]
          simp [e10]
        · show (olen l - ((i + 1 : Nat) : Int)).toNat < (olen l - (i : Int)).toNat
          rw [olen_dor]; omega
      · right
        have e1 : decide ((i : Int) < olen l) = false := by rw [olen_dor]; exact decide_eq_false (by omega)
        refine ⟨.inl (((), ()), ((), ch, ()), ((), ()), rx, out, ()), by simp only [r52_0, R52_0, e1, cond_false], out, by rw [ho, List.take_of_length_le (by omega)], rfl⟩)
    (a := (((), b, (), l, olen l, 0, ()), ((), ch, ()), ((), ()), rx, [], ())) ⟨0, b, [], rfl, by omega, by simpa using hb, rfl⟩ (by show (olen l - 0).toNat < _; rw [olen_dor]; omega)
  obtain ⟨y, h1, out, h2, h3⟩ := main
  exact ⟨out, h2, by unfold g52_0; rw [h1, h3]⟩
theorem val_putR {rows : List Row} {k : Key} {b : Option (List Int)} (h : putE rows k b = 0) (j : Key) : val (putR rows k b) j = if num j = num k then dor b else val rows j := by
  unfold putE at h
  unfold putR val
  cases hf : find rows k with
  | none => rw [hf] at h; simp at h
  | some e =>
    rw [hf] at h
    by_cases h4 : e.1.2.1 = 4
    · simp [h4] at h
    · by_cases hfit : fits e.1 (dor b) = 0
      · simp only [h4, hfit, if_false, if_true]
        show dor ((look (put _ _ _) _).getD noEnt).2.1 = _
        rw [look_put]
        have hk : (look rows (num k)).isSome = true := by
          have : look rows (num k) = some e := hf
          rw [this]; rfl
        by_cases hj : num j = num k
        · rw [if_pos ⟨hj, hk⟩, if_pos hj]; rfl
        · rw [if_neg (fun q => hj q.1), if_neg hj]
      · simp [h4, hfit] at h
theorem g14_ok {rows rx : List Row} (hgx : Good rx) (hs : SameS rows rx) {l : Option (List Slot)} (hf : Fit rows (dor l)) (hl : (dor l).length ≤ 8) {all : Option (List (Option (List Int)))} (hall : (dor all).map dor = (dor l).map (fun s => val rows s.1)) (ch : Int) :
    ∃ rx' ch', Good rx' ∧ SameS rows rx' ∧ (∀ k, val rx' k = if (dor l).any (fun s => decide (num k = num s.1)) then val rows k else val rx k) ∧ g14_0 all l (olen l) 0 ch rx = some (.inl ((), ((), ch', ()), ((), ()), rx', ())) := by
  have hlen : (dor all).length = (dor l).length := by have := congrArg List.length hall; simpa using this
  have main := iter_fu (f := r14_0)
    (fun x => ∃ (i : Nat) (c : Int) (ry : List Row), x = (((), all, l, olen l, (i : Int), ()), ((), c, ()), ((), ()), ry, ()) ∧ i ≤ (dor l).length ∧ Good ry ∧ SameS rows ry ∧ ∀ k, val ry k = if ((dor l).take i).any (fun s => decide (num k = num s.1)) then val rows k else val rx k)
    (fun x => (olen l - x.1.2.2.2.2.1 : Int).toNat)
    (fun _ y => ∃ rx' ch', Good rx' ∧ SameS rows rx' ∧ (∀ k, val rx' k = if (dor l).any (fun s => decide (num k = num s.1)) then val rows k else val rx k) ∧ y = .inl ((), ((), ch', ()), ((), ()), rx', ())) (fun x hx => by
      obtain ⟨i, c, ry, rfl, hi, hgy, hsy, hv⟩ := hx
      by_cases hlt : i < (dor l).length
      · left
        have e1 : decide ((i : Int) < olen l) = true := by rw [olen_dor]; exact decide_eq_true (by omega)
        have e2 : idxOk (i : Int) (olen l) = true := by rw [olen_dor]; exact idx_true (by omega) (by omega)
        have e2' : idxOk (i : Int) (olen all) = true := by rw [olen_dor, hlen]; exact idx_true (by omega) (by omega)
        have e3 := oget_sl hlt
        have e4 : dor (oget all i (zero (.sl U8))) = val rows (dor l)[i].1 := by
          have h1 : (oget all i (zero (.sl U8))) = (dor all)[i]'(by omega) := by rw [oget_dor]; show (dor all).getD i _ = _; rw [getD_el (by omega)]
          have h2 : ((dor all).map dor)[i]'(by simpa [hlen] using hlt) = ((dor l).map (fun s => val rows s.1))[i]'(by simpa using hlt) := by simp only [hall]
          rw [h1]
          simpa using h2
        have e5 : IntKind.wrap .i64 ((i : Int) + 1) = ((i + 1 : Nat) : Int) := w64 (by omega) (by omega)
        obtain ⟨e, g1, g2, g3, g4, g5, g6, g7⟩ := hf.ent _ (List.getElem_mem hlt)
        have htk : (dor l).take (i + 1) = (dor l).take i ++ [(dor l)[i]] := List.take_succ_eq_append_getElem hlt
        have hsame := hsy (dor l)[i].1
        generalize (dor l)[i] = sl at *
        obtain ⟨b, hbq⟩ : ∃ b, @oget (El (.sl U8)) all i (zero (.sl U8)) = b := ⟨_, rfl⟩
        replace e4 : dor b = val rows sl.1 := by rw [← hbq]; exact e4
        have hbyt : Byt (dor b) := by rw [e4]; exact g6
        obtain ⟨c', h48⟩ := f48_ok hgy sl.1 hbyt c
        rw [g1] at hsame
        have hpe : putE ry sl.1 b = 0 := by
          unfold putE
          cases hfx : find ry sl.1 with
          | none => rw [hfx] at hsame; cases hsame
          | some ex =>
            rw [hfx] at hsame
            have hx2 : ex.1 = e.1 := by simpa using hsame
            simp [hx2, g2, e4, g7]
        rw [hpe] at h48
        refine ⟨(((), all, l, olen l, ((i + 1 : Nat) : Int), ()), ((), c', ()), ((), ()), putR ry sl.1 b, ()), ?_, ⟨i + 1, c', _, rfl, hlt, good_putR hgy sl.1 hbyt, hsy.trans (same_putR ry sl.1 b), fun k => ?_⟩, ?_, fun _ h => h⟩
        · simp only [r14_0, R14_0, e1, e2, e2', e3, Int.toNat_natCast, cond_true, hbq, h48, Option.bind_some, decide_true, Bool.not_true, cond_false, e5]
        · rw [val_putR hpe, htk, List.any_append, hv k]
          by_cases hk : num k = num sl.1
          · have : k = sl.1 ∨ val rows k = val rows sl.1 := .inr (by unfold val; show dor ((look rows (num k)).getD _).2.1 = dor ((look rows (num sl.1)).getD _).2.1; rw [hk])
            have hvk : val rows k = val rows sl.1 := by
              rcases this with q | q
              · rw [q]
              · exact q
            simp [hk, e4, hvk]
          · rw [if_neg hk]
            simp only [List.any_cons, List.any_nil, show decide (num k = num sl.1) = false from decide_eq_false hk, Bool.or_false]
        · show (olen l - ((i + 1 : Nat) : Int)).toNat < (olen l - (i : Int)).toNat
          rw [olen_dor]; omega
      · right
        have e1 : decide ((i : Int) < olen l) = false := by rw [olen_dor]; exact decide_eq_false (by omega)
        have e2 : (dor l).take i = dor l := List.take_of_length_le (by omega)
        exact ⟨.inl ((), ((), c, ()), ((), ()), ry, ()), by simp only [r14_0, R14_0, e1, cond_false], ry, c, hgy, hsy, by rw [e2] at hv; exact hv, rfl⟩)
    (a := (((), all, l, olen l, 0, ()), ((), ch, ()), ((), ()), rx, ())) ⟨0, ch, rx, rfl, by omega, hgx, hs, fun k => by simp⟩ (by show (olen l - 0).toNat < _; rw [olen_dor]; omega)
  obtain ⟨y, h1, rx', ch', h2, h3, h4, h5⟩ := main
  exact ⟨rx', ch', h2, h3, h4, by unfold g14_0; rw [h1, h5]⟩
theorem f14_no {rows : List Row} (hg : Good rows) {l : Option (List Slot)} (hl : (dor l).length ≤ 1000000000000) (h : 8 < (dor l).length ∨ chk rows 64 (dor l) ≠ 0) (b : Option (List Int)) (ch : Int) : f14 b l ch rows = some ((14, ()), dic ch rows) := by
  unfold f14
  rw [f50_ok hg l hl]
  by_cases h8 : 8 < (dor l).length
  · rw [if_pos h8]; rfl
  · rw [if_neg h8]
    have hc : chk rows 64 (dor l) ≠ 0 := h.resolve_left h8
    simp [hc]
theorem f14_ok {rows rx : List Row} (hg : Good rows) (hgx : Good rx) (hs : SameS rows rx) {l : Option (List Slot)} (hl : (dor l).length ≤ 8) (hc : chk rows 64 (dor l) = 0) {b : Option (List Int)} (hb : dor b = pack rows (dor l)) (ch : Int) :
    ∃ rx' ch', Good rx' ∧ SameS rows rx' ∧ (∀ k, val rx' k = if (dor l).any (fun s => decide (num k = num s.1)) then val rows k else val rx k) ∧ f14 b l ch rx = some ((0, ()), dic ch' rx') := by
  have hf := fit_of hg hc
  obtain ⟨out, ho, h52⟩ := g52_ok hgx hs hf hl hb ch
  obtain ⟨rx', ch', q1, q2, q3, q4⟩ := g14_ok hgx hs hf hl (all := rowC true out) (by rw [← ho]; cases out <;> rfl) ch
  refine ⟨rx', ch', q1, q2, q3, ?_⟩
  unfold f14
  rw [f50_ok hgx l (by omega), if_neg (by omega), chk_same hs, hc, f51_ok hf hl]
  simp only [Option.bind_some, decide_true, Bool.not_true, cond_false]
  have e1 : decide (olen b = ((pack rows (dor l)).length : Int)) = true := by rw [olen_dor, hb]; exact decide_eq_true rfl
  rw [e1]
  simp only [Bool.not_true, cond_false]
  unfold f52
  rw [h52]
  simp only [Option.bind_some, Bool.not_true, cond_false]
  rw [q4]
  rfl
end Go.Proofs.Ytjmikonopapihaa
