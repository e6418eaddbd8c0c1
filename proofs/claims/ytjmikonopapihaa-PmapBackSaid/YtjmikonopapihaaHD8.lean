import Derived.Test.YtjmikonopapihaaHD7
/-
  PmapBack: the plain law.
-/
namespace Go.Proofs.Ytjmikonopapihaa
open Go.Ab
set_option maxRecDepth 100000
set_option linter.unusedSimpArgs false
theorem f13_ok : f13 = some ((true, ()), ()) := by kernel_rfl
abbrev Bss : Type := Option (List (Option (List Int)))
def BytL (l : Bss) : Prop := ∀ b ∈ dor l, Byt (dor b)
theorem f11_ok {l : Bss} (hb : BytL l) :
    ∃ ch rows L ch2, f11 l = some (((), (some L, ch2, ()), ()), dic ch rows) ∧ Rel rows L ∧ SameS laidD rows := by
  have main := iter_fu (f := r11_0)
    (fun x => ∃ (i : Nat) (ch ch2 : Int) (rows : List Row) (L : List REnt), x = ((l, (), (), (), (i : Int), ()), (none, 0, ()), ((), ch, ()), ((), ()), rows, (some L, ch2, ()), ()) ∧ i ≤ 8 ∧ Rel rows L ∧ SameS laidD rows)
    (fun x => (8 - x.1.2.2.2.2.1 : Int).toNat)
    (fun _ y => ∃ ch ch2 rows L, y = .inl (((), (), (), ()), (none, 0, ()), ((), ch, ()), ((), ()), rows, (some L, ch2, ()), ()) ∧ Rel rows L ∧ SameS laidD rows) (fun x hx => by
      obtain ⟨i, ch, ch2, rows, L, rfl, hi, hr, hs⟩ := hx
      have done : (r11_0 ((l, (), (), (), (i : Int), ()), (none, 0, ()), ((), ch, ()), ((), ()), rows, (some L, ch2, ()), ())) = some (.inr (.inl (((), (), (), ()), (none, 0, ()), ((), ch, ()), ((), ()), rows, (some L, ch2, ()), ()))) →
          ∃ b, r11_0 ((l, (), (), (), (i : Int), ()), (none, 0, ()), ((), ch, ()), ((), ()), rows, (some L, ch2, ()), ()) = some (.inr b) ∧ ∃ ch ch2 rows L, b = .inl (((), (), (), ()), (none, 0, ()), ((), ch, ()), ((), ()), rows, (some L, ch2, ()), ()) ∧ Rel rows L ∧ SameS laidD rows :=
        fun e => ⟨_, e, ch, ch2, rows, L, rfl, hr, hs⟩
      by_cases hlt : i < (dor l).length
      · have e1 : decide ((i : Int) < olen l) = true := by rw [olen_dor]; exact decide_eq_true (by omega)
        by_cases h8 : (i : Int) < 8
        · left
          have e0 : decide ((i : Int) < 8) = true := decide_eq_true h8
          have e2 : idxOk (i : Int) (olen l) = true := by rw [olen_dor]; exact idx_true (by omega) (by omega)
          have e5 : IntKind.wrap .i64 ((i : Int) + 1) = ((i + 1 : Nat) : Int) := w64 (by omega) (by omega)
          obtain ⟨b, hbq⟩ : ∃ b, @oget (El (.sl U8)) l i (zero (.sl U8)) = b := ⟨_, rfl⟩
          have hbb : Byt (dor b) := by
            have h1 : b = (dor l)[i] := by rw [← hbq, oget_dor]; show (dor l).getD i _ = _; rw [getD_el hlt]
            rw [h1]; exact hb _ (List.getElem_mem hlt)
          obtain ⟨ch', h48⟩ := f48_ok hr.good (8192, ((i + 1 : Nat) : Int), ()) hbb ch
          obtain ⟨L', ch2', h49, hr', _⟩ := f49_ok hr (8192, ((i + 1 : Nat) : Int), ()) hbb ch2
          refine ⟨((l, (), (), (), ((i + 1 : Nat) : Int), ()), (none, 0, ()), ((), ch', ()), ((), ()), _, (some L', ch2', ()), ()), ?_, ⟨i + 1, ch', ch2', _, L', rfl, by omega, hr', hs.trans (same_putR rows _ b)⟩, ?_, fun _ h => h⟩
          · simp only [r11_0, R11_0, e0, e1, e2, Int.toNat_natCast, cond_true, e5, hbq, h48, h49, Option.bind_some]
          · show (8 - ((i + 1 : Nat) : Int)).toNat < (8 - (i : Int)).toNat
            omega
        · right
          have e0 : decide ((i : Int) < 8) = false := decide_eq_false h8
          exact done (by simp only [r11_0, R11_0, e0, e1, cond_true, cond_false])
      · right
        have e1 : decide ((i : Int) < olen l) = false := by rw [olen_dor]; exact decide_eq_false (by omega)
        exact done (by simp only [r11_0, R11_0, e1, cond_false]))
    (a := ((l, (), (), (), 0, ()), (none, 0, ()), ((), 0, ()), ((), ()), laidD, (some laidR, 0, ()), ())) ⟨0, 0, 0, laidD, laidR, rfl, by omega, rel_laid, SameS.refl _⟩ (by show ((8 : Int) - 0).toNat < _; omega)
  obtain ⟨y, h1, ch, ch2, rows, L, h2, h3, h4⟩ := main
  refine ⟨ch, rows, L, ch2, ?_, h3, h4⟩
  unfold f11
  rw [f16_ok]
  simp only [Option.bind_some]
  unfold g11_0
  erw [h1]
  rw [h2]
  rfl
theorem g3_1_ok {l : Option (List Slot)} (hl : (dor l).length ≤ 1000000) (t13 t7 t9 : Int) (h2 h7 : List Row) (t10 : RDic) (k : Key) :
    g3_1 l t13 false 0 t7 h2 t9 h7 t10 k = some (.inl ((l, (), (), (), t13, (), (dor l).any (fun s => decide (s.1 = k)), ()), ((), t7, ()), ((), ()), h2, ((), t9, ()), ((), ()), h7, t10, k, ())) := by
  have main := iter_fu (f := r3_1)
    (fun x => ∃ i : Nat, x = ((l, (), (), (), t13, (), ((dor l).take i).any (fun s => decide (s.1 = k)), (i : Int), ()), ((), t7, ()), ((), ()), h2, ((), t9, ()), ((), ()), h7, t10, k, ()) ∧ i ≤ (dor l).length)
    (fun x => (olen l - x.1.2.2.2.2.2.2.2.1 : Int).toNat)
    (fun _ y => y = .inl ((l, (), (), (), t13, (), (dor l).any (fun s => decide (s.1 = k)), ()), ((), t7, ()), ((), ()), h2, ((), t9, ()), ((), ()), h7, t10, k, ())) (fun x hx => by
      obtain ⟨i, rfl, hi⟩ := hx
      by_cases hlt : i < (dor l).length
      · left
        have e1 : decide ((i : Int) < olen l) = true := by rw [olen_dor]; exact decide_eq_true (by omega)
        have e2 : idxOk (i : Int) (olen l) = true := by rw [olen_dor]; exact idx_true (by omega) (by omega)
        have e3 := oget_sl hlt
        have e5 : IntKind.wrap .i64 ((i : Int) + 1) = ((i + 1 : Nat) : Int) := w64 (by omega) (by omega)
        have htk : (dor l).take (i + 1) = (dor l).take i ++ [(dor l)[i]] := List.take_succ_eq_append_getElem hlt
        have e6 : eqT yKey (dor l)[i].1 k = decide ((dor l)[i].1 = k) := eqT_key _ _
        generalize (dor l)[i] = sl at *
        refine ⟨((l, (), (), (), t13, (), ((dor l).take (i + 1)).any (fun s => decide (s.1 = k)), ((i + 1 : Nat) : Int), ()), ((), t7, ()), ((), ()), h2, ((), t9, ()), ((), ()), h7, t10, k, ()), ?_, ⟨i + 1, rfl, hlt⟩, ?_, fun _ h => h⟩
        · cases ha : ((dor l).take i).any (fun s => decide (s.1 = k)) with
          | true => simp only [r3_1, R3_1, e1, cond_true, Bool.not_true, cond_false, e5, htk, List.any_append, ha, Bool.true_or]
          | false => simp only [r3_1, R3_1, e1, e2, e3, Int.toNat_natCast, cond_true, Bool.not_false, e5, e6, htk, List.any_append, ha, Bool.false_or, List.any_cons, List.any_nil, Bool.or_false]
        · show (olen l - ((i + 1 : Nat) : Int)).toNat < (olen l - (i : Int)).toNat
          rw [olen_dor]; omega
      · right
        have e1 : decide ((i : Int) < olen l) = false := by rw [olen_dor]; exact decide_eq_false (by omega)
        have e2 : (dor l).take i = dor l := List.take_of_length_le (by omega)
        exact ⟨_, by simp only [r3_1, R3_1, e1, cond_false, e2], rfl⟩)
    (a := ((l, (), (), (), t13, (), false, 0, ()), ((), t7, ()), ((), ()), h2, ((), t9, ()), ((), ()), h7, t10, k, ())) ⟨0, by simp, by omega⟩ (by show (olen l - 0).toNat < _; rw [olen_dor]; omega)
  obtain ⟨y, h1, h2⟩ := main
  unfold g3_1
  rw [h1, h2]
theorem g3_0_ok {l : Option (List Slot)} (hl : (dor l).length ≤ 1000000) {rows rx rx' : List Row} {L : List REnt} (hg : Good rows) (hgx : Good rx') (hr : Rel rx L) (hv : ∀ k, val rx' k = if (dor l).any (fun s => decide (num k = num s.1)) then val rows k else val rx k) (t7 t9 ch2 : Int) :
    ∃ y, g3_0 l 0 t7 rows t9 rx' (some L, ch2, ()) = some (.inl y) := by
  have main := iter_fu (f := r3_0)
    (fun x => ∃ (i : Nat) (t7 t9 : Int), x = ((l, (), (), (), (i : Int), ()), ((), t7, ()), ((), ()), rows, ((), t9, ()), ((), ()), rx', (some L, ch2, ()), ()) ∧ i ≤ L.length)
    (fun x => ((L.length : Int) - x.1.2.2.2.2.1 : Int).toNat) (fun _ y => ∃ z, y = .inl z) (fun x hx => by
      obtain ⟨i, t7, t9, rfl, hi⟩ := hx
      by_cases hlt : i < L.length
      · left
        have hL := hr.len
        have e1 : decide ((i : Int) < olen (some L)) = true := by rw [olen_some]; exact decide_eq_true (by omega)
        have e2 : idxOk (i : Int) (olen (some L)) = true := by rw [olen_some]; exact idx_true (by omega) (by omega)
        have e3 : oget (some L) i (zero yEntry) = L[i] := by show L.getD i _ = _; rw [getD_el hlt]
        have e5 : IntKind.wrap .i64 ((i : Int) + 1) = ((i + 1 : Nat) : Int) := w64 (by omega) (by omega)
        obtain ⟨b, hf, hbe⟩ := hr.ent _ (List.getElem_mem hlt)
        have hval := hr.val _ (List.getElem_mem hlt)
        have hvx : val rx L[i].1 = L[i].2.2.1 := by unfold val; rw [hf]; exact hbe
        have hany : (dor l).any (fun s => decide (num L[i].1 = num s.1)) = (dor l).any (fun s => decide (s.1 = L[i].1)) := by
          congr 1
          funext s
          by_cases hk : s.1 = L[i].1
          · simp [hk]
          · have : ¬ num L[i].1 = num s.1 := fun e => hk (num_inj hval e).symm
            simp [hk, this]
        have hvk := hv L[i].1
        rw [hany] at hvk
        generalize L[i] = en at *
        have h15a : f15 en.1 t7 rows = some ((((find rows en.1).getD noEnt).2.1, (find rows en.1).isSome, ()), dic t7 rows) := f15_ok hg _ _
        have h15b : f15 en.1 t9 rx' = some ((((find rx' en.1).getD noEnt).2.1, (find rx' en.1).isSome, ()), dic t9 rx') := f15_ok hgx _ _
        refine ⟨((l, (), (), (), ((i + 1 : Nat) : Int), ()), ((), t7, ()), ((), ()), rows, ((), t9, ()), ((), ()), rx', (some L, ch2, ()), ()), ?_, ⟨i + 1, _, _, rfl, hlt⟩, ?_, fun _ h => h⟩
        · simp only [r3_0, R3_0, e1, e2, e3, Int.toNat_natCast, cond_true, g3_1_ok hl, Option.bind_some]
          cases ha : (dor l).any (fun s => decide (s.1 = en.1)) with
          | true =>
            rw [ha, if_pos rfl] at hvk
            have e6 : eqbL (dor ((find rx' en.1).getD noEnt).2.1) (dor ((find rows en.1).getD noEnt).2.1) = true := eqbL_true.2 hvk
            simp only [cond_true, h15a, h15b, Option.bind_some, e6, Bool.not_true, cond_false, e5]
          | false =>
            rw [ha, if_neg (by simp), hvx] at hvk
            have e6 : eqbL (dor ((find rx' en.1).getD noEnt).2.1) en.2.2.1 = true := eqbL_true.2 hvk
            simp only [cond_false, h15b, Option.bind_some, e6, Bool.not_true, e5]
        · show ((L.length : Int) - ((i + 1 : Nat) : Int)).toNat < ((L.length : Int) - (i : Int)).toNat
          omega
      · right
        have e1 : decide ((i : Int) < olen (some L)) = false := by rw [olen_some]; exact decide_eq_false (by omega)
        exact ⟨.inl ((), ()), by simp only [r3_0, R3_0, e1, cond_false], _, rfl⟩)
    (a := ((l, (), (), (), 0, ()), ((), t7, ()), ((), ()), rows, ((), t9, ()), ((), ()), rx', (some L, ch2, ()), ())) ⟨0, t7, t9, rfl, by omega⟩ (by show ((L.length : Int) - 0).toNat < _; have := hr.len; omega)
  obtain ⟨y, h1, z, h2⟩ := main
  exact ⟨z, by unfold g3_0; rw [h1, h2]⟩
/-- WHAT WAS PACKED IS UNPACKED -/
theorem f3_ok {own other : Bss} {l : Option (List Slot)} (hb1 : BytL own) (hb2 : BytL other) : f3 own other l = some ((true, ()), ()) := by
  obtain ⟨ch, rows, L0, c0, e1, hr0, hs0⟩ := f11_ok hb1
  obtain ⟨ch', rx, L, c1, e2, hr, hs⟩ := f11_ok hb2
  have hsx : SameS rows rx := fun k => (hs k).trans (hs0 k).symm
  have hm : (0 : Int) ≤ (if 12 < olen l then 12 else olen l) ∧ (if 12 < olen l then 12 else olen l) ≤ olen l := by
    have : (0 : Int) ≤ olen l := by rw [olen_dor]; omega
    split <;> omega
  have e3 : subOk 0 (if 12 < olen l then 12 else olen l) (olen l) = true := sub_true (by omega) hm.1 hm.2
  have hl12 : (dor (osub l 0 ((if 12 < olen l then 12 else olen l) : Int).toNat)).length ≤ 12 := by
    have : dor (osub l 0 ((if 12 < olen l then 12 else olen l) : Int).toNat) = dsub (dor l) 0 ((if 12 < olen l then 12 else olen l) : Int).toNat := by cases l <;> simp [osub, dsub]
    rw [this]
    unfold dsub
    rw [List.length_drop, List.length_take]
    have : ((if 12 < olen l then 12 else olen l) : Int).toNat ≤ 12 := by split <;> omega
    omega
  unfold f3
  rw [e3, e1, e2]
  simp only [cond_true, Option.bind_some]
  generalize (osub l 0 ((if 12 < olen l then 12 else olen l) : Int).toNat) = m at hl12 ⊢
  by_cases hc : (dor m).length ≤ 8 ∧ chk rows 64 (dor m) = 0
  · obtain ⟨o, ho, e4⟩ := f12_ok hr0.good hc.1 hc.2 ch
    obtain ⟨rx', c', q1, q2, q3, q4⟩ := f14_ok hr0.good hr.good hsx hc.1 hc.2 ho ch'
    obtain ⟨y, q5⟩ := g3_0_ok (l := m) (by omega) hr0.good q1 hr q3 ch c' c1
    rw [e4]
    simp only [Option.bind_some, decide_true, Bool.not_true, cond_false]
    rw [q4]
    simp only [Option.bind_some, decide_true, Bool.not_true, cond_false]
    rw [q5]
    simp only [Option.bind_some]
    rw [f13_ok]
    rfl
  · have hn : 8 < (dor m).length ∨ chk rows 64 (dor m) ≠ 0 := by
      by_cases h8 : (dor m).length ≤ 8
      · exact .inr fun e => hc ⟨h8, e⟩
      · exact .inl (by omega)
    have hn' : 8 < (dor m).length ∨ chk rx 64 (dor m) ≠ 0 := by rw [chk_same hsx]; exact hn
    rw [f12_no hr0.good (by omega) hn]
    simp only [Option.bind_some]
    rw [f13_ok, f14_no hr.good (by omega) hn']
    rfl
end Go.Proofs.Ytjmikonopapihaa
