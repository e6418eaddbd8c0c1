import Derived.Test.YtjmikonopapihaaHD5
/-
  Mappings: whether they fit, how long they are. Plain lemmas.
-/
namespace Go.Proofs.Ytjmikonopapihaa
open Go.Ab
set_option maxRecDepth 100000
set_option linter.unusedSimpArgs false
abbrev Slot : Type := Key × Int × Unit
abbrev zSlot : Slot := ((0, 0, ()), 0, ())
def safeB (k : Key) : Bool := (decide (4865 ≤ k.1) && decide (k.1 ≤ 4928)) || ((decide (4993 ≤ k.1) && decide (k.1 ≤ 5056)) || decide (k.1 = 5119))
theorem f80_ok (i from_ : Int) (h : -1000000 ≤ from_ ∧ from_ ≤ 1000000) : f80 i from_ = some ((decide (from_ ≤ i) && decide (i ≤ from_ + 63), ()), ()) := by
  unfold f80
  rw [w64 (by omega) (by omega)]
  by_cases h1 : from_ ≤ i <;> simp [h1]
theorem f30_ok (k : Key) : f30 k = some ((safeB k, ()), ()) := by
  unfold f30 safeB
  rw [f80_ok k.1 4865 (by omega), f80_ok k.1 4993 (by omega)]
  simp only [Option.bind_some]
  cases h1 : (decide (4865 ≤ k.1) && decide (k.1 ≤ 4865 + 63)) with
  | true =>
    have h1' : (decide (4865 ≤ k.1) && decide (k.1 ≤ 4928)) = true := h1
    simp [h1']
  | false =>
    have h1' : (decide (4865 ≤ k.1) && decide (k.1 ≤ 4928)) = false := h1
    cases h2 : (decide (4993 ≤ k.1) && decide (k.1 ≤ 4993 + 63)) with
    | true =>
      have h2' : (decide (4993 ≤ k.1) && decide (k.1 ≤ 5056)) = true := h2
      simp only [h1', h2', Bool.false_or, Bool.true_or]; rfl
    | false =>
      have h2' : (decide (4993 ≤ k.1) && decide (k.1 ≤ 5056)) = false := h2
      simp only [h1', h2', Bool.false_or]; rfl
def bitsS (rows : List Row) (k : Key) : Int := match find rows k with
  | none => 0
  | some e => if e.1.2.1 = 4 ∨ safeB k = true ∨ k.1 = 5118 then 0 else 8 * sz e.1.1
theorem f105_ok {rows : List Row} (hg : Good rows) (k : Key) (ch : Int) : f105 k ch rows = some ((bitsS rows k, ()), dic ch rows) := by
  unfold f105 bitsS
  rw [f91_ok hg, f30_ok]
  simp only [Option.bind_some]
  cases h : find rows k with
  | none => rfl
  | some e =>
    have hz := sz_le e.1.1
    have hw : IntKind.wrap .i64 (8 * sz e.1.1) = 8 * sz e.1.1 := w64 (by omega) (by omega)
    by_cases h4 : e.1.2.1 = 4
    · simp [h4]
    · by_cases h5 : safeB k = true
      · simp [h4, h5]
      · by_cases h6 : k.1 = 5118
        · simp [h4, h5, h6]
        · simp [h4, h5, h6, f92_ok, hw]
theorem bits_same {rows rows' : List Row} (h : SameS rows rows') (k : Key) : bitsS rows' k = bitsS rows k := by
  have := h k
  unfold bitsS
  cases h1 : find rows' k with
  | none =>
    cases h2 : find rows k with
    | none => rfl
    | some e => rw [h1, h2] at this; cases this
  | some e' =>
    cases h2 : find rows k with
    | none => rw [h1, h2] at this; cases this
    | some e =>
      rw [h1, h2] at this
      have he : e'.1 = e.1 := by simpa using this
      simp only [he]
def chk (rows : List Row) : Int → List Slot → Int
  | _, [] => 0
  | left, s :: r => if bitsS rows s.1 = 0 ∨ s.2.1 ≠ bitsS rows s.1 then 100925505 else if left < bitsS rows s.1 then 100925506 else chk rows (left - bitsS rows s.1) r
theorem chk_same {rows rows' : List Row} (h : SameS rows rows') : ∀ (l : List Slot) (left : Int), chk rows' left l = chk rows left l
  | [], _ => rfl
  | s :: r, left => by simp only [chk, bits_same h, chk_same h r]
theorem bits_le (rows : List Row) (k : Key) : 0 ≤ bitsS rows k ∧ bitsS rows k ≤ 32 := by
  unfold bitsS
  cases find rows k with
  | none => simp
  | some e =>
    have := sz_le e.1.1
    by_cases h : e.1.2.1 = 4 ∨ safeB k = true ∨ k.1 = 5118
    · simp [h]
    · simp [h]; omega
theorem oget_sl {l : Option (List Slot)} {i : Nat} (h : i < (dor l).length) : oget l i (zero ySlot) = (dor l)[i] := by
  rw [oget_dor]
  show (dor l).getD i _ = _
  rw [getD_el h]
theorem f50_ok {rows : List Row} (hg : Good rows) (l : Option (List Slot)) (hl : (dor l).length ≤ 1000000000000) (ch : Int) :
    f50 l ch rows = some ((if 8 < (dor l).length then 100925506 else chk rows 64 (dor l), ()), dic ch rows) := by
  have main := iter_fu (f := r50_0)
    (fun x => ∃ (i : Nat) (left : Int), x = (((), left, l, olen l, (i : Int), ()), dic ch rows) ∧ i ≤ (dor l).length ∧ -1000 ≤ left ∧ left ≤ 64)
    (fun x => (olen l - x.1.2.2.2.2.1 : Int).toNat)
    (fun x y => y = if chk rows x.1.2.1 ((dor l).drop x.1.2.2.2.2.1.toNat) = 0 then .inl ((), dic ch rows) else .inr (.inl ((chk rows x.1.2.1 ((dor l).drop x.1.2.2.2.2.1.toNat), ()), dic ch rows))) (fun x hx => by
      obtain ⟨i, left, rfl, hi, hlo, hhi⟩ := hx
      have hb := bits_le rows
      by_cases hlt : i < (dor l).length
      · have e1 : decide ((i : Int) < olen l) = true := by rw [olen_dor]; exact decide_eq_true (by omega)
        have e2 : idxOk (i : Int) (olen l) = true := by rw [olen_dor]; exact idx_true (by omega) (by omega)
        have e3 := oget_sl hlt
        have e4 : (dor l).drop i = (dor l)[i] :: (dor l).drop (i + 1) := List.drop_eq_getElem_cons hlt
        have hb := bits_le rows (dor l)[i].1
        have goq : ∀ c : Int, c ≠ 0 → chk rows left ((dor l).drop i) = c → (Sum.inr (Sum.inl ((c, ()), dic ch rows)) : ElX xp50_0) = if chk rows left ((dor l).drop ((i : Int)).toNat) = 0 then .inl ((), dic ch rows) else .inr (.inl ((chk rows left ((dor l).drop ((i : Int)).toNat), ()), dic ch rows)) := fun c hc e => by
          rw [Int.toNat_natCast, e, if_neg hc]
        generalize (dor l)[i] = sl at e3 e4 hb
        by_cases h0 : bitsS rows sl.1 = 0
        · right
          refine ⟨.inr (.inl ((100925505, ()), dic ch rows)), ?_, goq _ (by decide) (by rw [e4]; simp only [chk]; rw [if_pos (.inl h0)])⟩
          simp only [r50_0, R50_0, e1, e2, e3, Int.toNat_natCast, cond_true, f105_ok hg, Option.bind_some, h0]; rfl
        · have h0' : decide (bitsS rows sl.1 = 0) = false := decide_eq_false h0
          by_cases h1 : sl.2.1 = bitsS rows sl.1
          · have h1' : decide (sl.2.1 = bitsS rows sl.1) = true := decide_eq_true h1
            have hno : ¬ (bitsS rows sl.1 = 0 ∨ sl.2.1 ≠ bitsS rows sl.1) := fun q => q.elim h0 fun q => q h1
            by_cases h2 : left < bitsS rows sl.1
            · right
              have h2' : decide (left < bitsS rows sl.1) = true := decide_eq_true h2
              refine ⟨.inr (.inl ((100925506, ()), dic ch rows)), ?_, goq _ (by decide) (by rw [e4]; simp only [chk]; rw [if_neg hno, if_pos h2])⟩
              simp only [r50_0, R50_0, e1, e2, e3, Int.toNat_natCast, cond_true, f105_ok hg, Option.bind_some, h0', h1', h2', Bool.not_true, Bool.not_false, cond_false]
            · left
              have h2' : decide (left < bitsS rows sl.1) = false := decide_eq_false h2
              have e5 : IntKind.wrap .i64 ((i : Int) + 1) = ((i + 1 : Nat) : Int) := w64 (by omega) (by omega)
              have e6 : IntKind.wrap .i64 (left - bitsS rows sl.1) = left - bitsS rows sl.1 := w64 (by omega) (by omega)
              have e7 : chk rows left ((dor l).drop i) = chk rows (left - bitsS rows sl.1) ((dor l).drop (i + 1)) := by rw [e4]; simp only [chk]; rw [if_neg hno, if_neg h2]
              refine ⟨(((), left - bitsS rows sl.1, l, olen l, ((i + 1 : Nat) : Int), ()), dic ch rows), ?_, ⟨i + 1, _, rfl, hlt, by omega, by omega⟩, ?_, fun b hb => ?_⟩
              · simp only [r50_0, R50_0, e1, e2, e3, Int.toNat_natCast, cond_true, f105_ok hg, Option.bind_some, h0', h1', h2', e5, e6, Bool.not_true, Bool.not_false, cond_false]
              · show (olen l - ((i + 1 : Nat) : Int)).toNat < (olen l - (i : Int)).toNat
                rw [olen_dor]; omega
              · rw [hb]
                show (if chk rows (left - bitsS rows sl.1) ((dor l).drop (((i + 1 : Nat) : Int)).toNat) = 0 then _ else _) = (if chk rows left ((dor l).drop ((i : Int)).toNat) = 0 then _ else _)
                rw [Int.toNat_natCast, Int.toNat_natCast, e7]
          · right
            have h1' : decide (sl.2.1 = bitsS rows sl.1) = false := decide_eq_false h1
            refine ⟨.inr (.inl ((100925505, ()), dic ch rows)), ?_, goq _ (by decide) (by rw [e4]; simp only [chk]; rw [if_pos (.inr h1)])⟩
            simp only [r50_0, R50_0, e1, e2, e3, Int.toNat_natCast, cond_true, f105_ok hg, Option.bind_some, h0', h1', Bool.not_false]
      · right
        have e1 : decide ((i : Int) < olen l) = false := by rw [olen_dor]; exact decide_eq_false (by omega)
        refine ⟨.inl ((), dic ch rows), by simp only [r50_0, R50_0, e1, cond_false], ?_⟩
        show _ = if chk rows left ((dor l).drop ((i : Int)).toNat) = 0 then _ else _
        rw [Int.toNat_natCast, List.drop_of_length_le (show (dor l).length ≤ i from by omega)]
        rfl)
    (a := (((), 64, l, olen l, 0, ()), dic ch rows)) ⟨0, 64, rfl, by omega, by omega, by omega⟩ (by show (olen l - 0).toNat < _; rw [olen_dor]; omega)
  obtain ⟨y, h1, h2⟩ := main
  unfold f50
  by_cases h8 : 8 < (dor l).length
  · have e1 : decide ((8 : Int) < olen l) = true := by rw [olen_dor]; exact decide_eq_true (by omega)
    rw [e1, if_pos h8]; rfl
  · have e1 : decide ((8 : Int) < olen l) = false := by rw [olen_dor]; exact decide_eq_false (by omega)
    rw [e1, if_neg h8]
    unfold g50_0
    rw [show ((((), 64, l, olen l, 0, ()), ((), ch, ()), ((), ()), rows, ()) : ElT tp50_0 × ElH hp50_0) = (((), 64, l, olen l, 0, ()), dic ch rows) from rfl, h1, h2]
    simp only [cond_false, show (Int.toNat 0) = 0 from rfl, List.drop_zero]
    by_cases hc : chk rows 64 (dor l) = 0
    · rw [if_pos hc, hc]; rfl
    · rw [if_neg hc]; rfl
/-- what a mapping that fits is -/
theorem chk_ok {rows : List Row} (hg : Good rows) : ∀ {l : List Slot} {left : Int}, chk rows left l = 0 → (∀ s ∈ l, ∃ e, find rows s.1 = some e ∧ e.1.2.1 ≠ 4 ∧ 0 < sz e.1.1 ∧ s.2.1 = 8 * sz e.1.1 ∧ ((dor e.2.1).length : Int) = sz e.1.1) ∧
    8 * ((l.flatMap fun s => dor ((find rows s.1).getD noEnt).2.1).length : Int) ≤ max left 0
  | [], left, _ => ⟨fun s hs => (nomatch hs), by simp; omega⟩
  | s :: r, left, h => by
    simp only [chk] at h
    by_cases h0 : bitsS rows s.1 = 0 ∨ s.2.1 ≠ bitsS rows s.1
    · rw [if_pos h0] at h; omega
    · rw [if_neg h0] at h
      by_cases h1 : left < bitsS rows s.1
      · rw [if_pos h1] at h; omega
      · rw [if_neg h1] at h
        obtain ⟨i1, i2⟩ := chk_ok hg h
        have hne : bitsS rows s.1 ≠ 0 := fun e => h0 (.inl e)
        have heq : s.2.1 = bitsS rows s.1 := Classical.byContradiction fun e => h0 (.inr e)
        have hb := bits_le rows s.1
        have hs : ∃ e, find rows s.1 = some e ∧ e.1.2.1 ≠ 4 ∧ 0 < sz e.1.1 ∧ s.2.1 = 8 * sz e.1.1 ∧ ((dor e.2.1).length : Int) = sz e.1.1 ∧ bitsS rows s.1 = 8 * sz e.1.1 := by
          unfold bitsS at hne heq ⊢
          cases hf : find rows s.1 with
          | none => rw [hf] at hne; simp at hne
          | some e =>
            rw [hf] at hne heq
            by_cases hc : e.1.2.1 = 4 ∨ safeB s.1 = true ∨ s.1.1 = 5118
            · simp [hc] at hne
            · simp only [hc, if_false] at hne heq ⊢
              have hz := sz_le e.1.1
              have hp : 0 < sz e.1.1 := by omega
              exact ⟨e, rfl, fun q => hc (.inl q), hp, heq, fits_sz (good_find hg hf).2 hp, rfl⟩
        obtain ⟨e, g1, g2, g3, g4, g5, g6⟩ := hs
        refine ⟨fun s' hs' => ?_, ?_⟩
        · rcases List.mem_cons.1 hs' with q | q
          · subst q; exact ⟨e, g1, g2, g3, g4, g5⟩
          · exact i1 s' q
        · rw [List.flatMap_cons, List.length_append, g1]
          show 8 * (((dor e.2.1).length + _ : Nat) : Int) ≤ _
          omega
end Go.Proofs.Ytjmikonopapihaa
