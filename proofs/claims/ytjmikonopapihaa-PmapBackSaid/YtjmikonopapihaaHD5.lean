import Derived.Test.YtjmikonopapihaaHD4
/-
  The dictionary and the document's, side by side.
-/
namespace Go.Proofs.Ytjmikonopapihaa
open Go.Ab
set_option maxRecDepth 100000
set_option linter.unusedSimpArgs false
structure Rel (rows : List Row) (L : List REnt) : Prop where
  good : Good rows
  len : L.length ≤ 512
  ent : ∀ e ∈ L, ∃ b, find rows e.1 = some (e.2.1, b, ()) ∧ dor b = e.2.2.1
  val : ∀ e ∈ L, 0 ≤ num e.1
  nd : (L.map (·.1)).Nodup
  all : ∀ k, (find rows k).isSome = true → ∃ e ∈ L, e.1 = k
theorem num_inj {a b : Key} (h : 0 ≤ num a) (e : num a = num b) : a = b := by
  obtain ⟨a1, a2, _⟩ := a
  obtain ⟨b1, b2, _⟩ := b
  unfold num at *
  by_cases h1 : 1 ≤ a1 ∧ a1 < 65536 ∧ 0 ≤ a2 ∧ a2 < 256
  · by_cases h2 : 1 ≤ b1 ∧ b1 < 65536 ∧ 0 ≤ b2 ∧ b2 < 256
    · simp [h1, h2] at e
      have e1 : a1 = b1 := by omega
      have e2 : a2 = b2 := by omega
      rw [e1, e2]
    · simp [h1, h2] at e h; omega
  · simp [h1] at h
theorem num_valid {k : Key} (h : 0 ≤ num k) : 1 ≤ k.1 ∧ k.1 < 65536 ∧ 0 ≤ k.2.1 ∧ k.2.1 < 256 ∧ num k = k.1 * 256 + k.2.1 := by
  unfold num at *
  by_cases h1 : 1 ≤ k.1 ∧ k.1 < 65536 ∧ 0 ≤ k.2.1 ∧ k.2.1 < 256
  · rw [if_pos h1]; exact ⟨h1.1, h1.2.1, h1.2.2.1, h1.2.2.2, rfl⟩
  · rw [if_neg h1] at h; omega
theorem atR_some {L : List REnt} {k : Key} {i : Nat} (h : atR L k = (i : Int)) : ∃ hi : i < L.length, L[i].1 = k := by
  unfold atR at h
  cases hf : L.findIdx? (fun e => decide (e.1 = k)) with
  | none => rw [hf] at h; simp at h
  | some j =>
    rw [hf] at h
    have hj : j = i := by simp at h; omega
    subst hj
    obtain ⟨h1, h2, _⟩ := List.findIdx?_eq_some_iff_getElem.1 hf
    exact ⟨h1, by simpa using h2⟩
theorem atR_cases (L : List REnt) (k : Key) : (atR L k = -1 ∧ ∀ e ∈ L, e.1 ≠ k) ∨ ∃ i : Nat, atR L k = (i : Int) := by
  unfold atR
  cases hf : L.findIdx? (fun e => decide (e.1 = k)) with
  | none =>
    left
    refine ⟨rfl, fun e he => ?_⟩
    have := List.findIdx?_eq_none_iff.1 hf e he
    simpa using this
  | some j => exact .inr ⟨j, rfl⟩
theorem f69_ok {L : List REnt} {ch : Int} {i : Nat} (hi : i < L.length) (hl : L.length ≤ 1000000000) (b : Option (List Int)) :
    ∃ ch', f69 (some L, ch, ()) (i : Int) b = some (((some (L.set i (L[i].1, L[i].2.1, dor b, ())), ch', ()), ()), ()) := by
  have e1 : Nat.ble ((dlen ([] : List REnt) + dlen (dor (some L))) * 64) 140737488355328 = true := Nat.ble_eq_true_of_le (by show (0 + L.length) * 64 ≤ _; omega)
  have e2 : idxOk (i : Int) (dlen (dapp ([] : List REnt) (dor (some L))) : Int) = true := idx_true (by omega) (by simp; omega)
  have e3 : dget (dapp ([] : List REnt) (dor (some L))) i (zero yEntry) = L[i] := by
    show (([] : List REnt) ++ L).getD i _ = _
    rw [List.nil_append, getD_el hi]
  unfold f69
  cases hq : eqbL ((((L[i]).2).2).1) (dor b) with
  | true => exact ⟨_, by simp only [Int.toNat_natCast]; erw [e1, e2, e3]; rw [hq]; rfl⟩
  | false => exact ⟨_, by simp only [Int.toNat_natCast]; erw [e1, e2, e3]; rw [hq]; rfl⟩
theorem f49_ok {rows : List Row} {L : List REnt} (hr : Rel rows L) (k : Key) {b : Option (List Int)} (hb : Byt (dor b)) (ch : Int) :
    ∃ L' ch', f49 (some L, ch, ()) k b = some (((some L', ch', ()), putE rows k b, ()), ()) ∧ Rel (putR rows k b) L' ∧ L'.map (fun e => (e.1, e.2.1)) = L.map (fun e => (e.1, e.2.1)) := by
  have hlen : (dor (some L)).length ≤ 1000000000 := by have := hr.len; show L.length ≤ _; omega
  unfold f49
  rw [f63_ok _ _ hlen]
  simp only [Option.bind_some]
  rcases atR_cases L k with ⟨h1, h2⟩ | ⟨i, h1⟩
  · have hn : find rows k = none := by
      cases hf : find rows k with
      | none => rfl
      | some e => obtain ⟨e', h3, h4⟩ := hr.all k (by rw [hf]; rfl); exact absurd h4 (h2 e' h3)
    refine ⟨L, ch, ?_, ?_, rfl⟩
    · rw [show atR (dor (some L)) k = -1 from h1]
      unfold putE
      rw [hn]
      rfl
    · unfold putR; rw [hn]; exact hr
  · obtain ⟨hi, hk⟩ := atR_some h1
    obtain ⟨b0, hf, hb0⟩ := hr.ent L[i] (List.getElem_mem hi)
    have hkf : find rows k = some (L[i].2.1, b0, ()) := by rw [← hk]; exact hf
    have e0 : decide (((i : Nat) : Int) < 0) = false := decide_eq_false (by omega)
    have e1 : idxOk (i : Int) (olen (some L)) = true := idx_true (by omega) (by show (i : Int) < (L.length : Int); omega)
    have e2 : oget (some L) i (zero yEntry) = L[i] := by show L.getD i _ = _; rw [getD_el hi]
    rw [show atR (dor (some L)) k = (i : Int) from h1]
    simp only [e0, cond_false, Int.toNat_natCast, e1, e2, cond_true]
    unfold putE putR
    rw [hkf]
    by_cases h4 : L[i].2.1.2.1 = 4
    · exact ⟨L, ch, by simp [h4], by simpa [h4] using hr, rfl⟩
    · rw [f62_ok _ hb]
      by_cases hfit : fits L[i].2.1 (dor b) = 0
      · obtain ⟨ch', h5⟩ := f69_ok (ch := ch) hi (by have := hr.len; omega) b
        refine ⟨L.set i (L[i].1, L[i].2.1, dor b, ()), ch', by simp [h4, hfit, h5], ?_, ?_⟩
        · simp only [h4, hfit, if_false, if_true]
          have hkv : 0 ≤ num k := by rw [← hk]; exact hr.val _ (List.getElem_mem hi)
          have hks : (look rows (num k)).isSome = true := by
            have : look rows (num k) = some (L[i].2.1, b0, ()) := hkf
            rw [this]; rfl
          refine ⟨good_put hr.good hb hfit, by simpa using hr.len, fun e he => ?_, fun e he => ?_, ?_, fun j hj => ?_⟩
          · obtain ⟨q, hq, rfl⟩ := List.getElem_of_mem he
            rw [List.getElem_set]
            simp at hq
            by_cases hqi : i = q
            · subst hqi
              rw [if_pos rfl]
              refine ⟨b, ?_, rfl⟩
              show look (put _ _ _) _ = _
              rw [look_put, if_pos ⟨by rw [hk], hks⟩]
            · rw [if_neg hqi]
              obtain ⟨b1, g1, g2⟩ := hr.ent L[q] (List.getElem_mem hq)
              refine ⟨b1, ?_, g2⟩
              show look (put _ _ _) _ = _
              rw [look_put, if_neg]
              · exact g1
              · rintro ⟨g3, _⟩
                have g4 := num_inj (hr.val _ (List.getElem_mem hq)) g3
                have g5 : (L.map (·.1))[i]'(by simpa using hi) = (L.map (·.1))[q]'(by simpa using hq) := by simp [hk, g4]
                exact hqi ((List.getElem_inj hr.nd).1 g5)
          · obtain ⟨q, hq, rfl⟩ := List.getElem_of_mem he
            rw [List.getElem_set]
            simp at hq
            by_cases hqi : i = q
            · subst hqi; rw [if_pos rfl]; show 0 ≤ num L[i].1; exact hr.val _ (List.getElem_mem hi)
            · rw [if_neg hqi]; exact hr.val _ (List.getElem_mem hq)
          · have : (L.set i (L[i].1, L[i].2.1, dor b, ())).map (·.1) = L.map (·.1) := by
              refine List.ext_getElem (by simp) fun q h1 h2 => ?_
              rw [List.getElem_map, List.getElem_map, List.getElem_set]
              by_cases hqi : i = q
              · subst hqi; rw [if_pos rfl]
              · rw [if_neg hqi]
            rw [this]
            exact hr.nd
          · have hj' : (find rows j).isSome = true := by
              have hj : (look (put rows (num k) (L[i].2.1, b, ())) (num j)).isSome = true := hj
              rw [look_put] at hj
              by_cases hc : num j = num k ∧ (look rows (num k)).isSome = true
              · show (look rows (num j)).isSome = true; rw [hc.1]; exact hc.2
              · rw [if_neg hc] at hj; exact hj
            obtain ⟨e, h6, h7⟩ := hr.all j hj'
            obtain ⟨q, hq, rfl⟩ := List.getElem_of_mem h6
            refine ⟨(L.set i (L[i].1, L[i].2.1, dor b, ()))[q]'(by simpa using hq), List.getElem_mem _, ?_⟩
            rw [List.getElem_set]
            by_cases hqi : i = q
            · subst hqi; rw [if_pos rfl]; exact h7
            · rw [if_neg hqi]; exact h7
        · refine List.ext_getElem (by simp) fun q h1 h2 => ?_
          rw [List.getElem_map, List.getElem_map, List.getElem_set]
          by_cases hqi : i = q
          · subst hqi; rw [if_pos rfl]
          · rw [if_neg hqi]
      · exact ⟨L, ch, by simp [h4, hfit], by simpa [h4, hfit] using hr, rfl⟩
/-- the same entries, with the same specs -/
def SameS (rows rows' : List Row) : Prop := ∀ k, (find rows' k).map (·.1) = (find rows k).map (·.1)
theorem SameS.refl (rows : List Row) : SameS rows rows := fun _ => rfl
theorem SameS.trans {a b c : List Row} (h : SameS a b) (g : SameS b c) : SameS a c := fun k => (g k).trans (h k)
theorem same_putR (rows : List Row) (k : Key) (b : Option (List Int)) : SameS rows (putR rows k b) := find_putR rows k b
/-! what is laid -/
def rowB (r : Row) : Bool := decide (fits r.2.1.1 (dor r.2.1.2.1) = 0) && (dor r.2.1.2.1).all fun x => decide (0 ≤ x) && decide (x ≤ 255)
def srtB : List Row → Bool
  | [] => true
  | r :: rows => (rows.all fun q => decide (r.1 < q.1)) && srtB rows
theorem srtB_ok : ∀ {rows : List Row}, srtB rows = true → Srt rows
  | [], _ => .nil
  | r :: rows, h => by
    simp only [srtB, Bool.and_eq_true, List.all_eq_true, decide_eq_true_eq] at h
    exact .cons (fun q hq => h.1 q hq) (srtB_ok h.2)
theorem good_laid : Good laidD := by
  refine ⟨srtB_ok (by kernel_rfl), by decide, fun r hr => ?_⟩
  have h : (laidD.all rowB) = true := by kernel_rfl
  have := List.all_eq_true.1 h r hr
  simp only [rowB, Bool.and_eq_true, decide_eq_true_eq, List.all_eq_true] at this
  exact ⟨fun x hx => this.2 x hx, this.1⟩
def entB (rows : List Row) (e : REnt) : Bool := decide (0 ≤ num e.1) && (match find rows e.1 with
  | some (s, b, _) => decide (s = e.2.1) && decide (dor b = e.2.2.1)
  | none => false)
theorem rel_laid : Rel laidD laidR := by
  have h : (laidR.all (entB laidD)) = true := by kernel_rfl
  have hent : ∀ e ∈ laidR, 0 ≤ num e.1 ∧ ∃ b, find laidD e.1 = some (e.2.1, b, ()) ∧ dor b = e.2.2.1 := fun e he => by
    have := List.all_eq_true.1 h e he
    unfold entB at this
    rw [Bool.and_eq_true, decide_eq_true_eq] at this
    refine ⟨this.1, ?_⟩
    have h2 := this.2
    cases hf : find laidD e.1 with
    | none => rw [hf] at h2; cases h2
    | some x =>
      obtain ⟨s, b, _⟩ := x
      rw [hf] at h2
      simp only [Bool.and_eq_true, decide_eq_true_eq] at h2
      exact ⟨b, by rw [h2.1], h2.2⟩
  refine ⟨good_laid, by decide, fun e he => (hent e he).2, fun e he => (hent e he).1, by
    have : decide (laidR.map (·.1)).Nodup = true := by kernel_rfl
    exact of_decide_eq_true this, fun k hk => ?_⟩
  cases hf : find laidD k with
  | none => rw [hf] at hk; cases hk
  | some x =>
    have hm := look_mem (show look laidD (num k) = some x from hf)
    have h2 : (laidD.all fun r => decide (0 ≤ r.1) && laidR.any fun e => decide (num e.1 = r.1)) = true := by kernel_rfl
    have := List.all_eq_true.1 h2 _ hm
    simp only [Bool.and_eq_true, decide_eq_true_eq, List.any_eq_true] at this
    obtain ⟨e, he, hn⟩ := this.2
    exact ⟨e, he, num_inj (hent e he).1 hn⟩
end Go.Proofs.Ytjmikonopapihaa
