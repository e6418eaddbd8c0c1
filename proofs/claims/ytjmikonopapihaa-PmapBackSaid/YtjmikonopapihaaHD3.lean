import Derived.Test.YtjmikonopapihaaHD2
/-
  The dictionary: what is there, and what stands there when an entry gets other bytes. Plain lemmas.
-/
namespace Go.Proofs.Ytjmikonopapihaa
open Go.Ab
set_option maxRecDepth 100000
set_option linter.unusedSimpArgs false
def put (rows : List Row) (k : Int) (v : Ent) : List Row := rows.map fun r => if r.1 = k then (k, v, ()) else r
theorem put_len (rows : List Row) (k : Int) (v : Ent) : (put rows k v).length = rows.length := by simp [put]
theorem put_keys (rows : List Row) (k : Int) (v : Ent) : (put rows k v).map (·.1) = rows.map (·.1) := by
  unfold put
  rw [List.map_map]
  refine List.map_congr_left fun r _ => ?_
  by_cases h : r.1 = k
  · simp [h]
  · simp [h]
theorem srt_keys {rows : List Row} : Srt rows ↔ (rows.map (·.1)).Pairwise (· < ·) := by unfold Srt; rw [List.pairwise_map]
theorem put_srt {rows : List Row} {k : Int} {v : Ent} (h : Srt rows) : Srt (put rows k v) := by rw [srt_keys, put_keys]; exact srt_keys.1 h
theorem look_cons (r : Row) (rows : List Row) (k : Int) : look (r :: rows) k = if r.1 = k then some r.2.1 else look rows k := by
  unfold look
  by_cases h : r.1 = k
  · simp [List.find?_cons, h]
  · simp [List.find?_cons, h]
theorem look_put : ∀ (rows : List Row) (k : Int) (v : Ent) (j : Int), look (put rows k v) j = if j = k ∧ (look rows k).isSome then some v else look rows j
  | [], k, v, j => by simp [put, look]
  | r :: rows, k, v, j => by
    have ih := look_put rows k v j
    show look ((if r.1 = k then (k, v, ()) else r) :: put rows k v) j = _
    rw [look_cons, look_cons, look_cons, ih]
    by_cases h : r.1 = k
    · by_cases hj : j = k
      · subst hj; simp [h]
      · have : ¬ r.1 = j := fun e => hj (e.symm.trans h)
        have h2 : ¬ k = j := fun e => hj e.symm
        simp [h, hj, this, h2]
    · by_cases hj : j = k
      · subst hj; simp [h]
      · simp [h, hj]
theorem look_mem {rows : List Row} {k : Int} {e : Ent} (h : look rows k = some e) : (k, e, ()) ∈ rows := by
  unfold look at h
  cases hf : rows.find? (fun r => decide (r.1 = k)) with
  | none => rw [hf] at h; cases h
  | some r =>
    rw [hf] at h
    have h1 := List.find?_some hf
    have h2 := List.mem_of_find?_eq_some hf
    obtain ⟨a, b, _⟩ := r
    simp at h h1
    subst h; subst h1
    exact h2
theorem dset_put {rows : List Row} (hs : Srt rows) {k : Int} {p : Nat} (hp : p < rows.length) (hk : kat rows p = k) (v : Ent) : rows.set p (k, v, ()) = put rows k v := by
  unfold put
  refine List.ext_getElem (by simp) fun i h1 h2 => ?_
  rw [List.getElem_map, List.getElem_set]
  simp at h1
  have hki : kat rows i = (rows[i]).1 := by unfold kat; rw [getD_el h1]
  by_cases h : p = i
  · subst h
    rw [if_pos rfl, if_pos (by rw [← hki]; exact hk)]
  · rw [if_neg h, if_neg]
    rw [← hki]
    intro e
    rcases Nat.lt_or_gt_of_ne h with q | q
    · have := srt_lt hs q h1; omega
    · have := srt_lt hs q hp; omega
theorem f115_ok {rows : List Row} (hs : Srt rows) (hl : rows.length ≤ 1000000000000) {k : Int} {v : Ent} (h : (look rows k).isSome = true) : f115 k v rows = some ((true, ()), ((), ()), put rows k v, ()) := by
  obtain ⟨p, h1, h2⟩ := f135_ok hs hl k
  have hk : decide (k = k) = true := decide_eq_true rfl
  have h3 := cut_look hs h1
  have hp : p < rows.length ∧ kat rows p = k := by
    by_cases hp : p < rows.length ∧ kat rows p = k
    · exact hp
    · rw [if_neg hp] at h3; rw [h3] at h; cases h
  have e2 : idxOk (p : Int) (dlen rows : Int) = true := idx_true (by omega) (by show (p : Int) < (rows.length : Int); omega)
  unfold f115
  rw [hk, h2]
  simp only [Bool.not_true, cond_false, Option.bind_some, h, cond_true, e2, Int.toNat_natCast]
  have e3 : dset rows p ((dget rows p (zero yShRow)).1, v, ((dget rows p (zero yShRow)).2).2) = put rows k v := by
    rw [← dset_put hs hp.1 hp.2 v]
    have : (dget rows p (zero yShRow)).1 = k := hp.2
    rw [this]
  rw [e3]
theorem f54_ok {b : Option (List Int)} (h : (dor b).length ≤ 140737488355328) : f54 b = some ((b, ()), ()) := by
  unfold f54
  cases b with
  | none => rfl
  | some l =>
    have : Nat.ble ((dlen ([] : List Int) + dlen (dor (some l))) * 1) 140737488355328 = true := Nat.ble_eq_true_of_le (by simpa using h)
    simp only [Option.isNone_some, cond_false]
    rw [this]
    rfl
theorem f122_ok (a b : Option (List Int)) : f122 a b = some ((decide (dor a = dor b), ()), ()) := rfl
/-- an entry's bytes are there, and fit -/
def GoodE (e : Ent) : Prop := Byt (dor e.2.1) ∧ fits e.1 (dor e.2.1) = 0
structure Good (rows : List Row) : Prop where
  srt : Srt rows
  len : rows.length ≤ 512
  ent : ∀ r ∈ rows, GoodE r.2.1
theorem fits_len {s : Spc} {l : List Int} (h : fits s l = 0) : l.length ≤ 64 := by
  unfold fits at h
  cases hm : mayB s with
  | false => rw [hm] at h; simp at h
  | true =>
    rw [hm] at h
    have hs := sz_le s.1
    unfold mayB at hm
    have hm := of_decide_eq_true hm
    by_cases hz : sz s.1 = 0
    · by_cases h1 : (l.length : Int) < s.2.2.1
      · simp [hz, h1] at h
      · by_cases h2 : s.2.2.2.1 < l.length
        · simp [hz, h1, h2] at h
        · rcases hm.2.2.2 with q | q <;> omega
    · by_cases h1 : (l.length : Int) < sz s.1
      · simp [hz, h1] at h
      · by_cases h2 : sz s.1 < l.length
        · simp [hz, h1, h2] at h
        · omega
theorem fits_sz {s : Spc} {l : List Int} (h : fits s l = 0) (hz : 0 < sz s.1) : (l.length : Int) = sz s.1 := by
  unfold fits at h
  have hz' : sz s.1 ≠ 0 := by omega
  cases hm : mayB s with
  | false => rw [hm] at h; simp at h
  | true =>
    rw [hm] at h
    by_cases h1 : (l.length : Int) < sz s.1
    · simp [hz', h1] at h
    · by_cases h2 : sz s.1 < l.length
      · simp [hz', h1, h2] at h
      · omega
theorem good_find {rows : List Row} (hg : Good rows) {k : Key} {e : Ent} (h : find rows k = some e) : Byt (dor e.2.1) ∧ fits e.1 (dor e.2.1) = 0 := hg.ent _ (look_mem h)
theorem good_put {rows : List Row} (hg : Good rows) {k : Int} {s : Spc} {b : Option (List Int)} (hb : Byt (dor b)) (hf : fits s (dor b) = 0) : Good (put rows k (s, b, ())) := by
  refine ⟨put_srt hg.srt, by rw [put_len]; exact hg.len, fun r hr => ?_⟩
  unfold put at hr
  obtain ⟨r0, h0, h1⟩ := List.mem_map.1 hr
  by_cases h : r0.1 = k
  · rw [if_pos h] at h1; subst h1; exact ⟨hb, hf⟩
  · rw [if_neg h] at h1; subst h1; exact hg.ent _ h0
theorem good_len {rows : List Row} (hg : Good rows) : rows.length ≤ 1000000000000 := by have := hg.len; omega
theorem f15_ok {rows : List Row} (hg : Good rows) (k : Key) (ch : Int) : f15 k ch rows = some ((((find rows k).getD noEnt).2.1, (find rows k).isSome, ()), dic ch rows) := by
  unfold f15
  rw [f53_ok hg.srt (good_len hg)]
  simp only [Option.bind_some]
  rw [f54_ok]
  · rfl
  · cases h : find rows k with
    | none => simp [noEnt]
    | some e =>
      have := fits_len (good_find hg h).2
      show (dor e.2.1).length ≤ _
      omega
theorem f91_ok {rows : List Row} (hg : Good rows) (k : Key) (ch : Int) : f91 k ch rows = some ((((find rows k).getD noEnt).1, (find rows k).isSome, ()), dic ch rows) := by
  unfold f91
  rw [f53_ok hg.srt (good_len hg)]
  rfl
/-- the error of a change from within; 0: none -/
def ownE (rows : List Row) (k : Key) : Int := match find rows k with
  | none => 7
  | some e => if e.1.2.1 = 4 then 12 else 0
theorem f65_ok {rows : List Row} (hg : Good rows) (k : Key) (ch : Int) : f65 k ch rows = some ((if ownE rows k = 0 then (find rows k).getD noEnt else noEnt, ownE rows k, ()), dic ch rows) := by
  unfold f65 ownE
  rw [f53_ok hg.srt (good_len hg)]
  simp only [Option.bind_some]
  cases h : find rows k with
  | none => rfl
  | some e =>
    by_cases h4 : e.1.2.1 = 4
    · simp [h4]; rfl
    · simp [h4]
theorem f67_ok {rows : List Row} (hg : Good rows) {k : Key} {x : Ent} {b : Option (List Int)} (hk : (find rows k).isSome = true) (hb : (dor b).length ≤ 140737488355328) (ch : Int) :
    ∃ ch', f67 k x b ch rows = some ((), dic ch' (put rows (num k) (x.1, b, ()))) := by
  unfold f67
  rw [f122_ok, f107_ok, f54_ok hb]
  simp only [Option.bind_some]
  rw [f115_ok hg.srt (good_len hg) hk]
  by_cases h : dor x.2.1 = dor b
  · exact ⟨ch, by simp [h]⟩
  · exact ⟨_, by simp [h]; rfl⟩
def putE (rows : List Row) (k : Key) (b : Option (List Int)) : Int := match find rows k with
  | none => 7
  | some e => if e.1.2.1 = 4 then 12 else if fits e.1 (dor b) = 0 then 0 else 14
def putR (rows : List Row) (k : Key) (b : Option (List Int)) : List Row := match find rows k with
  | none => rows
  | some e => if e.1.2.1 = 4 then rows else if fits e.1 (dor b) = 0 then put rows (num k) (e.1, b, ()) else rows
theorem f48_ok {rows : List Row} (hg : Good rows) (k : Key) {b : Option (List Int)} (hb : Byt (dor b)) (ch : Int) : ∃ ch', f48 k b ch rows = some ((putE rows k b, ()), dic ch' (putR rows k b)) := by
  unfold f48
  rw [f65_ok hg]
  simp only [Option.bind_some]
  unfold ownE putE putR
  cases h : find rows k with
  | none => exact ⟨ch, rfl⟩
  | some e =>
    by_cases h4 : e.1.2.1 = 4
    · exact ⟨ch, by simp [h4]⟩
    · by_cases hf : fits e.1 (dor b) = 0
      · obtain ⟨ch', h5⟩ := f67_ok hg (k := k) (x := e) (b := b) (by rw [h]; rfl) (by have := fits_len hf; omega) ch
        exact ⟨ch', by simp [h4, f104_ok _ hb, hf, h5]⟩
      · exact ⟨ch, by simp [h4, f104_ok _ hb, hf]⟩
theorem good_putR {rows : List Row} (hg : Good rows) (k : Key) {b : Option (List Int)} (hb : Byt (dor b)) : Good (putR rows k b) := by
  unfold putR
  cases h : find rows k with
  | none => exact hg
  | some e =>
    by_cases h4 : e.1.2.1 = 4
    · simpa [h4] using hg
    · by_cases hf : fits e.1 (dor b) = 0
      · simpa [h4, hf] using good_put hg hb hf
      · simpa [h4, hf] using hg
/-- what an entry may hold does not change -/
theorem find_putR (rows : List Row) (k : Key) (b : Option (List Int)) (j : Key) : (find (putR rows k b) j).map (·.1) = (find rows j).map (·.1) := by
  unfold putR
  cases h : find rows k with
  | none => rfl
  | some e =>
    by_cases h4 : e.1.2.1 = 4
    · simp [h4]
    · by_cases hf : fits e.1 (dor b) = 0
      · simp only [h4, hf, if_false, if_true]
        show (look (put _ _ _) _).map _ = _
        rw [look_put]
        by_cases hj : num j = num k
        · have h' : look rows (num k) = some e := h
          show _ = (look rows (num j)).map _
          rw [hj, h']
          simp
        · simp [hj]
      · simp [h4, hf]
/-! the document's dictionary -/
abbrev REnt : Type := Key × Spc × List Int × Unit
abbrev RDic : Type := Option (List REnt) × Int × Unit
def atR (L : List REnt) (k : Key) : Int := match L.findIdx? (fun e => decide (e.1 = k)) with
  | some i => (i : Int)
  | none => -1
theorem eqT_key (a b : Key) : eqT yKey a b = decide (a = b) := by
  obtain ⟨a1, a2, _⟩ := a
  obtain ⟨b1, b2, _⟩ := b
  show (decide (a1 = b1) && (decide (a2 = b2) && true)) = _
  by_cases h1 : a1 = b1 <;> by_cases h2 : a2 = b2 <;> simp [h1, h2]
theorem findIdx_drop {L : List REnt} {k : Key} {i : Nat} (hi : ∀ j, j < i → (hj : j < L.length) → L[j].1 ≠ k) : (∀ h : i < L.length, L[i].1 = k → atR L k = i) ∧ (L.length ≤ i → atR L k = -1) := by
  refine ⟨fun h hk => ?_, fun h => ?_⟩
  · unfold atR
    have : L.findIdx? (fun e => decide (e.1 = k)) = some i := by
      rw [List.findIdx?_eq_some_iff_getElem]
      exact ⟨h, by simpa using hk, fun j hj => by simpa using hi j hj (by omega)⟩
    rw [this]
  · unfold atR
    have : L.findIdx? (fun e => decide (e.1 = k)) = none := by
      rw [List.findIdx?_eq_none_iff]
      intro x hx
      obtain ⟨j, hj, rfl⟩ := List.getElem_of_mem hx
      simpa using hi j (by omega) hj
    rw [this]
theorem f63_ok (d : RDic) (k : Key) (hl : (dor d.1).length ≤ 1000000000) : f63 d k = some ((atR (dor d.1) k, ()), ()) := by
  have main := iter_fu (f := r63_0)
    (fun x => ∃ i : Nat, x = (((), (), (i : Int), ()), d, k, ()) ∧ i ≤ (dor d.1).length ∧ ∀ j, j < i → (hj : j < (dor d.1).length) → (dor d.1)[j].1 ≠ k)
    (fun x => (olen d.1 - x.1.2.2.1 : Int).toNat) (fun _ y => (y = .inl ((), ()) ∧ atR (dor d.1) k = -1) ∨ ∃ i : Int, y = .inr (.inl ((i, ()), ())) ∧ atR (dor d.1) k = i) (fun x hx => by
      obtain ⟨i, rfl, hi, hno⟩ := hx
      by_cases hlt : i < (dor d.1).length
      · have e1 : decide ((i : Int) < olen d.1) = true := by rw [olen_dor]; exact decide_eq_true (by omega)
        have e2 : idxOk (i : Int) (olen d.1) = true := by rw [olen_dor]; exact idx_true (by omega) (by omega)
        have e3 : (oget d.1 i (zero yEntry)).1 = (dor d.1)[i].1 := by
          rw [oget_dor]
          show ((dor d.1).getD i _).1 = _
          rw [getD_el hlt]
        by_cases hk : (dor d.1)[i].1 = k
        · right
          have e4 : eqT yKey ((oget d.1 i (zero yEntry)).1) k = true := by rw [e3, hk, eqT_key]; simp
          exact ⟨.inr (.inl (((i : Int), ()), ())), by simp only [r63_0, R63_0, e1, e2, Int.toNat_natCast, e4, cond_true], .inr ⟨i, rfl, (findIdx_drop hno).1 hlt hk⟩⟩
        · left
          have e4 : eqT yKey ((oget d.1 i (zero yEntry)).1) k = false := by rw [e3, eqT_key]; simpa using hk
          have e5 : IntKind.wrap .i64 ((i : Int) + 1) = ((i + 1 : Nat) : Int) := w64 (by omega) (by omega)
          refine ⟨(((), (), ((i + 1 : Nat) : Int), ()), d, k, ()), by simp only [r63_0, R63_0, e1, e2, Int.toNat_natCast, e4, e5, cond_true, cond_false], ⟨i + 1, rfl, hlt, fun j hj hj2 => ?_⟩, ?_, fun _ h => h⟩
          · by_cases hji : j = i
            · subst hji; exact hk
            · exact hno j (by omega) hj2
          · show (olen d.1 - ((i + 1 : Nat) : Int)).toNat < (olen d.1 - (i : Int)).toNat
            rw [olen_dor]; omega
      · right
        have e1 : decide ((i : Int) < olen d.1) = false := by rw [olen_dor]; exact decide_eq_false (by omega)
        exact ⟨.inl ((), ()), by simp only [r63_0, R63_0, e1, cond_false], .inl ⟨rfl, (findIdx_drop hno).2 (by omega)⟩⟩)
    (a := (((), (), 0, ()), d, k, ())) ⟨0, rfl, by omega, fun j hj => by omega⟩ (by show (olen d.1 - 0).toNat < _; rw [olen_dor]; omega)
  obtain ⟨y, h1, h2⟩ := main
  unfold f63 g63_0
  rw [h1]
  rcases h2 with ⟨rfl, h2⟩ | ⟨i, rfl, h2⟩
  · rw [h2]; rfl
  · rw [h2]; rfl
end Go.Proofs.Ytjmikonopapihaa
