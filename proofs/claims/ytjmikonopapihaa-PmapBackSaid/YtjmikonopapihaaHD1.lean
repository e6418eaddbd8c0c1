import Derived.Test.YtjmikonopapihaaG0
import Derived.Test.YtjmikonopapihaaG1
import Derived.Test.YtjmikonopapihaaG2
import Derived.Test.YtjmikonopapihaaG3
import Derived.Test.YtjmikonopapihaaAbIter
/-
  The dictionary's table: where a key stands, and what is there. Plain lemmas on the functions that the walk has given.
-/
namespace Go.Proofs.Ytjmikonopapihaa
open Go.Ab
set_option maxRecDepth 100000
abbrev Spc : Type := Int × Int × Int × Int × Unit
abbrev Ent : Type := Spc × Option (List Int) × Unit
abbrev Row : Type := Int × Ent × Unit
abbrev Key : Type := Int × Int × Unit
abbrev zRow : Row := (0, ((0, 0, 0, 0, ()), none, ()), ())
theorem getD_el {α : Type} {l : List α} {i : Nat} {d : α} (h : i < l.length) : l.getD i d = l[i] := by simp [List.getD_eq_getElem?_getD, h]
/-- rows that rise by their keys -/
def Srt (rows : List Row) : Prop := rows.Pairwise fun a b => a.1 < b.1
def kat (rows : List Row) (i : Nat) : Int := (rows.getD i zRow).1
def look (rows : List Row) (k : Int) : Option Ent := (rows.find? fun r => decide (r.1 = k)).map (·.2.1)
theorem srt_lt {rows : List Row} (h : Srt rows) {i j : Nat} (hij : i < j) (hj : j < rows.length) : kat rows i < kat rows j := by
  unfold kat
  rw [getD_el (by omega), getD_el hj]
  exact List.pairwise_iff_getElem.1 h i j (by omega) hj hij
/-- p keys are less than k, all others are not -/
def Cut (rows : List Row) (k : Int) (p : Nat) : Prop := p ≤ rows.length ∧ (∀ i, i < p → kat rows i < k) ∧ ∀ i, p ≤ i → i < rows.length → k ≤ kat rows i
theorem cut_look {rows : List Row} (hs : Srt rows) {k : Int} {p : Nat} (h : Cut rows k p) : look rows k = if p < rows.length ∧ kat rows p = k then some (rows.getD p zRow).2.1 else none := by
  obtain ⟨h1, h2, h3⟩ := h
  by_cases hp : p < rows.length ∧ kat rows p = k
  · rw [if_pos hp]
    unfold look
    have : rows.find? (fun r => decide (r.1 = k)) = some (rows.getD p zRow) := by
      rw [List.find?_eq_some_iff_getElem]
      refine ⟨by simpa [kat] using hp.2, p, hp.1, by rw [getD_el hp.1], fun j hj => ?_⟩
      have := h2 j hj
      unfold kat at this
      rw [getD_el (by omega)] at this
      simp
      omega
    rw [this]
    rfl
  · rw [if_neg hp]
    unfold look
    have : rows.find? (fun r => decide (r.1 = k)) = none := by
      rw [List.find?_eq_none]
      intro r hr hk
      obtain ⟨i, hi, rfl⟩ := List.getElem_of_mem hr
      simp at hk
      have e : kat rows i = rows[i].1 := by unfold kat; rw [getD_el hi]
      rcases Nat.lt_trichotomy i p with q | q | q
      · have := h2 i q; rw [e] at this; omega
      · subst q; exact hp ⟨hi, by rw [e]; exact hk⟩
      · have a := h3 p (Nat.le_refl _) (by omega)
        have b := srt_lt hs q hi
        rw [e] at b
        omega
    rw [this]
    rfl
theorem g135_ok {rows : List Row} (hs : Srt rows) (hl : rows.length ≤ 1000000000000) (k : Int) : ∃ p, Cut rows k p ∧ g135_0 k 0 (dlen rows : Int) rows = some (.inl (((), k, (p : Int), ()), ((), ()), rows, ())) := by
  have main := iter_fu (f := r135_0)
    (fun x => ∃ lo hi : Nat, x = (((), k, (lo : Int), (hi : Int), ()), ((), ()), rows, ()) ∧ lo ≤ hi ∧ hi ≤ rows.length ∧ (∀ i, i < lo → kat rows i < k) ∧ ∀ i, hi ≤ i → i < rows.length → k ≤ kat rows i)
    (fun x => (x.1.2.2.2.1 - x.1.2.2.1 : Int).toNat) (fun _ b => ∃ p, Cut rows k p ∧ b = .inl (((), k, (p : Int), ()), ((), ()), rows, ())) (fun x hx => by
      obtain ⟨lo, hi, rfl, h1, h2, h3, h4⟩ := hx
      by_cases hlt : lo < hi
      · left
        have e1 : IntKind.wrap .i64 ((lo : Int) + hi) = lo + hi := w64 (by omega) (by omega)
        have e2 : Int.tdiv ((lo : Int) + hi) 2 = (((lo + hi) / 2 : Nat) : Int) := by rw [Int.tdiv_eq_ediv_of_nonneg (by omega)]; omega
        have e3 : IntKind.wrap .i64 (((lo + hi) / 2 : Nat) : Int) = (((lo + hi) / 2 : Nat) : Int) := w64 (by omega) (by omega)
        have e4 : IntKind.wrap .i64 ((((lo + hi) / 2 : Nat) : Int) + 1) = (((lo + hi) / 2 + 1 : Nat) : Int) := by rw [w64 (by omega) (by omega)]; omega
        have e5 : idxOk (((lo + hi) / 2 : Nat) : Int) (rows.length : Int) = true := idx_true (by omega) (by omega)
        by_cases hk : kat rows ((lo + hi) / 2) < k
        · refine ⟨(((), k, (((lo + hi) / 2 + 1 : Nat) : Int), (hi : Int), ()), ((), ()), rows, ()), ?_, ⟨(lo + hi) / 2 + 1, hi, rfl, by omega, h2, fun i hi' => ?_, h4⟩, ?_, fun _ h => h⟩
          · have hk' : decide (kat rows ((lo + hi) / 2) < k) = true := decide_eq_true hk
            have hlt' : decide ((lo : Int) < (hi : Int)) = true := decide_eq_true (by omega)
            have hk2 : decide ((dget rows ((lo + hi) / 2) (zero yShRow)).1 < k) = true := hk'
            simp only [r135_0, R135_0, dlen, e1, e2, e3, e4, e5, Int.toNat_natCast, hk2, hlt', cond_true]
          · by_cases hj : i = (lo + hi) / 2
            · rw [hj]; exact hk
            · by_cases hlo : i < lo
              · exact h3 i hlo
              · have := srt_lt hs (show i < (lo + hi) / 2 from by omega) (by omega); omega
          · show (((hi : Int) - (((lo + hi) / 2 + 1 : Nat) : Int))).toNat < ((hi : Int) - lo).toNat
            omega
        · refine ⟨(((), k, (lo : Int), (((lo + hi) / 2 : Nat) : Int), ()), ((), ()), rows, ()), ?_, ⟨lo, (lo + hi) / 2, rfl, by omega, by omega, h3, fun i hi1 hi2 => ?_⟩, ?_, fun _ h => h⟩
          · have hk' : decide (kat rows ((lo + hi) / 2) < k) = false := decide_eq_false hk
            have hlt' : decide ((lo : Int) < (hi : Int)) = true := decide_eq_true (by omega)
            have hk2 : decide ((dget rows ((lo + hi) / 2) (zero yShRow)).1 < k) = false := hk'
            simp only [r135_0, R135_0, dlen, e1, e2, e3, e4, e5, Int.toNat_natCast, hk2, hlt', cond_true, cond_false]
          · by_cases hj : i = (lo + hi) / 2
            · rw [hj]; omega
            · have := srt_lt hs (show (lo + hi) / 2 < i from by omega) hi2; omega
          · show (((((lo + hi) / 2 : Nat) : Int)) - lo).toNat < ((hi : Int) - lo).toNat
            omega
      · right
        have hlt' : decide ((lo : Int) < (hi : Int)) = false := decide_eq_false (by omega)
        refine ⟨_, by simp only [r135_0, R135_0, hlt', cond_false], lo, ⟨by omega, h3, fun i hi1 hi2 => h4 i (by omega) hi2⟩, rfl⟩)
    (a := (((), k, 0, (dlen rows : Int), ()), ((), ()), rows, ())) ⟨0, rows.length, rfl, by omega, Nat.le_refl _, fun i hi => by omega, fun i hi1 hi2 => by omega⟩ (by
      show ((rows.length : Int) - 0).toNat < _
      omega)
  obtain ⟨b, h1, p, h2, h3⟩ := main
  exact ⟨p, h2, by unfold g135_0; rw [h1, h3]⟩
theorem f135_ok {rows : List Row} (hs : Srt rows) (hl : rows.length ≤ 1000000000000) (k : Int) : ∃ p, Cut rows k p ∧ f135 k rows = some (((p : Int), (look rows k).isSome, ()), ((), ()), rows, ()) := by
  obtain ⟨p, h1, h2⟩ := g135_ok hs hl k
  refine ⟨p, h1, ?_⟩
  have hk : decide (k = k) = true := decide_eq_true rfl
  unfold f135
  rw [hk, h2]
  simp only [Bool.not_true, cond_false, Option.bind_some, dlen, Int.toNat_natCast]
  rw [cut_look hs h1]
  by_cases hp : p < rows.length
  · have e1 : decide ((p : Int) < (rows.length : Int)) = true := decide_eq_true (by omega)
    have e2 : idxOk (p : Int) (rows.length : Int) = true := idx_true (by omega) (by omega)
    rw [e1, e2]
    simp only [cond_true, hp, true_and, dget]
    by_cases hq : kat rows p = k
    · have hq2 : decide ((rows.getD p (zero yShRow)).1 = k) = true := decide_eq_true hq
      rw [if_pos hq, hq2]; rfl
    · have hq2 : decide ((rows.getD p (zero yShRow)).1 = k) = false := decide_eq_false hq
      rw [if_neg hq, hq2]; rfl
  · have e1 : decide ((p : Int) < (rows.length : Int)) = false := decide_eq_false (by omega)
    rw [e1, if_neg (by omega)]
    rfl
def noEnt : Ent := ((0, 0, 0, 0, ()), none, ())
theorem f106_ok {rows : List Row} (hs : Srt rows) (hl : rows.length ≤ 1000000000000) (k : Int) : f106 k rows = some (((look rows k).getD noEnt, (look rows k).isSome, ()), ((), ()), rows, ()) := by
  obtain ⟨p, h1, h2⟩ := f135_ok hs hl k
  unfold f106
  rw [h2]
  simp only [Option.bind_some, dlen, Int.toNat_natCast]
  rw [cut_look hs h1]
  by_cases hp : p < rows.length ∧ kat rows p = k
  · rw [if_pos hp]
    have e2 : idxOk (p : Int) (rows.length : Int) = true := idx_true (by omega) (by omega)
    rw [e2]
    rfl
  · rw [if_neg hp]
    rfl
/-- a name's number -/
def num (k : Key) : Int := if 1 ≤ k.1 ∧ k.1 < 65536 ∧ 0 ≤ k.2.1 ∧ k.2.1 < 256 then k.1 * 256 + k.2.1 else -1
theorem f107_ok (k : Key) : f107 k = some ((num k, ()), ()) := by
  obtain ⟨i, s, _⟩ := k
  unfold f107 num
  by_cases h1 : i < 1
  · simp [h1]; omega
  · by_cases h2 : 65536 ≤ i
    · simp [h1, h2]; omega
    · by_cases h3 : s < 0
      · simp [h1, h2, h3]; omega
      · by_cases h4 : 256 ≤ s
        · simp [h1, h2, h3, h4]; omega
        · have e1 : IntKind.wrap .i64 (i * 256) = i * 256 := w64 (by omega) (by omega)
          have e2 : IntKind.wrap .i64 (i * 256 + s) = i * 256 + s := w64 (by omega) (by omega)
          simp [h1, h2, h3, h4, e1, e2]
          try omega
/-- a dictionary as an object -/
abbrev dic (ch : Int) (rows : List Row) : (Unit × Int × Unit) × (Unit × Unit) × List Row × Unit := (((), ch, ()), ((), ()), rows, ())
abbrev find (rows : List Row) (k : Key) : Option Ent := look rows (num k)
theorem f53_ok {rows : List Row} (hs : Srt rows) (hl : rows.length ≤ 1000000000000) (k : Key) (ch : Int) : f53 k ch rows = some (((find rows k).getD noEnt, (find rows k).isSome, ()), dic ch rows) := by
  unfold f53
  rw [f107_ok]
  simp only [Option.bind_some]
  rw [f106_ok hs hl]
  rfl
end Go.Proofs.Ytjmikonopapihaa
