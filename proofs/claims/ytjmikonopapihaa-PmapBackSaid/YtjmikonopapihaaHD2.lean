import Derived.Test.YtjmikonopapihaaHD1
/-
  What an entry may hold: sizes, bounds, bytes and numbers. Plain lemmas.
-/
namespace Go.Proofs.Ytjmikonopapihaa
open Go.Ab
set_option maxRecDepth 100000
set_option linter.unusedSimpArgs false
/-- kinds of numbers: bytes, least, greatest -/
def sz (k : Int) : Int := if k = 1 ∨ k = 2 ∨ k = 5 then 1 else if k = 3 ∨ k = 6 then 2 else if k = 4 ∨ k = 7 then 4 else 0
def loK (k : Int) : Int := if k = 5 then -128 else if k = 6 then -32768 else if k = 7 then -2147483648 else 0
def hiK (k : Int) : Int := if k = 1 then 1 else if k = 2 then 255 else if k = 3 then 65535 else if k = 4 then 4294967295 else if k = 5 then 127 else if k = 6 then 32767 else if k = 7 then 2147483647 else 0
def sgn (k : Int) : Bool := decide (k = 5 ∨ k = 6 ∨ k = 7)
theorem kinds (k : Int) : (k = 1 ∨ k = 2 ∨ k = 3 ∨ k = 4 ∨ k = 5 ∨ k = 6 ∨ k = 7) ∨ (k ≠ 1 ∧ k ≠ 2 ∧ k ≠ 3 ∧ k ≠ 4 ∧ k ≠ 5 ∧ k ≠ 6 ∧ k ≠ 7) := by omega
theorem f92_ok (k : Int) : f92 k = some ((sz k, ()), ()) := by
  rcases kinds k with h | ⟨h1, h2, h3, h4, h5, h6, h7⟩
  · rcases h with rfl | rfl | rfl | rfl | rfl | rfl | rfl <;> rfl
  · simp [f92, sz, h1, h2, h3, h4, h5, h6, h7]
theorem f93_ok (k : Int) : f93 k = some ((sz k, loK k, hiK k, ()), ()) := by
  rcases kinds k with h | ⟨h1, h2, h3, h4, h5, h6, h7⟩
  · rcases h with rfl | rfl | rfl | rfl | rfl | rfl | rfl <;> rfl
  · simp [f93, sz, loK, hiK, h1, h2, h3, h4, h5, h6, h7]
theorem f141_ok (k : Int) : f141 k = some ((sgn k, ()), ()) := by
  rcases kinds k with h | ⟨h1, h2, h3, h4, h5, h6, h7⟩
  · rcases h with rfl | rfl | rfl | rfl | rfl | rfl | rfl <;> rfl
  · simp [f141, sgn, h5, h6, h7]
theorem f138_ok (k : Int) : f138 k = some ((hiK k, ()), ()) := by
  rcases kinds k with h | ⟨h1, h2, h3, h4, h5, h6, h7⟩
  · rcases h with rfl | rfl | rfl | rfl | rfl | rfl | rfl <;> kernel_rfl
  · have e : sz k = 0 := by simp [sz, h1, h2, h3, h4, h5, h6, h7]
    have e2 : hiK k = 0 := by simp [hiK, h1, h2, h3, h4, h5, h6, h7]
    have e3 : sgn k = false := by simp [sgn, h5, h6, h7]
    unfold f138
    rw [f141_ok, f92_ok, e, e2, e3]
    rw [show decide (k = 1) = false from decide_eq_false h1]
    rfl
theorem f140_ok (k : Int) : f140 k = some ((loK k, ()), ()) := by
  rcases kinds k with h | ⟨h1, h2, h3, h4, h5, h6, h7⟩
  · rcases h with rfl | rfl | rfl | rfl | rfl | rfl | rfl <;> kernel_rfl
  · have e2 : loK k = 0 := by simp [loK, h5, h6, h7]
    have e3 : sgn k = false := by simp [sgn, h5, h6, h7]
    unfold f140
    rw [f141_ok, e2, e3]
    rfl
def inK (k n : Int) : Bool := decide (0 < sz k ∧ loK k ≤ n ∧ n ≤ hiK k)
theorem f131_ok (k n : Int) : f131 k n = some ((inK k n, ()), ()) := by
  unfold f131 inK
  rw [f92_ok, f140_ok, f138_ok]
  simp only [Option.bind_some]
  by_cases h1 : 0 < sz k <;> by_cases h2 : loK k ≤ n <;> by_cases h3 : n ≤ hiK k <;> simp [h1, h2, h3]
def mayB (s : Spc) : Bool := decide (1 ≤ s.2.1 ∧ s.2.1 ≤ 4 ∧ s.2.2.1 ≤ s.2.2.2.1 ∧ ((0 < sz s.1 ∧ loK s.1 ≤ s.2.2.1 ∧ s.2.2.2.1 ≤ hiK s.1) ∨ (s.1 = 8 ∧ 0 ≤ s.2.2.1 ∧ s.2.2.2.1 ≤ 64)))
theorem sz8 {k : Int} (h : k = 8) : sz k = 0 := by subst h; rfl
theorem f120_ok (s : Spc) : f120 s = some ((decide (0 < sz s.1), ()), ()) := by
  unfold f120
  rw [f92_ok]
  rfl
theorem f112_ok (s : Spc) : f112 s = some ((mayB s, ()), ()) := by
  obtain ⟨k, a, lo, hi, _⟩ := s
  unfold f112 mayB
  simp only [f120_ok, f131_ok, Option.bind_some]
  by_cases h1 : a < 1
  · simp [h1]; omega
  · by_cases h2 : 4 < a
    · simp [h1, h2]; omega
    · by_cases h3 : hi < lo
      · simp [h1, h2, h3]; omega
      · by_cases h4 : 0 < sz k
        · have h8 : k ≠ 8 := fun e => by rw [sz8 e] at h4; omega
          by_cases h5 : loK k ≤ lo <;> by_cases h6 : lo ≤ hiK k <;> by_cases h7 : loK k ≤ hi <;> by_cases h9 : hi ≤ hiK k <;> simp [h1, h2, h3, h4, h5, h6, h7, h9, h8, inK] <;> omega
        · by_cases h8 : k = 8
          · by_cases h5 : 0 ≤ lo <;> by_cases h6 : hi ≤ 64 <;> simp [h1, h2, h3, h4, h8, h5, h6] <;> (subst h8; simp [sz]) <;> omega
          · simp [h1, h2, h3, h4, h8]
theorem f110_ok (s : Spc) : f110 s = some ((mayB s, ()), ()) := by
  obtain ⟨k, a, lo, hi, _⟩ := s
  unfold f110 mayB
  simp only [f93_ok, Option.bind_some]
  by_cases h8 : k = 8
  · subst h8
    have : sz 8 = 0 := rfl
    by_cases h1 : 1 ≤ a <;> by_cases h2 : a ≤ 4 <;> by_cases h3 : 0 ≤ lo <;> by_cases h4 : lo ≤ hi <;> by_cases h5 : hi ≤ 64 <;> simp [h1, h2, h3, h4, h5, this]
  · by_cases h0 : 0 < sz k <;> by_cases h1 : 1 ≤ a <;> by_cases h2 : a ≤ 4 <;> by_cases h3 : loK k ≤ lo <;> by_cases h4 : lo ≤ hi <;> by_cases h5 : hi ≤ hiK k <;> simp [h8, h0, h1, h2, h3, h4, h5]
/-! bytes as numbers -/
def leN : List Int → Int
  | [] => 0
  | x :: r => x + 256 * leN r
def Byt (l : List Int) : Prop := ∀ x ∈ l, 0 ≤ x ∧ x ≤ 255
theorem leN_snoc : ∀ (l : List Int) (x : Int), leN (l ++ [x]) = leN l + x * 256 ^ l.length
  | [], x => by simp [leN]
  | y :: l, x => by
    simp only [List.cons_append, leN, leN_snoc l x, List.length_cons, Int.pow_succ]
    rw [Int.mul_add, Int.add_assoc, Int.mul_comm 256 (x * 256 ^ l.length), Int.mul_assoc]
theorem leN_bd : ∀ {l : List Int}, Byt l → 0 ≤ leN l ∧ leN l < 256 ^ l.length
  | [], _ => by simp [leN]
  | y :: l, h => by
    have h1 := leN_bd (l := l) fun x hx => h x (List.mem_cons_of_mem _ hx)
    have h2 := h y (List.mem_cons_self ..)
    simp only [leN, List.length_cons, Int.pow_succ]
    omega
theorem or_add (a b j : Nat) (h1 : a < 2 ^ j) (h2 : b < 256) (hj : j ≤ 48) : bitsF .or .i64 (a : Int) ((b * 2 ^ j : Nat) : Int) = ((a + b * 2 ^ j : Nat) : Int) := by
  have h3 : b * 2 ^ j + 2 ^ j ≤ 256 * 2 ^ j := by have := Nat.mul_le_mul_right (2 ^ j) (show b + 1 ≤ 256 from h2); rw [Nat.succ_mul] at this; exact this
  have h4 : (256 : Nat) * 2 ^ j ≤ 256 * 2 ^ 48 := Nat.mul_le_mul_left _ (Nat.pow_le_pow_right (by omega) hj)
  have h5 : (256 : Nat) * 2 ^ 48 = 72057594037927936 := by rfl
  unfold bitsF
  simp only
  have e1 : BitVec.ofInt IntKind.i64.bits (a : Int) = BitVec.ofNat 64 a := BitVec.ofInt_natCast 64 a
  have e2 : BitVec.ofInt IntKind.i64.bits ((b * 2 ^ j : Nat) : Int) = BitVec.ofNat 64 (b * 2 ^ j) := BitVec.ofInt_natCast 64 _
  rw [e1, e2]
  have e3 : (BitVec.ofNat 64 a ||| BitVec.ofNat 64 (b * 2 ^ j)).toNat = a + b * 2 ^ j := by
    rw [BitVec.toNat_or, BitVec.toNat_ofNat, BitVec.toNat_ofNat, Nat.mod_eq_of_lt (by omega), Nat.mod_eq_of_lt (by omega), Nat.or_comm, Nat.mul_comm b, ← Nat.two_pow_add_eq_or_of_lt h1]
    omega
  have e4 : ((BitVec.ofNat 64 a ||| BitVec.ofNat 64 (b * 2 ^ j)).toNat : Int) = ((a + b * 2 ^ j : Nat) : Int) := by rw [e3]
  exact (congrArg (IntKind.wrap .i64) e4).trans (w64 (by omega) (by omega))
theorem pow256 (i : Nat) : (256 : Nat) ^ i = 2 ^ (8 * i) := by rw [Nat.pow_mul]
theorem getD_mem {l : List Int} {i : Nat} {d : Int} (h : i < l.length) : l.getD i d ∈ l := by rw [getD_el h]; exact List.getElem_mem h
theorem take_succ_getD {l : List Int} {i : Nat} (h : i < l.length) : l.take (i + 1) = l.take i ++ [l.getD i 0] := by
  rw [getD_el h, List.take_succ_eq_append_getElem h]
theorem g133_ok (k : Int) {b : Option (List Int)} (hb : Byt (dor b)) (hl : (dor b).length ≤ 4) : g133_0 k b 0 b (olen b) 0 = some (.inl ((k, b, leN (dor b), ()), ())) := by
  have main := iter_fu (f := r133_0)
    (fun x => ∃ i : Nat, x = ((k, b, leN ((dor b).take i), b, olen b, (i : Int), ()), ()) ∧ i ≤ (dor b).length)
    (fun x => (olen b - x.1.2.2.2.2.2.1 : Int).toNat) (fun _ y => y = .inl ((k, b, leN (dor b), ()), ())) (fun x hx => by
      obtain ⟨i, rfl, hi⟩ := hx
      by_cases hlt : i < (dor b).length
      · left
        have hx := hb _ (getD_mem (d := 0) hlt)
        obtain ⟨v, hv⟩ := Int.eq_ofNat_of_zero_le hx.1
        have hbt : Byt ((dor b).take i) := fun x hx => hb x (List.mem_of_mem_take hx)
        have hn := leN_bd hbt
        obtain ⟨a, ha⟩ := Int.eq_ofNat_of_zero_le hn.1
        have hil : ((dor b).take i).length = i := by rw [List.length_take]; omega
        rw [hil] at hn
        have hn' : a < 2 ^ (8 * i) := by
          rw [← pow256]
          have := hn.2
          rw [ha] at this
          exact_mod_cast this
        refine ⟨((k, b, leN ((dor b).take (i + 1)), b, olen b, ((i + 1 : Nat) : Int), ()), ()), ?_, ⟨i + 1, rfl, hlt⟩, ?_, fun _ h => h⟩
        · have e1 : idxOk (i : Int) (olen b) = true := by rw [olen_dor]; exact idx_true (by omega) (by omega)
          have e2 : IntKind.wrap .i64 (8 * (i : Int)) = ((8 * i : Nat) : Int) := by rw [w64 (by omega) (by omega)]; rfl
          have e3 : decide ((i : Int) < olen b) = true := by rw [olen_dor]; exact decide_eq_true (by omega)
          have e4 : IntKind.wrap .i64 ((i : Int) + 1) = ((i + 1 : Nat) : Int) := w64 (by omega) (by omega)
          have e5 : min (8 * i) 64 = 8 * i := by omega
          have e6 : IntKind.wrap .i64 (oget b i (zero U8)) = (v : Int) := by
            rw [oget_dor]
            show IntKind.wrap .i64 ((dor b).getD i 0) = _
            rw [hv]; exact w64 (by omega) (by omega)
          have hb2 : v < 256 := by omega
          have h3 : v * 2 ^ (8 * i) ≤ 255 * 2 ^ 24 := Nat.mul_le_mul (by omega) (Nat.pow_le_pow_right (by omega) (by omega))
          have e7 : IntKind.wrap .i64 ((v : Int) * 2 ^ (8 * i)) = ((v * 2 ^ (8 * i) : Nat) : Int) := by
            have : (v : Int) * 2 ^ (8 * i) = ((v * 2 ^ (8 * i) : Nat) : Int) := by push_cast; rfl
            rw [this]; exact w64 (by omega) (by omega)
          have e8 := or_add a v (8 * i) hn' hb2 (by omega)
          have e9 : leN ((dor b).take (i + 1)) = ((a + v * 2 ^ (8 * i) : Nat) : Int) := by
            rw [take_succ_getD hlt, leN_snoc, hil, ha, hv, ← pow256]; push_cast; rfl
          have e10 : decide ((0 : Int) ≤ ((8 * i : Nat) : Int)) = true := decide_eq_true (by omega)
          simp only [r133_0, R133_0, e1, e2, e3, e4, Int.toNat_natCast, e5, e6, e7, ha, e8, e9, e10, cond_true]
        · show (olen b - ((i + 1 : Nat) : Int)).toNat < (olen b - (i : Int)).toNat
          rw [olen_dor]; omega
      · right
        have e3 : decide ((i : Int) < olen b) = false := by rw [olen_dor]; exact decide_eq_false (by omega)
        have e4 : (dor b).take i = dor b := List.take_of_length_le (by omega)
        exact ⟨.inl ((k, b, leN (dor b), ()), ()), by simp only [r133_0, R133_0, e3, cond_false, e4], rfl⟩)
    (a := ((k, b, 0, b, olen b, 0, ()), ())) ⟨0, by simp [leN], by omega⟩ (by show (olen b - 0).toNat < _; rw [olen_dor]; omega)
  obtain ⟨y, h1, h2⟩ := main
  unfold g133_0
  rw [h1, h2]
theorem leN_drop {l : List Int} {i : Nat} (h : i < l.length) : leN (l.drop i) = l.getD i 0 + 256 * leN (l.drop (i + 1)) := by
  rw [getD_el h, List.drop_eq_getElem_cons h]; rfl
theorem g119_ok {b : Option (List Int)} (hb : Byt (dor b)) (hl : (dor b).length ≤ 4) (size low high : Int) : g119_0 b size low high 0 ((dor b).length - 1 : Int) = some (.inl ((size, low, high, leN (dor b), ()), ())) := by
  have main := iter_fu (f := r119_0)
    (fun x => ∃ i : Nat, x = ((b, size, low, high, leN ((dor b).drop i), (i : Int) - 1, ()), ()) ∧ i ≤ (dor b).length)
    (fun x => (x.1.2.2.2.2.2.1 + 1 : Int).toNat) (fun _ y => y = .inl ((size, low, high, leN (dor b), ()), ())) (fun x hx => by
      obtain ⟨i, rfl, hi⟩ := hx
      cases i with
      | zero =>
        right
        have e3 : decide ((0 : Int) ≤ ((0 : Nat) : Int) - 1) = false := rfl
        exact ⟨.inl ((size, low, high, leN (dor b), ()), ()), by simp only [r119_0, R119_0, e3, cond_false, List.drop_zero], rfl⟩
      | succ i =>
        left
        have hx := hb _ (getD_mem (d := 0) (show i < (dor b).length from hi))
        have hbt : Byt ((dor b).drop (i + 1)) := fun x hx => hb x (List.mem_of_mem_drop hx)
        have hn := leN_bd hbt
        have hp : (256 : Int) ^ ((dor b).drop (i + 1)).length ≤ 256 ^ 4 := by
          have : (256 : Nat) ^ ((dor b).drop (i + 1)).length ≤ 256 ^ 4 := Nat.pow_le_pow_right (by omega) (by rw [List.length_drop]; omega)
          exact_mod_cast this
        have hp4 : (256 : Int) ^ 4 = 4294967296 := rfl
        have e0 : ((i + 1 : Nat) : Int) - 1 = (i : Int) := by omega
        have e1 : idxOk (i : Int) (olen b) = true := by rw [olen_dor]; exact idx_true (by omega) (by omega)
        have e2 : decide ((0 : Int) ≤ (i : Int)) = true := decide_eq_true (by omega)
        have e3 : IntKind.wrap .i64 (leN ((dor b).drop (i + 1)) * 256) = leN ((dor b).drop (i + 1)) * 256 := w64 (by omega) (by omega)
        have e4 : IntKind.wrap .i64 (oget b i (zero U8)) = (dor b).getD i 0 := by
          rw [oget_dor]
          show IntKind.wrap .i64 ((dor b).getD i 0) = _
          exact w64 (by omega) (by omega)
        have e5 : IntKind.wrap .i64 (leN ((dor b).drop (i + 1)) * 256 + (dor b).getD i 0) = leN ((dor b).drop i) := by
          rw [leN_drop (show i < (dor b).length from hi), w64 (by omega) (by omega)]; omega
        have e6 : IntKind.wrap .i64 ((i : Int) - 1) = (i : Int) - 1 := w64 (by omega) (by omega)
        refine ⟨((b, size, low, high, leN ((dor b).drop i), (i : Int) - 1, ()), ()), ?_, ⟨i, rfl, by omega⟩, ?_, fun _ h => h⟩
        · simp only [r119_0, R119_0, e0, e1, e2, Int.toNat_natCast, e3, e4, e5, e6, cond_true]
        · show ((i : Int) - 1 + 1).toNat < (((i + 1 : Nat) : Int) - 1 + 1).toNat
          omega)
    (a := ((b, size, low, high, 0, ((dor b).length - 1 : Int), ()), ())) ⟨(dor b).length, by simp [leN], Nat.le_refl _⟩ (by show (((dor b).length : Int) - 1 + 1).toNat < _; omega)
  obtain ⟨y, h1, h2⟩ := main
  unfold g119_0
  rw [h1, h2]
/-- the number of so many bytes: and is it one of the kind's? -/
def getV (k n : Int) : Int × Int :=
  if loK k ≤ (if hiK k < n then n - 2 ^ (8 * sz k).toNat else n) ∧ (if hiK k < n then n - 2 ^ (8 * sz k).toNat else n) ≤ hiK k then ((if hiK k < n then n - 2 ^ (8 * sz k).toNat else n), 0) else (0, 4)
theorem sz_le (k : Int) : 0 ≤ sz k ∧ sz k ≤ 4 := by unfold sz; split; omega; split; omega; split <;> omega
theorem f123_ok (k : Int) (h : 0 < sz k) : f123 (sz k) = some ((2 ^ (8 * sz k).toNat, ()), ()) := by
  rcases kinds k with h | ⟨h1, h2, h3, h4, h5, h6, h7⟩
  · rcases h with rfl | rfl | rfl | rfl | rfl | rfl | rfl <;> kernel_rfl
  · simp [sz, h1, h2, h3, h4, h5, h6, h7] at h
theorem pow_sz (k : Int) (h : 0 < sz k) : IntKind.wrap .i64 (1 * 2 ^ min (IntKind.wrap .i64 (8 * sz k)).toNat 64) = 2 ^ (8 * sz k).toNat ∧ (2 : Int) ^ (8 * sz k).toNat ≤ 4294967296 ∧ (0 : Int) < 2 ^ (8 * sz k).toNat ∧
    (∀ m : Nat, (m : Int) = sz k → (256 : Int) ^ m = 2 ^ (8 * sz k).toNat) ∧ (sgn k = false → loK k = 0) ∧ decide ((0 : Int) ≤ IntKind.wrap .i64 (8 * sz k)) = true ∧ (-4294967296 ≤ loK k ∧ loK k ≤ 0 ∧ 0 ≤ hiK k ∧ hiK k ≤ 4294967296) := by
  rcases kinds k with h | ⟨h1, h2, h3, h4, h5, h6, h7⟩
  · rcases h with rfl | rfl | rfl | rfl | rfl | rfl | rfl
    all_goals
      refine ⟨by kernel_rfl, by decide, by decide, fun m hm => ?_, by decide, by kernel_rfl, by decide⟩
    · obtain rfl : m = 1 := by have : sz 1 = 1 := rfl; omega
      rfl
    · obtain rfl : m = 1 := by have : sz 2 = 1 := rfl; omega
      rfl
    · obtain rfl : m = 2 := by have : sz 3 = 2 := rfl; omega
      rfl
    · obtain rfl : m = 4 := by have : sz 4 = 4 := rfl; omega
      rfl
    · obtain rfl : m = 1 := by have : sz 5 = 1 := rfl; omega
      rfl
    · obtain rfl : m = 2 := by have : sz 6 = 2 := rfl; omega
      rfl
    · obtain rfl : m = 4 := by have : sz 7 = 4 := rfl; omega
      rfl
  · simp [sz, h1, h2, h3, h4, h5, h6, h7] at h
theorem f133_ok (k : Int) {b : Option (List Int)} (hb : Byt (dor b)) (hk : 0 < sz k) (hl : olen b = sz k) : f133 k b = some (((getV k (leN (dor b))).1, (getV k (leN (dor b))).2, ()), ()) := by
  have hs := sz_le k
  have hl' : (dor b).length ≤ 4 := by rw [olen_dor] at hl; omega
  have hz : decide (sz k = 0) = false := decide_eq_false (by omega)
  have hn := leN_bd hb
  have hln : ((dor b).length : Int) = sz k := by rw [← olen_dor]; exact hl
  obtain ⟨p1, p2, p3, p4, p5, p6, p7⟩ := pow_sz k hk
  rw [p4 _ hln] at hn
  unfold f133
  rw [f92_ok, g133_ok k hb hl', hl]
  simp only [Option.bind_some, hz, decide_true, Bool.not_true, cond_false, f141_ok, f138_ok, f131_ok, hl, p1, p6, cond_true]
  unfold getV
  generalize leN (dor b) = n at hn ⊢
  generalize (2 : Int) ^ (8 * sz k).toNat = p at *
  have hw : IntKind.wrap .i64 (n - p) = n - p := w64 (by omega) (by omega)
  rw [hw]
  unfold inK
  cases hsg : sgn k with
  | true =>
    by_cases h1 : hiK k < n
    · by_cases h2 : loK k ≤ n - p ∧ n - p ≤ hiK k
      · simp [h1, hk, h2]
      · simp [h1, hk, h2]
    · by_cases h2 : loK k ≤ n ∧ n ≤ hiK k
      · simp [h1, hk, h2]
      · simp [h1, hk, h2]
  | false =>
    have hlo := p5 hsg
    by_cases h1 : hiK k < n
    · have h2 : ¬ (loK k ≤ n - p ∧ n - p ≤ hiK k) := by omega
      have h3 : ¬ (loK k ≤ n ∧ n ≤ hiK k) := by omega
      simp [h1, hk, h2, h3]
    · by_cases h2 : loK k ≤ n ∧ n ≤ hiK k
      · simp [h1, hk, h2]
      · simp [h1, hk, h2]
theorem f119_ok (k : Int) {b : Option (List Int)} (hb : Byt (dor b)) (hk : 0 < sz k) (hl : olen b = sz k) : f119 k b = some (((getV k (leN (dor b))).1, (getV k (leN (dor b))).2, ()), ()) := by
  have hs := sz_le k
  have hl' : (dor b).length ≤ 4 := by rw [olen_dor] at hl; omega
  have hz : decide (sz k = 0) = false := decide_eq_false (by omega)
  have hn := leN_bd hb
  have hln : ((dor b).length : Int) = sz k := by rw [← olen_dor]; exact hl
  obtain ⟨p1, p2, p3, p4, p5, p6, p7⟩ := pow_sz k hk
  rw [p4 _ hln] at hn
  have hw1 : IntKind.wrap .i64 (sz k - 1) = ((dor b).length : Int) - 1 := by rw [w64 (by omega) (by omega)]; omega
  unfold f119
  rw [f93_ok]
  simp only [Option.bind_some, hz, hl, decide_true, Bool.not_true, cond_false, hw1, g119_ok hb hl', f123_ok k hk]
  unfold getV
  generalize leN (dor b) = n at hn ⊢
  generalize (2 : Int) ^ (8 * sz k).toNat = p at *
  have hw : IntKind.wrap .i64 (n - p) = n - p := w64 (by omega) (by omega)
  rw [hw]
  by_cases h1 : hiK k < n
  · by_cases h2 : n - p < loK k
    · have h3 : ¬ (loK k ≤ n - p ∧ n - p ≤ hiK k) := by omega
      simp [h1, h2, h3]
    · by_cases h4 : hiK k < n - p
      · have h3 : ¬ (loK k ≤ n - p ∧ n - p ≤ hiK k) := by omega
        simp [h1, h2, h4, h3]
      · have h3 : (loK k ≤ n - p ∧ n - p ≤ hiK k) := by omega
        simp [h1, h2, h4, h3]
  · by_cases h2 : n < loK k
    · have h3 : ¬ (loK k ≤ n ∧ n ≤ hiK k) := by omega
      simp [h1, h2, h3]
    · have h3 : (loK k ≤ n ∧ n ≤ hiK k) := by omega
      simp [h1, h2, h3]
/-- what is wrong with bytes -/
def fits (s : Spc) (b : List Int) : Int :=
  if mayB s = false then 134217728
  else if sz s.1 = 0 then (if (b.length : Int) < s.2.2.1 then 101122067 else if s.2.2.2.1 < b.length then 101122066 else 0)
  else if (b.length : Int) < sz s.1 then 101122067 else if sz s.1 < b.length then 101122066
  else if (getV s.1 (leN b)).2 ≠ 0 then 101253168 else if s.2.2.2.1 < (getV s.1 (leN b)).1 then 101253169 else if (getV s.1 (leN b)).1 < s.2.2.1 then 101253170 else 0
theorem f134_ok (n lo hi : Int) : f134 n lo hi = some ((if n < lo then 101122067 else if hi < n then 101122066 else 0, ()), ()) := by
  unfold f134
  by_cases h1 : n < lo <;> by_cases h2 : hi < n <;> simp [h1, h2]
theorem f104_ok (s : Spc) {b : Option (List Int)} (hb : Byt (dor b)) : f104 s b = some ((fits s (dor b), ()), ()) := by
  unfold f104 fits
  rw [f112_ok, f120_ok, f92_ok]
  simp only [Option.bind_some, f134_ok]
  have hs := sz_le s.1
  have hlen := olen_dor b
  cases hm : mayB s with
  | false => rfl
  | true =>
    by_cases hz : sz s.1 = 0
    · simp [hz, hlen]
    · have hp : 0 < sz s.1 := by omega
      by_cases h1 : olen b < sz s.1
      · have h1' : ((dor b).length : Int) < sz s.1 := by rw [← hlen]; exact h1
        simp [hz, hp, h1, h1']
      · by_cases h2 : sz s.1 < olen b
        · have h1' : ¬ ((dor b).length : Int) < sz s.1 := by rw [← hlen]; exact h1
          have h2' : sz s.1 < ((dor b).length : Int) := by rw [← hlen]; exact h2
          simp [hz, hp, h1, h2, h1', h2']
        · have h1' : ¬ ((dor b).length : Int) < sz s.1 := by rw [← hlen]; exact h1
          have h2' : ¬ sz s.1 < ((dor b).length : Int) := by rw [← hlen]; exact h2
          rw [f133_ok s.1 hb hp (by omega)]
          by_cases h3 : (getV s.1 (leN (dor b))).2 = 0
          · by_cases h4 : s.2.2.2.1 < (getV s.1 (leN (dor b))).1
            · simp [hz, hp, h1, h2, h1', h2', h3, h4]
            · by_cases h5 : (getV s.1 (leN (dor b))).1 < s.2.2.1
              · simp [hz, hp, h1, h2, h1', h2', h3, h4, h5]
              · simp [hz, hp, h1, h2, h1', h2', h3, h4, h5]
          · simp [hz, hp, h1, h2, h1', h2', h3]
theorem may_sz {s : Spc} (h : mayB s = true) : (s.1 = 8 ∧ sz s.1 = 0) ∨ (s.1 ≠ 8 ∧ 0 < sz s.1) := by
  unfold mayB at h
  have h := of_decide_eq_true h
  rcases h.2.2.2 with ⟨q, _⟩ | ⟨q, _⟩
  · right; exact ⟨fun e => by rw [sz8 e] at q; omega, q⟩
  · left; exact ⟨q, sz8 q⟩
theorem f62_ok (s : Spc) {b : Option (List Int)} (hb : Byt (dor b)) : f62 s b = some ((fits s (dor b), ()), ()) := by
  unfold f62 fits
  rw [f110_ok, f93_ok]
  simp only [Option.bind_some]
  have hs := sz_le s.1
  have hlen := olen_dor b
  cases hm : mayB s with
  | false => rfl
  | true =>
    rcases may_sz hm with ⟨h8, hz⟩ | ⟨h8, hp⟩
    · by_cases h1 : olen b < s.2.2.1
      · have h1' : ((dor b).length : Int) < s.2.2.1 := by rw [← hlen]; exact h1
        simp [hz, h8, h1, h1', sz]
      · have h1' : ¬ ((dor b).length : Int) < s.2.2.1 := by rw [← hlen]; exact h1
        by_cases h2 : s.2.2.2.1 < olen b
        · have h2' : s.2.2.2.1 < ((dor b).length : Int) := by rw [← hlen]; exact h2
          simp [hz, h8, h1, h1', h2, h2', sz]
        · have h2' : ¬ s.2.2.2.1 < ((dor b).length : Int) := by rw [← hlen]; exact h2
          simp [hz, h8, h1, h1', h2, h2', sz]
    · have hz : sz s.1 ≠ 0 := by omega
      by_cases h1 : olen b < sz s.1
      · have h1' : ((dor b).length : Int) < sz s.1 := by rw [← hlen]; exact h1
        simp [hz, h8, h1, h1']
      · by_cases h2 : sz s.1 < olen b
        · have h1' : ¬ ((dor b).length : Int) < sz s.1 := by rw [← hlen]; exact h1
          have h2' : sz s.1 < ((dor b).length : Int) := by rw [← hlen]; exact h2
          simp [hz, h8, h1, h2, h1', h2']
        · have h1' : ¬ ((dor b).length : Int) < sz s.1 := by rw [← hlen]; exact h1
          have h2' : ¬ sz s.1 < ((dor b).length : Int) := by rw [← hlen]; exact h2
          rw [f119_ok s.1 hb hp (by omega)]
          by_cases h3 : (getV s.1 (leN (dor b))).2 = 0
          · by_cases h4 : s.2.2.2.1 < (getV s.1 (leN (dor b))).1
            · simp [hz, h8, h1, h2, h1', h2', h3, h4]
            · by_cases h5 : (getV s.1 (leN (dor b))).1 < s.2.2.1
              · simp [hz, h8, h1, h2, h1', h2', h3, h4, h5]
              · simp [hz, h8, h1, h2, h1', h2', h3, h4, h5]
          · simp [hz, h8, h1, h2, h1', h2', h3]
end Go.Proofs.Ytjmikonopapihaa
