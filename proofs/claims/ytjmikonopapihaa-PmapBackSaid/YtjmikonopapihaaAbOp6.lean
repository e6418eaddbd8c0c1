import Derived.Test.YtjmikonopapihaaAbOp5
/-
  AB: conversions; arithmetic.
-/
namespace Go.Ab
set_option linter.unusedSimpArgs false
theorem wrap_wrap (k : IntKind) (n : Int) : k.wrap (k.wrap n) = k.wrap n := by
  cases k <;> simp [IntKind.wrap, IntKind.bits, IntKind.signed] <;> (try split) <;> (try split) <;> omega
theorem wf_between {k : IntKind} {a r : Int} (h : k.wrap a = a) (hr : (0 ≤ r ∧ r ≤ a) ∨ (a ≤ r ∧ r ≤ 0)) : k.wrap r = r := by
  cases k <;> simp [IntKind.wrap, IntKind.bits, IntKind.signed] at h ⊢ <;> (try split at h) <;> (try split) <;> omega
theorem tmod_between (a b : Int) : (0 ≤ a.tmod b ∧ a.tmod b ≤ a) ∨ (a ≤ a.tmod b ∧ a.tmod b ≤ 0) := by
  have hn : (a.tmod b).natAbs ≤ a.natAbs := by rw [Int.natAbs_tmod]; exact Nat.mod_le _ _
  by_cases h : 0 ≤ a
  · have := Int.tmod_nonneg b h
    exact .inl ⟨this, by omega⟩
  · have h' : 0 ≤ -a := by omega
    have h1 := Int.tmod_nonneg b h'
    rw [Int.neg_tmod] at h1
    exact .inr ⟨by omega, by omega⟩
theorem fdiv_between (a d : Int) (hd : 1 ≤ d) : (0 ≤ a.fdiv d ∧ a.fdiv d ≤ a) ∨ (a ≤ a.fdiv d ∧ a.fdiv d ≤ 0) := by
  rw [Int.fdiv_eq_ediv_of_nonneg _ (by omega)]
  by_cases h : 0 ≤ a
  · exact .inl ⟨Int.ediv_nonneg h (by omega), Int.ediv_le_self _ h⟩
  · refine .inr ⟨?_, ?_⟩
    · rw [Int.le_ediv_iff_mul_le (by omega)]
      have := Int.mul_le_mul_of_nonpos_left (a := a) (b := d) (c := 1) (by omega) hd
      rw [Int.mul_one] at this
      exact this
    · have := Int.ediv_lt_of_lt_mul (a := a) (b := 1) (c := d) (by omega) (by omega)
      omega
theorem kEq_ne {j k : IntKind} : kEq j k = decide (j = k) := by cases j <;> cases k <;> rfl
section
variable {P : Program} {c : Cx}
theorem repBoolMk {b b' : Bool} (h : b' = b) : RepV c (.v .bool b) (.bool b') := by rw [h]; exact (rfl : [Value.bool _] = _)
theorem repStrMk {s : ByteArray} {xs : List Int} (h : xs = bytesOf s) (h2 : s.size ≤ maxLen) : RepV c (.v .str xs) (.string s) := ⟨s, rfl, h, h2⟩
theorem run_eqGuard {op : BinOp} {t : TypeId} {x y : Operand} {a b : Value} (h : ∀ cs ds, ¬ (a = .agg cs ∧ b = .agg ds)) (h2 : ¬ (a = .nilIface ∧ b = .nilIface)) (w : World) : (eqGuard op t x y a b).run P w = .ok () w := by
  unfold eqGuard
  cases op <;> simp <;> (cases a <;> cases b <;> simp_all)
theorem int_ok {op : BinOp} {t : TypeId} {x y : Operand} {k : IntKind} {a b : Int} (ha : k.wrap a = a) (hs : isShift op = false) {R : Type} {kk : AV → List HO → Option R} {r : R} {H : List HO} (hr : (intOp op k a b).run H kk = some r) (w : World) :
    ∃ av v, (do eqGuard op t x y (.int k a) (.int k b); binOp op t (.int k a) (.int k b) : Sem Value).run P w = .ok v w ∧ RepV c av v ∧ kk av H = some r := by
  have hg : (eqGuard op t x y (.int k a) (.int k b)).run P w = .ok () w := run_eqGuard (by simp) (by simp) w
  have bools : ∀ {q : Bool} {v : Value}, v = .bool q → RepV c (.v .bool q) v := fun h => by rw [h]; exact (rfl : [Value.bool _] = _)
  cases op <;> simp only [intOp, isShift] at hr hs <;> try (cases hs; done)
  case add => exact ⟨_, .int k (k.wrap (a + b)), by simp [hg, binOp, Op.intArith], repIntMk (wrap_wrap _ _), hr⟩
  case sub => exact ⟨_, .int k (k.wrap (a - b)), by simp [hg, binOp, Op.intArith], repIntMk (wrap_wrap _ _), hr⟩
  case mul => exact ⟨_, .int k (k.wrap (a * b)), by simp [hg, binOp, Op.intArith], repIntMk (wrap_wrap _ _), hr⟩
  case quo =>
    obtain ⟨h1, hr⟩ := HM.run_need hr
    have h1 : b ≠ 0 := by simpa using h1
    exact ⟨_, .int k (k.wrap (a.tdiv b)), by simp [hg, binOp, Op.intDiv, h1], repIntMk (wrap_wrap _ _), hr⟩
  case rem =>
    obtain ⟨h1, hr⟩ := HM.run_need hr
    have h1 : b ≠ 0 := by simpa using h1
    exact ⟨_, .int k (a.tmod b), by simp [hg, binOp, Op.intDiv, h1], repIntMk (wf_between ha (tmod_between a b)), hr⟩
  case and => exact ⟨_, .int k (bitsF .and k a b), by simp [hg, binOp, Op.intBits, bitsF], repIntMk (wrap_wrap _ _), hr⟩
  case or => exact ⟨_, .int k (bitsF .or k a b), by simp [hg, binOp, Op.intBits, bitsF], repIntMk (wrap_wrap _ _), hr⟩
  case xor => exact ⟨_, .int k (bitsF .xor k a b), by simp [hg, binOp, Op.intBits, bitsF], repIntMk (wrap_wrap _ _), hr⟩
  case andNot => exact ⟨_, .int k (bitsF .andNot k a b), by simp [hg, binOp, Op.intBits, bitsF], repIntMk (wrap_wrap _ _), hr⟩
  case eql => exact ⟨_, .bool (a == b), by simp [hg, binOp, Op.intCmp], bools (by congr 1), hr⟩
  case neq => exact ⟨_, .bool (a != b), by simp [hg, binOp, Op.intCmp], bools (by congr 1), hr⟩
  case lss => exact ⟨_, .bool (a < b), by simp [hg, binOp, Op.intCmp], bools rfl, hr⟩
  case leq => exact ⟨_, .bool (a ≤ b), by simp [hg, binOp, Op.intCmp], bools rfl, hr⟩
  case gtr => exact ⟨_, .bool (a > b), by simp [hg, binOp, Op.intCmp], bools rfl, hr⟩
  case geq => exact ⟨_, .bool (a ≥ b), by simp [hg, binOp, Op.intCmp], bools rfl, hr⟩
theorem shift_ok {op : BinOp} {t : TypeId} {x y : Operand} {k k' : IntKind} {a b : Int} (ha : k.wrap a = a) {R : Type} {kk : AV → List HO → Option R} {r : R} {H : List HO} (hr : (shiftF op k a b).run H kk = some r) (w : World) :
    ∃ av v, (do eqGuard op t x y (.int k a) (.int k' b); binOp op t (.int k a) (.int k' b) : Sem Value).run P w = .ok v w ∧ RepV c av v ∧ kk av H = some r := by
  have hg : (eqGuard op t x y (.int k a) (.int k' b)).run P w = .ok () w := run_eqGuard (by simp) (by simp) w
  cases op <;> simp only [shiftF] at hr <;> try (cases hr; done)
  case shl =>
    obtain ⟨h1, hr⟩ := HM.run_need hr
    have h1 : 0 ≤ b := by simpa using h1
    exact ⟨_, .int k (k.wrap (a * 2 ^ min b.toNat k.bits)), by simp [hg, binOp, Op.shift, Int.not_lt.2 h1], repIntMk (wrap_wrap _ _), hr⟩
  case shr =>
    obtain ⟨h1, hr⟩ := HM.run_need hr
    have h1 : 0 ≤ b := by simpa using h1
    have hp : (1 : Int) ≤ 2 ^ min b.toNat k.bits := by
      have : 0 < (2 : Int) ^ min b.toNat k.bits := Int.pow_pos (by omega)
      omega
    exact ⟨_, .int k (a.fdiv (2 ^ min b.toNat k.bits)), by simp [hg, binOp, Op.shift, Int.not_lt.2 h1], repIntMk (wf_between ha (fdiv_between _ _ hp)), hr⟩
theorem bytesOf_inj {s t : ByteArray} : bytesOf s = bytesOf t ↔ s.toList = t.toList := by
  rw [ByteArray.toList_eq, ByteArray.toList_eq]
  unfold bytesOf
  constructor
  · intro h
    exact (List.map_inj_right (fun a b hab => by
      have : a.toNat = b.toNat := by omega
      exact UInt8.toNat_inj.1 this)).1 h
  · intro h; rw [h]
theorem eqbL_bytes (s t : ByteArray) : eqbL (bytesOf s) (bytesOf t) = (s.toList == t.toList) := by
  unfold eqbL
  rw [Bool.eq_iff_iff, decide_eq_true_iff, beq_iff_eq]
  exact bytesOf_inj
theorem bytesOf_append (s t : ByteArray) : bytesOf (s ++ t) = bytesOf s ++ bytesOf t := by
  unfold bytesOf
  rw [ByteArray.data_append, Array.toList_append, List.map_append]
theorem str_ok {op : BinOp} {t : TypeId} {x y : Operand} {a b : List Int} {v1 v2 : Value} (ha : RepV c (.v .str a) v1) (hb : RepV c (.v .str b) v2) {R : Type} {kk : AV → List HO → Option R} {r : R} {H : List HO} (hr : (strOp op a b).run H kk = some r) (w : World) :
    ∃ av v, (do eqGuard op t x y v1 v2; binOp op t v1 v2 : Sem Value).run P w = .ok v w ∧ RepV c av v ∧ kk av H = some r := by
  obtain ⟨s1, e1, e2, e3⟩ := (show RepC c.S c.w .str a [v1] from ha)
  obtain ⟨s2, f1, f2, f3⟩ := (show RepC c.S c.w .str b [v2] from hb)
  rw [List.singleton_inj.1 e1, List.singleton_inj.1 f1]
  have hg : (eqGuard op t x y (.string s1) (.string s2)).run P w = .ok () w := run_eqGuard (by simp) (by simp) w
  cases op <;> simp only [strOp] at hr <;> try (cases hr; done)
  case add =>
    obtain ⟨h1, hr⟩ := HM.run_need hr
    have h1 : a.length + b.length ≤ 140737488355328 := Nat.le_of_ble_eq_true h1
    rw [e2, f2, bytesOf_len, bytesOf_len] at h1
    have hn : ¬ ((((s1.size + s2.size : Nat) : Int)) > IntKind.i64.max) := by simp [IntKind.max, IntKind.signed, IntKind.bits]; omega
    refine ⟨_, .string (s1 ++ s2), ?_, repStrMk (by rw [bytesOf_append, e2, f2]) (by rw [ByteArray.size_append]; unfold maxLen; omega), hr⟩
    simp only [Sem.run_bind, hg, Result.andThen_ok, binOp, Op.stringOp]
    rw [if_neg hn]
    rfl
  case eql => exact ⟨_, .bool (s1.toList == s2.toList), by simp [hg, binOp, Op.stringOp], repBoolMk (by rw [e2, f2, eqbL_bytes]), hr⟩
  case neq => exact ⟨_, .bool (!(s1.toList == s2.toList)), by simp [hg, binOp, Op.stringOp], repBoolMk (by rw [e2, f2, eqbL_bytes]), hr⟩
theorem un_ok (hs : Sim c) {op : UnOp} {x : AV} {xv : Value} (hx : RepV c x xv) : OpS P c (do pure (.value (← Op.unary op xv)) : Sem Next) (unA op x) := by
  refine OpS.pure hs fun R k r hr => ?_
  cases op <;> cases x <;> (try simp only [unA] at hr) <;> try (cases hr; done)
  all_goals
    rename_i u y
    cases u <;> (try simp only at hr) <;> try (cases hr; done)
  case neg.v.int =>
    obtain ⟨e, _⟩ := repInt hx
    subst e
    exact ⟨_, _, run_v (by simp [Op.unary, Op.intArith]), repIntMk (wrap_wrap _ _), hr⟩
  case xor.v.int =>
    obtain ⟨e, _⟩ := repInt hx
    subst e
    exact ⟨_, _, run_v (by simp [Op.unary, Op.intBits, bitsF]), repIntMk (wrap_wrap _ _), hr⟩
  case not.v.bool =>
    have e := List.singleton_inj.1 (show [xv] = [.bool y] from hx)
    subst e
    exact ⟨_, .bool (!y), run_v (by simp [Op.unary]), repBoolMk rfl, hr⟩
end
end Go.Ab
