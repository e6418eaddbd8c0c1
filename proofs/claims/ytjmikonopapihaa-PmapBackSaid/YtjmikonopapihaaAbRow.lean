import Derived.Test.YtjmikonopapihaaAbGen
import Derived.ProofKit
import Derived.OpenShut
/-
  AB: a law's arguments, as they read, are typed data; and what a law answers.
-/
namespace Go.Ab
open Go.ChangeShapes Go.WideShapes
set_option linter.unusedSimpArgs false
def fieldsOk (P : Program) (f : TypeId → Ty → Bool) : List Field → Nat → Ty → Bool
  | [], _, .unit => true
  | fd :: r, off, .pair a b => Nat.beq fd.offset off && (Nat.beq (P.cellsOf fd.type) a.csz && (f fd.type a && fieldsOk P f r (off + a.csz) b))
  | _, _, _ => false
def readOk (P : Program) : Nat → TypeId → Ty → Bool
  | 0, _, _ => false
  | n + 1, t, u => match P.underlying t, u with
    | some (.int k), .int k' => kEq k k'
    | some .bool, .bool => true
    | some .string, .str => true
    | some (.slice e), .sl v => Nat.beq (P.cellsOf e) v.csz && (Nat.blt 0 v.csz && readOk P n e v)
    | some (.array m e), .arr m' v => Nat.beq m m' && (Nat.beq (P.cellsOf e) v.csz && (Nat.beq (P.cellsOf t) (m * v.csz) && readOk P n e v))
    | some (.struct fs), u => Nat.beq (P.cellsOf t) u.csz && (u.isAgg && fieldsOk P (readOk P n) fs.toList 0 u)
    | _, _ => false
theorem mapM_some {α β : Type} {f : α → Option β} : ∀ {l : List α} {ys : List β}, l.mapM f = some ys → ys.length = l.length ∧ ∀ (i : Nat) (x : α), l[i]? = some x → ∃ y, ys[i]? = some y ∧ f x = some y
  | [], ys, h => by
    have : ys = [] := by simpa using h.symm
    subst this
    exact ⟨rfl, fun i x h => by simp at h⟩
  | a :: l, ys, h => by
    rw [List.mapM_cons] at h
    cases h1 : f a with
    | none => rw [h1] at h; cases h
    | some y =>
      rw [h1] at h
      cases h2 : l.mapM f with
      | none => rw [h2] at h; cases h
      | some zs =>
        rw [h2] at h
        have e : ys = y :: zs := by
          have h : some (y :: zs) = some ys := h
          exact (Option.some.inj h).symm
        subst e
        obtain ⟨q1, q2⟩ := mapM_some h2
        refine ⟨by simp [q1], fun i x hx => ?_⟩
        cases i with
        | zero => simp at hx; subst hx; exact ⟨y, rfl, h1⟩
        | succ i => exact q2 i x (by simpa using hx)
theorem range_some {β : Type} {f : Nat → Option β} {n : Nat} {ys : List β} (h : (List.range n).mapM f = some ys) : ys.length = n ∧ ∀ i, i < n → ∃ y, ys[i]? = some y ∧ f i = some y := by
  obtain ⟨h1, h2⟩ := mapM_some h
  exact ⟨by simpa using h1, fun i hi => h2 i i (by simp [hi])⟩
theorem At.append {w : World} {b off : Nat} {c d : List Value} (h1 : At w b off c) (h2 : At w b (off + c.length) d) : At w b off (c ++ d) := by
  intro j u hj
  by_cases hlt : j < c.length
  · rw [List.getElem?_append_left hlt] at hj; exact h1 j u hj
  · rw [List.getElem?_append_right (by omega)] at hj
    have := h2 (j - c.length) u hj
    rw [show off + j = off + c.length + (j - c.length) from by omega]
    exact this
theorem rows_build {S : Nat → Prop} {w : World} {u : Ty} {b off : Nat} : ∀ (m start : Nat), (∀ i, i < m → ∃ (cs : List Value) (x : El u), RepC S w u x cs ∧ At w b (off + (start + i) * u.csz) cs) →
    ∃ (xs : List (El u)) (vs : List Value), xs.length = m ∧ RepCs (RepC S w u) xs vs ∧ At w b (off + start * u.csz) vs
  | 0, start, _ => ⟨[], [], rfl, rfl, fun j z hj => by simp at hj⟩
  | m + 1, start, h => by
    obtain ⟨cs, x, h1, h2⟩ := h 0 (Nat.succ_pos m)
    obtain ⟨xs, vs, g1, g2, g3⟩ := rows_build (S := S) (w := w) (u := u) (b := b) (off := off) m (start + 1) fun i hi => by
      obtain ⟨cs, x, q1, q2⟩ := h (i + 1) (by omega)
      exact ⟨cs, x, q1, by rw [show start + 1 + i = start + (i + 1) from by omega]; exact q2⟩
    refine ⟨x :: xs, cs ++ vs, by simp [g1], ⟨cs, vs, rfl, h1, g2⟩, At.append h2 ?_⟩
    rw [RepC.length h1, Nat.add_assoc, show start * u.csz + u.csz = (start + 1) * u.csz from by rw [Nat.succ_mul]]
    exact g3
theorem cell_lt {w : World} {a : Addr} {v : Value} (h : w.cell? a = some v) : a.block < w.heap.size ∧ a.spot = none := by
  unfold World.cell? at h
  split at h
  · rename_i c t fr hh
    refine ⟨(Array.getElem?_eq_some_iff.1 hh).1, ?_⟩
    cases hs : a.spot with
    | none => rfl
    | some s => rw [hs] at h; simp at h
  · cases h
theorem cells_at {w : World} {base b off n : Nat} {cs : List Value} (h : w.cells? base ⟨b, off, none⟩ n = some cs) : cs.length = n ∧ At w b off cs := by
  unfold World.cells? at h
  split at h
  · obtain ⟨h1, h2⟩ := range_some h
    refine ⟨h1, fun j u hj => ?_⟩
    have hj' : j < n := by rw [← h1]; exact lt_of_get hj
    obtain ⟨y, q1, q2⟩ := h2 j hj'
    rw [hj] at q1; cases q1
    rw [add_lit] at q2
    exact q2
  · cases h
theorem has_wrap {k : IntKind} {n : Int} (h : (Lit.int k n).wf = true) : k.wrap n = n := by
  simp only [Lit.wf, Bool.and_eq_true, decide_eq_true_eq] at h
  cases k <;> simp only [IntKind.min, IntKind.max, IntKind.signed, IntKind.bits, IntKind.wrap] at * <;> simp at * <;> omega
section
variable {H : Type} {enc : TypeId × Value → H} {P : Program} {w : World} {held : Bool}
theorem read_fields {n fuel : Nat} (ih : ∀ (t : TypeId) (u : Ty) (cs : List Value) (x : DataW H × List MemPlace), readOk P n t u = true → DataW.trod enc P w 0 (fun _ => true) held fuel t cs = some x → ∃ y : El u, RepC (fun b => b < w.heap.size) w u y cs) :
    ∀ (r : List Field) (off : Nat) (u : Ty) (cs : List Value), fieldsOk P (readOk P n) r off u = true → (∀ fd ∈ r, ∃ x, DataW.trod enc P w 0 (fun _ => true) held fuel fd.type ((cs.drop fd.offset).take (P.cellsOf fd.type)) = some x) → cs.length = off + u.csz →
      ∃ y : El u, RepC (fun b => b < w.heap.size) w u y (cs.drop off)
  | [], off, u, cs, hf, _, hl => by
    cases u <;> simp only [fieldsOk] at hf <;> try (cases hf; done)
    exact ⟨(), show cs.drop off = [] from List.drop_of_length_le (by rw [hl]; exact Nat.le_refl _)⟩
  | fd :: r, off, u, cs, hf, hx, hl => by
    cases u <;> simp only [fieldsOk] at hf <;> try (cases hf; done)
    rename_i a b
    simp only [Bool.and_eq_true] at hf
    obtain ⟨h1, h2, h3, h4⟩ := hf
    have h1 := beq_nat h1
    have h2 := beq_nat h2
    obtain ⟨x, hx1⟩ := hx fd (List.mem_cons_self ..)
    obtain ⟨y1, q1⟩ := ih _ _ _ _ h3 hx1
    have hc : (Ty.pair a b).csz = a.csz + b.csz := rfl
    obtain ⟨y2, q2⟩ := read_fields ih r (off + a.csz) b cs h4 (fun fd hfd => hx fd (List.mem_cons_of_mem _ hfd)) (by rw [hl, hc]; omega)
    refine ⟨(y1, y2), _, _, ?_, q1, q2⟩
    rw [h1, h2, ← List.drop_drop, List.take_append_drop]
theorem read_rep : ∀ (n : Nat) (t : TypeId) (u : Ty) (fuel : Nat) (cs : List Value) (x : DataW H × List MemPlace), readOk P n t u = true → DataW.trod enc P w 0 (fun _ => true) held fuel t cs = some x → ∃ y : El u, RepC (fun b => b < w.heap.size) w u y cs
  | 0, _, _, _, _, _, h, _ => by cases h
  | n + 1, t, u, 0, cs, x, _, h => by simp [DataW.trod] at h
  | n + 1, t, u, fuel + 1, cs, x, ho, h => by
    simp only [readOk] at ho
    simp only [DataW.trod] at h
    cases hu : P.underlying t with
    | none => rw [hu] at ho; cases ho
    | some d =>
      rw [hu] at ho h
      cases d <;> (try (simp only at ho; cases ho; done))
      case bool =>
        cases u <;> simp only at ho <;> try (cases ho; done)
        split at h <;> (try (cases h; done)) <;> (try (rename_i hq; cases hq; done))
        exact ⟨_, rfl⟩
      case string =>
        cases u <;> simp only at ho <;> try (cases ho; done)
        split at h <;> (try (cases h; done)) <;> (try (rename_i hq; cases hq; done))
        rename_i s _
        by_cases hm : s.size ≤ maxLen
        · exact ⟨bytesOf s, s, rfl, rfl, hm⟩
        · rw [if_neg hm] at h; cases h
      case int k =>
        cases u <;> simp only at ho <;> try (cases ho; done)
        rename_i k'
        have hk := kEq_eq ho
        subst hk
        split at h <;> (try (cases h; done)) <;> (try (rename_i hq; cases hq; done))
        rename_i k1 k2 m hq
        cases hq
        by_cases hm : k2 = k ∧ (Lit.int k m).wf = true
        · obtain ⟨rfl, hw⟩ := hm
          exact ⟨m, rfl, has_wrap hw⟩
        · rw [if_neg hm] at h; cases h
      case slice e =>
        cases u <;> simp only at ho <;> try (cases ho; done)
        rename_i v
        simp only [Bool.and_eq_true] at ho
        obtain ⟨ho1, ho2, ho3⟩ := ho
        have ho1 := beq_nat ho1
        have ho2 : 0 < v.csz := Nat.le_of_ble_eq_true ho2
        split at h <;> (try (cases h; done)) <;> (try (rename_i hq; cases hq; done))
        · exact ⟨none, rfl⟩
        · rename_i e' a len cap hq
          cases hq
          by_cases hc : 0 ≤ a.block ∧ len ≤ cap ∧ cap ≤ maxLen
          · rw [if_pos hc] at h
            simp only [if_true] at h
            cases h1 : (List.range len).mapM (fun i => (w.cells? 0 (a.add (i * P.cellsOf e)) (P.cellsOf e)).bind (DataW.trod enc P w 0 (fun _ => true) held fuel e)) with
            | none => rw [h1] at h; cases h
            | some elems =>
              rw [h1] at h
              cases h2 : (List.range (cap - len)).mapM (fun j => (w.cells? 0 (a.add ((len + j) * P.cellsOf e)) (P.cellsOf e)).bind (DataW.trod enc P w 0 (fun _ => true) held fuel e)) with
              | none => rw [h2] at h; cases h
              | some rest =>
                obtain ⟨_, r1⟩ := range_some h1
                obtain ⟨_, r2⟩ := range_some h2
                have each : ∀ i, i < cap → ∃ (cs : List Value) (z : DataW H × List MemPlace), w.cells? 0 (a.add (i * v.csz)) v.csz = some cs ∧ DataW.trod enc P w 0 (fun _ => true) held fuel e cs = some z := fun i hi => by
                  have : ∃ y, (w.cells? 0 (a.add (i * P.cellsOf e)) (P.cellsOf e)).bind (DataW.trod enc P w 0 (fun _ => true) held fuel e) = some y := by
                    by_cases hlt : i < len
                    · obtain ⟨y, _, q⟩ := r1 i hlt; exact ⟨y, q⟩
                    · obtain ⟨y, _, q⟩ := r2 (i - len) (by omega)
                      rw [show len + (i - len) = i from by omega] at q
                      exact ⟨y, q⟩
                  obtain ⟨y, hy⟩ := this
                  rw [ho1] at hy
                  cases hcs : w.cells? 0 (a.add (i * v.csz)) v.csz with
                  | none => rw [hcs] at hy; cases hy
                  | some cs => rw [hcs] at hy; exact ⟨cs, y, rfl, hy⟩
                obtain ⟨b, off, sp⟩ := a
                have hsp : cap ≠ 0 → sp = none ∧ b < w.heap.size := fun hc0 => by
                  obtain ⟨cs, z, q1, _⟩ := each 0 (by omega)
                  unfold World.cells? at q1
                  rw [if_pos (Nat.zero_le _)] at q1
                  obtain ⟨_, q2⟩ := range_some q1
                  obtain ⟨y, _, q3⟩ := q2 0 ho2
                  simp only [Nat.zero_mul, Addr.add, if_true] at q3
                  obtain ⟨g1, g2⟩ := cell_lt q3
                  exact ⟨g2, g1⟩
                by_cases hc0 : cap = 0
                · have hl0 : len = 0 := by omega
                  subst hc0; subst hl0
                  exact ⟨some [], b, off, 0, [], sp, rfl, Nat.le_refl _, Nat.zero_le _, fun q => absurd rfl q, rfl, fun j z hj => by simp at hj, fun q => absurd rfl q⟩
                · obtain ⟨hs1, hs2⟩ := hsp hc0
                  subst hs1
                  obtain ⟨xs, vs, g1, g2, g3⟩ := rows_build (S := fun b => b < w.heap.size) (w := w) (u := v) (b := b) (off := off) len 0 fun i hi => by
                    obtain ⟨cs, z, q1, q2⟩ := each i (by omega)
                    obtain ⟨y, hy⟩ := read_rep n e v fuel cs z ho3 q2
                    rw [add_lit] at q1
                    exact ⟨cs, y, hy, by rw [Nat.zero_add]; exact (cells_at q1).2⟩
                  rw [Nat.zero_mul, Nat.add_zero] at g3
                  exact ⟨some xs, b, off, cap, vs, none, by rw [g1], by rw [g1]; exact hc.2.1, hc.2.2, fun _ => hs2, g2, g3, fun _ => rfl⟩
          · rw [if_neg hc] at h; cases h
      case array m e =>
        cases u <;> simp only at ho <;> try (cases ho; done)
        rename_i m' v
        simp only [Bool.and_eq_true] at ho
        obtain ⟨ho0, ho1, ho2, ho3⟩ := ho
        have ho0 := beq_nat ho0
        have ho1 := beq_nat ho1
        have ho2 := beq_nat ho2
        subst ho0
        have h : (if cs.length = P.cellsOf t then ((List.range m).mapM fun i => DataW.trod enc P w 0 (fun _ => true) held fuel e ((cs.drop (i * P.cellsOf e)).take (P.cellsOf e))).map fun xs => (DataW.agg (xs.map (·.1)), xs.flatMap (·.2)) else none) = some x := h
        by_cases hc : cs.length = P.cellsOf t
        · rw [if_pos hc] at h
          cases h1 : (List.range m).mapM (fun i => DataW.trod enc P w 0 (fun _ => true) held fuel e ((cs.drop (i * P.cellsOf e)).take (P.cellsOf e))) with
          | none => rw [h1] at h; cases h
          | some ys =>
            obtain ⟨_, r1⟩ := range_some h1
            have main : ∀ (q start : Nat), start + q = m → ∃ xs : List (El v), xs.length = q ∧ RepCs (RepC (fun b => b < w.heap.size) w v) xs (cs.drop (start * v.csz)) := by
              intro q
              induction q with
              | zero => intro start hs; exact ⟨[], rfl, show cs.drop _ = [] from List.drop_of_length_le (by rw [hc, ho2, show start = m from by omega]; exact Nat.le_refl _)⟩
              | succ q ihq =>
                intro start hs
                obtain ⟨y, _, q2⟩ := r1 start (by omega)
                rw [ho1] at q2
                obtain ⟨x1, hx1⟩ := read_rep n e v fuel _ _ ho3 q2
                obtain ⟨xs, g1, g2⟩ := ihq (start + 1) (by omega)
                refine ⟨x1 :: xs, by simp [g1], _, _, ?_, hx1, g2⟩
                rw [Nat.succ_mul, ← List.drop_drop, List.take_append_drop]
            obtain ⟨xs, g1, g2⟩ := main m 0 (by omega)
            rw [Nat.zero_mul, List.drop_zero] at g2
            exact ⟨xs, g1, g2⟩
        · rw [if_neg hc] at h; cases h
      case struct fs =>
        have ho' : (Nat.beq (P.cellsOf t) u.csz && (u.isAgg && fieldsOk P (readOk P n) fs.toList 0 u)) = true := ho
        simp only [Bool.and_eq_true] at ho'
        obtain ⟨ho1, _, ho2⟩ := ho'
        have ho1 := beq_nat ho1
        have h : (if cs.length = P.cellsOf t then (fs.toList.mapM fun f => DataW.trod enc P w 0 (fun _ => true) held fuel f.type ((cs.drop f.offset).take (P.cellsOf f.type))).map fun xs => (DataW.agg (xs.map (·.1)), xs.flatMap (·.2)) else none) = some x := h
        by_cases hc : cs.length = P.cellsOf t
        · rw [if_pos hc] at h
          cases h1 : fs.toList.mapM (fun f => DataW.trod enc P w 0 (fun _ => true) held fuel f.type ((cs.drop f.offset).take (P.cellsOf f.type))) with
          | none => rw [h1] at h; cases h
          | some ys =>
            obtain ⟨_, r1⟩ := mapM_some h1
            obtain ⟨y, hy⟩ := read_fields (fun t u cs x a b => read_rep n t u fuel cs x a b) fs.toList 0 u cs ho2 (fun fd hfd => by
              obtain ⟨i, hi⟩ := List.getElem?_of_mem hfd
              obtain ⟨z, _, q⟩ := r1 i fd hi
              exact ⟨z, q⟩) (by rw [hc, ho1, Nat.zero_add])
            exact ⟨y, by simpa using hy⟩
        · rw [if_neg hc] at h; cases h
theorem arg_rep {n : Nat} {t : TypeId} {u : Ty} (ho : readOk P n t u = true) {base : Nat} {v : Value} {d : DataW H} {ps : List MemPlace} (hok : Value.okWide P w .any base t v) (h : DataW.Trod enc P w 0 (fun _ => true) held t v d ps) :
    ∃ x : El u, RepV1 ⟨fun b => b < w.heap.size, [], [], w⟩ (.v u x) v := by
  obtain ⟨fuel, hf⟩ := h
  obtain ⟨y, hy⟩ := read_rep n t u fuel _ _ ho hf
  refine ⟨y, ?_⟩
  cases n with
  | zero => cases ho
  | succ n =>
    simp only [readOk] at ho
    unfold Value.okWide at hok
    cases hu : P.underlying t with
    | none => rw [hu] at ho; cases ho
    | some dsc =>
      rw [hu] at ho hok
      have leaf : ∀ (hag : (AV.v u y).isAgg = false), v.cells.toList = [v] → RepV1 ⟨fun b => b < w.heap.size, [], [], w⟩ (.v u y) v := fun hag hv => by
        unfold RepV1
        rw [hag]
        rw [hv] at hy
        exact hy
      have agg : ∀ (hag : (AV.v u y).isAgg = true), (∃ cs, v = .agg cs ∧ cs.size = P.cellsOf t ∧ Row.okWide P w .any base t cs) → RepV1 ⟨fun b => b < w.heap.size, [], [], w⟩ (.v u y) v := fun hag ⟨cs, hv, _⟩ => by
        unfold RepV1
        rw [hag]
        subst hv
        exact ⟨cs.toList, by simp, hy⟩
      cases dsc <;> (try (simp only at ho; cases ho; done))
      case struct fs =>
        have ho' : (Nat.beq (P.cellsOf t) u.csz && (u.isAgg && fieldsOk P (readOk P n) fs.toList 0 u)) = true := ho
        simp only [Bool.and_eq_true] at ho'
        exact agg ho'.2.1 hok
      case array m e =>
        cases u <;> simp only at ho <;> try (cases ho; done)
        exact agg rfl hok
      all_goals
        cases u <;> simp only at ho <;> try (cases ho; done)
        refine leaf rfl ?_
        unfold Cell.okWide Cell.ok at hok
        rw [hu] at hok
        cases v <;> simp only at hok <;> first | rfl | (cases hok; done)
theorem repCs_mem {α : Type} {R : α → List Value → Prop} : ∀ {xs : List α} {cs : List Value}, RepCs R xs cs → ∀ x ∈ xs, ∃ c, R x c
  | [], _, _, x, hx => nomatch hx
  | y :: xs, _, ⟨c, d, _, h1, h2⟩, x, hx => by
    rcases List.mem_cons.1 hx with e | e
    · subst e; exact ⟨c, h1⟩
    · exact repCs_mem h2 x e
theorem sl_mem {S : Nat → Prop} {w : World} {u : Ty} {o : Option (List (El u))} {cs : List Value} (h : RepC S w (.sl u) o cs) : ∀ x ∈ dor o, ∃ c, RepC S w u x c := by
  cases o with
  | none => exact fun x hx => nomatch hx
  | some xs =>
    obtain ⟨_, _, _, _, _, _, _, _, _, h5, _⟩ := h
    exact repCs_mem h5
theorem Fr.below {c c' : Cx} (h : Fr c c') (hH : c.H = []) : RowKit.Below c.w.heap.size c.w c'.w :=
  ⟨h.os, h.tape, h.output, h.size, fun k hk => h.frame k hk fun ⟨i, o, v, h1, _, _⟩ => by rw [hH] at h1; simp at h1⟩
theorem calls_of_spec {P : Program} {f : FuncId} {fn : Func} {s : Spec} (hs : SpecOk P f s) (hf : P.funcs[f]? = some fn) (hname : (fn.name == "runtime.NumGoroutine") = false) (hb : fn.body.isSome = true)
    {W : World} {x : ElA s.ia × ElH s.ih} {y : ElA s.oa × ElH s.oh} {vs : List Value} (hH : encH s.ih x.2 = []) (hv : RepVs ⟨fun b => b < W.heap.size, [], [], W⟩ (encA s.ia x.1) vs) (hy : s.F x = some y) :
    Calls P f vs.toArray W fun e w' => ∃ (c' : Cx) (v : Value), e = .returned v ∧ RowKit.Below W.heap.size W w' ∧ c'.w = w' ∧ RepV c' (single (encA s.oa y.1)) v := by
  have hsim : Sim ⟨fun b => b < W.heap.size, [], [], W⟩ := ⟨rfl, fun i o v h => by simp at h, fun i j oi oj vi vj b h => by simp at h, fun b ⟨i, o, v, h, _⟩ => by simp at h, fun b h => h, fun b ⟨i, o, v, h, _⟩ => by simp at h⟩
  have := hs ⟨fun b => b < W.heap.size, [], [], W⟩ x y vs hsim hH.symm hv hy (fun v w' => ∃ (c' : Cx), RowKit.Below W.heap.size W w' ∧ c'.w = w' ∧ RepV c' (single (encA s.oa y.1)) v) fun c' v f1 f2 f3 f4 f5 => ⟨c', f1.below rfl, rfl, f5⟩
  have hrun : (callFunc f vs.toArray).run P W = .ok (.enter f vs.toArray) W := by
    have h1 : fn.name ≠ "runtime.NumGoroutine" := by simpa using hname
    cases hbb : fn.body with
    | none => rw [hbb] at hb; cases hb
    | some c => simp [callFunc, hf, h1, hbb]
  rw [hrun] at this
  have this : Calls P f vs.toArray W fun e w' => ∃ v, e = .returned v ∧ ∃ (c' : Cx), RowKit.Below W.heap.size W w' ∧ c'.w = w' ∧ RepV c' (single (encA s.oa y.1)) v := this
  exact this.mono fun e w' ⟨v, h1, c', h2, h3, h4⟩ => ⟨c', v, h1, h2, h3, h4⟩
end
end Go.Ab
