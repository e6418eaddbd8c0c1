import Derived.Test.YtjmikonopapihaaAbCall6
/-
  AB: one operation, whichever it is; slots.
-/
namespace Go.Ab
set_option linter.unusedSimpArgs false
structure Sl (c : Cx) (t : List AV) (a : Act) : Prop where
  at_ : ∀ i, RepV c (t.getD i .undef) ((a.tmps[i]?).getD undef)
  len : t.length ≤ a.tmps.size
  defers : a.defers = []
section
variable {P : Program} {c : Cx}
theorem Sl.mono {c' : Cx} (hm : Mn c c') {t : List AV} {a : Act} (h : Sl c t a) : Sl c' t a := ⟨fun i => (h.at_ i).mono hm, h.len, h.defers⟩
theorem Sl.put {t : List AV} {a : Act} (h : Sl c t a) (d : Option Tmp) {av : AV} {v : Value} (hv : RepV c av v) : Sl c (putA t d av) (a.put d v) := by
  cases d with
  | none => exact h
  | some d =>
    refine ⟨fun i => ?_, ?_, h.defers⟩
    · show RepV c ((t.set d av).getD i .undef) (((a.tmps.setIfInBounds d v)[i]?).getD undef)
      by_cases e : d = i
      · subst e
        by_cases hd : d < t.length
        · rw [List.getD_eq_getElem?_getD, List.getElem?_set_self hd, Array.getElem?_setIfInBounds_self_of_lt (Nat.lt_of_lt_of_le hd h.len)]
          exact hv
        · rw [List.getD_eq_getElem?_getD, List.getElem?_eq_none (by rw [List.length_set]; exact Nat.le_of_not_lt hd)]
          trivial
      · rw [List.getD_eq_getElem?_getD, List.getElem?_set_ne e, Array.getElem?_setIfInBounds_ne e, ← List.getD_eq_getElem?_getD]
        exact h.at_ i
    · show (t.set d av).length ≤ (a.tmps.setIfInBounds d v).size
      simpa using h.len
theorem cval_rep (c : Cx) (v : Value) : RepV c (cval v) v := by
  unfold cval
  split
  · rename_i k n
    cases hd : decide (k.wrap n = n) with
    | false => trivial
    | true => exact (show RepC c.S c.w (.int k) n [_] from ⟨rfl, of_decide_eq_true hd⟩)
  · exact (show RepC c.S c.w .bool _ [_] from rfl)
  · rename_i s
    cases hd : Nat.ble s.size 140737488355328 with
    | false => trivial
    | true => exact (show RepC c.S c.w .str _ [_] from ⟨s, rfl, rfl, by have := Nat.le_of_ble_eq_true hd; unfold maxLen; omega⟩)
  · exact (show RepA c .nsl [_] from rfl)
  · exact (show RepA c .nptr [_] from rfl)
  · exact (show RepA c .nfn [_] from rfl)
  · trivial
theorem eval_rep {t : List AV} {a : Act} (h : Sl c t a) (x : Operand) : RepV c (evalO t x) (a.eval x) := by
  cases x with
  | tmp i => have := h.at_ i; show RepV c (t.getD i .undef) (a.tmps.getD i undef); rw [Array.getD_eq_getD_getElem?]; exact this
  | const v => exact cval_rep c v
  | func f => exact (show RepA c (.fn f .nil) [_] from ⟨#[], rfl, rfl⟩)
  | global g => trivial
theorem opA_ok (hs : Sim c) {K : Specs} (hK : ∀ f, ∀ s ∈ K f, SpecOk P f s) {nid : Nat} {ρ : Operand → AV} {ρ' : Operand → Value} (hρ : ∀ x, RepV c (ρ x) (ρ' x)) (o : Oper)
    (hh : ∀ j, j < slots o.op → c.H[nid + j]? = some .hole) : OpS P c (execOp ρ' o) (opA P K ρ o.op nid) := by
  unfold execOp
  cases ho : o.op with
  | move x => exact OpS.pure hs fun R k r hr => ⟨_, _, rfl, hρ x, hr⟩
  | assign x => exact OpS.pure hs fun R k r hr => ⟨_, _, rfl, hρ x, hr⟩
  | pick x y z => exact pick_ok hs (hρ x) (hρ y) (hρ z)
  | alloc e => exact alloc_ok hs (by have := hh 0 (by rw [ho]; exact Nat.one_pos); simpa using this)
  | box e x => exact box_ok hs (by have := hh 0 (by rw [ho]; exact Nat.one_pos); simpa using this) (hρ x)
  | build t parts => exact build_ok hs hρ
  | buildSlice t n parts => exact bsl_ok hs (by have := hh 0 (by rw [ho]; exact Nat.one_pos); simpa using this) hρ
  | load t x => exact load_ok hs (hρ x)
  | store t x y => exact store_ok hs (hρ x) (hρ y)
  | nilCheck x =>
    have := nilc_ok (P := P) hs (hρ x) (ρ' := ρ') (o := x) rfl (oper := o) ho
    unfold execOp at this
    rw [ho] at this
    exact this
  | binOp op t x y yt => exact bin_ok hs (hρ x) (hρ y) x y
  | unOp op t x => exact un_ok hs (hρ x)
  | convert s d x => exact conv_ok hs (hρ x)
  | makeFunc fn first caps =>
    cases fn with
    | func f => exact mkf_ok hs hρ
    | _ => exact fun R k r next hr hk => by cases hr
  | makeSlice t l m => exact mk_ok hs (by have := hh 0 (by rw [ho]; exact Nat.one_pos); simpa using this) (hρ l) (hρ m)
  | slice t x lo hi mx =>
    cases mx with
    | none => exact slice_ok hs hρ
    | some _ => exact fun R k r next hr hk => by cases hr
  | fieldAddr t x j => exact faddr_ok hs (hρ x)
  | field t x j => exact field_ok hs (hρ x)
  | indexAddr t x i => exact iaddr_ok hs (hρ x) (hρ i)
  | index t x i => exact index_ok hs (hρ x) (hρ i)
  | extract x i => exact extract_ok hs (hρ x)
  | call cl =>
    obtain ⟨callee, args, argTypes⟩ := cl
    cases callee with
    | value f =>
      exact call_ok hs hK (fun j hj => hh j (by rw [ho]; exact hj)) (hρ f) hρ
    | builtin b =>
      cases b <;> try (exact fun R k r next hr hk => by cases hr)
      case len =>
        intro R k r next hr hk
        simp only [opA] at hr
        cases ha : args.toList with
        | nil => rw [ha] at hr; cases hr
        | cons x l =>
          cases l with
          | cons _ _ => rw [ha] at hr; cases hr
          | nil =>
            cases hb : argTypes.toList with
            | nil => rw [ha, hb] at hr; cases hr
            | cons t l2 =>
              cases l2 with
              | cons _ _ => rw [ha, hb] at hr; cases hr
              | nil =>
                rw [ha, hb] at hr
                have e1 : args = #[x] := Array.toList_inj.1 ha
                have e2 : argTypes = #[t] := Array.toList_inj.1 hb
                subst e1; subst e2
                have := len_ok (P := P) hs (t := t) (ty := o.type) (hρ x) R k r next hr hk
                simpa [resolve, invoke, builtin] using this
      case append =>
        intro R k r next hr hk
        simp only [opA] at hr
        cases ha : args.toList with
        | nil => rw [ha] at hr; cases hr
        | cons s l =>
          cases l with
          | nil => rw [ha] at hr; cases hr
          | cons x l' =>
            cases l' with
            | cons _ _ => rw [ha] at hr; cases hr
            | nil =>
              cases hb : argTypes.toList with
              | nil => rw [ha, hb] at hr; cases hr
              | cons t l2 =>
                cases l2 with
                | nil => rw [ha, hb] at hr; cases hr
                | cons t' l3 =>
                  cases l3 with
                  | cons _ _ => rw [ha, hb] at hr; cases hr
                  | nil =>
                    rw [ha, hb] at hr
                    obtain ⟨hq, hr2⟩ := HM.run_bif hr
                    have e1 : args = #[s, x] := Array.toList_inj.1 ha
                    have e2 : argTypes = #[t, t'] := Array.toList_inj.1 hb
                    have e3 := beq_nat hq
                    subst e1; subst e2; subst e3
                    have := app_ok (P := P) hs (nid := nid) (T := o.type) (by have := hh 0 (by rw [ho]; exact Nat.one_pos); simpa using this) (hρ s) (hρ x) R k r next hr2 hk
                    simpa [resolve, invoke, builtin] using this
      case copy =>
        intro R k r next hr hk
        simp only [opA] at hr
        cases ha : args.toList with
        | nil => rw [ha] at hr; cases hr
        | cons s l =>
          cases l with
          | nil => rw [ha] at hr; cases hr
          | cons x l' =>
            cases l' with
            | cons _ _ => rw [ha] at hr; cases hr
            | nil =>
              cases hb : argTypes.toList with
              | nil => rw [ha, hb] at hr; cases hr
              | cons t l2 =>
                cases l2 with
                | nil => rw [ha, hb] at hr; cases hr
                | cons t' l3 =>
                  cases l3 with
                  | cons _ _ => rw [ha, hb] at hr; cases hr
                  | nil =>
                    rw [ha, hb] at hr
                    have e1 : args = #[s, x] := Array.toList_inj.1 ha
                    have e2 : argTypes = #[t, t'] := Array.toList_inj.1 hb
                    subst e1; subst e2
                    have := cpy_ok (P := P) hs (t := t) (t' := t') (T := o.type) (hρ s) (hρ x) R k r next hr hk
                    simpa [resolve, invoke, builtin] using this
      case min =>
        intro R k r next hr hk
        have := mm_ok (P := P) hs hρ false (args := args) (at' := argTypes) (t := o.type) R k r next hr hk
        simpa [resolve, invoke, builtin] using this
      case max =>
        intro R k r next hr hk
        have := mm_ok (P := P) hs hρ true (args := args) (at' := argTypes) (t := o.type) R k r next hr hk
        simpa [resolve, invoke, builtin] using this
    | invoke _ _ => exact fun R k r next hr hk => by cases hr
  | _ => exact fun R k r next hr hk => by cases hr
end
end Go.Ab
