import Derived.Test.YtjmikonopapihaaAbDraw1
import Derived.Orders
/-
  AB: regions whose order is open.
-/
namespace Go.Ab
set_option linter.unusedSimpArgs false
structure It where
  i : Nat
  o : Oper
  nid : Nat
  rd : List Nat
  wr : List Nat
inductive Runs (P : Program) (K : Specs) (all : List Oper) : List It → List AV → List HO → List AV → List HO → Prop
  | nil {t : List AV} {h : List HO} : Runs P K all [] t h t h
  | cons {x : It} {l : List It} {t : List AV} {h : List HO} {av : AV} {h1 : List HO} {t' : List AV} {h' : List HO} (e : stepV P K all x.o x.nid t h = some (av, h1, x.rd, x.wr)) (r : Runs P K all l (putA t x.o.dst av) h1 t' h') : Runs P K all (x :: l) t h t' h'
def Ind (all : List Oper) (x y : It) : Prop := apB all x.o y.o = true ∧ disj x.wr y.rd = true ∧ disj x.wr y.wr = true ∧ disj x.rd y.wr = true
theorem blt_lt {a b : Nat} (h : Nat.blt a b = true) : a < b := Nat.le_of_ble_eq_true h
theorem ownQ_spec {m w : Nat} : ∀ {l : List Oper} {q nid : Nat}, ownQ m w l q nid = true → ∃ (p : Nat) (o : Oper), l[p]? = some o ∧ Nat.testBit m (q + p) = true ∧ nid + slotsL (l.take p) ≤ w ∧ w < nid + slotsL (l.take p) + slots o.op
  | [], _, _, h => by cases h
  | o :: r, q, nid, h => by
    simp only [ownQ, Bool.or_eq_true, Bool.and_eq_true] at h
    rcases h with ⟨h1, h2, h3⟩ | h
    · exact ⟨0, o, rfl, h1, Nat.le_of_ble_eq_true h2, blt_lt h3⟩
    · obtain ⟨p, o', g1, g2, g3, g4⟩ := ownQ_spec h
      refine ⟨p + 1, o', g1, by rw [← Nat.add_assoc, Nat.add_right_comm]; exact g2, ?_, ?_⟩
      · simp only [List.take_succ_cons, slotsL]; omega
      · simp only [List.take_succ_cons, slotsL]; omega
def OwnAt (all : List Oper) (m base nid n w : Nat) : Prop := w < base ∨ (nid ≤ w ∧ w < nid + n) ∨ ∃ (p : Nat) (o : Oper), all[p]? = some o ∧ Nat.testBit m p = true ∧ base + slotsL (all.take p) ≤ w ∧ w < base + slotsL (all.take p) + slots o.op
inductive Good (all : List Oper) (base : Nat) (M : Nat → Nat) : List It → Nat → Nat → Prop
  | nil {i nid : Nat} : Good all base M [] i nid
  | cons {x : It} {l : List It} {i nid : Nat} (hi : x.i = i) (hn : x.nid = nid) (hb : backB i x.o.after.toList = true) (hm : ∀ j, Nat.testBit (M i) j = true → ∃ e ∈ x.o.after.toList, bindsB e = true ∧ (j = e.on ∨ Nat.testBit (M e.on) j = true))
      (ho : ∀ w ∈ x.wr, OwnAt all (M i) base nid (slots x.o.op) w) (r : Good all base M l (i + 1) (nid + slots x.o.op)) : Good all base M (x :: l) i nid
section
variable {P : Program} {K : Specs} {all : List Oper}
theorem bubble {z : It} {post : List It} : ∀ {pre : List It} {t : List AV} {h : List HO} {t' : List AV} {h' : List HO}, Runs P K all (pre ++ z :: post) t h t' h' → (∀ x ∈ pre, Ind all x z) → Runs P K all (z :: (pre ++ post)) t h t' h'
  | [], t, h, t', h', hr, _ => hr
  | x :: pre, t, h, t', h', hr, hi => by
    cases hr with
    | cons e r =>
      have r2 := bubble r fun y hy => hi y (List.mem_cons_of_mem _ hy)
      cases r2 with
      | cons e2 r3 =>
        obtain ⟨i1, i2, i3, i4⟩ := hi x (List.mem_cons_self ..)
        obtain ⟨g1, q1, q2, q3⟩ := swap i1 i2 i3 i4 e e2
        exact .cons q1 (.cons q2 (by rw [← q3]; exact r3))
theorem maskL_bits {ms : List Nat} : ∀ {es : List Edge} {j : Nat}, Nat.testBit (maskL ms es) j = true → ∃ e ∈ es, bindsB e = true ∧ (j = e.on ∨ Nat.testBit (ms.getD e.on 0) j = true)
  | [], j, h => by simp [maskL] at h
  | e :: r, j, h => by
    simp only [maskL] at h
    cases hb : bindsB e with
    | false =>
      rw [hb] at h
      obtain ⟨e', h1, h2⟩ := maskL_bits (es := r) h
      exact ⟨e', List.mem_cons_of_mem _ h1, h2⟩
    | true =>
      rw [hb] at h
      simp only [cond_true] at h
      have h' : Nat.testBit ((1 <<< e.on ||| ms.getD e.on 0) ||| maskL ms r) j = true := h
      rw [Nat.testBit_or, Nat.testBit_or, Bool.or_eq_true, Bool.or_eq_true] at h'
      rcases h' with (h' | h') | h'
      · rw [Nat.one_shiftLeft, Nat.testBit_two_pow] at h'
        exact ⟨e, List.mem_cons_self .., hb, .inl (of_decide_eq_true h').symm⟩
      · exact ⟨e, List.mem_cons_self .., hb, .inr h'⟩
      · obtain ⟨e', h1, h2⟩ := maskL_bits (es := r) h'
        exact ⟨e', List.mem_cons_of_mem _ h1, h2⟩
theorem backB_spec {i : Nat} : ∀ {es : List Edge}, backB i es = true → ∀ e ∈ es, bindsB e = true → e.on < i
  | e' :: r, h, e, he, hb => by
    simp only [backB, Bool.and_eq_true, Bool.or_eq_true, Bool.not_eq_true'] at h
    rcases List.mem_cons.1 he with q | q
    · subst q
      rcases h.1 with k | k
      · rw [hb] at k; cases k
      · exact Nat.le_of_ble_eq_true k
    · exact backB_spec h.2 e q hb
theorem okRec_spec {m : Nat} {x : Rec} {l : List Rec} (h : okRec all m x l = true) : ∀ y ∈ l, Nat.testBit m y.i = true ∨ indB all y x = true := by
  induction l with
  | nil => intro y hy; cases hy
  | cons y' r ih =>
    intro y hy
    simp only [okRec, Bool.and_eq_true, Bool.or_eq_true] at h
    rcases List.mem_cons.1 hy with q | q
    · subst q; exact h.1
    · exact ih h.2 y q
theorem ownW_spec {all : List Oper} {m base nid n : Nat} {l : List Nat} (h : ownW all m base nid n l = true) : ∀ w ∈ l, OwnAt all m base nid n w := by
  induction l with
  | nil => intro w hw; cases hw
  | cons x r ih =>
    intro w hw
    simp only [ownW, Bool.and_eq_true, Bool.or_eq_true] at h
    rcases List.mem_cons.1 hw with q | q
    · subst q
      rcases h.1 with k | k
      · exact .inl (blt_lt k)
      · rcases k with k | k
        · exact .inr (.inl ⟨Nat.le_of_ble_eq_true k.1, blt_lt k.2⟩)
        · obtain ⟨p, o, g1, g2, g3, g4⟩ := ownQ_spec k
          exact .inr (.inr ⟨p, o, g1, by rw [Nat.zero_add] at g2; exact g2, g3, g4⟩)
    · exact ih h.2 w q
def recOf (x : It) : Rec := ⟨x.i, x.o, x.rd, x.wr⟩
theorem indB_spec {y : Rec} {x : It} (h : indB all y (recOf x) = true) : apB all y.o x.o = true ∧ disj y.wr x.rd = true ∧ disj y.wr x.wr = true ∧ disj y.rd x.wr = true := by
  simp only [indB, Bool.and_eq_true, recOf] at h
  exact ⟨h.1, h.2.1, h.2.2.1, h.2.2.2⟩
def DRes (P : Program) (K : Specs) (all : List Oper) (base : Nat) {R : Type} (k : List AV → List HO → Option R) (r : R) (l : List Oper) (i nid : Nat) (t : List AV) (h : List HO) (ms : List Nat) (done : List Rec) : Prop :=
    ∃ (its : List It) (t' : List AV) (h' : List HO) (M : Nat → Nat), Runs P K all its t h t' h' ∧ k t' h' = some r ∧ its.map It.o = l ∧ (∀ j, j < i → M j = ms.getD j 0) ∧ Good all base M its i nid ∧
      its.Pairwise (fun x y => Nat.testBit (M y.i) x.i = true ∨ Ind all x y) ∧ (∀ x ∈ its, ∀ y ∈ done, Nat.testBit (M x.i) y.i = true ∨ indB all y (recOf x) = true)
theorem opsD_runs {base : Nat} {R : Type} {k : List AV → List HO → Option R} {r : R} : ∀ (l : List Oper) (i nid : Nat) (t : List AV) (h : List HO) (ms : List Nat) (done : List Rec), opsD P K all base ms done l i nid t h k = some r → ms.length = i → DRes P K all base k r l i nid t h ms done
  | [], i, nid, t, h, ms, done, e, _ => ⟨[], t, h, fun j => ms.getD j 0, .nil, e, rfl, fun _ _ => rfl, .nil, .nil, fun x hx => by cases hx⟩
  | o :: l, i, nid, t, h, ms, done, e, hms => by
    simp only [opsD] at e
    cases hb : (backB i o.after.toList && !(isSel o.op)) with
    | false => rw [hb] at e; cases e
    | true =>
      rw [hb] at e
      simp only [cond_true] at e
      simp only [Bool.and_eq_true] at hb
      -- one step, whichever
      have main : ∀ (av : AV) (h1 : List HO) (rd wr : List Nat), stepV P K all o nid t h = some (av, h1, rd, wr) → okRec all (maskL ms o.after.toList) ⟨i, o, rd, wr⟩ done = true → ownW all (maskL ms o.after.toList) base nid (slots o.op) wr = true →
          opsD P K all base (ms ++ [maskL ms o.after.toList]) (⟨i, o, rd, wr⟩ :: done) l (i + 1) (nid + slots o.op) (putA t o.dst av) h1 k = some r → DRes P K all base k r (o :: l) i nid t h ms done := fun av h1 rd wr hst hok how hrest => by
        obtain ⟨its, t', h', M, q1, q2, q3, q4, q5, q6, q7⟩ := opsD_runs l (i + 1) (nid + slots o.op) _ h1 _ _ hrest (by simp [hms])
        have hMi : M i = maskL ms o.after.toList := by
          rw [q4 i (Nat.lt_succ_self i), List.getD_eq_getElem?_getD, List.getElem?_append_right (by omega), hms, Nat.sub_self]
          rfl
        have hMj : ∀ j, j < i → M j = ms.getD j 0 := fun j hj => by
          rw [q4 j (Nat.lt_succ_of_lt hj), List.getD_eq_getElem?_getD, List.getElem?_append_left (by omega), ← List.getD_eq_getElem?_getD]
        refine ⟨⟨i, o, nid, rd, wr⟩ :: its, t', h', M, .cons hst q1, q2, by simp [q3], hMj, .cons rfl rfl hb.1 (fun j hj => ?_) (by rw [hMi]; exact ownW_spec how) q5, ?_, fun x hx y hy => ?_⟩
        · rw [hMi] at hj
          obtain ⟨e', g1, g2, g3⟩ := maskL_bits hj
          refine ⟨e', g1, g2, g3.imp id fun g => ?_⟩
          rw [hMj e'.on (backB_spec hb.1 e' g1 g2)]
          exact g
        · refine List.Pairwise.cons (fun y hy => ?_) q6
          rcases q7 y hy ⟨i, o, rd, wr⟩ (List.mem_cons_self ..) with g | g
          · exact .inl g
          · exact .inr (indB_spec g)
        · rcases List.mem_cons.1 hx with g | g
          · subst g
            show Nat.testBit (M i) y.i = true ∨ _
            rw [hMi]
            exact okRec_spec hok y hy
          · exact q7 x g y (List.mem_cons_of_mem _ hy)
      have fin : stepV P K all o nid t h = (opA P K (evalO t) o.op nid).fx h [] [] → ((opA P K (evalO t) o.op nid).runF h [] [] fun a h' rd wr =>
          bif okRec all (maskL ms o.after.toList) ⟨i, o, rd, wr⟩ done && ownW all (maskL ms o.after.toList) base nid (slots o.op) wr then opsD P K all base (ms ++ [maskL ms o.after.toList]) (⟨i, o, rd, wr⟩ :: done) l (i + 1) (nid + slots o.op) (putA t o.dst a) h' k else none) = some r → DRes P K all base k r (o :: l) i nid t h ms done := fun hv e => by
        rw [HM.runF_fx] at e
        cases hx : (opA P K (evalO t) o.op nid).fx h [] [] with
        | none => rw [hx] at e; cases e
        | some p =>
          rw [hx] at e
          obtain ⟨av, h1, rd, wr⟩ := p
          simp only [Option.bind_some] at e
          cases hq : (okRec all (maskL ms o.after.toList) ⟨i, o, rd, wr⟩ done && ownW all (maskL ms o.after.toList) base nid (slots o.op) wr) with
          | false => rw [hq] at e; cases e
          | true =>
            rw [hq] at e
            simp only [Bool.and_eq_true] at hq
            exact main av h1 rd wr (by rw [hv, hx]) hq.1 hq.2 e
      cases hg : o.guard with
      | none =>
        rw [hg] at e
        exact fin (by unfold stepV; rw [hg]) e
      | some gd =>
        obtain ⟨j, want⟩ := gd
        rw [hg] at e
        simp only at e
        cases hv : gval all t j <;> rw [hv] at e <;> (try simp only at e) <;> try (cases e; done)
        rename_i u b
        cases u <;> (try simp only at e) <;> try (cases e; done)
        cases hw : (bif want then b else !b) with
        | true =>
          rw [hw] at e
          exact fin (by unfold stepV; rw [hg]; simp only [hv, hw, cond_true]) e
        | false =>
          rw [hw] at e
          simp only [cond_false] at e
          cases hq : okRec all (maskL ms o.after.toList) ⟨i, o, [], []⟩ done with
          | false => rw [hq] at e; cases e
          | true =>
            rw [hq] at e
            exact main .undef h [] [] (by unfold stepV; rw [hg]; simp only [hv, hw, cond_false]) hq rfl e
end
end Go.Ab
