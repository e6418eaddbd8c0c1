import Derived.Test.YtjmikonopapihaaAbCall2
/-
  AB: freezing by a pattern; what can be reached.
-/
namespace Go.Ab
set_option linter.unusedSimpArgs false
theorem HM.ex_bind {α β : Type} (m : HM α) (f : α → HM β) (h : List HO) : (m.bind f).ex h = (m.ex h).bind fun p => (f p.1).ex p.2 := by
  unfold HM.ex
  rw [HM.run_bind, HM.run_ex m]
  rfl
theorem HM.ex_bind_some {α β : Type} {m : HM α} {f : α → HM β} {h : List HO} {r : β × List HO} (e : (m.bind f).ex h = some r) : ∃ a h1, m.ex h = some (a, h1) ∧ (f a).ex h1 = some r := by
  rw [HM.ex_bind] at e
  cases hm : m.ex h with
  | none => rw [hm] at e; cases e
  | some p => rw [hm] at e; exact ⟨p.1, p.2, rfl, e⟩
theorem HM.ex_ret {α : Type} {a : α} {h : List HO} {r : α × List HO} (e : (HM.ret a).ex h = some r) : r = (a, h) := by cases e; rfl
theorem unhs_boxes : ∀ {a a' : AV} {h h' : List HO}, (unhs a).ex h = some (a', h') → ∀ (i : Nat) (b : AV), h[i]? = some (.box b) → h'[i]? = some (.box b)
  | .cons a b, a', h, h', e, i, x, hi => by
    obtain ⟨a1, h1, e1, e2⟩ := HM.ex_bind_some e
    obtain ⟨b1, h2, e3, e4⟩ := HM.ex_bind_some e2
    have := HM.ex_ret e4
    cases this
    exact unhs_boxes e3 i x (unhs_boxes e1 i x hi)
  | .hs id ver, a', h, h', e, i, x, hi => by
    obtain ⟨o, ho, _, hr⟩ := HM.run_get e
    cases o <;> (try simp only at hr) <;> try (cases hr; done)
    case row e' ver' u fn xs =>
      split at hr
      · obtain ⟨_, _, hr⟩ := HM.run_set hr
        cases hr
        by_cases hq : id = i
        · subst hq; rw [ho] at hi; cases hi
        · rw [List.getElem?_set_ne hq]; exact hi
      · cases hr
    case frz ver' u cc =>
      split at hr
      · cases hr; exact hi
      · cases hr
  | .v _ _, a', h, h', e, i, x, hi | .nsl, a', h, h', e, i, x, hi | .nptr, a', h, h', e, i, x, hi | .ptr _ _ _, a', h, h', e, i, x, hi | .pv _ _, a', h, h', e, i, x, hi
  | .fn _ _, a', h, h', e, i, x, hi | .sv _ _ _ _ _, a', h, h', e, i, x, hi | .nfn, a', h, h', e, i, x, hi | .nil, a', h, h', e, i, x, hi | .tup _, a', h, h', e, i, x, hi | .undef, a', h, h', e, i, x, hi => by
    cases e; exact hi
theorem frzP_boxes : ∀ {p : AP} {a a' : AV} {h h' : List HO}, (frzP p a).ex h = some (a', h') → ∀ (i : Nat) (b : AV), h[i]? = some (.box b) → h'[i]? = some (.box b)
  | .val _, a, a', h, h', e, i, x, hi => unhs_boxes e i x hi
  | .cons p q, a, a', h, h', e, i, x, hi => by
    cases a <;> simp only [frzP] at e <;> try (cases e; exact hi)
    obtain ⟨a1, h1, e1, e2⟩ := HM.ex_bind_some e
    obtain ⟨b1, h2, e3, e4⟩ := HM.ex_bind_some e2
    have := HM.ex_ret e4
    cases this
    exact frzP_boxes e3 i x (frzP_boxes e1 i x hi)
  | .fn _ p, a, a', h, h', e, i, x, hi => by
    cases a <;> simp only [frzP] at e <;> try (cases e; exact hi)
    obtain ⟨a1, h1, e1, e2⟩ := HM.ex_bind_some e
    have := HM.ex_ret e2
    cases this
    exact frzP_boxes e1 i x hi
  | .ptr _, a, a', h, h', e, i, x, hi | .nptr, a, a', h, h', e, i, x, hi | .hs _, a, a', h, h', e, i, x, hi | .nil, a, a', h, h', e, i, x, hi => by
    cases a <;> (simp only [frzP] at e; cases e; exact hi)
/-- nothing is written; what is frozen is read as data -/
structure Fz (c c' : Cx) : Prop where
  fr : Fr c c'
  mn : Mn c c'
  sim : Sim c'
  w : c'.w = c.w
  len : c'.H.length = c.H.length
  holes : Holes c c'
theorem Fz.refl {c : Cx} (hs : Sim c) : Fz c c := ⟨Fr.refl c, Mn.refl c, hs, rfl, rfl, fun _ h => h⟩
theorem Fz.trans {a b c : Cx} (h : Fz a b) (k : Fz b c) : Fz a c := ⟨h.fr.trans k.fr, h.mn.trans k.mn, k.sim, k.w.trans h.w, k.len.trans h.len, fun i hi => k.holes i (h.holes i hi)⟩
theorem unhs_ex {c : Cx} (hs : Sim c) {a a' : AV} {cs : List Value} (ha : RepA c a cs) {h' : List HO} (e : (unhs a).ex c.H = some (a', h')) : ∃ c', Fz c c' ∧ c'.H = h' ∧ RepA c' a' cs ∧ a'.sk = a.sk := by
  obtain ⟨c1, a1, f1, m1, s1, w1, ⟨l1, o1⟩, r1, k1, hk⟩ := unhs_okA hs ha e
  cases hk
  exact ⟨c1, ⟨f1, m1, s1, w1, l1, o1⟩, rfl, r1, k1⟩
theorem unhs_exV {c : Cx} (hs : Sim c) {a a' : AV} {v : Value} (ha : RepV c a v) {h' : List HO} (e : (unhs a).ex c.H = some (a', h')) : ∃ c', Fz c c' ∧ c'.H = h' ∧ RepV c' a' v ∧ a'.sk = a.sk := by
  obtain ⟨c1, a1, f1, m1, s1, w1, ⟨l1, o1⟩, r1, k1, hk⟩ := unhs_ok hs ha e
  cases hk
  exact ⟨c1, ⟨f1, m1, s1, w1, l1, o1⟩, rfl, r1, k1⟩
theorem frzP_ex : ∀ {p : AP} {c : Cx}, Sim c → ∀ {a a' : AV} {cs : List Value}, RepA c a cs → ∀ {h' : List HO}, (frzP p a).ex c.H = some (a', h') → ∃ c', Fz c c' ∧ c'.H = h' ∧ RepA c' a' cs ∧ a'.sk = a.sk
  | .val _, c, hs, a, a', cs, ha, h', e => unhs_ex hs ha e
  | .cons p q, c, hs, a, a', cs, ha, h', e => by
    cases a <;> simp only [frzP] at e <;> try (cases e; exact ⟨c, Fz.refl hs, rfl, ha, rfl⟩)
    obtain ⟨a1, h1, e1, e2⟩ := HM.ex_bind_some e
    obtain ⟨b1, h2, e3, e4⟩ := HM.ex_bind_some e2
    have := HM.ex_ret e4
    cases this
    obtain ⟨x, y, hxy, hx, hy⟩ := ha
    obtain ⟨c1, z1, t1, r1, k1⟩ := frzP_ex hs hx e1
    subst t1
    obtain ⟨c2, z2, t2, r2, k2⟩ := frzP_ex z1.sim (hy.mono z1.mn) e3
    exact ⟨c2, z1.trans z2, t2, ⟨x, y, hxy, r1.mono z2.mn, r2⟩, by show Sk.cons _ _ = Sk.cons _ _; rw [k1, k2]⟩
  | .fn _ p, c, hs, a, a', cs, ha, h', e => by
    cases a <;> simp only [frzP] at e <;> try (cases e; exact ⟨c, Fz.refl hs, rfl, ha, rfl⟩)
    obtain ⟨a1, h1, e1, e2⟩ := HM.ex_bind_some e
    have := HM.ex_ret e2
    cases this
    obtain ⟨vs, h3, h4⟩ := ha
    obtain ⟨c1, z1, t1, r1, k1⟩ := frzP_ex hs h4 e1
    exact ⟨c1, z1, t1, ⟨vs, h3, r1⟩, rfl⟩
  | .ptr _, c, hs, a, a', cs, ha, h', e | .nptr, c, hs, a, a', cs, ha, h', e | .hs _, c, hs, a, a', cs, ha, h', e | .nil, c, hs, a, a', cs, ha, h', e => by
    cases a <;> (simp only [frzP] at e; cases e; exact ⟨c, Fz.refl hs, rfl, ha, rfl⟩)
theorem frzP_sk : ∀ {p : AP} {a a' : AV} {h h' : List HO}, (frzP p a).ex h = some (a', h') → a.sk.isBad = true → a' = a
  | .val _, a, a', h, h', e, hb => by cases a <;> first | (simp [AV.sk, Sk.isBad] at hb; done) | (cases e; rfl) | (rename_i u _; cases u <;> simp [AV.sk, Ty.sk, Sk.isBad] at hb)
  | .cons p q, a, a', h, h', e, hb => by
    cases a <;> first | (simp [AV.sk, Sk.isBad] at hb; done) | (simp only [frzP] at e; cases e; rfl)
  | .fn _ p, a, a', h, h', e, hb => by
    cases a <;> first | (simp [AV.sk, Sk.isBad] at hb; done) | (simp only [frzP] at e; cases e; rfl)
  | .ptr _, a, a', h, h', e, hb | .nptr, a, a', h, h', e, hb | .hs _, a, a', h, h', e, hb | .nil, a, a', h, h', e, hb => by
    cases a <;> (simp only [frzP] at e; cases e; rfl)
theorem frzP_exV {p : AP} {c : Cx} (hs : Sim c) {a a' : AV} {v : Value} (ha : RepV c a v) {h' : List HO} (e : (frzP p a).ex c.H = some (a', h')) : ∃ c', Fz c c' ∧ c'.H = h' ∧ RepV c' a' v ∧ a'.sk = a.sk := by
  cases hb : a.sk.isBad with
  | true =>
    have e1 := frzP_sk e hb
    subst e1
    have : h' = c.H := by
      cases p with
      | val u => cases a' <;> first | (simp [AV.sk, Sk.isBad] at hb; done) | (cases e; rfl) | (rename_i u _; cases u <;> simp [AV.sk, Ty.sk, Sk.isBad] at hb)
      | cons p q => cases a' <;> first | (simp [AV.sk, Sk.isBad] at hb; done) | (simp only [frzP] at e; cases e; rfl)
      | fn f p => cases a' <;> first | (simp [AV.sk, Sk.isBad] at hb; done) | (simp only [frzP] at e; cases e; rfl)
      | _ => cases a' <;> (simp only [frzP] at e; cases e; rfl)
    exact ⟨c, Fz.refl hs, this.symm, ha, rfl⟩
  | false =>
    have h1 := repV1_of hb ha
    unfold RepV1 at h1
    cases hag : a.isAgg with
    | true =>
      rw [hag] at h1
      obtain ⟨cs, hv, h2⟩ := h1
      obtain ⟨c1, z1, t1, r1, k1⟩ := frzP_ex hs h2 e
      refine ⟨c1, z1, t1, repV_of (by rw [k1]; exact hb) ?_, k1⟩
      have : a'.isAgg = true := by rw [← hag]; unfold AV.isAgg; rw [k1]
      unfold RepV1
      rw [this]
      exact ⟨cs, hv, r1⟩
    | false =>
      rw [hag] at h1
      obtain ⟨c1, z1, t1, r1, k1⟩ := frzP_ex hs h1 e
      refine ⟨c1, z1, t1, repV_of (by rw [k1]; exact hb) ?_, k1⟩
      have : a'.isAgg = false := by rw [← hag]; unfold AV.isAgg; rw [k1]
      unfold RepV1
      rw [this]
      exact r1
/-- an object's text by another name -/
theorem recontent {c : Cx} (hs : Sim c) {i : Nat} {x y : AV} {v : Value} (ho : c.H[i]? = some (.box x)) (hv : c.σ[i]? = some v) {b : Nat} {cs : Array Value} {T : TypeId}
    (h1 : v = .pointer (some ⟨b, 0, none⟩)) (h2 : c.w.heap[b]? = some (.cells cs T (0, 0))) (h3 : RepA c y cs.toList) (h4 : y.sk = x.sk) (h5 : x.sk.noBad = true) : Fz c ⟨c.S, c.σ.set i v, c.H.set i (.box y), c.w⟩ := by
  have hlive : ∀ b, (HO.box x).blk v = some b → c.live b := fun b hb => ⟨i, _, v, ho, hv, hb⟩
  obtain ⟨f1, f2, f3⟩ := upd hs ho hv (.box y) v c.S c.w (fun _ h => h) (fun _ h => .inl h) (Nat.le_refl _) rfl rfl rfl (fun _ _ _ => rfl)
    (fun b hb => ⟨.inl hb, hs.ltl b (hlive b hb), hs.out b (hlive b hb)⟩) hs.lt (fun _ => ⟨rfl, Nat.le_refl _, fun _ => ⟨rfl, fun _ => ⟨rfl, h4⟩⟩, fun _ => ⟨rfl, rfl⟩⟩)
    (fun hm => ⟨b, cs, T, h1, h2, h3.mono hm, by rw [h4]; exact h5⟩)
  refine ⟨f1, f2, f3, rfl, by simp, fun j hj => ?_⟩
  show (c.H.set i _)[j]? = _
  by_cases e : i = j
  · subst e; rw [ho] at hj; cases hj
  · rw [List.getElem?_set_ne e]; exact hj
theorem frzH_ex : ∀ {hp : HP} {ids : List Nat} {c : Cx}, Sim c → ∀ {h' : List HO} {u : Unit}, (frzH hp ids).ex c.H = some (u, h') → ∃ c', Fz c c' ∧ c'.H = h'
  | .nil, ids, c, hs, h', u, e => by
    cases ids <;> (simp only [frzH] at e; cases e; exact ⟨c, Fz.refl hs, rfl⟩)
  | .row _ _ _ r, ids, c, hs, h', u, e => by
    cases ids with
    | nil => cases e
    | cons i ids => exact frzH_ex (hp := r) hs e
  | .skip r, ids, c, hs, h', u, e => by
    cases ids with
    | nil => cases e
    | cons i ids => exact frzH_ex (hp := r) hs e
  | .box a r, ids, c, hs, h', u, e => by
    cases ids with
    | nil => cases e
    | cons i ids =>
      obtain ⟨o, ho, _, hr⟩ := HM.run_get e
      cases o <;> (try simp only at hr) <;> try (cases hr; done)
      rename_i x _
      obtain ⟨y, h1, e1, e2⟩ := HM.ex_bind_some hr
      obtain ⟨o2, ho2, hr2⟩ := HM.run_set e2
      have hlt : i < c.σ.length := by rw [hs.len]; exact lt_of_get ho
      have hv := List.getElem?_eq_getElem hlt
      obtain ⟨b, cs, T, g1, g2, g3, g4⟩ := hs.obj i _ _ ho hv
      obtain ⟨c1, z1, t1, r1, k1⟩ := frzP_ex hs g3 e1
      subst t1
      have hb1 := frzP_boxes e1 i x ho
      obtain ⟨o', v', m1, m2, m3, m4, m5, m6⟩ := z1.mn.objs i _ _ ho hv rfl
      rw [hb1] at m1; cases m1
      obtain ⟨_, e5⟩ := m6 rfl
      rw [e5] at m2
      have z2 := recontent z1.sim hb1 m2 g1 (by rw [z1.w]; exact g2) r1 k1 g4
      obtain ⟨c3, z3, t3⟩ := frzH_ex (hp := r) z2.sim hr2
      exact ⟨c3, z1.trans (z2.trans z3), t3⟩
/-- an object with its frozen slices -/
theorem resM_ex {c : Cx} (hs : Sim c) : ∀ {a a' : AV} {h' : List HO}, (resM a).ex c.H = some (a', h') → h' = c.H ∧ a'.sk = a.sk ∧ ∀ cs, RepA c a cs → RepA c a' cs
  | .cons a b, a', h', e => by
    obtain ⟨a1, h1, e1, e2⟩ := HM.ex_bind_some e
    obtain ⟨b1, h2, e3, e4⟩ := HM.ex_bind_some e2
    have := HM.ex_ret e4
    cases this
    obtain ⟨p1, p2, p3⟩ := resM_ex hs e1
    subst p1
    obtain ⟨q1, q2, q3⟩ := resM_ex hs e3
    subst q1
    exact ⟨rfl, by show Sk.cons _ _ = Sk.cons _ _; rw [p2, q2], fun cs ⟨x, y, hxy, hx, hy⟩ => ⟨x, y, hxy, p3 x hx, q3 y hy⟩⟩
  | .hs id ver, a', h', e => by
    obtain ⟨o, ho, hh, hr⟩ := HM.run_get e
    cases o <;> (try simp only at hr) <;> try (cases hr; done)
    case frz v u cc =>
      cases hb : Nat.beq ver v with
      | false => rw [hb] at hr; cases hr; exact ⟨rfl, rfl, fun _ h => h⟩
      | true =>
        rw [hb] at hr
        cases hr
        refine ⟨rfl, rfl, fun cs h => ?_⟩
        obtain ⟨o', v', k1, k2, k3, k4, k5, k6⟩ := h
        rw [ho] at k1; cases k1
        rw [k6 (beq_nat hb).symm]
        exact hs.obj id _ v' ho k2
    all_goals (cases hr; exact ⟨rfl, rfl, fun _ h => h⟩)
  | .v _ _, a', h', e | .nsl, a', h', e | .nptr, a', h', e | .ptr _ _ _, a', h', e | .pv _ _, a', h', e | .fn _ _, a', h', e | .sv _ _ _ _ _, a', h', e | .nfn, a', h', e | .nil, a', h', e | .tup _, a', h', e | .undef, a', h', e => by
    cases e; exact ⟨rfl, rfl, fun _ h => h⟩
def ResO (c : Cx) (o o' : HO) : Prop := (o.isBox = false ∧ o' = o) ∨ ∃ a a', o = .box a ∧ o' = .box a' ∧ a'.sk = a.sk ∧ ∀ cs, RepA c a cs → RepA c a' cs
theorem resO_ex {c : Cx} (hs : Sim c) {o o' : HO} {h' : List HO} (e : (resO o).ex c.H = some (o', h')) : h' = c.H ∧ ResO c o o' := by
  cases o with
  | box a =>
    obtain ⟨a1, h1, e1, e2⟩ := HM.ex_bind_some e
    have := HM.ex_ret e2
    cases this
    obtain ⟨p1, p2, p3⟩ := resM_ex hs e1
    exact ⟨p1, .inr ⟨a, a1, rfl, rfl, p2, p3⟩⟩
  | _ => cases e; exact ⟨rfl, .inl ⟨rfl, rfl⟩⟩
theorem objsM_ex {c : Cx} (hs : Sim c) : ∀ {ids : List Nat} {os : List HO} {h' : List HO}, (objsM ids).ex c.H = some (os, h') → h' = c.H ∧ os.length = ids.length ∧
    ∀ (p id : Nat), ids[p]? = some id → ∃ o o', c.H[id]? = some o ∧ os[p]? = some o' ∧ o.isHole = false ∧ ResO c o o'
  | [], os, h', e => by cases e; exact ⟨rfl, rfl, fun p id h => by simp at h⟩
  | i :: ids, os, h', e => by
    obtain ⟨o, ho, hh, hr⟩ := HM.run_get e
    obtain ⟨o', h1, e1, e2⟩ := HM.ex_bind_some hr
    obtain ⟨p1, p2⟩ := resO_ex hs e1
    subst p1
    obtain ⟨os', h2, e3, e4⟩ := HM.ex_bind_some e2
    obtain ⟨q1, q2, q3⟩ := objsM_ex hs e3
    have := HM.ex_ret e4
    cases this
    refine ⟨q1, by simp [q2], fun p id h => ?_⟩
    cases p with
    | zero => simp at h; subst h; exact ⟨o, o', ho, rfl, hh, p2⟩
    | succ p => exact q3 p id h
theorem memN_false {n : Nat} : ∀ {l : List Nat}, memN n l = false → n ∉ l
  | [], _ => by simp
  | m :: r, h => by
    simp only [memN, Bool.or_eq_false_iff] at h
    intro hm
    rcases List.mem_cons.1 hm with e | e
    · subst e
      have := h.1
      rw [Nat.beq_refl] at this
      cases this
    · exact memN_false h.2 e
theorem reach_ex {c : Cx} (hs : Sim c) : ∀ (n : Nat) {l acc ids : List Nat} {h' : List HO}, (reach n l acc).ex c.H = some (ids, h') → h' = c.H ∧ (acc.Nodup → ids.Nodup) ∧ ∃ r, ids = acc ++ r
  | 0, _, _, _, _, e => by cases e
  | n + 1, [], acc, ids, h', e => by cases e; exact ⟨rfl, fun h => h, [], by simp⟩
  | n + 1, i :: l, acc, ids, h', e => by
    simp only [reach] at e
    cases hm : memN i acc with
    | true =>
      rw [hm] at e
      exact reach_ex hs n e
    | false =>
      rw [hm] at e
      obtain ⟨o, ho, hh, hr⟩ := HM.run_get e
      obtain ⟨o', h1, e1, e2⟩ := HM.ex_bind_some hr
      obtain ⟨p1, p2⟩ := resO_ex hs e1
      subst p1
      obtain ⟨q1, q2, r, q3⟩ := reach_ex hs n e2
      refine ⟨q1, fun hn => q2 ?_, i :: r, by rw [q3]; simp⟩
      rw [List.nodup_append]
      refine ⟨hn, by simp, fun a ha b hb => ?_⟩
      have := List.mem_singleton.1 hb
      subst this
      exact fun e => memN_false hm (e ▸ ha)
/-- the first n are themselves -/
theorem reach_range {c : Cx} (hs : Sim c) : ∀ (d n k : Nat) {l : List Nat} {ids : List Nat} {h' : List HO}, (reach n (List.range' k d ++ l) (List.range k)).ex c.H = some (ids, h') → ∃ r, ids = List.range (k + d) ++ r
  | 0, n, k, l, ids, h', e => (reach_ex hs n e).2.2
  | d + 1, 0, k, l, ids, h', e => by cases e
  | d + 1, n + 1, k, l, ids, h', e => by
    rw [List.range'_succ, List.cons_append] at e
    simp only [reach] at e
    have hm : memN k (List.range k) = false := by
      cases h : memN k (List.range k) with
      | false => rfl
      | true =>
        exfalso
        have key : ∀ (l : List Nat), memN k l = true → k ∈ l := by
          intro l
          induction l with
          | nil => intro h; cases h
          | cons m r ih =>
            intro h
            simp only [memN, Bool.or_eq_true] at h
            rcases h with h | h
            · rw [beq_nat h]; exact List.mem_cons_self ..
            · exact List.mem_cons_of_mem _ (ih h)
        have := List.mem_range.1 (key _ h)
        omega
    rw [hm] at e
    obtain ⟨o, ho, hh, hr⟩ := HM.run_get e
    obtain ⟨o', h1, e1, e2⟩ := HM.ex_bind_some hr
    obtain ⟨p1, p2⟩ := resO_ex hs e1
    subst p1
    rw [List.append_assoc, show List.range k ++ [k] = List.range (k + 1) from (List.range_succ).symm] at e2
    obtain ⟨r, hr⟩ := reach_range hs d n (k + 1) e2
    exact ⟨r, by rw [hr]; congr 2; omega⟩
theorem posN_get : ∀ {ids : List Nat} {id : Nat}, posN id ids < ids.length → ids[posN id ids]? = some id
  | [], id, h => by simp at h
  | m :: r, id, h => by
    unfold posN at h ⊢
    cases hb : Nat.beq id m with
    | true => rw [beq_nat hb]; rfl
    | false =>
      rw [hb] at h
      simp only [cond_false] at h ⊢
      exact posN_get (Nat.lt_of_succ_lt_succ (by simpa using h))
theorem posN_of : ∀ {ids : List Nat} {p id : Nat}, ids.Nodup → ids[p]? = some id → posN id ids = p
  | [], p, id, _, h => by simp at h
  | m :: r, p, id, hn, h => by
    unfold posN
    cases p with
    | zero => simp at h; subst h; rw [Nat.beq_refl]; rfl
    | succ p =>
      have h1 : r[p]? = some id := h
      have : Nat.beq id m = false := by
        cases hb : Nat.beq id m with
        | false => rfl
        | true =>
          have e := beq_nat hb
          subst e
          exact absurd (List.mem_of_getElem? h1) (List.nodup_cons.1 hn).1
      rw [this]
      simp only [cond_false]
      rw [posN_of (List.nodup_cons.1 hn).2 h1]
end Go.Ab
