import Derived.Test.YtjmikonopapihaaAbCall4
/-
  AB: calls.
-/
namespace Go.Ab
set_option linter.unusedSimpArgs false
def SpecOk (P : Program) (f : FuncId) (s : Spec) : Prop := ∀ (c : Cx) (x : ElA s.ia × ElH s.ih) (y : ElA s.oa × ElH s.oh) (vs : List Value), Sim c → c.H = encH s.ih x.2 → RepVs c (encA s.ia x.1) vs → s.F x = some y →
  ∀ next : Value → World → Prop, (∀ c' v, Fr c c' → Kp c c' → Sim c' → c'.H = encH s.oh y.2 → RepV c' (single (encA s.oa y.1)) v → next v c'.w) → Goes P next ((callFunc f vs.toArray).run P c.w)
def setL {α : Type} : List Nat → List α → List α → List α
  | i :: r, o :: os, h => setL r os (h.set i o)
  | _, _, h => h
theorem setL_len {α : Type} : ∀ (l : List Nat) (os h : List α), (setL l os h).length = h.length
  | [], _, _ => rfl
  | i :: r, [], _ => rfl
  | i :: r, o :: os, h => by show (setL r os _).length = _; rw [setL_len r os]; simp
theorem setL_off {α : Type} : ∀ (l : List Nat) (os h : List α) (i : Nat), i ∉ l → (setL l os h)[i]? = h[i]?
  | [], _, _, _, _ => rfl
  | j :: r, [], _, _, _ => rfl
  | j :: r, o :: os, h, i, hi => by
    show (setL r os _)[i]? = _
    rw [setL_off r os _ i (fun hm => hi (List.mem_cons_of_mem _ hm))]
    exact List.getElem?_set_ne (fun (e : j = i) => hi (by rw [← e]; exact List.mem_cons_self ..))
theorem setL_on {α : Type} : ∀ (l : List Nat) (os h : List α), l.Nodup → l.length = os.length → (∀ i ∈ l, i < h.length) → ∀ (p i : Nat), l[p]? = some i → (setL l os h)[i]? = os[p]?
  | [], _, _, _, _, _, p, i, hp => by simp at hp
  | j :: r, [], _, _, hl, _, _, _, _ => by simp at hl
  | j :: r, o :: os, h, hn, hl, hb, p, i, hp => by
    show (setL r os _)[i]? = _
    cases p with
    | zero =>
      simp at hp
      subst hp
      rw [setL_off r os _ j (List.nodup_cons.1 hn).1]
      rw [List.getElem?_set_self (hb j (List.mem_cons_self ..))]
      rfl
    | succ p => exact setL_on r os _ (List.nodup_cons.1 hn).2 (by simpa using hl) (fun k hk => by rw [List.length_set]; exact hb k (List.mem_cons_of_mem _ hk)) p i hp
theorem setAll_ex : ∀ {l : List Nat} {os h h' : List HO} {u : Unit}, (setAll l os).ex h = some (u, h') → l.length = os.length ∧ h' = setL l os h
  | [], [], h, h', u, e => by cases e; exact ⟨rfl, rfl⟩
  | [], _ :: _, h, h', u, e => by cases e
  | _ :: _, [], h, h', u, e => by cases e
  | i :: r, o :: os, h, h', u, e => by
    obtain ⟨_, _, hr⟩ := HM.run_set e
    obtain ⟨h1, h2⟩ := setAll_ex (l := r) (os := os) hr
    exact ⟨by simp [h1], h2⟩
theorem newIds_eq : ∀ (m nid : Nat), newIds nid m = List.range' nid m
  | 0, _ => rfl
  | m + 1, nid => by show nid :: newIds (nid + 1) m = _; rw [newIds_eq m, List.range'_succ]
theorem upAll_spec : ∀ {os n0 ns : List HO}, upAll os n0 = some ns → os.length ≤ n0.length ∧ ns.length = n0.length ∧
    (∀ (p : Nat) (o o4 : HO), os[p]? = some o → n0[p]? = some o4 → ∃ n, ns[p]? = some n ∧ upO o o4 = some n) ∧ (∀ p, os.length ≤ p → ns[p]? = n0[p]?)
  | [], n0, ns, h => by cases h; exact ⟨Nat.zero_le _, rfl, fun p o o4 h => by simp at h, fun _ _ => rfl⟩
  | o :: os, [], ns, h => by cases h
  | o :: os, n :: n0, ns, h => by
    simp only [upAll] at h
    cases h1 : upO o n with
    | none => rw [h1] at h; cases h
    | some x =>
      cases h2 : upAll os n0 with
      | none => rw [h1, h2] at h; cases h
      | some r =>
        rw [h1, h2] at h
        cases h
        obtain ⟨q1, q2, q3, q4⟩ := upAll_spec h2
        refine ⟨by simp; exact q1, by simp [q2], fun p o' o4 a b => ?_, fun p hp => ?_⟩
        · cases p with
          | zero => simp at a b; subst a; subst b; exact ⟨x, rfl, h1⟩
          | succ p => exact q3 p o' o4 a b
        · cases p with
          | zero => simp at hp
          | succ p => exact q4 p (by simpa using hp)
theorem encH_shape : ∀ {p : HP} {x : ElH p} {i : Nat} {o : HO}, (encH p x)[i]? = some o → (∃ a, o = .box a) ∨ (∃ e u fn xs, o = .row e 0 u fn xs) ∨ o = .dead 0
  | .nil, x, i, o, h => by simp [encH] at h
  | .box a r, x, i, o, h => by
    cases i with
    | zero => simp [encH] at h; exact .inl ⟨_, h.symm⟩
    | succ i => exact encH_shape (p := r) h
  | .row e u fn r, x, i, o, h => by
    cases i with
    | zero => simp [encH] at h; exact .inr (.inl ⟨_, _, _, _, h.symm⟩)
    | succ i => exact encH_shape (p := r) h
  | .skip r, x, i, o, h => by
    cases i with
    | zero => simp [encH] at h; exact .inr (.inr h.symm)
    | succ i => exact encH_shape (p := r) h
theorem encH_len : ∀ (p : HP) (x : ElH p), (encH p x).length = hlen p
  | .nil, _ => rfl
  | .box a r, x => by simp [encH, hlen, encH_len r]
  | .row e u fn r, x => by simp [encH, hlen, encH_len r]
  | .skip r, x => by simp [encH, hlen, encH_len r]
theorem upO_upTo {o o4 n : HO} (h : upO o o4 = some n) (hs : (∃ a, o4 = .box a) ∨ (∃ e u fn xs, o4 = .row e 0 u fn xs) ∨ o4 = .dead 0) : UpTo o4 n ∧
    (o.ver ≤ n.ver ∧ (n.ver = o.ver → n.live = true → o.live = true ∧ n.sk = o.sk) ∧ (n.ver = o.ver → n.isBox = true) ∧ (n.isBox = true → o.isBox = true)) := by
  rcases hs with ⟨a, rfl⟩ | ⟨e, u, fn, xs, rfl⟩ | rfl
  · cases o <;> simp only [upO] at h <;> try (cases h; done)
    rename_i x
    cases hb : Sk.eqb x.sk a.sk with
    | false => rw [hb] at h; simp at h
    | true =>
      rw [hb] at h
      simp at h
      subst h
      exact ⟨.box, Nat.le_refl _, fun _ _ => ⟨rfl, (Sk.eqb_eq hb).symm⟩, fun _ => rfl, fun _ => rfl⟩
  · cases o <;> simp only [upO] at h <;> try (cases h; done)
    rename_i e' v u' fn' xs'
    cases h
    exact ⟨.row, Nat.le_succ v, fun q => absurd q (Nat.succ_ne_self v), fun q => absurd q (Nat.succ_ne_self v), fun q => by cases q⟩
  · have h' : n = .dead (o.ver + 1) := by cases o <;> (simp only [upO] at h; cases h; rfl)
    subst h'
    exact ⟨.dead, Nat.le_succ o.ver, fun q => absurd q (Nat.succ_ne_self o.ver), fun q => absurd q (Nat.succ_ne_self o.ver), fun q => by cases q⟩
theorem firstS_some {as : AV} {ids : List Nat} {os : List HO} {nid : Nat} {R : Type} {h : List HO} {k : AV → List HO → Option R} {r : R} : ∀ {l : List Spec}, (firstS as ids os nid l).run h k = some r →
    ∃ s ∈ l, ∃ m, callS s as ids os nid = some m ∧ m.run h k = some r
  | [], e => by cases e
  | s :: l, e => by
    simp only [firstS] at e
    cases hm : callS s as ids os nid with
    | none =>
      rw [hm] at e
      obtain ⟨s', h1, h2⟩ := firstS_some e
      exact ⟨s', List.mem_cons_of_mem _ h1, h2⟩
    | some m => rw [hm] at e; exact ⟨s, List.mem_cons_self .., m, hm, e⟩
/-- values beside one another, some of them nothing -/
def RepVV (c : Cx) : AV → List Value → Prop
  | .nil, vs => vs = []
  | .cons a b, vs => ∃ v r, vs = v :: r ∧ RepV c a v ∧ RepVV c b r
  | _, _ => False
theorem RepVV.mono {c c' : Cx} (hm : Mn c c') : ∀ {a : AV} {vs : List Value}, RepVV c a vs → RepVV c' a vs
  | .nil, _, h => h
  | .cons _ _, _, ⟨v, r, h, h1, h2⟩ => ⟨v, r, h, h1.mono hm, RepVV.mono hm h2⟩
theorem caps_vv {c : Cx} : ∀ {caps : AV} {cs : List Value}, chOk caps = true → RepA c caps cs → RepVV c (chain (unchain caps)) cs
  | .nil, cs, _, h => h
  | .cons a b, cs, hc, ⟨x, y, e, h1, h2⟩ => by
    simp only [chOk, Bool.and_eq_true, Bool.not_eq_true'] at hc
    obtain ⟨⟨g1, g2⟩, g3⟩ := hc
    have hl : x.length = 1 := by
      rw [h1.length]
      unfold AV.isAgg at g1
      unfold AV.csz
      cases hk : a.sk <;> simp [hk, Sk.isAgg, Sk.isBad, Sk.csz] at g1 g2 ⊢
    obtain ⟨v, hv⟩ : ∃ v, x = [v] := by
      match x, hl with
      | [v], _ => exact ⟨v, rfl⟩
    subst hv
    refine ⟨v, y, e, repV_of g2 ?_, caps_vv g3 h2⟩
    unfold RepV1
    rw [g1]
    exact h1
  | .v _ _, _, h, _ | .nsl, _, h, _ | .nptr, _, h, _ | .ptr _ _ _, _, h, _ | .pv _ _, _, h, _ | .hs _ _, _, h, _ | .fn _ _, _, h, _ | .sv _ _ _ _ _, _, h, _ | .nfn, _, h, _ | .tup _, _, h, _ | .undef, _, h, _ => by cases h
theorem args_vv {c : Cx} {ρ : Operand → AV} {ρ' : Operand → Value} (hρ : ∀ x, RepV c (ρ x) (ρ' x)) {l2 : List AV} {cs : List Value} (h2 : RepVV c (chain l2) cs) : ∀ (l : List Operand), RepVV c (chain (l.map ρ ++ l2)) (l.map ρ' ++ cs)
  | [] => h2
  | x :: l => ⟨ρ' x, l.map ρ' ++ cs, rfl, hρ x, args_vv hρ h2 l⟩
theorem frz_vv : ∀ {p : AP} {c : Cx}, Sim c → p.isCh = true → ∀ {a a' : AV} {vs : List Value}, RepVV c a vs → ∀ {h' : List HO}, (frzP p a).ex c.H = some (a', h') → ∃ c', Fz c c' ∧ c'.H = h' ∧ RepVV c' a' vs
  | .nil, c, hs, _, a, a', vs, ha, h', e => by cases a <;> (simp only [frzP] at e; cases e; exact ⟨c, Fz.refl hs, rfl, ha⟩)
  | .cons p q, c, hs, hc, a, a', vs, ha, h', e => by
    cases a <;> simp only [frzP] at e <;> try (cases e; exact ⟨c, Fz.refl hs, rfl, ha⟩)
    obtain ⟨a1, h1, e1, e2⟩ := HM.ex_bind_some e
    obtain ⟨b1, h2, e3, e4⟩ := HM.ex_bind_some e2
    have := HM.ex_ret e4
    cases this
    obtain ⟨v, r, hvr, hv, hr⟩ := ha
    obtain ⟨c1, z1, t1, r1, _⟩ := frzP_exV hs hv e1
    subst t1
    obtain ⟨c2, z2, t2, r2⟩ := frz_vv (p := q) z1.sim hc (hr.mono z1.mn) e3
    exact ⟨c2, z1.trans z2, t2, v, r, hvr, r1.mono z2.mn, r2⟩
  | .val _, _, _, hc, _, _, _, _, _, _ | .ptr _, _, _, hc, _, _, _, _, _, _ | .nptr, _, _, hc, _, _, _, _, _, _ | .hs _, _, _, hc, _, _, _, _, _, _ | .fn _ _, _, _, hc, _, _, _, _, _, _ => by cases hc
theorem dec_vs {c c1 : Cx} {f : Nat → Nat} {os : List HO} {hp : HP} (hr : Recode c c1 f os hp) : ∀ {p : AP} {a : AV} {x : ElA p} {vs : List Value}, p.isCh = true → decA hp os p (a.ren f zeroN) = some x → RepVV c a vs → RepVs c1 (encA p x) vs
  | .nil, a, x, vs, _, h, ha => by
    cases a <;> simp only [decA, AV.ren] at h <;> try (cases h; done)
    exact ha
  | .cons p q, a, x, vs, hc, h, ha => by
    cases a <;> simp only [decA, AV.ren] at h <;> try (cases h; done)
    rename_i a b
    obtain ⟨v, r, e, h1, h2⟩ := ha
    cases hp1 : decA hp os p (a.ren f zeroN) with
    | none => rw [hp1] at h; cases h
    | some x1 =>
      cases hp2 : decA hp os q (b.ren f zeroN) with
      | none => rw [hp1, hp2] at h; cases h
      | some x2 =>
        rw [hp1, hp2] at h
        cases h
        exact ⟨v, r, e, repV1_of (Sk.noBad_isBad encA_bad) (decA_repV hr hp1 h1), dec_vs hr hc hp2 h2⟩
  | .val _, _, _, _, hc, _, _ | .ptr _, _, _, _, hc, _, _ | .nptr, _, _, _, hc, _, _ | .hs _, _, _, _, hc, _, _ | .fn _ _, _, _, _, hc, _, _ => by cases hc
theorem single_ren (f g : Nat → Nat) (a : AV) : single (a.ren f g) = (single a).ren f g := by
  cases a <;> try rfl
  rename_i a b
  cases b <;> rfl
end Go.Ab
