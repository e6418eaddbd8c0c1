import Derived.Test.YtjmikonopapihaaAbMem
/-
  AB: one operation after the other: loads, stores, addresses.
-/
namespace Go.Ab
set_option linter.unusedSimpArgs false

def Goes (P : Program) (next : Value → World → Prop) : Result Next → Prop
  | .ok (.value v) w => next v w
  | .ok .skip w => next undef w
  | .ok (.enter f args) w => Calls P f args w fun e w' => ∃ v, e = .returned v ∧ next v w'
  | _ => False
def OpS (P : Program) (c : Cx) (m : Sem Next) (hm : HM AV) : Prop :=
  ∀ (R : Type) (k : AV → List HO → Option R) (r : R) (next : Value → World → Prop), hm.run c.H k = some r →
    (∀ c' av v, Fr c c' → Mn c c' → Sim c' → RepV c' av v → k av c'.H = some r → next v c'.w) → Goes P next (m.run P c.w)
section
variable {P : Program} {c : Cx}
/-- nothing turns -/
theorem OpS.pure {m : Sem Next} {hm : HM AV} (hs : Sim c)
    (h : ∀ (R : Type) (k : AV → List HO → Option R) (r : R), hm.run c.H k = some r → ∃ av v, m.run P c.w = .ok (.value v) c.w ∧ RepV c av v ∧ k av c.H = some r) : OpS P c m hm := by
  intro R k r next hr hk
  obtain ⟨av, v, h1, h2, h3⟩ := h R k r hr
  rw [h1]
  exact hk c av v (Fr.refl c) (Mn.refl c) hs h2 h3
theorem run_v {s : Sem Value} {v : Value} {w w' : World} (h : s.run P w = .ok v w') : (do pure (.value (← s)) : Sem Next).run P w = .ok (.value v) w' := by
  simp [h]
theorem run_u {s : Sem Unit} {w w' : World} (h : s.run P w = .ok () w') : (do s; pure .skip : Sem Next).run P w = .ok .skip w' := by
  simp [h]

/-- an object's part -/
theorem objAt {o : HO} {v : Value} {b : Nat} {path : List Nat} (ho : ObjRep c o v) (hl : o.live = true) (hb : blkOf v = some b) (hp : Sk.okP path o.sk) (hn : (o.getP path).sk.isBad = false) :
    ∃ cur T pre mid post, c.w.heap[b]? = some (.cells cur T (0, 0)) ∧ cur.toList = pre ++ (mid ++ post) ∧ pre.length = Sk.offP path o.sk ∧ RepA c (o.getP path) mid := by
  cases o with
  | hole => cases hl
  | frz _ _ _ => cases hl
  | dead _ => cases hl
  | box a =>
    obtain ⟨b', cs, T, h1, h2, h3, _⟩ := ho
    rw [h1] at hb; cases hb
    obtain ⟨pre, mid, post, e1, e2, e3, _⟩ := getP_focus path h3 hp hn
    exact ⟨cs, T, pre, mid, post, h2, e1, e2, e3⟩
  | row e ver u fn xs =>
    obtain ⟨cells, ⟨hc0, hc⟩, h2, _⟩ := ho
    rcases hc with ⟨h1, _⟩ | ⟨g, cap, cur, h1, _, h3, h4, h5, h6, h7⟩
    · rw [h1] at hb; cases hb
    · rw [h1] at hb; cases hb
      cases path with
      | nil => simp [HO.getP, AV.sk, Sk.isBad] at hn
      | cons i p =>
        have hi : i < xs.length := hp.1
        obtain ⟨pre, mid, post, e1, e2, e3, _⟩ := RepCs.focus (n := u.csz) (fun _ _ h => RepC.length h) (zero u) i hi h2
        have hr : RepA c (.v u (xs.getD i (zero u))) mid := e3
        obtain ⟨pre', mid', post', g1, g2, g3, _⟩ := getP_focus p hr hp.2 hn
        have hcur : cur.toList = cells ++ cur.toList.drop (xs.length * u.csz) := by
          conv => lhs; rw [← List.take_append_drop (xs.length * u.csz) cur.toList]
          rw [h7]
        refine ⟨cur, e, pre ++ pre', mid', post' ++ (post ++ cur.toList.drop (xs.length * u.csz)), h3, ?_, ?_, g3⟩
        · refine hcur.trans ?_
          rw [e1, g1]; simp
        · rw [List.length_append, e2, g2]; rfl
theorem repPtr {id ver : Nat} {path : List Nat} {v : Value} (h : RepV c (.ptr id ver path) v) {o : HO} (ho : c.H[id]? = some o) (hv : o.ver = ver) (hl : o.live = true) :
    ∃ v' b, c.σ[id]? = some v' ∧ blkOf v' = some b ∧ Sk.okP path o.sk ∧ v = .pointer (some ⟨b, Sk.offP path o.sk, none⟩) := by
  have h1 : RepA c (.ptr id ver path) [v] := h
  obtain ⟨o', v', h2, h3, _, _, _, h4⟩ := h1
  rw [ho] at h2; cases h2
  obtain ⟨b, k1, k2, k3⟩ := h4 hv hl
  exact ⟨v', b, h3, k1, k2, List.singleton_inj.1 k3⟩
theorem live_of_sz {o : HO} {path : List Nat} (h : (o.getP path).sk.isBad = false) : o.live = true := by
  cases o with
  | box _ => rfl
  | row _ _ _ _ _ => rfl
  | hole => cases path <;> simp [HO.getP, AV.sk, Sk.isBad] at h
  | frz _ _ _ => cases path <;> simp [HO.getP, AV.sk, Sk.isBad] at h
  | dead _ => cases path <;> simp [HO.getP, AV.sk, Sk.isBad] at h
theorem beq_nat {a b : Nat} (h : Nat.beq a b = true) : a = b := Nat.eq_of_beq_eq_true h

theorem load_ok (hs : Sim c) {t : TypeId} {p : AV} {pv : Value} (hp : RepV c p pv) : OpS P c (do pure (.value (← Instr.loadAt t pv)) : Sem Next) (loadA P t p) := by
  refine OpS.pure hs fun R k r hr => ?_
  cases p <;> simp only [loadA] at hr <;> try (cases hr; done)
  case ptr id ver path =>
    obtain ⟨o, ho, _, hr⟩ := HM.run_get hr
    obtain ⟨hb, hr⟩ := HM.run_bif hr
    simp only [Bool.and_eq_true] at hb
    obtain ⟨_, _, _, _, hbad⟩ := szOk_spec hb.2
    have hl := live_of_sz hbad
    obtain ⟨v', b, h1, h2, h3, h4⟩ := repPtr hp ho (beq_nat hb.1).symm hl
    obtain ⟨cur, T, pre, mid, post, e1, e2, e3, e4⟩ := objAt (hs.obj id o v' ho h1) hl h2 h3 hbad
    obtain ⟨v, hv, hrep⟩ := run_loadVar (P := P) hb.2 e4 (At.row e1 e2 e3)
    refine ⟨_, v, ?_, hrep, hr⟩
    subst h4
    exact run_v (by simp [Instr.loadAt, Instr.sureAddr, hv])
  case pv u x =>
    obtain ⟨hb, hr⟩ := HM.run_bif hr
    have hp' : RepA c (.pv u x) [pv] := hp
    obtain ⟨b, off, vs, h1, h2, h3, h4⟩ := hp'
    obtain ⟨v, hv, hrep⟩ := run_loadVar (P := P) (c := c) (a := .v u x) hb h3 h4
    refine ⟨_, v, ?_, hrep, hr⟩
    rw [List.singleton_inj.1 h1]
    exact run_v (by simp [Instr.loadAt, Instr.sureAddr, hv])
theorem fieldOk_spec {t : TypeId} {j off : Nat} {a : AV} (h : fieldOk P t j off a = true) :
    ∃ (fs : Array Field) (f : Field), P.underlying t = some (.struct fs) ∧ fs[j]? = some f ∧ f.offset = off ∧ szOk P f.type a = true ∧ a.csz ≠ 0 := by
  unfold fieldOk at h
  split at h
  · rename_i fs hu
    split at h
    · rename_i f hf
      simp only [Bool.and_eq_true] at h
      refine ⟨fs, f, hu, hf, beq_nat h.1.1, h.1.2, fun e => ?_⟩
      rw [e] at h
      simp at h
    · cases h
  · cases h
theorem okP_snoc : ∀ (p : List Nat) (j : Nat) (s : Sk), Sk.okP (p ++ [j]) s ↔ Sk.okP p s ∧ Sk.okF j (s.fldP p)
  | [], j, s => by simp [Sk.okP, Sk.fldP]
  | i :: p, j, s => by
    show Sk.okF i s ∧ Sk.okP (p ++ [j]) (s.fld i) ↔ (Sk.okF i s ∧ Sk.okP p (s.fld i)) ∧ Sk.okF j ((s.fld i).fldP p)
    rw [okP_snoc p j (s.fld i)]
    exact and_assoc.symm
theorem offP_snoc : ∀ (p : List Nat) (j : Nat) (s : Sk), Sk.offP (p ++ [j]) s = Sk.offP p s + (s.fldP p).foff j
  | [], j, s => by simp [Sk.offP, Sk.fldP]
  | i :: p, j, s => by
    show s.foff i + Sk.offP (p ++ [j]) (s.fld i) = s.foff i + Sk.offP p (s.fld i) + ((s.fld i).fldP p).foff j
    rw [offP_snoc p j (s.fld i), Nat.add_assoc]
theorem HO.getP_sk {o : HO} {p : List Nat} (h : (o.getP p).sk.isBad = false) : (o.getP p).sk = o.sk.fldP p := by
  cases o with
  | box a => exact Ab.getP_sk p a
  | row e ver u fn xs =>
    cases p with
    | nil => simp [HO.getP, AV.sk, Sk.isBad] at h
    | cons i p => exact Ab.getP_sk p (.v u (xs.getD i (zero u)))
  | hole => cases p <;> simp [HO.getP, AV.sk, Sk.isBad] at h
  | frz _ _ _ => cases p <;> simp [HO.getP, AV.sk, Sk.isBad] at h
  | dead _ => cases p <;> simp [HO.getP, AV.sk, Sk.isBad] at h
theorem fldC_bad {j : Nat} {a : AV} (h : (a.fldC j).sk.isBad = false) : a.sk.isBad = false ∧ (∀ n s, a.sk ≠ .arr n s) := by
  rw [fldC_sk] at h
  constructor
  · cases hk : a.sk <;> rw [hk] at h <;> first | rfl | (cases j <;> simp [Sk.fldC, Sk.isBad] at h)
  · intro n s hk
    rw [hk] at h
    cases j <;> simp [Sk.fldC, Sk.isBad] at h
theorem run_fieldPlace {f : Field} {b off : Nat} {i : TypeInfo} (hi : P.info? f.type = some i) (h0 : i.size ≠ 0) (w : World) :
    (fieldPlace ⟨b, off, none⟩ f).run P w = .ok ⟨b, off + f.offset, none⟩ w := by
  unfold fieldPlace
  simp [run_size hi, h0, add_lit]
theorem faddr_ok (hs : Sim c) {t : TypeId} {p : AV} {pv : Value} {j : Nat} (hp : RepV c p pv) : OpS P c (do pure (.value (← Instr.fieldAt t pv j)) : Sem Next) (faddrA P t p j) := by
  refine OpS.pure hs fun R k r hr => ?_
  have goes : ∀ (fs : Array Field) (f : Field) (i : TypeInfo) (b off : Nat), P.underlying t = some (.struct fs) → fs[j]? = some f → P.info? f.type = some i → i.size ≠ 0 →
      (do pure (.value (← Instr.fieldAt t (.pointer (some ⟨b, off, none⟩)) j)) : Sem Next).run P c.w = .ok (.value (.pointer (some ⟨b, off + f.offset, none⟩))) c.w := fun fs f i b off h1 h2 h3 h4 => by
    refine run_v ?_
    simp [Instr.fieldAt, run_underlying h1, h2, Instr.sureAddr, run_fieldPlace h3 h4]
  cases p <;> simp only [faddrA] at hr <;> try (cases hr; done)
  case ptr id ver path =>
    obtain ⟨o, ho, hh, hr⟩ := HM.run_get hr
    obtain ⟨hb, hr⟩ := HM.run_bif hr
    simp only [Bool.and_eq_true] at hb
    obtain ⟨fs, f, k1, k2, k3, k4, k5⟩ := fieldOk_spec hb.2
    obtain ⟨i, hi, hsz, _, hbad⟩ := szOk_spec k4
    obtain ⟨hbad0, harr⟩ := fldC_bad hbad
    have hl := live_of_sz hbad0
    have hver := (beq_nat hb.1).symm
    obtain ⟨v', b, h1, h2, h3, h4⟩ := repPtr hp ho hver hl
    subst h4
    have hsk := HO.getP_sk hbad0
    rw [hsk] at harr
    have hfo : (o.sk.fldP path).foff j = (o.sk.fldP path).foffC j := by
      cases hq : o.sk.fldP path <;> first | rfl | exact absurd hq (harr _ _)
    refine ⟨_, _, goes fs f i b _ k1 k2 hi (by rw [hsz]; exact k5), ?_, hr⟩
    refine ⟨o, v', ho, h1, hh, by omega, ⟨_, rfl⟩, fun _ _ => ⟨b, h2, ?_, ?_⟩⟩
    · rw [okP_snoc]
      refine ⟨h3, ?_⟩
      cases hq : o.sk.fldP path <;> first | trivial | exact absurd hq (harr _ _)
    · rw [offP_snoc, hfo, k3, hsk]
  case pv u x =>
    cases hf : (AV.v u x).fldC j <;> rw [hf] at hr <;> try (cases hr; done)
    rename_i u' x'
    obtain ⟨hb, hr⟩ := HM.run_bif hr
    obtain ⟨fs, f, k1, k2, k3, k4, k5⟩ := fieldOk_spec hb
    obtain ⟨i, hi, hsz, _, hbad⟩ := szOk_spec k4
    have hp' : RepA c (.pv u x) [pv] := hp
    obtain ⟨b, off, vs, h1, h2, h3, h4⟩ := hp'
    rw [List.singleton_inj.1 h1]
    have h3' : RepA c (.v u x) vs := h3
    obtain ⟨pre, mid, post, e1, e2, e3, _, _⟩ := fldC_focus j h3' (by rw [hf]; exact hbad)
    refine ⟨_, _, goes fs f i b off k1 k2 hi (by rw [hsz]; exact k5), ?_, hr⟩
    rw [hf] at e3
    refine ⟨b, off + f.offset, mid, rfl, h2, e3, fun q z hq => ?_⟩
    have := h4 (pre.length + q) z (by
      rw [e1, List.getElem?_append_right (by omega), Nat.add_sub_cancel_left, List.getElem?_append_left (lt_of_get hq)]; exact hq)
    rw [k3]
    rw [e2] at this
    rw [show off + u.sk.foffC j + q = off + (u.sk.foffC j + q) from by omega]
    exact this
end
end Go.Ab
