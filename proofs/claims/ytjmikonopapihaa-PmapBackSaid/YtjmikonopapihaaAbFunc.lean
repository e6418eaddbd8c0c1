import Derived.Test.YtjmikonopapihaaAbCode
/-
  AB: loops and functions.
-/
namespace Go.Ab
set_option linter.unusedSimpArgs false
section
variable {P : Program} {K : Specs} {L : Frags}
theorem frag_ok (hK : ∀ f, ∀ s ∈ K f, SpecOk P f s) (hD : DrawOk P K) {body : Code} (hL : ∀ b ∈ loopsL body, ∀ f, L (firstId b) = some f → FragOk P f b) {pad : Nat} {rows : List (Tmp × TypeId)} {tp : TP} {hp : HP} {xp : XP} {n : Nat}
    {G : ElT tp × ElH hp → Option (ElX xp)} (Rd : ElT tp × ElH hp → Option ((ElT tp × ElH hp) ⊕ ElX xp)) (hR : ∀ x, roundA P K L body tp hp xp n x = Rd x) (hw : wfX (hlen hp) xp = true)
    (hG : ∀ x y, G x = some y → ∃ N, iterR Rd N x = some y) : FragOk P ⟨pad, rows, tp, hp, xp, n, G⟩ body := by
  intro R k r Q c a x hs hH hl hn hr hk
  simp only at x hH hl hn hr
  cases hg : G x with
  | none => rw [hg] at hr; cases hr
  | some y =>
    rw [hg] at hr
    have hr : putX n xp y k = some r := hr
    obtain ⟨N, hN⟩ := hG x y hg
    refine wp_loop_rounds N ?_
    clear hg
    induction N generalizing x c a with
    | zero => cases hN
    | succ N ih =>
      simp only [iterR] at hN
      cases hz : Rd x with
      | none => rw [hz] at hN; cases hN
      | some z =>
        rw [hz] at hN
        simp only [Option.bind_some] at hN
        have hrd := hR x
        rw [hz] at hrd
        unfold roundA at hrd
        rw [← hH] at hrd
        show Code.wp P _ _ _ _
        refine code_ok hK hD body hL hs hl hrd fun e c' t' a' f1 f2 f3 f4 f5 f6 => ?_
        have hlen : c.H.length = hlen hp := by rw [hH, encH_len]
        cases e with
        | normal =>
          simp only at f6
          obtain ⟨c2, x', g1, g2, g3, g4, g5, g6, g7⟩ := norm_ok f3 f4 (by rfl) f6
          cases g7
          show Code.rounds P body Q N a' c'.w
          rw [← g4]
          have hkp : Kp c c2 := f2.transN g2 (by rw [hlen]; exact Nat.le_refl _)
          exact ih x' g3 g5 (g6 n (by rw [f5]; exact hn)) (by rw [f5]; exact hn) (fun e c'' t'' a'' q1 q2 q3 q4 q5 q6 => hk e c'' t'' a'' (f1.trans (g1.trans q1)) (hkp.trans q2) q3 q4 (q5.trans f5) q6) hN
        | exit id =>
          simp only at f6
          obtain ⟨y', h1, c2, t2, g1, g2, g3, g4, g5, g6⟩ := decX_ok f3 f4 (by rw [f5]; exact hn) f6 hw
          cases h1
          cases hN
          show Q (.exit id) a' c'.w
          rw [← g4]
          exact hk (.exit id) c2 t2 a' (f1.trans g1) (f2.transN g2 (by rw [hlen]; exact Nat.le_refl _)) g3 g5 f5 (g6 R k r hr)
        | ret =>
          simp only at f6
          obtain ⟨y', h1, c2, t2, g1, g2, g3, g4, g5, g6⟩ := decX_ok f3 f4 (by rw [f5]; exact hn) f6 hw
          cases h1
          cases hN
          show Q .ret a' c'.w
          rw [← g4]
          exact hk .ret c2 t2 a' (f1.trans g1) (f2.transN g2 (by rw [hlen]; exact Nat.le_refl _)) g3 g5 f5 (g6 R k r hr)
theorem vs_sl {c : Cx} : ∀ {a : AV} {vs : List Value}, RepVs c a vs → a.sk.noBad = true → (unchain a).length = vs.length ∧ ∀ i, i < vs.length → RepV c ((unchain a).getD i .undef) ((vs[i]?).getD undef)
  | .nil, vs, h, _ => by rw [show vs = [] from h]; exact ⟨rfl, fun i hi => absurd hi (Nat.not_lt_zero i)⟩
  | .cons a b, _, ⟨v, r, e, h1, h2⟩, hb => by
    subst e
    have hb' : a.sk.noBad = true ∧ b.sk.noBad = true := by simpa [AV.sk, Sk.noBad] using hb
    obtain ⟨q1, q2⟩ := vs_sl h2 hb'.2
    refine ⟨by simp [unchain, q1], fun i hi => ?_⟩
    cases i with
    | zero => exact repV_of (Sk.noBad_isBad hb'.1) h1
    | succ i => exact q2 i (by simpa using hi)
theorem cell_ok {c : Cx} (hs : Sim c) {t : TypeId} {p av : AV} {pv : Value} (hp : RepV c p pv) (h : cellA P t p c.H = some av) : ∃ v, (do loadVar t (← asAddr pv) : Sem Value).run P c.w = .ok v c.w ∧ RepV c av v := by
  cases p <;> simp only [cellA] at h <;> try (cases h; done)
  rename_i id ver path
  cases ho : c.H[id]? with
  | none => rw [ho] at h; cases h
  | some o =>
    rw [ho] at h
    have fin : ∀ o : HO, (bif Nat.beq ver o.ver && szOk P t (o.getP path) then some (o.getP path) else none) = some av → Nat.beq ver o.ver = true ∧ szOk P t (o.getP path) = true ∧ o.getP path = av := fun o h => by
      cases hb : (Nat.beq ver o.ver && szOk P t (o.getP path)) with
      | false => rw [hb] at h; cases h
      | true =>
        rw [hb] at h
        cases h
        simp only [Bool.and_eq_true] at hb
        exact ⟨hb.1, hb.2, rfl⟩
    have key : Nat.beq ver o.ver = true ∧ szOk P t (o.getP path) = true ∧ o.getP path = av := by
      cases o <;> simp only at h <;> first | (cases h; done) | exact fin _ h
    obtain ⟨h1, h2, h3⟩ := key
    subst h3
    obtain ⟨_, _, _, _, hbad⟩ := szOk_spec h2
    have hl := live_of_sz hbad
    obtain ⟨v', b, g1, g2, g3, g4⟩ := repPtr hp ho (beq_nat h1).symm hl
    obtain ⟨cur, T, pre, mid, post, e1, e2, e3, e4⟩ := objAt (hs.obj id o v' ho g1) hl g2 g3 hbad
    obtain ⟨v, hv, hrep⟩ := run_loadVar (P := P) h2 e4 (At.row e1 e2 e3)
    subst g4
    exact ⟨v, by simp [asAddr, hv], hrep⟩
theorem res_ok {c : Cx} (hs : Sim c) {t : List AV} {a : Act} (hl : Sl c t a) : ∀ {l : List ResultVar} {rs : List AV}, resA P l t c.H = some rs → ∃ vals : List Value,
    (l.mapM fun | .tmp t => pure (a.tmps.getD t undef) | .cell x t => do loadVar t (← asAddr (a.tmps.getD x undef)) : Sem (List Value)).run P c.w = .ok vals c.w ∧ RepVV c (chain rs) vals ∧ vals.length = l.length
  | [], rs, h => by cases h; exact ⟨[], by simp, rfl, rfl⟩
  | .tmp i :: l, rs, h => by
    simp only [resA] at h
    cases h1 : resA P l t c.H with
    | none => rw [h1] at h; cases h
    | some l' =>
      rw [h1] at h
      cases h
      obtain ⟨vals, q1, q2, q3⟩ := res_ok hs hl h1
      refine ⟨a.tmps.getD i undef :: vals, ?_, ⟨_, _, rfl, ?_, q2⟩, by simp [q3]⟩
      · simp only [List.mapM_cons, Sem.run_bind, Sem.run_pure, Result.andThen_ok, q1]
      · rw [Array.getD_eq_getD_getElem?]; exact hl.at_ i
  | .cell i ty' :: l, rs, h => by
    simp only [resA] at h
    cases h0 : cellA P ty' (t.getD i .undef) c.H with
    | none => rw [h0] at h; cases h
    | some av =>
      cases h1 : resA P l t c.H with
      | none => rw [h0, h1] at h; cases h
      | some l' =>
        rw [h0, h1] at h
        cases h
        obtain ⟨vals, q1, q2, q3⟩ := res_ok hs hl h1
        obtain ⟨v, r1, r2⟩ := cell_ok hs (hl.at_ i) h0
        rw [← Array.getD_eq_getD_getElem?] at r1
        refine ⟨v :: vals, ?_, ⟨_, _, rfl, r2, q2⟩, by simp [q3]⟩
        simp only [List.mapM_cons, Sem.run_bind, Sem.run_pure, Result.andThen_ok, q1] at r1 ⊢
        rw [r1]
        simp only [Result.andThen_ok, q1]
theorem run_results {fn : Func} {a : Act} {w : World} {vals : List Value} (h : (fn.results.toList.mapM fun | .tmp t => pure (a.tmps.getD t undef) | .cell x t => do loadVar t (← asAddr (a.tmps.getD x undef)) : Sem (List Value)).run P w = .ok vals w) :
    (results fn a.tmps).run P w = .ok (if h : vals.toArray.size = 1 then vals.toArray[0] else .tuple vals.toArray) w := by
  unfold results
  rw [Array.mapM_eq_mapM_toList]
  simp only [bind_map_left, Sem.run_bind]
  refine (congrArg (fun r => Result.andThen r (fun (vs : List Value) w' => Sem.run P (pure (if h : vs.toArray.size = 1 then vs.toArray[0] else .tuple vs.toArray)) w')) h).trans ?_
  rfl
theorem single_ok {c : Cx} {p : AP} {x : ElA p} {vals : List Value} (hc : p.isCh = true) (h : RepVs c (encA p x) vals) : RepV c (single (encA p x)) (if h : vals.toArray.size = 1 then vals.toArray[0] else .tuple vals.toArray) := by
  cases p <;> try (cases hc; done)
  case nil =>
    have e : vals = [] := h
    subst e
    exact ⟨[], rfl, rfl⟩
  case cons p q =>
    obtain ⟨v, r, e, h1, h2⟩ := h
    subst e
    cases q <;> try (cases hc; done)
    case nil =>
      have e : r = [] := h2
      subst e
      exact repV_of (Sk.noBad_isBad encA_bad) h1
    case cons p' q' =>
      obtain ⟨v', r', e, h3, h4⟩ := h2
      subst e
      rw [dif_neg (by simp)]
      exact ⟨_, rfl, v, _, rfl, h1, v', r', rfl, h3, h4⟩
theorem fin_ok {c : Cx} (hs : Sim c) {oa : AP} {oh : HP} {n : Nat} (hc : oa.isCh = true) {rs : List AV} {vals : List Value} (hv : RepVV c (chain rs) vals) {y : ElA oa × ElH oh} (hr : finA oa oh n rs c.H = some y) :
    ∃ c', Fr c c' ∧ KpN n c c' ∧ Sim c' ∧ c'.w = c.w ∧ c'.H = encH oh y.2 ∧ RepVs c' (encA oa y.1) vals := by
  unfold finA at hr
  obtain ⟨as, h1, e1, hr1⟩ := HM.run_some hr
  obtain ⟨ids, h2, e2, hr2⟩ := HM.run_some hr1
  obtain ⟨u, h3, e3, hr3⟩ := HM.run_some hr2
  obtain ⟨os, h4, e4, hr4⟩ := HM.run_some hr3
  clear hr hr1 hr2 hr3
  have hr := hr4
  clear hr4
  obtain ⟨c1, z1, t1, v1⟩ := frz_vv hs hc hv e1
  subst t1
  have e2' := e2
  rw [List.range_eq_range', show ([] : List Nat) = List.range 0 from rfl] at e2'
  obtain ⟨rr, hrr⟩ := reach_range z1.sim n 40 0 e2'
  rw [Nat.zero_add] at hrr
  obtain ⟨t2, nd, _⟩ := reach_ex z1.sim 40 e2
  have hnd := nd List.nodup_nil
  subst t2
  obtain ⟨c2, z2, t3⟩ := frzH_ex z1.sim e3
  subst t3
  have v2 := v1.mono z2.mn
  have hs2 := z2.sim
  obtain ⟨t4, ol, oat⟩ := objsM_ex hs2 e4
  have z := z1.trans z2
  simp only at hr
  cases hdA : decA oh (os.map (HO.ren (posN · ids) zeroN)) oa (as.ren (posN · ids) zeroN) with
  | none => rw [hdA] at hr; cases hr
  | some x =>
    cases hdH : decH oh (os.map (HO.ren (posN · ids) zeroN)) oh (os.map (HO.ren (posN · ids) zeroN)) with
    | none => rw [hdA, hdH] at hr; cases hr
    | some y' =>
      rw [hdA, hdH] at hr
      cases hr
      have hlen : hlen oh = os.length := by rw [← (decH_entry hdH).1]; simp
      have hdH' : decH oh (os.map (HO.ren (posN · ids) zeroN)) oh ((os.map (HO.ren (posN · ids) zeroN)).take (Ab.hlen oh)) = some y' := by
        rw [hlen, List.take_of_length_le (by simp)]; exact hdH
      have hview := view_of hs2 ol oat
      generalize hσ1 : ids.map (fun i => c2.σ.getD i undef) = σ1
      have hσ1g : ∀ (p id : Nat) (v : Value), ids[p]? = some id → c2.σ[id]? = some v → σ1[p]? = some v := fun p id v hp hv => by
        rw [← hσ1, List.getElem?_map, hp]
        simp [List.getD_eq_getElem?_getD, hv]
      have hσf : ∀ (id : Nat) (v : Value), posN id ids < Ab.hlen oh → c2.σ[id]? = some v → σ1[posN id ids]? = some v := fun id v hlt hv => hσ1g _ id v (posN_get (by rw [← ol, ← hlen]; exact hlt)) hv
      have hsurj : ∀ i, i < Ab.hlen oh → ∃ id, posN id ids = i := fun i hi => by
        have : i < ids.length := by rw [← ol, ← hlen]; exact hi
        exact ⟨ids[i], posN_of hnd (List.getElem?_eq_getElem this)⟩
      have hσl : σ1.length = Ab.hlen oh := by rw [← hσ1, hlen, ol]; simp
      have hrec := recode hs2 hview hdH' hσf
      obtain ⟨hs3, hl3⟩ := recode_sim hs2 hview hdH' hσl hsurj hσf
      have hvs := dec_vs hrec hc hdA v2
      have fr3 : Fr c2 ⟨c2.S, σ1, encH oh y', c2.w⟩ := ⟨fun b h => .inl h, fun b h => .inl (hl3 b h), Nat.le_refl _, rfl, rfl, rfl, fun _ _ _ => rfl⟩
      refine ⟨⟨c2.S, σ1, encH oh y', c2.w⟩, z.fr.trans fr3, ⟨z.mn.sub, z.mn.heapS, fun i o v hi h1 h2 h3 => ?_⟩, hs3, z.w, rfl, hvs⟩
      obtain ⟨o2, v2', g1, g2, g3, _, _, g6⟩ := z.mn.objs i o v h1 h2 h3
      have hid : ids[i]? = some i := by rw [hrr, List.getElem?_append_left (by simpa using hi), List.getElem?_range hi]
      have hpos : posN i ids = i := posN_of hnd hid
      have hil : i < ids.length := lt_of_get hid
      have hlt : i < (encH oh y').length := by rw [encH_len, hlen, ol]; exact hil
      have h4 := List.getElem?_eq_getElem hlt
      have h5 := hσ1g i i v2' hid g2
      obtain ⟨id, o', e, k1, k2, k3⟩ := recode_obj hview hdH' hsurj hσf h4 h5
      have hidi : id = i := by
        have hlt' : posN id ids < ids.length := by rw [e]; exact hil
        have a1 := posN_get hlt'
        rw [e, hid] at a1
        cases a1
        rfl
      subst hidi
      rw [g1] at k1; cases k1
      refine ⟨_, v2', h4, h5, ?_, fun hb => ?_⟩
      · rcases encH_shape h4 with ⟨_, e⟩ | ⟨_, _, _, _, e⟩ | e <;> rw [e] <;> rfl
      · rcases k3 with ⟨n, e⟩ | ⟨a, a', ap, x', e1, e2, _⟩ | ⟨e', ver, u', fn, xs, e1, e2⟩
        · rw [e] at hb; cases hb
        · exact g6 (by rw [e1]; rfl)
        · rw [e2] at hb; cases hb
theorem spec_ok (hK : ∀ f, ∀ s ∈ K f, SpecOk P f s) (hD : DrawOk P K) {f : FuncId} {fn : Func} {code : Code} (hf : P.funcs[f]? = some fn) (hname : (fn.name == "runtime.NumGoroutine") = false) (hb : fn.body = some code)
    (hL : ∀ b ∈ loopsL code, ∀ f, L (firstId b) = some f → FragOk P f b) {g : Sig} (hc : g.oa.isCh = true) {F : ElA g.ia × ElH g.ih → Option (ElA g.oa × ElH g.oh)} (hF : ∀ x, funcA P K L fn g x = F x) : SpecOk P f (g.spec F) := by
  intro c x y vs hs hH hvs hy next hk
  have hy' : F x = some y := hy
  rw [← hF x] at hy'
  unfold funcA at hy'
  rw [hb] at hy'
  simp only at hy'
  have hrun : (callFunc f vs.toArray).run P c.w = .ok (.enter f vs.toArray) c.w := by
    have h1 : fn.name ≠ "runtime.NumGoroutine" := by simpa using hname
    simp [callFunc, hf, h1, hb]
  rw [hrun]
  have hvs' : RepVs c (encA g.ia x.1) vs := hvs
  have hH' : c.H = encH g.ih x.2 := hH
  obtain ⟨hlen, hrep⟩ := vs_sl hvs' encA_bad
  refine calls_of_wp hf hb ?_
  rw [← hH'] at hy'
  refine code_ok hK hD code hL hs (a := { tmps := vs.toArray ++ Array.replicate (fn.ntmps - vs.toArray.size) undef, defers := [] }) ?_ hy' fun e c' t' a' f1 f2 f3 f4 f5 f6 => ?_
  · refine ⟨fun i => ?_, ?_, rfl⟩
    · by_cases hi : i < vs.length
      · rw [List.getD_eq_getElem?_getD, List.getElem?_append_left (by rw [hlen]; exact hi), ← List.getD_eq_getElem?_getD]
        show RepV c _ (((vs.toArray ++ _)[i]?).getD undef)
        rw [Array.getElem?_append_left (by simpa using hi)]
        simpa using hrep i hi
      · rw [List.getD_eq_getElem?_getD, List.getElem?_append_right (by rw [hlen]; omega), List.getElem?_replicate]
        split <;> trivial
    · simp [hlen]
  · have fin : ∀ rs, resA P fn.results.toList t' c'.H = some rs → finA g.oa g.oh (Ab.hlen g.ih) rs c'.H = some y → a'.defers = [] ∧ ∃ v, (results fn a'.tmps).run P c'.w = .ok v c'.w ∧ ∃ v', Ending.returned v = .returned v' ∧ next v' c'.w := fun rs h1 h2 => by
      obtain ⟨vals, q1, q2, q3⟩ := res_ok (P := P) f3 f4 h1
      obtain ⟨c2, g1, g2, g3, g4, g5, g6⟩ := fin_ok f3 hc q2 h2
      refine ⟨f4.defers, _, run_results q1, _, rfl, ?_⟩
      rw [← g4]
      exact hk c2 _ (f1.trans g1) (f2.transN g2 (by rw [hH']; exact Nat.le_of_eq (encH_len g.ih x.2))) g3 g5 (single_ok hc g6)
    cases e with
    | exit id => cases f6
    | normal =>
      simp only at f6
      cases h1 : resA P fn.results.toList t' c'.H with
      | none => rw [h1] at f6; cases f6
      | some rs => rw [h1] at f6; exact fin rs h1 f6
    | ret =>
      simp only at f6
      cases h1 : resA P fn.results.toList t' c'.H with
      | none => rw [h1] at f6; cases f6
      | some rs => rw [h1] at f6; exact fin rs h1 f6
end
end Go.Ab
