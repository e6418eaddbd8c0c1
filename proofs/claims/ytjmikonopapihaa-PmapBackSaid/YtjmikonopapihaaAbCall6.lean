import Derived.Test.YtjmikonopapihaaAbCall5
/-
  AB: a call goes by its specification.
-/
namespace Go.Ab
set_option linter.unusedSimpArgs false
section
variable {P : Program} {c : Cx}
theorem view_of {c : Cx} {ids : List Nat} {os : List HO} (hs : Sim c) (hl : os.length = ids.length)
    (h : ∀ (p id : Nat), ids[p]? = some id → ∃ o o', c.H[id]? = some o ∧ os[p]? = some o' ∧ o.isHole = false ∧ ResO c o o') : View c (posN · ids) (os.map (HO.ren (posN · ids) zeroN)) := by
  refine ⟨fun id o' ho => ?_⟩
  rw [List.getElem?_map] at ho
  cases hx : os[posN id ids]? with
  | none => rw [hx] at ho; cases ho
  | some o1 =>
    rw [hx] at ho
    cases ho
    have hlt : posN id ids < ids.length := by rw [← hl]; exact lt_of_get hx
    obtain ⟨o, o2, h1, h2, h3, h4⟩ := h _ _ (posN_get hlt)
    rw [hx] at h2; cases h2
    have hσ : id < c.σ.length := by rw [hs.len]; exact lt_of_get h1
    refine ⟨o, c.σ[id], h1, List.getElem?_eq_getElem hσ, ?_⟩
    rcases h4 with ⟨e1, e2⟩ | ⟨a, a', e1, e2, e3, e4⟩
    · subst e2
      exact .inl ⟨by rw [HO.ren_box]; exact e1, by cases o1 <;> first | rfl | cases e1⟩
    · subst e2
      exact .inr ⟨a, a', e1, rfl, e3, e4⟩
theorem invoke_fn (g : FuncId) (vs args : Array Value) (w : World) : (do let d ← Deferred.ofValue (.func (.func g) #[] vs) args; invoke d.target d.args : Sem Next).run P w = (callFunc g (args ++ vs)).run P w := by
  simp [Deferred.ofValue, invoke]
theorem call_ok (hs : Sim c) {K : Specs} (hK : ∀ f, ∀ s ∈ K f, SpecOk P f s) {nid : Nat} (hh : ∀ j, j < 4 → c.H[nid + j]? = some .hole) {f : AV} {fv : Value} (hf : RepV c f fv)
    {ρ : Operand → AV} {ρ' : Operand → Value} (hρ : ∀ x, RepV c (ρ x) (ρ' x)) {args : Array Operand} :
    OpS P c (do let d ← Deferred.ofValue fv (args.map ρ'); invoke d.target d.args : Sem Next) (callA K f (args.toList.map ρ) nid) := by
  intro R k r next hr hk
  cases f <;> simp only [callA] at hr <;> try (cases hr; done)
  rename_i g caps
  obtain ⟨hch, hr⟩ := HM.run_bif hr
  obtain ⟨cv, hcv, hcr⟩ := (show RepA c (.fn g caps) [fv] from hf)
  have hfv := List.singleton_inj.1 hcv
  subst hfv
  rw [invoke_fn]
  have hvv := args_vv hρ (caps_vv hch hcr) args.toList
  generalize chain (args.toList.map ρ ++ unchain caps) = as0 at hr hvv
  have hvals : (args.map ρ' ++ cv) = (args.toList.map ρ' ++ cv.toList).toArray := by
    apply Array.toList_inj.1
    simp
  rw [hvals]
  generalize args.toList.map ρ' ++ cv.toList = vals at hvv
  cases hfl : (K g).filter fun s => s.ia.isCh && fitsA s.ia as0 with
  | nil => rw [hfl] at hr; cases hr
  | cons s0 sr =>
    rw [hfl] at hr
    simp only at hr
    have hmem : ∀ s ∈ s0 :: sr, SpecOk P g s := fun s hs' => hK g s (List.mem_filter.1 (hfl ▸ hs')).1
    have hch0 : s0.ia.isCh = true := by
      have : s0 ∈ (K g).filter fun s => s.ia.isCh && fitsA s.ia as0 := by rw [hfl]; exact List.mem_cons_self ..
      have := (List.mem_filter.1 this).2
      simp only [Bool.and_eq_true] at this
      exact this.1
    rw [HM.run_bind] at hr
    obtain ⟨as, h1, e1, hr⟩ := HM.run_some hr
    rw [HM.run_bind] at hr
    obtain ⟨ids, h2, e2, hr⟩ := HM.run_some hr
    rw [HM.run_bind] at hr
    obtain ⟨u3, h3, e3, hr⟩ := HM.run_some hr
    rw [HM.run_bind] at hr
    obtain ⟨os, h4, e4, hr⟩ := HM.run_some hr
    obtain ⟨c1, z1, t1, v1⟩ := frz_vv hs hch0 hvv e1
    subst t1
    obtain ⟨t2, nd, _⟩ := reach_ex z1.sim 40 e2
    have hnd := nd List.nodup_nil
    subst t2
    obtain ⟨c2, z2, t3⟩ := frzH_ex z1.sim e3
    subst t3
    have v2 := v1.mono z2.mn
    have hs2 := z2.sim
    obtain ⟨t4, ol, oat⟩ := objsM_ex hs2 e4
    subst t4
    obtain ⟨s, hsm, m, hcs, hr⟩ := firstS_some hr
    have hz := z1.trans z2
    have hh2 : ∀ j, j < 4 → c2.H[nid + j]? = some .hole := fun j hj => hz.holes _ (hh j hj)
    -- the specification's own context
    unfold callS at hcs
    simp only at hcs
    cases hdA : decA s.ih (os.map (HO.ren (posN · ids) zeroN)) s.ia (as.ren (posN · ids) zeroN) with
    | none => rw [hdA] at hcs; cases hcs
    | some x =>
      cases hdH : decH s.ih (os.map (HO.ren (posN · ids) zeroN)) s.ih (os.map (HO.ren (posN · ids) zeroN)) with
      | none => rw [hdA, hdH] at hcs; cases hcs
      | some y =>
        rw [hdA, hdH] at hcs
        simp only at hcs
        cases hg : (s.ia.isCh && s.oa.isCh && Nat.ble (hlen s.oh) (os.length + 4)) with
        | false => rw [hg] at hcs; cases hcs
        | true =>
          rw [hg] at hcs
          simp only [cond_true, Option.some.injEq] at hcs
          simp only [Bool.and_eq_true] at hg
          subst hcs
          simp only [HM.run] at hr
          cases hF : s.F (x, y) with
          | none => rw [hF] at hr; cases hr
          | some q =>
            rw [hF] at hr
            simp only [Option.bind_some] at hr
            cases hup : upAll os (encH s.oh q.2) with
            | none => rw [hup] at hr; cases hr
            | some ns =>
              rw [hup] at hr
              simp only at hr
              rw [HM.run_bind] at hr
              obtain ⟨u5, h5, e5, hr⟩ := HM.run_some hr
              obtain ⟨ll, e5⟩ := setAll_ex e5
              have hr : k (single ((encA s.oa q.1).ren (back ids nid) (vers ns))) h5 = some r := hr
              have hlen : hlen s.ih = os.length := by rw [← (decH_entry hdH).1]; simp
              have hdH' : decH s.ih (os.map (HO.ren (posN · ids) zeroN)) s.ih ((os.map (HO.ren (posN · ids) zeroN)).take (Ab.hlen s.ih)) = some y := by
                rw [hlen, List.take_of_length_le (by simp)]; exact hdH
              have hview := view_of hs2 ol oat
              have hidσ : ∀ id ∈ ids, ∃ v, c2.σ[id]? = some v := fun id hid => by
                obtain ⟨p, hp⟩ := List.getElem?_of_mem hid
                obtain ⟨o, _, g1, _⟩ := oat p id hp
                have hσ : id < c2.σ.length := by rw [hs2.len]; exact lt_of_get g1
                exact ⟨_, List.getElem?_eq_getElem hσ⟩
              generalize hσ1 : ids.map (fun i => c2.σ.getD i undef) = σ1
              have hσ1g : ∀ (p id : Nat) (v : Value), ids[p]? = some id → c2.σ[id]? = some v → σ1[p]? = some v := fun p id v hp hv => by
                rw [← hσ1, List.getElem?_map, hp]
                simp [List.getD_eq_getElem?_getD, hv]
              have hσf : ∀ (id : Nat) (v : Value), posN id ids < Ab.hlen s.ih → c2.σ[id]? = some v → σ1[posN id ids]? = some v := fun id v hlt hv => hσ1g _ id v (posN_get (by rw [← ol, ← hlen]; exact hlt)) hv
              have hsurj : ∀ i, i < Ab.hlen s.ih → ∃ id, posN id ids = i := fun i hi => by
                have : i < ids.length := by rw [← ol, ← hlen]; exact hi
                exact ⟨ids[i], posN_of hnd (List.getElem?_eq_getElem this)⟩
              have hσl : σ1.length = Ab.hlen s.ih := by rw [← hσ1, hlen, ol]; simp
              have hrec := recode hs2 hview hdH' hσf
              obtain ⟨hs3, hl3⟩ := recode_sim hs2 hview hdH' hσl hsurj hσf
              have hvs := dec_vs hrec hg.1.1 hdA v2
              rw [← hz.w]
              refine hmem s hsm ⟨c2.S, σ1, encH s.ih y, c2.w⟩ (x, y) q vals hs3 rfl hvs hF next fun c4 v fr4 kp4 hs4 hH4 hv4 => ?_
              -- the caller's context
              obtain ⟨u1, u2, u3, u4⟩ := upAll_spec hup
              rw [encH_len] at u1 u2
              have hNle : Ab.hlen s.oh ≤ ids.length + 4 := by rw [← ol]; exact Nat.le_of_ble_eq_true hg.2
              have hNge : ids.length ≤ Ab.hlen s.oh := by rw [← ol]; exact u1
              have hnew : newIds nid (Ab.hlen s.oh - ids.length) = List.range' nid (Ab.hlen s.oh - ids.length) := newIds_eq _ _
              rw [hnew] at ll e5
              generalize hL : ids ++ List.range' nid (Ab.hlen s.oh - ids.length) = L at ll e5
              have hLl : L.length = Ab.hlen s.oh := by rw [← hL, List.length_append, List.length_range']; omega
              have hholes : ∀ i ∈ List.range' nid (Ab.hlen s.oh - ids.length), c2.H[i]? = some .hole := fun i hi => by
                obtain ⟨j, hj, rfl⟩ := List.mem_range'.1 hi
                simp only [Nat.one_mul]
                exact hh2 j (by omega)
              have hLn : L.Nodup := by
                rw [← hL, List.nodup_append]
                refine ⟨hnd, List.nodup_range', fun a ha b hb e => ?_⟩
                subst e
                obtain ⟨p, hp⟩ := List.getElem?_of_mem ha
                obtain ⟨o, o', g1, _, g3, _⟩ := oat p a hp
                rw [hholes a hb] at g1
                cases g1
                cases g3
              have hLlt : ∀ i ∈ L, i < c2.H.length := fun i hi => by
                rw [← hL] at hi
                rcases List.mem_append.1 hi with hi | hi
                · obtain ⟨p, hp⟩ := List.getElem?_of_mem hi
                  obtain ⟨o, o', g1, _⟩ := oat p i hp
                  exact lt_of_get g1
                · exact lt_of_get (hholes i hi)
              have hback : ∀ p, p < Ab.hlen s.oh → L[p]? = some (back ids nid p) := fun p hp => by
                rw [← hL]
                unfold back
                by_cases hlt : p < ids.length
                · have : Nat.blt p ids.length = true := Nat.ble_eq_true_of_le hlt
                  rw [this, List.getElem?_append_left hlt]
                  simp [List.getD_eq_getElem?_getD, List.getElem?_eq_getElem hlt]
                · have : Nat.blt p ids.length = false := by
                    cases hb : Nat.blt p ids.length with
                    | false => rfl
                    | true => exact absurd (Nat.le_of_ble_eq_true hb) hlt
                  rw [this, List.getElem?_append_right (by omega), List.getElem?_range' (by omega)]
                  simp
              have hns : ns.length = Ab.hlen s.oh := u2
              have h4len : c4.H.length = Ab.hlen s.oh := by rw [hH4, encH_len]
              have h4σ : c4.σ.length = Ab.hlen s.oh := by rw [hs4.len, h4len]
              have hmap : (ns.map (HO.ren (back ids nid) (vers ns))).length = L.length := by rw [List.length_map, hns, hLl]
              have hup4 : ∀ (p : Nat) (o4 n : HO), c4.H[p]? = some o4 → ns[p]? = some n → UpTo o4 n := fun p o4 n g1 g2 => by
                rw [hH4] at g1
                by_cases hlt : p < os.length
                · obtain ⟨n', k1, k2⟩ := u3 p _ o4 (List.getElem?_eq_getElem hlt) g1
                  rw [g2] at k1; cases k1
                  exact (upO_upTo k2 (encH_shape g1)).1
                · rw [u4 p (by omega), g1] at g2
                  cases g2
                  rcases encH_shape g1 with ⟨a, rfl⟩ | ⟨e, u, fn, xs, rfl⟩ | rfl
                  · exact .box
                  · exact .row
                  · exact .dead
              have hmerge : Merge c2 ⟨c2.S, σ1, encH s.ih y, c2.w⟩ c4 ⟨c4.S, setL L c4.σ c2.σ, h5, c4.w⟩ L ns (back ids nid) := by
                refine ⟨hLn, rfl, rfl, fun b hb => ?_, fr4, kp4, hs4, rfl, rfl, by rw [e5, setL_len], by rw [setL_len, hs2.len], fun id hid => ⟨by rw [e5]; exact setL_off _ _ _ _ hid, setL_off _ _ _ _ hid⟩, fun p id hp => ?_, fun p o4 ho4 => hback p (by rw [← h4len]; exact lt_of_get ho4), fun p id o v hp ho hv hhole n v' hn hv' => ?_⟩
                · obtain ⟨i, o, v, k1, k2, k3⟩ := hb
                  obtain ⟨id, o2, q1, q2, q3, q4⟩ := recode_obj hview hdH' hsurj hσf k1 k2
                  have hi : i < ids.length := by
                    have := lt_of_get k1
                    rw [encH_len, hlen, ol] at this
                    exact this
                  have hmi : id ∈ L := by
                    rw [← hL]
                    refine List.mem_append_left _ (List.mem_of_getElem? (i := i) ?_)
                    rw [← q1]
                    exact posN_get (by rw [q1]; exact hi)
                  refine ⟨id, o2, v, hmi, q2, q3, ?_⟩
                  rcases q4 with ⟨n, r1⟩ | ⟨a, a', ap, x', r1, r2, _⟩ | ⟨e', ver, u', fn, xs, r1, r2⟩
                  · subst r1; cases k3
                  · subst r1; subst r2; exact k3
                  · subst r1; subst r2; exact k3
                · have hpl : p < Ab.hlen s.oh := by rw [← hLl]; exact lt_of_get hp
                  have a1 : c4.H[p]? = some c4.H[p] := List.getElem?_eq_getElem (by rw [h4len]; exact hpl)
                  have a2 : ns[p]? = some ns[p] := List.getElem?_eq_getElem (by rw [hns]; exact hpl)
                  have a3 : c4.σ[p]? = some c4.σ[p] := List.getElem?_eq_getElem (by rw [h4σ]; exact hpl)
                  refine ⟨_, _, _, a1, a2, hup4 p _ _ a1 a2, a3, ?_, ?_⟩
                  · rw [e5, setL_on L _ _ hLn hmap.symm hLlt p id hp, List.getElem?_map, a2]
                    rfl
                  · rw [← a3]
                    exact setL_on L _ _ hLn (by rw [hLl, h4σ]) (fun i hi => by rw [hs2.len]; exact hLlt i hi) p id hp
                · have hpl : p < Ab.hlen s.oh := by rw [← hLl]; exact lt_of_get hp
                  have a1 : c4.H[p]? = some c4.H[p] := List.getElem?_eq_getElem (by rw [h4len]; exact hpl)
                  have hidp : ids[p]? = some id := by
                    by_cases hlt : p < ids.length
                    · rw [← hL, List.getElem?_append_left hlt] at hp; exact hp
                    · exfalso
                      rw [← hL, List.getElem?_append_right (by omega)] at hp
                      rw [hholes id (List.mem_of_getElem? hp)] at ho
                      cases ho
                      cases hhole
                  obtain ⟨o2, o', b1, b2, b3, b4⟩ := oat p id hidp
                  rw [ho] at b1; cases b1
                  have g1 : (encH s.oh q.2)[p]? = some c4.H[p] := by rw [← hH4]; exact a1
                  obtain ⟨n', k1, k2⟩ := u3 p o' _ b2 g1
                  rw [hn] at k1; cases k1
                  obtain ⟨w1, w2, w3, w4, w5⟩ := upO_upTo k2 (encH_shape g1)
                  have hσp := hσ1g p id v hidp hv
                  have hp3 : p < (encH s.ih y).length := by rw [encH_len, hlen, ol]; exact lt_of_get hidp
                  have hbx : n.isBox = true → v' = v := fun hb => by
                    have hb4 : (c4.H[p]).isBox = true := by rw [← w1.isBox]; exact hb
                    have hnh : ((encH s.ih y)[p]).isHole = false := by
                      rcases encH_shape (List.getElem?_eq_getElem hp3) with ⟨a, e⟩ | ⟨e', u, fn, xs, e⟩ | e <;> rw [e] <;> rfl
                    obtain ⟨o5, v5, m1, m2, m3, m4⟩ := kp4.objs p _ v (List.getElem?_eq_getElem hp3) hσp hnh
                    rw [a1] at m1; cases m1
                    rw [hv'] at m2; cases m2
                    exact (m4 hb4).2
                  have hov : o'.ver = o.ver ∧ o'.live = o.live ∧ o'.sk = o.sk ∧ o'.isBox = o.isBox := by
                    rcases b4 with ⟨_, e⟩ | ⟨a, a', e1, e2, e3, _⟩
                    · rw [e]; exact ⟨rfl, rfl, rfl, rfl⟩
                    · rw [e1, e2]; exact ⟨rfl, rfl, e3, rfl⟩
                  obtain ⟨o1, o2', o3, o4'⟩ := hov
                  refine ⟨by rw [← o1]; exact w2, fun e => ⟨hbx (w4 (by rw [o1]; exact e)), fun hl => ?_⟩, fun hb => ⟨by rw [← o4']; exact w5 hb, hbx hb⟩⟩
                  rw [← o2', ← o3]
                  exact w3 (by rw [o1]; exact e) hl
              obtain ⟨fr5, mn5, hs5⟩ := hmerge.ok hs2
              refine hk ⟨c4.S, setL L c4.σ c2.σ, h5, c4.w⟩ (single ((encA s.oa q.1).ren (back ids nid) (vers ns))) v (hz.fr.trans fr5) (hz.mn.trans mn5) hs5 ?_ hr
              rw [single_ren]
              exact hmerge.repV hv4
end
end Go.Ab
