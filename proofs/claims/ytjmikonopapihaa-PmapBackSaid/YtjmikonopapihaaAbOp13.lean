import Derived.Test.YtjmikonopapihaaAbOp12
/-
  AB: append.
-/
namespace Go.Ab
set_option linter.unusedSimpArgs false
section
variable {P : Program} {c : Cx}
theorem ownsRow_base {w : World} {b b' : Nat} {e : TypeId} {s : Nat} {v : Value} {n : Nat} {xs : List Value} (h : w.ownsRow b e s v n xs) (hb : b' ≤ b) : w.ownsRow b' e s v n xs := by
  obtain ⟨h0, h1 | ⟨g, cap, cur, h2, h3, h4⟩⟩ := h
  · exact ⟨h0, .inl h1⟩
  · exact ⟨h0, .inr ⟨g, cap, cur, h2, Nat.le_trans hb h3, h4⟩⟩
/-- append: the new slice, and where it lies -/
theorem app_core (w : World) {t ty e : TypeId} {u : Ty} {i : TypeInfo} {v : Value} {n : Nat} {cells : List Value} (ht : P.underlying t = some (.slice e)) (hi : P.info? e = some i) (he : elOk P e u = true)
    (hown : w.ownsRow 0 e u.csz v n cells) {ad : Addr} {m c : Nat} {news : List Value} (hl : news.length = m * u.csz) (hnews : ∀ j x, news[j]? = some x → w.cell? (ad.add j) = some x) (h1 : ∀ x ∈ news, x.oneCell' = true)
    (h63 : n + m ≤ maxLen) (hbytes : (n + m) * i.bytes ≤ 140737488355328) :
    ∃ v' w', (Builtin.append_ #[t, t] ty #[v, .slice (some ad) m c]).run P w = .ok v' w' ∧ w'.ownsRow 0 e u.csz v' (n + m) (cells ++ news) ∧ w.grownBy w' v.ownBlock ∧
      (v' = .slice none 0 0 ↔ v = .slice none 0 0 ∧ m = 0) ∧ (∀ b, blkOf v' = some b → blkOf v = some b ∨ w.heap.size ≤ b) := by
  obtain ⟨i', z, k1, k2, k3, k4, k5, k6⟩ := elOk_spec he
  rw [hi] at k1; cases k1
  rcases hown.2 with ⟨hv, hn⟩ | ⟨g, cap, cur, hv, _, hg, hnc, hcm, hcs, htake⟩
  · have hown' : w.ownsRow w.heap.size e u.csz v n cells := ⟨hown.1, .inl ⟨hv, hn⟩⟩
    obtain ⟨v', w', r1, r2, r3, r4⟩ := run_append_own (P := P) w w.heap.size t ty e i z u.csz i.bytes ht hi k4 k2 rfl k5 k3 v n cells hown' ad m c news hl hnews h1 h63 hbytes (Nat.le_refl _)
    refine ⟨v', w', r1, ownsRow_base r2 (Nat.zero_le _), r3, r4, fun b hb => .inr ?_⟩
    rcases r2.2 with ⟨q, _⟩ | ⟨g, cap, cur, q, q2, _⟩
    · rw [q] at hb; cases hb
    · rw [q] at hb; cases hb; exact q2
  · obtain ⟨v', w', r1, r2, r3, r4⟩ := run_append_own (P := P) w 0 t ty e i z u.csz i.bytes ht hi k4 k2 rfl k5 k3 v n cells hown ad m c news hl hnews h1 h63 hbytes (Nat.zero_le _)
    refine ⟨v', w', r1, r2, r3, r4, fun b hb => ?_⟩
    subst hv
    by_cases hroom : n + m ≤ cap
    · have hfit : n * i.size + news.length ≤ cur.size := by rw [hl, hcs, k2, ← Nat.add_mul]; exact Nat.mul_le_mul_right _ hroom
      have hr := run_append_room (P := P) w t ty e i ht hi g n cap cur hg ad m c news (by rw [hl, k2]) hnews h1 hroom hfit
      rw [hr] at r1
      cases r1
      exact .inl hb
    · have holds : ∀ j x, cells[j]? = some x → w.cell? ((⟨g, 0, none⟩ : Addr).add j) = some x := hown.cells (g := g) rfl
      have hr := run_append_grow (P := P) w t ty e i z ht hi k4 ⟨g, 0, none⟩ n cap cells (by rw [hown.1, k2]) holds ad m c news (by rw [hl, k2]) hnews (by omega) (by unfold maxLen at h63; omega) (growslice_fits (by omega) hbytes)
      rw [hr] at r1
      cases r1
      cases hb
      exact .inr (Nat.le_refl _)
theorem ownBlock_eq (v : Value) (b : Nat) (h : v.ownBlock = some b) : blkOf v = some b := by
  cases v <;> first | (cases h; done) | skip
  rename_i a _ _
  cases a <;> first | (cases h; done) | exact h
theorem row_blk_lt {w : World} {b0 : Nat} {e : TypeId} {s : Nat} {v : Value} {n : Nat} {xs : List Value} (h : w.ownsRow b0 e s v n xs) {b : Nat} (hb : blkOf v = some b) : b < w.heap.size := by
  rcases h.2 with ⟨q, _⟩ | ⟨g, cap, cur, q, _, hg, _⟩
  · rw [q] at hb; cases hb
  · rw [q] at hb; cases hb; exact blk_lt hg
/-- a row grows -/
theorem app_row (hs : Sim c) {id : Nat} {o : HO} {v v' : Value} {w' : World} {e : TypeId} {ver' : Nat} {u : Ty} {fn : Bool} {xs : List (El u)} {cells : List Value} {row : Option Nat} (ho : c.H[id]? = some o) (hv : c.σ[id]? = some v)
    (hblk : ∀ b, row = some b → o.blk v = some b) (hown : w'.ownsRow 0 e u.csz v' xs.length cells) (hrep : RepCs (RepC c.S c.w u) xs cells) (hz : 0 < u.csz) (hg : c.w.grownBy w' row)
    (hnew : ∀ b, blkOf v' = some b → o.blk v = some b ∨ c.w.heap.size ≤ b) (hf : fn = true → (v' = .slice none 0 0 ↔ xs = [])) (hf2 : fn = false → v' ≠ .slice none 0 0)
    (hkeep : o.isHole = false → o.ver < ver') :
    ∃ c', Fr c c' ∧ Mn c c' ∧ Sim c' ∧ c'.w = w' ∧ c'.H = c.H.set id (.row e ver' u fn xs) ∧ RepV c' (.hs id ver') v' := by
  have hlive : ∀ b, o.blk v = some b → c.live b := fun b hb => ⟨id, o, v, ho, hv, hb⟩
  obtain ⟨f1, f2, f3⟩ := upd hs ho hv (.row e ver' u fn xs) v' c.S w' (fun _ h => h) (fun _ h => .inl h) hg.size hg.os hg.tape hg.output
    (fun b hb hne => hg.block b hb (fun e => hne (hblk b e.symm)))
    (fun b hb => ⟨hnew b hb, row_blk_lt hown hb, fun hS => by
      rcases hnew b hb with h | h
      · exact hs.out b (hlive b h) hS
      · have := hs.lt b hS; omega⟩)
    (fun b hb => Nat.lt_of_lt_of_le (hs.lt b hb) hg.size) (fun h => ⟨rfl, Nat.le_of_lt (hkeep h), fun e => by have := hkeep h; have e' : ver' = o.ver := e; omega, fun h => by cases h⟩)
    (fun hm => ⟨cells, hown, RepCs.mono (fun _ _ h => RepC.mono hm.sub hm.heapS h) hrep, hz, hf, hf2⟩)
  refine ⟨_, f1, f2, f3, rfl, rfl, .row e ver' u fn xs, v', List.getElem?_set_self (lt_of_get ho), List.getElem?_set_self (lt_of_get hv), rfl, Nat.le_refl _, ?_, fun _ => rfl⟩
  rcases hown.2 with ⟨q, _⟩ | ⟨g, cap, cur, q, _⟩
  · exact ⟨_, _, _, by rw [q]⟩
  · exact ⟨_, _, _, by rw [q]⟩
theorem grownBy_refl (w : World) (row : Option Nat) : w.grownBy w row := ⟨rfl, rfl, rfl, Nat.le_refl _, fun _ _ _ => rfl⟩
theorem len_of_own {w : World} {e : TypeId} {s : Nat} {v : Value} {n : Nat} {xs : List Value} (h : w.ownsRow 0 e s v n xs) : ∃ base cap, v = .slice base n cap ∧ n ≤ cap := by
  rcases h.2 with ⟨q, r⟩ | ⟨g, cap, cur, q, _, _, r, _⟩
  · exact ⟨none, 0, by rw [q, r], by omega⟩
  · exact ⟨_, cap, q, r⟩
/-- what append leaves, whatever is appended -/
theorem app_go {t T e : TypeId} {u : Ty} {i : TypeInfo} {sv xv : Value} {xs : List (El u)} {o : Option (List (El u))} {cells : List Value} (ht : P.underlying t = some (.slice e)) (hi : P.info? e = some i) (he : elOk P e u = true) (hb0 : Nat.blt 0 i.bytes = true)
    (hown : c.w.ownsRow 0 e u.csz sv xs.length cells) (hrep : RepCs (RepC c.S c.w u) xs cells) (hx : SlRep c.S c.w u o xv) (hbN : (xs.length + (o.getD []).length) * i.bytes ≤ 140737488355328) :
    ∃ v' w' cells', (Builtin.append_ #[t, t] T #[sv, xv]).run P c.w = .ok v' w' ∧ w'.ownsRow 0 e u.csz v' (xs ++ o.getD []).length cells' ∧ RepCs (RepC c.S c.w u) (xs ++ o.getD []) cells' ∧ c.w.grownBy w' sv.ownBlock ∧
      (v' = .slice none 0 0 ↔ sv = .slice none 0 0 ∧ o.getD [] = []) ∧ (∀ b, blkOf v' = some b → blkOf sv = some b ∨ c.w.heap.size ≤ b) := by
  obtain ⟨news, h1, ⟨h2, h3⟩ | ⟨ad, m, h2, h3⟩⟩ := src_cells hx
  · subst h3
    have : news = [] := h1
    subst h2
    obtain ⟨base, cap, hsv, hcap⟩ := len_of_own hown
    subst hsv
    refine ⟨_, _, cells, run_append_nothing ht hi base _ cap hcap c.w, by simpa using hown, by simpa using hrep, grownBy_refl _ _, by simp, fun b hb => .inl hb⟩
  · have hby := Nat.le_of_ble_eq_true (show Nat.ble (0 + 1) i.bytes = true from hb0)
    have hle : xs.length + (o.getD []).length ≤ (xs.length + (o.getD []).length) * i.bytes := Nat.le_mul_of_pos_right _ (by omega)
    subst h2
    obtain ⟨v', w', r1, r2, r3, r4, r5⟩ := app_core (P := P) c.w (ty := T) ht hi he hown (news := news) (RepCs.length (n := u.csz) (fun _ _ h => RepC.length h) h1) h3
      (RepCs.all (p := fun v => v.oneCell' = true) (fun _ _ h => RepC.one h) h1) (by unfold maxLen; omega) hbN
    refine ⟨v', w', cells ++ news, r1, by rw [List.length_append]; exact r2, RepCs.append hrep h1, r3, ?_, r5⟩
    rw [r4]
    exact and_congr_right fun _ => List.length_eq_zero_iff
theorem dec_src {u : Ty} {y : AV} {o : Option (List (El u))} {xv : Value} (h : dec (.sl u) y = some o) (h1 : ∀ u' o', y = .v (.sl u') o' → SlRep c.S c.w u' o' xv) (h2 : y = .nsl → xv = .slice none 0 0) : SlRep c.S c.w u o xv := by
  cases y <;> simp only [dec] at h <;> try (cases h; done)
  case v u' x =>
    cases u' <;> first | (unfold decV at h; simp [Ty.eqb] at h; done) | skip
    exact SlRep.cast (h1 _ _ rfl) h
  case nsl =>
    cases h
    exact ⟨[], rfl, .inl ⟨h2 rfl, rfl⟩⟩
theorem app_ok (hs : Sim c) {nid : Nat} (hh : c.H[nid]? = some .hole) {t T : TypeId} {s x : AV} {sv xv : Value} (hsv : RepV c s sv) (hx : RepV c x xv) :
    OpS P c (do pure (.value (← Builtin.append_ #[t, t] T #[sv, xv])) : Sem Next) (appA P t s x nid) := by
  intro R k r next hr hk
  unfold appA at hr
  cases he : elemOf P t with
  | none => rw [he] at hr; cases hr
  | some e =>
    rw [he] at hr
    simp only at hr
    cases hu : ty P e with
    | none => rw [hu] at hr; cases hr
    | some u =>
      cases hi : P.info? e with
      | none => rw [hu, hi] at hr; cases hr
      | some i =>
        rw [hu, hi] at hr
        simp only at hr
        cases hb : (elOk P e u && Nat.blt 0 i.bytes) with
        | false => rw [hb] at hr; cases hr
        | true =>
          rw [hb] at hr
          simp only [Bool.not_true, cond_false] at hr
          rw [HM.run_bind] at hr
          obtain ⟨y, hr2, y1, y2, _⟩ := peek_ok hs hx hr
          clear hr
          have hr := hr2
          clear hr2
          simp only [Bool.and_eq_true] at hb
          have ht := elemOf_eq he
          obtain ⟨i', z, q1, q2, q3, q4, q5, q6⟩ := elOk_spec hb.1
          cases hd : dec (.sl u) y with
          | none => rw [hd] at hr; cases hr
          | some o =>
            rw [hd] at hr
            simp only at hr
            have hsrc := dec_src hd y1 y2
            have fresh : sv = .slice none 0 0 → (need (Nat.ble ((o.getD []).length * i.bytes) 140737488355328) (HM.set nid (.row e 0 u true (o.getD [])) (.ret (.hs nid 0)))).run c.H k = some r →
                Goes P next ((do pure (.value (← Builtin.append_ #[t, t] T #[sv, xv])) : Sem Next).run P c.w) := fun hnil hr => by
              obtain ⟨hby, hr⟩ := HM.run_need hr
              obtain ⟨_, _, hr⟩ := HM.run_set hr
              subst hnil
              obtain ⟨v', w', cells', r1, r2, r3, r4, r5, r6⟩ := app_go (P := P) (T := T) (xs := ([] : List (El u))) (cells := []) ht hi hb.1 hb.2 ⟨by simp, .inl ⟨rfl, rfl⟩⟩ rfl hsrc (by have := Nat.le_of_ble_eq_true hby; simpa using this)
              have hlt : nid < c.σ.length := by rw [hs.len]; exact lt_of_get hh
              obtain ⟨c', f1, f2, f3, f4, f5, f6⟩ := app_row (fn := true) (ver' := 0) (row := none) hs hh (List.getElem?_eq_getElem hlt) (fun b hb => by cases hb) r2 r3 q3 r4
                (fun b hb => .inr ((r6 b hb).resolve_left (by simp [blkOf]))) (fun _ => by rw [r5]; simp) (fun h => by cases h) (fun h => by cases h)
              rw [run_v r1, ← f4]
              exact hk c' _ _ f1 f2 f3 f6 (by rw [f5]; exact hr)
            cases s <;> (try simp only at hr) <;> try (cases hr; done)
            case nsl => exact fresh (List.singleton_inj.1 (show RepA c .nsl [sv] from hsv)) hr
            case v u0 x0 =>
              cases u0 <;> (try simp only at hr) <;> try (cases hr; done)
              cases x0 <;> (try simp only at hr) <;> try (cases hr; done)
              rename_i t0
              exact fresh (List.singleton_inj.1 (show RepC c.S c.w (.sl t0) none [sv] from hsv)) hr
            case hs id ver =>
              obtain ⟨ob, ho, hhole, hr⟩ := HM.run_get hr
              cases ob <;> (try simp only at hr) <;> try (cases hr; done)
              rename_i e' ver' u' fn xs
              obtain ⟨hg, hr2⟩ := HM.run_bif hr
              clear hr
              have hr := hr2
              clear hr2
              simp only [Bool.and_eq_true] at hg
              have hver := beq_nat hg.1
              have hee := beq_nat hg.2
              subst hver; subst hee
              cases hdv : decV (.sl u') (.sl u) (some (o.getD [])) with
              | none => rw [hdv] at hr; cases hr
              | some zo =>
                rw [hdv] at hr
                cases zo with
                | none => cases hr
                | some zs =>
                  simp only at hr
                  obtain ⟨hby, hr⟩ := HM.run_need hr
                  obtain ⟨_, _, hr⟩ := HM.run_set hr
                  have huu : u = u' := by
                    unfold decV at hdv
                    split at hdv
                    · rename_i hq; have := Ty.eqb_eq hq; cases this; rfl
                    · cases hdv
                  subst huu
                  have hzs : zs = o.getD [] := by
                    unfold decV at hdv
                    split at hdv
                    · cases hdv; rfl
                    · cases hdv
                  subst hzs
                  have hσ := repHs hsv ho rfl
                  obtain ⟨cells, p1, p2, p3, p4, p5⟩ := hs.obj id _ sv ho hσ
                  obtain ⟨v', w', cells', r1, r2, r3, r4, r5, r6⟩ := app_go (P := P) (T := T) ht hi hb.1 hb.2 p1 p2 hsrc (Nat.le_of_ble_eq_true hby)
                  obtain ⟨c', f1, f2, f3, f4, f5, f6⟩ := app_row (fn := fn) (ver' := ver + 1) (row := sv.ownBlock) hs ho hσ (fun b hb => ownBlock_eq sv b hb) r2 r3 q3 r4
                    (fun b hb => r6 b hb) (fun hf => by rw [r5, p4 hf]; simp) (fun hf hv' => p5 hf (r5.1 hv').1) (fun _ => Nat.lt_succ_self _)
                  rw [run_v r1, ← f4]
                  exact hk c' _ _ f1 f2 f3 f6 (by rw [f5]; exact hr)
end
end Go.Ab
