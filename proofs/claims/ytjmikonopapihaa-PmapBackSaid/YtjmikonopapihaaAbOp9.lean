import Derived.Test.YtjmikonopapihaaAbOp8
/-
  AB: conversions, and what only hands on.
-/
namespace Go.Ab
set_option linter.unusedSimpArgs false
theorem bytes_cells (S : Nat → Prop) (w : World) : ∀ l : List UInt8, RepCs (RepC S w (.int .u8)) (l.map fun b => (b.toNat : Int)) (l.map fun b => Value.int .u8 b.toNat)
  | [] => rfl
  | b :: l => ⟨[.int .u8 b.toNat], _, rfl, ⟨rfl, byte_in b⟩, bytes_cells S w l⟩
theorem alloc_old (w : World) (o : Obj) (b : Nat) (h : b < w.heap.size) : (w.alloc o).heap[b]? = w.heap[b]? := Go.RowKit.Below.heap_alloc w o b h
theorem alloc_new (w : World) (o : Obj) : (w.alloc o).heap[w.heap.size]? = some o := by
  show (w.heap.push o)[w.heap.size]? = _
  simp
theorem u8_range {n : Int} (h : IntKind.wrap .u8 n = n) : 0 ≤ n ∧ n < 256 := by
  simp [IntKind.wrap, IntKind.bits, IntKind.signed] at h
  omega
theorem cells_bytes {S : Nat → Prop} {w : World} : ∀ {xs : List Int} {cs : List Value}, RepCs (RepC S w (.int .u8)) xs cs → cs = xs.map (Value.int .u8) ∧ bytesOf (strOfNums xs) = xs
  | [], cs, h => ⟨h, rfl⟩
  | x :: xs, cs, ⟨c, d, e, ⟨h1, h2⟩, h3⟩ => by
    obtain ⟨g1, g2⟩ := cells_bytes h3
    refine ⟨by rw [e, h1, g1]; rfl, ?_⟩
    obtain ⟨r1, r2⟩ := u8_range h2
    unfold bytesOf at g2 ⊢
    rw [strOfNums_data] at g2 ⊢
    rw [List.map_cons, List.map_cons, g2]
    congr 1
    rw [UInt8.toNat_ofNat']
    omega
section
variable {P : Program} {c : Cx}
theorem byteE_spec {t : TypeId} (h : isByteE P t = true) : ∃ e, P.underlying t = some (.slice e) ∧ P.underlying e = some (.int .u8) := by
  unfold isByteE at h
  split at h
  · rename_i e he
    split at h
    · rename_i hh; exact ⟨e, he, hh⟩
    · cases h
  · cases h
theorem run_convert_empty (w : World) (src e : TypeId) (hs : P.underlying src = some (.slice e)) (he : P.underlying e = some (.int .u8)) (a : Addr) (cap : Nat) :
    ∀ dst, P.underlying dst = some .string → (convert src dst (.slice (some a) 0 cap)).run P w = .ok (.string (strOfNums [])) w := by
  intro dst hd
  have hl : (loadCells a 0).run P w = .ok (([] : List Int).map (Value.int .u8)).toArray w := by simpa using run_loadCells_list (P := P) w a [] (by simp)
  rw [run_convert_bytes_string w src dst e _ 0 cap hs he hd, run_bytesToString w _ 0 cap [] hl]
  rfl
theorem conv_ok (hs : Sim c) {src dst : TypeId} {x : AV} {xv : Value} (hx : RepV c x xv) : OpS P c (do pure (.value (← convert src dst xv)) : Sem Next) (convA P src dst x) := by
  by_cases hi : ∃ k n, x = .v (.int k) n
  · obtain ⟨k0, n, rfl⟩ := hi
    refine OpS.pure hs fun R k r hr => ?_
    obtain ⟨e, _⟩ := repInt hx
    subst e
    simp only [convA] at hr
    cases hd : P.underlying dst with
    | none => rw [hd] at hr; cases hr
    | some d =>
      cases hsr : P.underlying src with
      | none => rw [hd, hsr] at hr; cases d <;> cases hr
      | some sd =>
        rw [hd, hsr] at hr
        cases d <;> simp only at hr <;> try (cases hr; done)
        rename_i k1
        exact ⟨_, _, run_v (by simp [convert, run_underlying hd, run_underlying hsr, Conv.intToInt]), repIntMk (wrap_wrap _ _), hr⟩
  · by_cases hstr : ∃ s, x = .v .str s
    · obtain ⟨xs, rfl⟩ := hstr
      intro R k r next hr hk
      obtain ⟨s, e1, e2, e3⟩ := (show RepC c.S c.w .str xs [xv] from hx)
      have e1 := List.singleton_inj.1 e1
      subst e1
      simp only [convA] at hr
      have bytes : P.underlying src = some .string → isByteE P dst = true → k (.v (.sl (.int .u8)) (some xs)) c.H = some r → Goes P next ((do pure (.value (← convert src dst (.string s))) : Sem Next).run P c.w) := by
        intro hsr hb hr
        obtain ⟨e, h1, h2⟩ := byteE_spec hb
        rw [run_v (run_bytes_of_string (P := P) c.w src dst e s hsr h1 h2)]
        have hcap := grownCap_ge c.w s.size 0 e
        have hcm := grownCap_le_maxLen c.w s.size 0 e e3
        generalize grownCap c.w s.size 0 e = cap at hcap hcm ⊢
        have hsz : c.w.drew.heap.size = c.w.heap.size := rfl
        obtain ⟨f1, f2, f3⟩ := upd0 hs (fun b => c.S b ∨ b = c.w.heap.size) (c.w.drew.alloc (.cells (bytesRow s cap) e ((bytesRow s cap).size, (bytesRow s cap).size + 1))) (fun _ h => .inl h)
          (fun b hb => hb.imp id (fun h => by rw [h]; exact Nat.le_refl _)) (by rw [World.size_alloc, hsz]; omega) rfl rfl rfl
          (fun b hb => alloc_old c.w.drew _ b hb) (fun b hb => by rw [World.size_alloc, hsz]; rcases hb with hb | hb; have := hs.lt b hb; omega; omega)
        refine hk _ (.v (.sl (.int .u8)) (some xs)) _ f1 f2 f3 ?_ hr
        refine ⟨c.w.heap.size, 0, cap, s.data.toList.map fun b => Value.int .u8 b.toNat, none, ?_, ?_, hcm, fun _ => .inr rfl, ?_, ?_, fun _ => rfl⟩
        · rw [e2, bytesOf_len]
        · rw [e2, bytesOf_len]; exact hcap
        · rw [e2]; exact bytes_cells _ _ _
        · refine At.row (pre := []) (post := (Array.replicate (cap - s.size) (Value.int .u8 0)).toList) (alloc_new c.w.drew _) ?_ rfl
          simp [bytesRow]
      cases hd : P.underlying dst with
      | none => rw [hd] at hr; cases hsr : P.underlying src with
        | none => rw [hsr] at hr; cases hr
        | some sd =>
          rw [hsr] at hr
          cases sd <;> simp only at hr <;> try (cases hr; done)
          obtain ⟨hb, _⟩ := HM.run_bif hr
          obtain ⟨e, h1, _⟩ := byteE_spec hb
          rw [h1] at hd; cases hd
      | some d =>
        cases hsr : P.underlying src with
        | none => rw [hd, hsr] at hr; cases d <;> cases hr
        | some sd =>
          rw [hd, hsr] at hr
          cases sd <;> try (cases d <;> cases hr; done)
          by_cases hds : d = .string
          · subst hds
            refine (OpS.pure (P := P) (hm := .ret (.v .str xs)) hs fun R k r hr => ?_) R k r next hr hk
            exact ⟨_, .string s, run_v (by simp [convert, run_underlying hd, run_underlying hsr]), repStrMk e2 e3, hr⟩
          · have hr' : (bif isByteE P dst then HM.ret (.v (.sl (.int .u8)) (some xs)) else HM.fail).run c.H k = some r := by
              cases d <;> first | exact hr | exact absurd rfl hds
            obtain ⟨hb, hr'⟩ := HM.run_bif hr'
            exact bytes hsr hb hr'
    · refine OpS.pure hs fun R k r hr => ?_
      have hr' : (match P.underlying dst with
        | some .string => bif isByteE P src then (peekHs x).bind fun y => match y with
          | .v (.sl (.int .u8)) o => (HM.ret (AV.v .str (o.getD [])) : HM AV)
          | .nsl => HM.ret (AV.v .str [])
          | _ => HM.fail
          else HM.fail
        | _ => (.fail : HM AV)).run c.H k = some r := by
        cases x <;> first | exact hr | skip
        rename_i u y
        cases u <;> first | exact hr | exact absurd ⟨_, _, rfl⟩ hi | exact absurd ⟨_, rfl⟩ hstr
      cases hd : P.underlying dst with
      | none => rw [hd] at hr'; cases hr'
      | some d =>
        rw [hd] at hr'
        cases d <;> simp only at hr' <;> try (cases hr'; done)
        obtain ⟨hb, hr'⟩ := HM.run_bif hr'
        obtain ⟨e, h1, h2⟩ := byteE_spec hb
        rw [HM.run_bind] at hr'
        obtain ⟨y, q1, q2, q3, q4⟩ := peek_ok hs hx hr'
        clear q4
        cases y <;> (try simp only at q1) <;> try (cases q1; done)
        case nsl =>
          rw [q3 rfl]
          exact ⟨_, _, run_v (run_convert_bytes_nil c.w src e h1 h2 _ _ dst hd), repStrMk rfl (by decide), q1⟩
        case v u o =>
          cases u <;> (try simp only at q1) <;> try (cases q1; done)
          rename_i u
          cases u <;> (try simp only at q1) <;> try (cases q1; done)
          rename_i k1
          cases k1 <;> (try simp only at q1) <;> try (cases q1; done)
          obtain ⟨cells, g1, g2⟩ := q2 _ _ rfl
          rcases g2 with ⟨g2, g3⟩ | ⟨b, off, cap, sp, g2, g3, g4, g5, _, g7⟩
          · subst g3
            rw [g2]
            exact ⟨_, _, run_v (run_convert_bytes_nil c.w src e h1 h2 _ _ dst hd), repStrMk rfl (by decide), q1⟩
          · obtain ⟨k1, k2⟩ := cells_bytes g1
            rw [g2]
            by_cases hc : cap = 0
            · have hl : o.getD [] = [] := List.eq_nil_of_length_eq_zero (by omega)
              rw [hl] at k2 ⊢
              exact ⟨_, _, run_v (run_convert_empty c.w src e h1 h2 _ cap dst hd), repStrMk k2.symm (by rw [strOfNums_size]; decide), by rw [hl] at q1; exact q1⟩
            have hsp := g7 hc
            subst hsp
            refine ⟨_, _, run_v (run_convert_bytes_arg c.w src e h1 h2 b off _ cap (o.getD []) rfl (fun i hi => ?_) dst hd), repStrMk k2.symm (by rw [strOfNums_size]; omega), q1⟩
            refine g5 i _ ?_
            rw [k1, List.getElem?_map, List.getElem?_eq_getElem hi]
            simp [hi]
theorem pick_ok (hs : Sim c) {x y z : AV} {xv yv zv : Value} (hx : RepV c x xv) (hy : RepV c y yv) (hz : RepV c z zv) :
    OpS P c (do pure (.value (if ← asBool xv then yv else zv)) : Sem Next) (pickA x y z) := by
  refine OpS.pure hs fun R k r hr => ?_
  unfold pickA at hr
  cases x <;> (try simp only at hr) <;> try (cases hr; done)
  rename_i u b
  cases u <;> (try simp only at hr) <;> try (cases hr; done)
  have e := List.singleton_inj.1 (show [xv] = [.bool b] from hx)
  subst e
  cases b with
  | true => exact ⟨y, yv, by simp [asBool], hy, hr⟩
  | false => exact ⟨z, zv, by simp [asBool], hz, hr⟩
theorem field_ok (hs : Sim c) {t : TypeId} {x : AV} {xv : Value} {j : Nat} (hx : RepV c x xv) :
    OpS P c (do pure (.value (← Instr.field t xv j)) : Sem Next) (fieldA P t x j) := by
  refine OpS.pure hs fun R k r hr => ?_
  unfold fieldA at hr
  have main : ∀ (a : AV), RepV c a xv → fieldOk P t j (a.sk.foffC j) (a.fldC j) = true → k (a.fldC j) c.H = some r →
      ∃ av v, (do pure (.value (← Instr.field t xv j)) : Sem Next).run P c.w = .ok (.value v) c.w ∧ RepV c av v ∧ k av c.H = some r := by
    intro a ha hf hr3
    obtain ⟨fs, f, k1, k2, k3, k4, k5⟩ := fieldOk_spec hf
    obtain ⟨i, hi, hsz, _, hbad⟩ := szOk_spec k4
    obtain ⟨hb0, _⟩ := fldC_bad hbad
    have hag : a.isAgg = true := by
      unfold AV.isAgg
      rw [fldC_sk] at hbad
      cases hq : a.sk <;> rw [hq] at hbad <;> first | rfl | (cases j <;> simp [Sk.fldC, Sk.isBad] at hbad)
    have h1 := repV1_of hb0 ha
    unfold RepV1 at h1
    rw [hag] at h1
    obtain ⟨cs, e, h2⟩ := h1
    subst e
    obtain ⟨pre, mid, post, e1, e2, e3, _⟩ := fldC_focus j h2 hbad
    obtain ⟨v, g1, g2⟩ := run_part (P := P) (post := post) k4 e3 (e2.trans k3.symm) c.w
    refine ⟨_, v, run_v ?_, g2, hr3⟩
    rw [e1]
    simp only [Instr.field, Sem.run_bind, run_underlying k1, Result.andThen_ok, k2, asAgg, Sem.run_pure, g1]
  cases x <;> (try simp only at hr) <;> try (cases hr; done)
  case v u y =>
    obtain ⟨hb, hr⟩ := HM.run_bif hr
    exact main _ hx hb hr
  case cons a b =>
    obtain ⟨hb, hr⟩ := HM.run_bif hr
    exact main _ hx hb hr
theorem repVs_get : ∀ {a : AV} {vs : List Value} {j : Nat}, RepVs c a vs → isUndef (a.fldC j) = false → ∃ v, vs[j]? = some v ∧ RepV c (a.fldC j) v
  | .nil, vs, j, _, hu => by cases j <;> simp [AV.fldC, isUndef] at hu
  | .cons a b, _, 0, ⟨v, r, e, h1, h2⟩, hu => ⟨v, by rw [e]; rfl, by
    have hb : a.sk.isBad = false := by
      cases ha : a.sk.isBad with
      | false => rfl
      | true =>
        cases a <;> first | (simp [AV.fldC, isUndef] at hu; done) | (have h1' : RepA c _ [v] := h1; exact h1'.elim) | skip
        all_goals (simp [AV.sk, Sk.isBad] at ha)
        rename_i u x
        have := Sk.noBad_isBad (Ty.sk_noBad u)
        cases hq : u.sk <;> rw [hq] at this ha <;> simp [Sk.isBad] at this ha
    exact repV_of hb h1⟩
  | .cons a b, _, j + 1, ⟨v, r, e, h1, h2⟩, hu => by
    obtain ⟨v', g1, g2⟩ := repVs_get (a := b) (j := j) h2 hu
    exact ⟨v', by rw [e]; exact g1, g2⟩
  | .v _ _, _, _, h, _ => h.elim
  | .nsl, _, _, h, _ => h.elim
  | .nptr, _, _, h, _ => h.elim
  | .ptr _ _ _, _, _, h, _ => h.elim
  | .pv _ _, _, _, h, _ => h.elim
  | .hs _ _, _, _, h, _ => h.elim
  | .fn _ _, _, _, h, _ => h.elim
  | .nfn, _, _, h, _ => h.elim
  | .tup _, _, _, h, _ => h.elim
  | .undef, _, _, h, _ => h.elim
theorem extract_ok (hs : Sim c) {x : AV} {xv : Value} {j : Nat} (hx : RepV c x xv) :
    OpS P c (do pure (.value (← Instr.extract xv j)) : Sem Next) (extrA x j) := by
  refine OpS.pure hs fun R k r hr => ?_
  unfold extrA at hr
  cases x <;> (try simp only at hr) <;> try (cases hr; done)
  rename_i a
  obtain ⟨vs, e, h⟩ := (show ∃ vs : List Value, xv = .tuple vs.toArray ∧ RepVs c a vs from hx)
  subst e
  cases hu : isUndef (a.fldC j) with
  | true => rw [hu] at hr; cases hr
  | false =>
    rw [hu] at hr
    obtain ⟨v, g1, g2⟩ := repVs_get h hu
    exact ⟨_, v, run_v (by simp [Instr.extract, g1]), g2, hr⟩
end
end Go.Ab
