import Derived.Test.YtjmikonopapihaaAbOp1
/-
  AB: stores; elements; lengths.
-/
namespace Go.Ab
set_option linter.unusedSimpArgs false
section
variable {P : Program} {c : Cx}
theorem blk_lt {w : World} {b : Nat} {x : Obj} (h : w.heap[b]? = some x) : b < w.heap.size := (Array.getElem?_eq_some_iff.1 h).1
theorem store_ok (hs : Sim c) {t : TypeId} {p x : AV} {pv xv : Value} (hp : RepV c p pv) (hx : RepV c x xv) :
    OpS P c (do Instr.storeAt t pv xv; pure .skip : Sem Next) ((storeA P t p x).bind fun _ => .ret .undef) := by
  intro R k r next hr hk
  rw [HM.run_bind] at hr
  cases p <;> simp only [storeA] at hr <;> try (cases hr; done)
  case ptr id ver path =>
    obtain ⟨o, ho, hh, hr⟩ := HM.run_get hr
    cases o with
    | hole => cases hh
    | frz _ _ _ => cases hr
    | dead _ => cases hr
    | box a =>
      obtain ⟨hb, hr⟩ := HM.run_bif hr
      simp only [Bool.and_eq_true] at hb
      obtain ⟨⟨⟨⟨hb1, hb2⟩, hb3⟩, hb4⟩, hb5⟩ := hb
      obtain ⟨o0, _, hr⟩ := HM.run_set hr
      obtain ⟨_, hi1, hsz1, _, hbad⟩ := szOk_spec hb2
      obtain ⟨_, hi2, hsz2, _, hbadx⟩ := szOk_spec hb3
      obtain ⟨v', b, h1, h2, h3, h4⟩ := repPtr hp ho (show HO.ver (.box a) = ver from (beq_nat hb1).symm) rfl
      have hobj := hs.obj id _ v' ho h1
      obtain ⟨b', cur, T, q1, q2, q3, q4⟩ := hobj
      have hb' : b' = b := by rw [q1] at h2; cases h2; rfl
      subst hb'
      obtain ⟨pre, mid, post, e1, e2, e3, e4⟩ := getP_focus path q3 h3 hbad
      have hlen : mid.length = x.csz := by rw [e3.length, ← hsz1, ← hsz2]; rw [hi1] at hi2; cases hi2; rfl
      have hst := run_storeVar (P := P) (c := c) hb3 hx q2 e1 e2 hlen
      subst h4
      rw [run_u (show (Instr.storeAt t _ xv).run P c.w = .ok () _ from by simp only [Instr.storeAt, Instr.sureAddr, Sem.run_bind, Sem.run_pure, Result.andThen_ok]; exact hst)]
      have hnb : (a.setP path x).sk.noBad = true := by rw [Sk.eqb_eq hb4]; exact hb5
      have hlive : c.live b' := ⟨id, _, v', ho, h1, h2⟩
      obtain ⟨f1, f2, f3⟩ := upd hs ho h1 (.box (a.setP path x)) v' c.S (c.w.setRow b' (pre ++ (xv.cells.toList ++ post)).toArray) (fun _ h => h) (fun _ h => .inl h)
        (by rw [setRow_size]; exact Nat.le_refl _) rfl rfl rfl (fun b hb hne => setRow_other _ _ _ _ (fun e => hne (by rw [e]; exact h2)))
        (fun b hb => ⟨.inl hb, by rw [setRow_size]; have hb2 : blkOf v' = some b := hb; rw [h2] at hb2; cases hb2; exact blk_lt q2, by have hb2 : blkOf v' = some b := hb; rw [h2] at hb2; cases hb2; exact hs.out _ hlive⟩)
        (fun b hb => by rw [setRow_size]; exact hs.lt b hb) (fun _ => ⟨rfl, Nat.le_refl _, fun _ => ⟨rfl, fun _ => ⟨rfl, Sk.eqb_eq hb4⟩⟩, fun _ => ⟨rfl, rfl⟩⟩)
        (fun hm => ⟨b', _, T, q1, setRow_heap _ _ _ _ _ _ q2, by simpa using (e4 x _ (hx.cells hbadx) hnb).mono hm, hnb⟩)
      exact hk _ .undef _ f1 f2 f3 trivial hr
    | row e ver' u fn xs =>
      cases path with
      | nil => cases hr
      | cons i p =>
        obtain ⟨hb, hr⟩ := HM.run_bif hr
        simp only [Bool.and_eq_true] at hb
        obtain ⟨⟨hb1, hb2⟩, hb3⟩ := hb
        cases hd : dec u ((AV.v u (xs.getD i (zero u))).setP p x) with
        | none => rw [hd] at hr; cases hr
        | some z =>
          rw [hd] at hr
          obtain ⟨o0, _, hr⟩ := HM.run_set hr
          obtain ⟨_, hi1, hsz1, _, hbad⟩ := szOk_spec hb2
          obtain ⟨_, hi2, hsz2, _, hbadx⟩ := szOk_spec hb3
          obtain ⟨v', b, h1, h2, h3, h4⟩ := repPtr hp ho (show HO.ver (.row e ver' u fn xs) = ver from (beq_nat hb1).symm) rfl
          have hobj := hs.obj id _ v' ho h1
          obtain ⟨cells, ⟨hc0, hc⟩, q2, q3, q4, q5⟩ := hobj
          rcases hc with ⟨g1, _⟩ | ⟨g, cap, cur, g1, _, g3, g4, g5, g6, g7⟩
          · rw [g1] at h2; cases h2
          · have hgb : g = b := by rw [g1] at h2; cases h2; rfl
            subst hgb
            have hi : i < xs.length := h3.1
            obtain ⟨pre, mid, post, e1, e2, e3, e4⟩ := RepCs.focus (n := u.csz) (fun _ _ h => RepC.length h) (zero u) i hi q2
            have hrA : RepA c (.v u (xs.getD i (zero u))) mid := e3
            obtain ⟨pre', mid', post', k1, k2, k3, k4⟩ := getP_focus p hrA h3.2 hbad
            have hcur : cur.toList = cells ++ cur.toList.drop (xs.length * u.csz) := by
              conv => lhs; rw [← List.take_append_drop (xs.length * u.csz) cur.toList]
              rw [g7]
            have hsplit : cur.toList = (pre ++ pre') ++ (mid' ++ (post' ++ (post ++ cur.toList.drop (xs.length * u.csz)))) := by
              refine hcur.trans ?_
              rw [e1, k1]; simp
            have hlen : mid'.length = x.csz := by rw [k3.length, ← hsz1, ← hsz2]; rw [hi1] at hi2; cases hi2; rfl
            have hoff : (pre ++ pre').length = Sk.offP (i :: p) (HO.row e ver' u fn xs).sk := by rw [List.length_append, e2, k2]; rfl
            have hst := run_storeVar (P := P) (c := c) hb3 hx g3 hsplit hoff hlen
            subst h4
            rw [run_u (show (Instr.storeAt t _ xv).run P c.w = .ok () _ from by simp only [Instr.storeAt, Instr.sureAddr, Sem.run_bind, Sem.run_pure, Result.andThen_ok]; exact hst)]
            have hlive : c.live g := ⟨id, _, v', ho, h1, h2⟩
            have hlx : xv.cells.toList.length = mid'.length := by rw [(hx.cells hbadx).length, hlen]
            have hnew : RepCs (RepC c.S c.w u) (xs.set i z) (pre ++ ((pre' ++ (xv.cells.toList ++ post')) ++ post)) :=
              e4 z _ (dec_rep hd (k4 x _ (hx.cells hbadx) (dec_noBad hd)))
            have hnl : (pre ++ ((pre' ++ (xv.cells.toList ++ post')) ++ post)).length = xs.length * u.csz := by
              rw [← hc0, e1, k1]; simp only [List.length_append, hlx]
            have hnewl : (pre ++ pre' ++ (xv.cells.toList ++ (post' ++ (post ++ cur.toList.drop (xs.length * u.csz))))) = (pre ++ ((pre' ++ (xv.cells.toList ++ post')) ++ post)) ++ cur.toList.drop (xs.length * u.csz) := by simp
            obtain ⟨f1, f2, f3⟩ := upd hs ho h1 (.row e ver' u fn (xs.set i z)) v' c.S (c.w.setRow g (pre ++ pre' ++ (xv.cells.toList ++ (post' ++ (post ++ cur.toList.drop (xs.length * u.csz))))).toArray) (fun _ h => h) (fun _ h => .inl h)
              (by rw [setRow_size]; exact Nat.le_refl _) rfl rfl rfl (fun b hb hne => setRow_other _ _ _ _ (fun e => hne (by rw [e]; exact h2)))
              (fun b hb => ⟨.inl hb, by rw [setRow_size]; have hb2 : blkOf v' = some b := hb; rw [h2] at hb2; cases hb2; exact blk_lt g3, by have hb2 : blkOf v' = some b := hb; rw [h2] at hb2; cases hb2; exact hs.out _ hlive⟩)
              (fun b hb => by rw [setRow_size]; exact hs.lt b hb) (fun _ => ⟨rfl, Nat.le_refl _, fun _ => ⟨rfl, fun _ => ⟨rfl, by simp [HO.sk]⟩⟩, fun h => by cases h⟩)
              (fun hm => ⟨pre ++ ((pre' ++ (xv.cells.toList ++ post')) ++ post), ⟨by rw [hnl, List.length_set], .inr ⟨g, cap, _, by rw [g1, List.length_set], Nat.zero_le _, setRow_heap _ _ _ _ _ _ g3, by rw [List.length_set]; exact g4, g5, by
                  have hcs : cur.size = cur.toList.length := by simp
                  rw [← g6, hcs]; conv => rhs; rw [hsplit]
                  simp only [List.size_toArray, List.length_append, hlx], by
                  rw [List.length_set, hnewl]
                  show List.take _ (_ ++ _) = _
                  rw [← hnl, List.take_left]⟩⟩,
                RepCs.mono (fun _ _ h => RepC.mono hm.sub hm.heapS h) hnew, q3, fun hf => ⟨fun h => by
                  have := (q4 hf).1 h
                  rw [this] at hi; simp at hi, fun h => by
                  have : xs.length = 0 := by have := congrArg List.length h; simpa using this
                  omega⟩, q5⟩)
            exact hk _ .undef _ f1 f2 f3 trivial hr
end
end Go.Ab
