import Derived.Test.YtjmikonopapihaaAbOp15
import Derived.Laws.CopyRow
import Derived.Laws.IdiomCopy
/-
  AB: copy into a part of an array.
-/
namespace Go.Ab
set_option linter.unusedSimpArgs false
section
variable {P : Program} {c : Cx}
theorem run_cpy {dT sT ty elem : TypeId} (hu : P.underlying dT = some (.slice elem)) (hsz : (P.info? elem).map (·.size) = some 1) {b off dLen dCap : Nat} {sv : Value} {u : Ty} {o : Option (List (El u))}
    (hu1 : u.csz = 1) (hsrc : SlRep c.S c.w u o sv) {cs : Array Value} {T : TypeId} (hg : c.w.heap[b]? = some (.cells cs T (0, 0))) (hfit : 0 < dLen → off + dLen ≤ cs.size) :
    ∃ cells', RepCs (RepC c.S c.w u) (o.getD []) cells' ∧ (Builtin.copy_ #[dT, sT] ty #[.slice (some ⟨b, off, none⟩) dLen dCap, sv]).run P c.w =
      .ok (goInt ((min (o.getD []).length dLen : Nat) : Int)) (if 0 < min (o.getD []).length dLen then c.w.setRow b (cs.toList.take off ++ (cells'.take dLen ++ cs.toList.drop (off + min (o.getD []).length dLen))).toArray else c.w) := by
  obtain ⟨cells', h1, h2⟩ := hsrc
  have hl : cells'.length = (o.getD []).length := by rw [RepCs.length (n := u.csz) (fun _ _ h => RepC.length h) h1, hu1, Nat.mul_one]
  refine ⟨cells', h1, ?_⟩
  by_cases hm : 0 < min (o.getD []).length dLen
  · rw [if_pos hm]
    rcases h2 with ⟨_, h2⟩ | ⟨b2, off2, cap2, sp2, g1, g2, g3, g4, g5, g6⟩
    · subst h2; simp at hm
    · have hsp : sp2 = none := g6 (by omega)
      subst hsp
      subst g1
      have hlen : (cells'.take dLen).length = Nat.min (o.getD []).length dLen := by rw [List.length_take, hl]; exact Nat.min_comm _ _
      have hmin : Nat.min (o.getD []).length dLen = min (o.getD []).length dLen := rfl
      have hd0 : 0 < dLen := by omega
      have := run_copy_row (P := P) c.w dT sT ty elem b off dLen dCap ⟨b2, off2, none⟩ (o.getD []).length cap2 cs T (cells'.take dLen) hu hsz hg hlen
        (fun j v hj => by
          rw [List.getElem?_take] at hj
          split at hj
          · rw [add_lit]; exact g4 j v hj
          · cases hj)
        (by rw [hlen, hmin]; have := hfit hd0; omega) (fun v hv => RepCs.all (p := fun v => v.oneCell' = true) (fun _ _ h => RepC.one h) h1 v (List.mem_of_mem_take hv))
      rw [this, hlen, hmin, List.append_assoc]
  · rw [if_neg hm]
    have hz : min (o.getD []).length dLen = 0 := by omega
    have hz' : ∀ n, n = (o.getD []).length → Nat.min n dLen = 0 := fun n e => by rw [e]; exact hz
    rcases h2 with ⟨g1, h2⟩ | ⟨b2, off2, cap2, sp2, g1, g2, g3, g4, g5, g6⟩
    · subst g1; subst h2
      have := run_copy_none (P := P) c.w dT sT ty elem (some ⟨b, off, none⟩) none dLen dCap 0 0 hu hsz (hz' 0 rfl)
      rw [this, hz]; rfl
    · subst g1
      have := run_copy_none (P := P) c.w dT sT ty elem (some ⟨b, off, none⟩) (some ⟨b2, off2, sp2⟩) dLen dCap (o.getD []).length cap2 hu hsz (hz' _ rfl)
      rw [this, hz]; rfl
theorem repCs_arr {u : Ty} {S : Nat → Prop} {w : World} {n : Nat} {zs ys : List (El u)} {mid cells : List Value} {lo hi : Nat} (hu1 : u.csz = 1) (h1 : zs.length = n) (h2 : RepCs (RepC S w u) zs mid) (h3 : RepCs (RepC S w u) ys cells) (k1 : lo ≤ hi) (k2 : hi ≤ n) :
    RepC S w (.arr n u) (dcpy zs lo hi ys) (mid.take lo ++ (cells.take (hi - lo) ++ mid.drop (lo + min ys.length (hi - lo)))) := by
  have e : (ys.take (hi - lo)).length = min ys.length (hi - lo) := by rw [List.length_take, Nat.min_comm]
  refine ⟨?_, ?_⟩
  · simp only [dcpy, List.length_append, List.length_drop, e]
    first | omega | (rw [List.length_take]; omega)
  · have t1 := RepCs.take (n := u.csz) (fun _ _ h => RepC.length h) lo h2
    have t2 := RepCs.take (n := u.csz) (fun _ _ h => RepC.length h) (hi - lo) h3
    have t3 := RepCs.drop (n := u.csz) (fun _ _ h => RepC.length h) (lo + min ys.length (hi - lo)) h2
    rw [hu1, Nat.mul_one] at t1 t2 t3
    show RepCs _ (zs.take lo ++ (ys.take (hi - lo) ++ zs.drop (lo + (ys.take (hi - lo)).length))) _
    rw [e]
    exact RepCs.append t1 (RepCs.append t2 t3)
theorem cpy_ok (hs : Sim c) {t t' T : TypeId} {d x : AV} {dv xv : Value} (hd : RepV c d dv) (hx : RepV c x xv) :
    OpS P c (do pure (.value (← Builtin.copy_ #[t, t'] T #[dv, xv])) : Sem Next) (cpyA P t d x) := by
  intro R k r next hr hk
  unfold cpyA at hr
  cases he : elemOf P t with
  | none => rw [he] at hr; cases hr
  | some e =>
    rw [he] at hr
    simp only at hr
    cases hu : ty P e with
    | none => rw [hu] at hr; cases hr
    | some u =>
      cases hi : P.info? e with
      | none => rw [hu, hi] at hr; cases hr
      | some i =>
        rw [hu, hi] at hr
        simp only at hr
        cases hb : (Nat.beq i.size 1 && Nat.beq u.csz 1) with
        | false => rw [hb] at hr; cases hr
        | true =>
          rw [hb] at hr
          simp only [Bool.not_true, cond_false] at hr
          simp only [Bool.and_eq_true] at hb
          have hsz := beq_nat hb.1
          have hu1 := beq_nat hb.2
          rw [HM.run_bind] at hr
          obtain ⟨y, hr2, y1, y2, _⟩ := peek_ok hs hx hr
          clear hr
          have hr := hr2
          clear hr2
          have ht := elemOf_eq he
          cases hdd : dec (.sl u) y with
          | none => rw [hdd] at hr; cases hr
          | some o =>
            rw [hdd] at hr
            simp only at hr
            have hsrc := dec_src hdd y1 y2
            cases d <;> (try simp only at hr) <;> try (cases hr; done)
            rename_i id ver path lo hi2
            obtain ⟨ob, ho, hh0, hr⟩ := HM.run_get hr
            cases ob <;> (try simp only at hr) <;> try (cases hr; done)
            rename_i bx
            cases hv : Nat.beq ver 0 with
            | false => rw [hv] at hr; cases hr
            | true =>
              rw [hv] at hr
              simp only [cond_true] at hr
              cases hg : bx.getP path <;> rw [hg] at hr <;> (try simp only at hr) <;> try (cases hr; done)
              rename_i u0 xs
              cases u0 <;> (try simp only at hr) <;> try (cases hr; done)
              rename_i n u'
              cases hdv : decV (.arr n u) (.arr n u') xs with
              | none => rw [hdv] at hr; cases hr
              | some zs =>
                rw [hdv] at hr
                simp only at hr
                obtain ⟨hq, hr⟩ := HM.run_bif hr
                obtain ⟨_, _, hr⟩ := HM.run_set hr
                simp only [Bool.and_eq_true] at hq
                have huu : u = u' := by
                  unfold decV at hdv
                  split at hdv
                  · rename_i hq; have := Ty.eqb_eq hq; cases this; rfl
                  · cases hdv
                subst huu
                have hzs : zs = xs := by
                  unfold decV at hdv
                  split at hdv
                  · cases hdv; rfl
                  · cases hdv
                subst hzs
                obtain ⟨b, off, cs, T0, pre, mid, post, pv, p1, p2, p3, p4, p5, p6, p7, p8, p9, p10, p11, p12, p13, p14, p15⟩ := sv_at hs hd ho (beq_nat hv) hg
                have hml : mid.length = n := by rw [RepCs.length (n := u.csz) (fun _ _ h => RepC.length h) p14, hu1, Nat.mul_one, p13]
                have hcl : cs.size = pre.length + (mid.length + post.length) := by rw [← Array.length_toList, p11]; simp
                obtain ⟨cells, hcells, hrun⟩ := run_cpy (P := P) (dT := t) (sT := t') (ty := T) (b := b) (off := off) (dLen := hi2 - lo) (dCap := n - lo) ht (by rw [hi]; simp [hsz]) hu1 hsrc p8
                  (fun h0 => by have := p5 (by omega); rw [hu1] at this; omega)
                have hrep := repCs_arr (n := n) (lo := lo) (hi := hi2) hu1 p13 p14 hcells p2 p3
                have hnb : (bx.setP path (.v (.arr n u) (dcpy zs lo hi2 (o.getD [])))).sk.noBad = true := by
                  have : (bx.setP path (.v (.arr n u) (dcpy zs lo hi2 (o.getD [])))).sk = bx.sk := Sk.eqb_eq hq.1
                  rw [this]; exact hq.2
                have hnew := p15 (.v (.arr n u) (dcpy zs lo hi2 (o.getD []))) _ hrep hnb
                have hcell : cells.length = (o.getD []).length := by rw [RepCs.length (n := u.csz) (fun _ _ h => RepC.length h) hcells, hu1, Nat.mul_one]
                have hw : (if 0 < min (o.getD []).length (hi2 - lo) then c.w.setRow b (cs.toList.take off ++ (cells.take (hi2 - lo) ++ cs.toList.drop (off + min (o.getD []).length (hi2 - lo)))).toArray else c.w) =
                    c.w.setRow b (pre ++ ((mid.take lo ++ (cells.take (hi2 - lo) ++ mid.drop (lo + min (o.getD []).length (hi2 - lo)))) ++ post)).toArray := by
                  by_cases hm : 0 < min (o.getD []).length (hi2 - lo)
                  · rw [if_pos hm]
                    have hoff : off = pre.length + lo := by have := p5 (by omega); rw [hu1] at this; omega
                    have e1 : cs.toList.take off = pre ++ mid.take lo := by
                      rw [p11, hoff, List.take_length_add_append, List.take_append_of_le_length (by omega)]
                    have e2 : cs.toList.drop (off + min (o.getD []).length (hi2 - lo)) = mid.drop (lo + min (o.getD []).length (hi2 - lo)) ++ post := by
                      rw [p11, hoff, Nat.add_assoc, List.drop_length_add_append, List.drop_append_of_le_length (by omega)]
                    rw [e1, e2]
                    simp only [List.append_assoc]
                  · rw [if_neg hm]
                    have hz : min (o.getD []).length (hi2 - lo) = 0 := by omega
                    have e1 : cells.take (hi2 - lo) = [] := by
                      apply List.eq_nil_of_length_eq_zero
                      rw [List.length_take, hcell]
                      omega
                    rw [e1, hz, List.nil_append, Nat.add_zero, List.take_append_drop, ← p11]
                    exact (setRow_self c.w b cs T0 (0, 0) p8).symm
                rw [hw] at hrun
                have hlive : c.live b := ⟨id, _, pv, ho, p6, by rw [p7]; rfl⟩
                have hblk : blkOf pv = some b := by rw [p7]; rfl
                obtain ⟨f1, f2, f3⟩ := upd hs ho p6 (.box (bx.setP path (.v (.arr n u) (dcpy zs lo hi2 (o.getD []))))) pv c.S (c.w.setRow b (pre ++ ((mid.take lo ++ (cells.take (hi2 - lo) ++ mid.drop (lo + min (o.getD []).length (hi2 - lo)))) ++ post)).toArray) (fun _ h => h) (fun _ h => .inl h)
                  (by rw [setRow_size]; exact Nat.le_refl _) rfl rfl rfl (fun b' hb' hne => setRow_other _ _ _ _ (fun e => hne (by rw [e]; exact hblk)))
                  (fun b' hb' => ⟨.inl hb', by rw [setRow_size]; have hb2 : blkOf pv = some b' := hb'; rw [hblk] at hb2; cases hb2; exact blk_lt p8, by have hb2 : blkOf pv = some b' := hb'; rw [hblk] at hb2; cases hb2; exact hs.out _ hlive⟩)
                  (fun b' hb' => by rw [setRow_size]; exact hs.lt b' hb') (fun _ => ⟨rfl, Nat.le_refl _, fun _ => ⟨rfl, fun _ => ⟨rfl, Sk.eqb_eq hq.1⟩⟩, fun _ => ⟨rfl, rfl⟩⟩)
                  (fun hm => ⟨b, _, T0, p7, setRow_heap _ _ _ _ _ _ p8, by simpa using hnew.mono hm, hnb⟩)
                rw [p1, run_v hrun]
                refine hk _ _ _ f1 f2 f3 ?_ hr
                exact ⟨rfl, wrapLen (by omega)⟩
end
end Go.Ab
