import Derived.Test.YtjmikonopapihaaGN
import Derived.Shelf.Spec.SlicesInsertGrow
/-
  slices.Insert at rows of six cells: the run.
-/
namespace Go.Proofs.Ytjmikonopapihaa
open Go.Ab Go.Shelf Go.RowKit Go.Lib
set_option linter.unusedVariables false
set_option linter.unusedSimpArgs false
section
variable {P : Program}
theorem run_copy_k (w : World) (dT sT ty elem : TypeId) (k b o dLen dCap : Nat) (a : Addr) (sLen sCap : Nat) (cs : List Value)
    (hu : P.underlying dT = some (.slice elem)) (hs : (P.info? elem).map (·.size) = some k) (hn : cs.length = Nat.min sLen dLen * k)
    (hsrc : ∀ j v, cs[j]? = some v → w.cell? (a.add j) = some v) (hc : ∀ j, j < cs.length → (w.cell? ⟨b, o + j, none⟩).isSome = true) (hf : ∀ j, j < cs.length → w.frozen? ⟨b, o + j, none⟩ = false) (h1 : ∀ v ∈ cs, v.oneCell' = true) :
    (Builtin.copy_ #[dT, sT] ty #[.slice (some ⟨b, o, none⟩) dLen dCap, .slice (some a) sLen sCap]).run P w = .ok (goInt (Nat.min sLen dLen)) (w.setCells b o cs) := by
  have hl := run_loadCells_list (P := P) w a cs hsrc
  have hst := run_storeCells_cells (P := P) b o cs 0 w (by simpa using hc) (by simpa using hf) h1
  cases hq : P.info? elem with
  | none => simp [hq] at hs
  | some i =>
    have hi : i.size = k := by simpa [hq] using hs
    simp [Builtin.copy_, run_underlying hu, Builtin.lenOf, Builtin.firstCells, sizeOf, typeInfo, hq, hi, ← hn, hl, hst]
end
theorem cellK {w : World} {b : Nat} {cur : Array Value} {T : TypeId} (h : w.heap[b]? = some (.cells cur T (0, 0))) (j : Nat) : w.cell? ⟨b, j, none⟩ = cur[j]? := by
  simp [World.cell?, h]
theorem frozenK {w : World} {b : Nat} {cur : Array Value} {T : TypeId} (h : w.heap[b]? = some (.cells cur T (0, 0))) (j : Nat) : w.frozen? ⟨b, j, none⟩ = false := by
  simp [World.frozen?, h]
set_option maxHeartbeats 4000000 in
set_option maxRecDepth 100000 in
theorem ins_shift (b n c i vb vc : Nat) (cur vcur : Array Value) (w : World) (hi : i < n) (hroom : n + 1 ≤ c) (hc63 : c ≤ maxLen) (hvb : vb ≠ b)
    (hb : w.heap[b]? = some (.cells cur 230 (0, 0))) (hv : w.heap[vb]? = some (.cells vcur 230 (0, 0))) (hcs : cur.size = c * 6) (hvs : 6 ≤ vcur.size)
    (h1c : ∀ v ∈ cur.toList.take (n * 6), v.oneCell' = true) (h1v : ∀ v ∈ vcur.toList.take 6, v.oneCell' = true) :
    Calls Try.prog 136 #[.slice (some ⟨b, 0, none⟩) n c, .int .i64 i, .slice (some ⟨vb, 0, none⟩) 1 vc] w fun e w' =>
      e = .returned (.slice (some ⟨b, 0, none⟩) (n + 1) c) ∧ w' = (w.drew.setCells b ((i + 1) * 6) ((cur.toList.take (n * 6)).drop (i * 6))).setCells b (i * 6) (vcur.toList.take 6) := by
  unfold maxLen at hc63
  have u222 : Try.prog.underlying 222 = some (.slice 230) := by kernel_rfl
  have hz1 : ¬ ((1 : Int) = 0) := by omega
  have hz2 : ¬ ((i : Int) = (n : Int)) := by omega
  have hsz : (Try.prog.info? 230).map (·.size) = some 6 := by kernel_rfl
  have hin : i ≤ n := by omega
  have hnc : n ≤ c := by omega
  have hzf : ∀ w : World, (Go.sizeOf 230).run Try.prog w = .ok 6 w := fun w => by kernel_rfl
  have hov : ∀ lb cb, (callFunc 142 #[.slice (some ⟨vb, 0, none⟩) 1 vc, .slice (some ⟨b, (i + 1) * 6, none⟩) lb cb]).run Try.prog w = .ok (.value (.bool false)) w := fun lb cb => by
    rw [run_callFunc_extern (show Try.prog.funcs[142]? = some Try.f142 by kernel_rfl) (by kernel_rfl) (by kernel_rfl) (by kernel_rfl) (e := Extern.SlicesOverlaps.overlaps #[222, 222] #[4]) (by kernel_rfl),
      Lib.run_overlaps_apart w 222 4 230 u222 6 hzf ⟨vb, 0, none⟩ ⟨b, (i + 1) * 6, none⟩ 1 vc lb cb hvb 230 230 vcur.size cur.size (by simp [World.shape?, hv]) (by simp [World.shape?, hb]) (by omega) (frozenK hv 0) (frozenK hv _)]
    rfl
  obtain ⟨tl, htl⟩ : ∃ tl, tl = (cur.toList.take (n * 6)).drop (i * 6) := ⟨_, rfl⟩
  obtain ⟨vs, hvse⟩ : ∃ vs, vs = vcur.toList.take 6 := ⟨_, rfl⟩
  have htll : tl.length = (n - i) * 6 := by rw [htl, List.length_drop, List.length_take, Array.length_toList, hcs]; simp only [Nat.min_def]; split <;> omega
  have hvsl : vs.length = 6 := by rw [hvse, List.length_take, Array.length_toList]; omega
  have htlg : ∀ j v, tl[j]? = some v → cur[i * 6 + j]? = some v := fun j v h => by
    rw [htl, List.getElem?_drop, List.getElem?_take] at h
    split at h
    · rw [Array.getElem?_toList] at h; exact h
    · cases h
  have hvsg : ∀ j v, vs[j]? = some v → vcur[j]? = some v := fun j v h => by
    rw [hvse, List.getElem?_take] at h
    split at h
    · rw [Array.getElem?_toList] at h; exact h
    · cases h
  rw [← htl, ← hvse]
  have hcp1 : ∀ ty dl dc sl sc, dl = n + 1 - (i + 1) → sl = n + 1 - i → (Builtin.copy_ #[222, 222] ty #[.slice (some ⟨b, (i + 1) * 6, none⟩) dl dc, .slice (some ⟨b, i * 6, none⟩) sl sc]).run Try.prog w.drew = .ok (goInt (n - i : Nat)) (w.drew.setCells b ((i + 1) * 6) tl) := fun ty dl dc sl sc h1 h2 => by
    have hm : Nat.min sl dl = n - i := by rw [h1, h2]; show min _ _ = _; omega
    have := run_copy_k (P := Try.prog) w.drew 222 222 ty 230 6 b ((i + 1) * 6) dl dc ⟨b, i * 6, none⟩ sl sc tl u222 hsz (by rw [hm, htll])
      (fun j v hj => by rw [Addr.add_lit]; exact (cellK (w := w) hb _).trans (htlg j v hj))
      (fun j hj => by
        rw [show (w.drew.cell? ⟨b, (i + 1) * 6 + j, none⟩) = cur[(i + 1) * 6 + j]? from cellK (w := w) hb _, Array.getElem?_eq_getElem (by omega)]; rfl)
      (fun j hj => frozenK (w := w) hb _) (fun v hv => h1c v (by rw [htl] at hv; exact List.mem_of_mem_drop hv))
    rw [hm] at this
    exact this
  obtain ⟨W1, hW1⟩ : ∃ W1, W1 = w.drew.setCells b ((i + 1) * 6) tl := ⟨_, rfl⟩
  have hsp0 : ∀ k, k < c * 6 → (w.drew.cell? ⟨b, k, none⟩).isSome = true := fun k hk => by
    rw [show (w.drew.cell? ⟨b, k, none⟩) = cur[k]? from cellK (w := w) hb _, Array.getElem?_eq_getElem (by omega)]; rfl
  have hsp1 : ∀ k, k < c * 6 → (W1.cell? ⟨b, k, none⟩).isSome = true := fun k hk => by
    rw [hW1]
    exact isSome_setCells b _ _ _ (fun j hj => hsp0 _ (by omega)) _ (hsp0 k hk)
  have hcp2 : ∀ ty dl dc, dl = n + 1 - i → (Builtin.copy_ #[222, 222] ty #[.slice (some ⟨b, i * 6, none⟩) dl dc, .slice (some ⟨vb, 0, none⟩) 1 vc]).run Try.prog W1 = .ok (goInt 1) (W1.setCells b (i * 6) vs) := fun ty dl dc hd => by
    have hm : Nat.min 1 dl = 1 := by rw [hd]; show min _ _ = _; omega
    have := run_copy_k (P := Try.prog) W1 222 222 ty 230 6 b (i * 6) dl dc ⟨vb, 0, none⟩ 1 vc vs u222 hsz (by rw [hm, hvsl])
      (fun j v hj => by
        rw [Addr.add_lit, hW1, World.cell?_setCells_out b _ _ _ _ (fun h _ => absurd h hvb), Nat.zero_add]
        exact (cellK (w := w) hv _).trans (hvsg j v hj))
      (fun j hj => hsp1 _ (by omega)) (fun j hj => by rw [hW1, World.frozen?_setCells]; exact frozenK (w := w) hb _) (fun v hv => h1v v (by rw [hvse] at hv; exact hv))
    rw [hm] at this
    exact this
  rw [← hW1] at hcp1
  rw [← hW1]
  go_enter Try.func136, Try.ntmps136
  go_wp2_with (simp only [hov])
  have mixed := hmix
  have u222' := run_underlying u222
  have hw1 : IntKind.i64.wrap ((i : Int) + (1 : Int)) = (i : Int) + (1 : Int) := by rw [IntKind.wrap_i64]; omega
  have hb1 : (0 : Int) ≤ (i : Int) + (1 : Int) := by omega
  have htn : ((i : Int) + (1 : Int)).toNat = i + 1 := by omega
  have hb2 : ¬ (c = i + 1) := by omega
  have hb3 : (i : Int) ≤ (n : Int) + (1 : Int) := by omega
  have hb3' : (i : Int) ≤ (n : Int) := by omega
  have hb4 : ¬ (c = i) := by omega
  go_region_law_o (refine step_copy_runI rfl _ _ 222 222 rfl _ _ (by simp [Act.eval, Act.put]) (by simp [Act.eval, Act.put]) (hcp1 _ _ _ _ _ rfl rfl) ?_)
  subst hW1
  subst htl
  subst hvse
  have hcp3 := fun ty dc => hcp2 ty _ dc rfl
  go_wp2_with (simp only [hcp3, Result.andThen_ok])
  go_ret
  exact ⟨rfl, rfl⟩
set_option maxHeartbeats 4000000 in
set_option maxRecDepth 100000 in
theorem ins_grow (b n c i vb vc : Nat) (cur vcur : Array Value) (w : World) (hi : i < n) (hnc : n ≤ c) (hroom : c < n + 1) (hbig : (n + 1) * 64 ≤ 140737488355328)
    (hb : w.heap[b]? = some (.cells cur 230 (0, 0))) (hv : w.heap[vb]? = some (.cells vcur 230 (0, 0))) (hcs : cur.size = c * 6) (hvs : 6 ≤ vcur.size)
    (h1c : ∀ v ∈ cur.toList.take (n * 6), v.oneCell' = true) (h1v : ∀ v ∈ vcur.toList.take 6, v.oneCell' = true) :
    Calls Try.prog 136 #[.slice (some ⟨b, 0, none⟩) n c, .int .i64 i, .slice (some ⟨vb, 0, none⟩) 1 vc] w fun e w' =>
      ∃ (G : Nat) (ROW : Array Value), n + 1 ≤ G ∧ G ≤ maxLen ∧ ROW.size = G * 6 ∧ ROW.toList.take (i * 6) = cur.toList.take (i * 6) ∧
      e = .returned (.slice (some ⟨w.heap.size, 0, none⟩) (n + 1) G) ∧ w' = (((w.alloc (.cells ROW 230)).drew.setCells w.heap.size (i * 6) (vcur.toList.take 6)).drew).setCells w.heap.size ((i + 1) * 6) ((cur.toList.take (n * 6)).drop (i * 6)) := by
  have u222 : Try.prog.underlying 222 = some (.slice 230) := by kernel_rfl
  have u3 : Try.prog.underlying 3 = some (.int .i64) := by kernel_rfl
  have hsz : (Try.prog.info? 230).map (·.size) = some 6 := by kernel_rfl
  have hbw : b < w.heap.size := (Array.getElem?_eq_some_iff.1 hb).1
  have hvw : vb < w.heap.size := (Array.getElem?_eq_some_iff.1 hv).1
  obtain ⟨i0, z0, hi0, hzs, _, hz0, hzl, _⟩ := elOk_spec (P := Try.prog) (e := 230) (u := yShRow) (by kernel_rfl)
  have hc6 : yShRow.csz = 6 := rfl
  rw [hc6] at hzs hzl
  have hzb : i0.bytes = 64 := by
    have h : (Try.prog.info? 230).map (·.bytes) = some 64 := by kernel_rfl
    rw [hi0] at h
    exact Option.some.inj h
  have hnl : ∀ k, (Builtin.zeroCells z0.cells k).size = k * 6 := fun k => by simp [Builtin.zeroCells, hzl, Nat.mul_comm]
  obtain ⟨G, hG⟩ : ∃ G, G = grownCap w (n + 1) c 230 := ⟨_, rfl⟩
  obtain ⟨hd, hhd⟩ : ∃ hd, hd = cur.toList.take (i * 6) := ⟨_, rfl⟩
  have hhl : hd.length = i * 6 := by rw [hhd, List.length_take, Array.length_toList, hcs]; omega
  obtain ⟨ROW, hROW⟩ : ∃ ROW : Array Value, ROW = hd.toArray ++ Builtin.zeroCells z0.cells (n + 1 - i) ++ Builtin.zeroCells z0.cells (G - (n + 1)) := ⟨_, rfl⟩
  have hGn : n + 1 ≤ G := by rw [hG]; exact grownCap_ge w _ _ _
  have hGm : G ≤ maxLen := by rw [hG]; exact grownCap_le_maxLen w (n + 1) c 230 (by unfold maxLen; omega)
  have hRl : ROW.size = G * 6 := by
    rw [hROW, Array.size_append, Array.size_append, hnl, hnl, List.size_toArray, hhl]
    omega
  have hRt : ROW.toList.take (i * 6) = hd := by
    rw [hROW, Array.append_assoc, Array.toList_append, List.take_left' (by simpa using hhl)]
  have hik : i + (n + 1 - i) = n + 1 := by omega
  have hold : (Builtin.firstCells i0.size i (.slice (some ⟨b, 0, none⟩) i c)).run Try.prog w.drew = .ok hd.toArray w.drew := by
    rw [hzs]
    exact run_firstCells_some w.drew 6 i ⟨b, 0, none⟩ i c hd hhl (fun j v hj => by
      rw [Addr.add_lit, Nat.zero_add, show (w.drew.cell? ⟨b, j, none⟩) = cur[j]? from cellK (w := w) hb _]
      rw [hhd, List.getElem?_take] at hj
      split at hj
      · rw [Array.getElem?_toList] at hj; exact hj
      · cases hj)
  have hkk : (n : Int) + (1 : Int) - (i : Int) = ((n + 1 - i : Nat) : Int) := by omega
  have hrz : ∀ ty, (Builtin.append_ #[222, 3] ty #[.slice (some ⟨b, 0, none⟩) i c, .int .i64 ((n : Int) + (1 : Int) - (i : Int))]).run Try.prog w =
      .ok (.slice (some ⟨w.heap.size, 0, none⟩) (n + 1) G) (w.drew.alloc (.cells ROW 230)) := fun ty => by
    have h := Lib.run_append_grow_zeros w 222 3 ty 230 i0 _ .i64 .i64 u222 u3 hi0 hz0 (some ⟨b, 0, none⟩) i c hd hold (n + 1 - i) (by omega) (by omega) (by omega) (by omega) (by rw [hzb]; omega) (by rw [hzb, hik]; exact growslice_fits hroom hbig)
    rw [hik, ← hG, ← hROW] at h
    rw [hkk]
    exact h
  obtain ⟨tl, htl⟩ : ∃ tl, tl = (cur.toList.take (n * 6)).drop (i * 6) := ⟨_, rfl⟩
  obtain ⟨vs, hvse⟩ : ∃ vs, vs = vcur.toList.take 6 := ⟨_, rfl⟩
  have htll : tl.length = (n - i) * 6 := by rw [htl, List.length_drop, List.length_take, Array.length_toList, hcs]; simp only [Nat.min_def]; split <;> omega
  have hvsl : vs.length = 6 := by rw [hvse, List.length_take, Array.length_toList]; omega
  have htlg : ∀ j v, tl[j]? = some v → cur[i * 6 + j]? = some v := fun j v h => by
    rw [htl, List.getElem?_drop, List.getElem?_take] at h
    split at h
    · rw [Array.getElem?_toList] at h; exact h
    · cases h
  have hvsg : ∀ j v, vs[j]? = some v → vcur[j]? = some v := fun j v h => by
    rw [hvse, List.getElem?_take] at h
    split at h
    · rw [Array.getElem?_toList] at h; exact h
    · cases h
  obtain ⟨W1, hW1⟩ : ∃ W1, W1 = w.drew.alloc (.cells ROW 230) := ⟨_, rfl⟩
  rw [← hW1] at hrz
  have hN : ∀ j, j < G * 6 → (W1.cell? ⟨w.heap.size, j, none⟩).isSome = true := fun j hj => by
    rw [hW1, World.cell?_alloc_at (w := w.drew) ROW _ w.heap.size j rfl, Array.getElem?_eq_getElem (by omega)]; rfl
  have hNf : ∀ j, W1.frozen? ⟨w.heap.size, j, none⟩ = false := fun j => by rw [hW1]; exact World.frozen?_alloc_at (w := w.drew) ROW _ w.heap.size j rfl
  have hOb : ∀ j, W1.cell? ⟨b, j, none⟩ = cur[j]? := fun j => by rw [hW1, World.cell?_alloc_past (w := w.drew) _ b j hbw]; exact cellK (w := w) hb _
  have hOv : ∀ j, W1.cell? ⟨vb, j, none⟩ = vcur[j]? := fun j => by rw [hW1, World.cell?_alloc_past (w := w.drew) _ vb j hvw]; exact cellK (w := w) hv _
  have hcpA : ∀ (W : World), (∀ x, W.cell? x = W1.cell? x) → (∀ x, W.frozen? x = W1.frozen? x) → ∀ ty dl dc, dl = n + 1 - i → (Builtin.copy_ #[222, 222] ty #[.slice (some ⟨w.heap.size, i * 6, none⟩) dl dc, .slice (some ⟨vb, 0, none⟩) 1 vc]).run Try.prog W = .ok (goInt 1) (W.setCells w.heap.size (i * 6) vs) := fun W hWc hWf ty dl dc hd => by
    have hm : Nat.min 1 dl = 1 := by rw [hd]; show min _ _ = _; omega
    have := run_copy_k (P := Try.prog) W 222 222 ty 230 6 w.heap.size (i * 6) dl dc ⟨vb, 0, none⟩ 1 vc vs u222 hsz (by rw [hm, hvsl])
      (fun j v hj => by rw [Addr.add_lit, hWc, Nat.zero_add, hOv]; exact hvsg j v hj)
      (fun j hj => by rw [hWc]; exact hN _ (by omega)) (fun j hj => by rw [hWf]; exact hNf _) (fun v hv => h1v v (by rw [hvse] at hv; exact hv))
    rw [hm] at this
    exact this
  have hbN : b ≠ w.heap.size := by omega
  have hcpB : ∀ (W : World), (∀ x, W.cell? x = (W1.setCells w.heap.size (i * 6) vs).cell? x) → (∀ x, W.frozen? x = (W1.setCells w.heap.size (i * 6) vs).frozen? x) → ∀ ty dl dc sl sc, dl = n + 1 - (i + 1) → sl = n - i →
      (Builtin.copy_ #[222, 222] ty #[.slice (some ⟨w.heap.size, (i + 1) * 6, none⟩) dl dc, .slice (some ⟨b, i * 6, none⟩) sl sc]).run Try.prog W = .ok (goInt (n - i : Nat)) (W.setCells w.heap.size ((i + 1) * 6) tl) := fun W hWc hWf ty dl dc sl sc h1 h2 => by
    have hm : Nat.min sl dl = n - i := by rw [h1, h2]; show min _ _ = _; omega
    have := run_copy_k (P := Try.prog) W 222 222 ty 230 6 w.heap.size ((i + 1) * 6) dl dc ⟨b, i * 6, none⟩ sl sc tl u222 hsz (by rw [hm, htll])
      (fun j v hj => by rw [Addr.add_lit, hWc, World.cell?_setCells_out _ _ _ _ _ (fun h _ => absurd h hbN), hOb]; exact htlg j v hj)
      (fun j hj => by rw [hWc]; exact isSome_setCells _ _ _ _ (fun t ht => hN _ (by omega)) _ (hN _ (by omega)))
      (fun j hj => by rw [hWf, World.frozen?_setCells]; exact hNf _) (fun v hv => h1c v (by rw [htl] at hv; exact List.mem_of_mem_drop hv))
    rw [hm] at this
    exact this
  subst hW1
  have hE1 : ∀ x, ((w.alloc (.cells ROW 230)).drew).cell? x = (w.drew.alloc (.cells ROW 230)).cell? x := fun x => rfl
  have hE2 : ∀ x, ((w.alloc (.cells ROW 230)).drew).frozen? x = (w.drew.alloc (.cells ROW 230)).frozen? x := fun x => rfl
  have hF1 : ∀ x, (((w.alloc (.cells ROW 230)).drew.setCells w.heap.size (i * 6) vs).drew).cell? x = ((w.drew.alloc (.cells ROW 230)).setCells w.heap.size (i * 6) vs).cell? x := fun x => rfl
  have hF2 : ∀ x, (((w.alloc (.cells ROW 230)).drew.setCells w.heap.size (i * 6) vs).drew).frozen? x = ((w.drew.alloc (.cells ROW 230)).setCells w.heap.size (i * 6) vs).frozen? x := fun x => rfl
  have hfin : ∃ (G' : Nat) (ROW' : Array Value), n + 1 ≤ G' ∧ G' ≤ maxLen ∧ ROW'.size = G' * 6 ∧ ROW'.toList.take (i * 6) = hd ∧ (Value.slice (some ⟨w.heap.size, 0, none⟩) (n + 1) G) = (.slice (some ⟨w.heap.size, 0, none⟩) (n + 1) G') ∧
      (((w.alloc (.cells ROW 230)).drew.setCells w.heap.size (i * 6) vs).drew).setCells w.heap.size ((i + 1) * 6) tl = (((w.alloc (.cells ROW' 230)).drew.setCells w.heap.size (i * 6) vs).drew).setCells w.heap.size ((i + 1) * 6) tl := ⟨G, ROW, hGn, hGm, hRl, hRt, rfl, rfl⟩
  have mixed := hmix
  have u222' := run_underlying u222
  have u3' := run_underlying u3
  have hz1 : ¬ ((1 : Int) = 0) := by omega
  have hz2 : ¬ ((i : Int) = (n : Int)) := by omega
  have hz3 : (c : Int) < (n : Int) + (1 : Int) := by omega
  have hG63 : G ≤ 9223372036854775807 := by unfold maxLen at hGm; omega
  have hGi : ¬ (G = i) := by omega
  have hGim : ¬ (G = i + 1) := by omega
  have hci : ¬ (c = i) := by omega
  have hw1 : IntKind.i64.wrap ((i : Int) + (1 : Int)) = (i : Int) + (1 : Int) := by rw [IntKind.wrap_i64]; omega
  have hb1 : (0 : Int) ≤ (i : Int) + (1 : Int) := by omega
  have hin : i ≤ n := by omega
  have htn : ((i : Int) + (1 : Int)).toNat = i + 1 := by omega
  have hb3 : (i : Int) ≤ (n : Int) := by omega
  have hb5 : (i : Int) ≤ (n : Int) + 1 := by omega
  clear hkk hik hold hROW hG hRl hRt hhl hnl
  go_enter Try.func136, Try.ntmps136
  go_wp2_with (at_builtin; refine Lib.wpList_append_run _ rfl _ _ _ _ rfl _ _ rfl rfl _ _ (hrz _) ?_)
  subst htl
  subst hvse
  subst hhd
  have hcpC := fun ty dc sc => hcpB _ hF1 hF2 ty _ dc _ sc rfl rfl
  go_region_law_o (refine step_copy_runI rfl _ _ 222 222 rfl (.slice (some ⟨w.heap.size, (i + 1) * 6, none⟩) (n + 1 - (i + 1)) (G - (i + 1))) (.slice (some ⟨b, i * 6, none⟩) (n - i) (c - i)) (by simp [Act.eval, Act.put]) (by simp [Act.eval, Act.put]) (hcpC 3 (G - (i + 1)) (c - i)) ?_)
  go_wp2
  go_ret
  obtain ⟨G', ROW', q1, q2, q3, q4, q5, q6⟩ := hfin
  exact ⟨G', ROW', q1, q2, q3, q4, congrArg Ending.returned q5, q6⟩
set_option maxHeartbeats 4000000 in
set_option maxRecDepth 100000 in
theorem ins_end (sv v' : Value) (n vb vc : Nat) (w w' : World) (hnc : n ≤ maxLen) (hlen : ∃ base cap, sv = .slice base n cap ∧ n ≤ cap ∧ (base = none → cap = 0) ∧ (∀ a, base = some a → a.off = 0 ∧ a.spot = none))
    (hrun : ∀ ty, (Builtin.append_ #[222, 222] ty #[sv, .slice (some ⟨vb, 0, none⟩) 1 vc]).run Try.prog w = .ok v' w') :
    Calls Try.prog 136 #[sv, .int .i64 n, .slice (some ⟨vb, 0, none⟩) 1 vc] w fun e w1 => e = .returned v' ∧ w1 = w' := by
  have u222 : Try.prog.underlying 222 = some (.slice 230) := by kernel_rfl
  have u222' := run_underlying u222
  have mixed := hmix
  have hz1 : ¬ ((1 : Int) = 0) := by omega
  obtain ⟨base, cap, hsv, hcap, hnil, hsome⟩ := hlen
  subst hsv
  cases base with
  | none =>
    have := hnil rfl
    subst this
    have : n = 0 := by omega
    subst this
    go_enter Try.func136, Try.ntmps136
    go_wp2_with (at_builtin; refine Lib.wpList_append_run _ rfl _ _ _ _ rfl _ _ rfl rfl _ _ (hrun _) ?_)
    go_ret
    exact ⟨rfl, rfl⟩
  | some a =>
    obtain ⟨ab, ao, asp⟩ := a
    obtain ⟨e1, e2⟩ := hsome _ rfl
    simp only at e1 e2
    subst e1
    subst e2
    go_enter Try.func136, Try.ntmps136
    go_wp2_with (at_builtin; refine Lib.wpList_append_run _ rfl _ _ _ _ rfl _ _ rfl rfl _ _ (hrun _) ?_)
    all_goals (go_ret; exact ⟨rfl, rfl⟩)
theorem setCells_same (b : Nat) (T : TypeId) : ∀ (vs : List Value) (o : Nat) (w : World) (cur : Array Value), w.heap[b]? = some (.cells cur T (0, 0)) → o + vs.length ≤ cur.size →
    ∃ cur' : Array Value, (w.setCells b o vs).heap[b]? = some (.cells cur' T (0, 0)) ∧ cur'.toList = cur.toList.take o ++ (vs ++ cur.toList.drop (o + vs.length))
  | [], o, w, cur, h, _ => ⟨cur, h, by simp⟩
  | v :: r, o, w, cur, h, hl => by
    simp only [List.length_cons] at hl
    have h1 : (w.setCell ⟨b, o, none⟩ v).heap[b]? = some (.cells (cur.setIfInBounds o v) T (0, 0)) := heap_setCell_same w b o cur T v h
    obtain ⟨cur', q1, q2⟩ := setCells_same b T r (o + 1) _ _ h1 (by simp; omega)
    refine ⟨cur', q1, ?_⟩
    rw [q2, Array.toList_setIfInBounds, List.drop_set_of_lt (by omega), List.take_set, List.length_cons]
    have hlt : o < cur.toList.length := by simp; omega
    have e1 : (cur.toList.take (o + 1)).set o v = cur.toList.take o ++ [v] := by
      rw [List.take_succ_eq_append_getElem hlt, List.set_append_right _ _ (by rw [List.length_take]; omega)]
      have : o - (cur.toList.take o).length = 0 := by rw [List.length_take]; omega
      rw [this]
      rfl
    rw [e1, show o + 1 + r.length = o + (r.length + 1) from by omega]
    simp
theorem setCells_other (b k : Nat) (hk : k ≠ b) : ∀ (vs : List Value) (o : Nat) (w : World), (w.setCells b o vs).heap[k]? = w.heap[k]?
  | [], _, _ => rfl
  | v :: r, o, w => (setCells_other b k hk r (o + 1) _).trans (heap_setCell_other w ⟨b, o, none⟩ k v hk)
theorem setCells_meta (b : Nat) : ∀ (vs : List Value) (o : Nat) (w : World), (w.setCells b o vs).os = w.os ∧ (w.setCells b o vs).tape = w.tape ∧ (w.setCells b o vs).output = w.output ∧ (w.setCells b o vs).heap.size = w.heap.size
  | [], _, _ => ⟨rfl, rfl, rfl, rfl⟩
  | v :: r, o, w => by
    obtain ⟨h1, h2, h3, h4⟩ := setCells_meta b r (o + 1) (w.setCell ⟨b, o, none⟩ v)
    exact ⟨h1, h2, h3, by rw [World.setCells, h4]; simp [World.setCell]⟩
theorem two_fit {cur cur1 cur2 vs tl cells : List Value} {i n : Nat} (hi : i ≤ n) (hcur : n * 6 + 6 ≤ cur.length) (hcells : cells.length = n * 6) (hvs : vs.length = 6) (ht : tl = cells.drop (i * 6)) (hhead : cur.take (i * 6) = cells.take (i * 6)) :
    (cur1 = cur.take ((i + 1) * 6) ++ (tl ++ cur.drop ((i + 1) * 6 + tl.length)) → cur2 = cur1.take (i * 6) ++ (vs ++ cur1.drop (i * 6 + vs.length)) → cur2.take ((n + 1) * 6) = cells.take (i * 6) ++ (vs ++ tl)) ∧
    (cur1 = cur.take (i * 6) ++ (vs ++ cur.drop (i * 6 + vs.length)) → cur2 = cur1.take ((i + 1) * 6) ++ (tl ++ cur1.drop ((i + 1) * 6 + tl.length)) → cur2.take ((n + 1) * 6) = cells.take (i * 6) ++ (vs ++ tl)) := by
  have htl : tl.length = (n - i) * 6 := by rw [ht, List.length_drop, hcells]; omega
  have hct : (cells.take (i * 6)).length = i * 6 := by rw [List.length_take, hcells]; omega
  refine ⟨fun h1 h2 => ?_, fun h1 h2 => ?_⟩
  · have e1 : cur1.take (i * 6) = cells.take (i * 6) := by
      rw [h1, List.take_append_of_le_length (by rw [List.length_take]; omega), List.take_take, ← hhead]
      congr 1
      omega
    have e2 : cur1.drop (i * 6 + vs.length) = tl ++ cur.drop ((i + 1) * 6 + tl.length) := by
      rw [h1]
      exact List.drop_left' (by rw [List.length_take]; omega)
    rw [h2, e1, e2, ← List.append_assoc vs, ← List.append_assoc, List.take_left' (by simp [hct]; omega)]
  · have e1 : cur1.take ((i + 1) * 6) = cells.take (i * 6) ++ vs := by
      rw [h1, hhead, ← List.append_assoc, List.take_left' (by simp [hct]; omega)]
    rw [h2, e1, List.append_assoc, ← List.append_assoc vs, ← List.append_assoc, List.take_left' (by simp [hct]; omega)]
theorem ins_run {w : World} {sv vv : Value} {n i : Nat} {cells vs : List Value} (hs : w.ownsRow 0 230 6 sv n cells) (hv : w.ownsRow 0 230 6 vv 1 vs) (hne : ∀ b, blkOf sv = some b → blkOf vv ≠ some b) (hi : i ≤ n) (hbig : (n + 1) * 64 ≤ 140737488355328)
    (h1c : ∀ v ∈ cells, v.oneCell' = true) (h1v : ∀ v ∈ vs, v.oneCell' = true) :
    Calls Try.prog 136 #[sv, .int .i64 i, vv] w fun e w' => ∃ v', e = .returned v' ∧ w'.ownsRow 0 230 6 v' (n + 1) (cells.take (i * 6) ++ (vs ++ cells.drop (i * 6))) ∧ w.grownBy w' sv.ownBlock ∧
      (∀ b, blkOf v' = some b → blkOf sv = some b ∨ w.heap.size ≤ b) ∧ v' ≠ .slice none 0 0 := by
  have hcl := hs.1
  have hvl := hv.1
  rcases hv.2 with ⟨_, h⟩ | ⟨vb, vc, vcur, q1, _, q3, q4, q5, q6, q7⟩
  · cases h
  subst q1
  have hvs : 6 ≤ vcur.size := by omega
  rw [Nat.one_mul] at q7 hvl
  by_cases hin : i = n
  · subst hin
    obtain ⟨i0, z0, hi0, hzs, _, hz0, hzl, _⟩ := elOk_spec (P := Try.prog) (e := 230) (u := yShRow) (by kernel_rfl)
    have hzb : i0.bytes = 64 := by
      have h : (Try.prog.info? 230).map (·.bytes) = some 64 := by kernel_rfl
      rw [hi0] at h
      exact Option.some.inj h
    have happ := fun ty => app_core (P := Try.prog) w (t := 222) (ty := ty) (u := yShRow) (n := i) (by kernel_rfl) hi0 (by kernel_rfl) hs (ad := ⟨vb, 0, none⟩) (m := 1) (c := vc) (news := vs) (by rw [hvl]; rfl)
      (fun j x hj => by
        rw [Addr.add_lit, Nat.zero_add, cellK q3]
        rw [← q7, List.getElem?_take] at hj
        split at hj
        · rw [Array.getElem?_toList] at hj; exact hj
        · cases hj) h1v (by unfold maxLen; omega) (by rw [hzb]; exact hbig)
    obtain ⟨v', w', r1, r2, r3, r4, r5⟩ := happ 222
    have hr : ∀ ty, (Builtin.append_ #[222, 222] ty #[sv, .slice (some ⟨vb, 0, none⟩) 1 vc]).run Try.prog w = .ok v' w' := fun ty => r1
    refine (ins_end sv v' i vb vc w w' (by unfold maxLen; omega) ?_ hr).mono fun e w1 h => ?_
    · rcases hs.2 with ⟨e1, e2⟩ | ⟨g, cap, cur, e1, _, _, e3, _⟩
      · exact ⟨none, 0, by rw [e1, e2], by omega, fun _ => rfl, fun a h => by cases h⟩
      · exact ⟨_, cap, e1, e3, (fun h => by cases h), (fun a h => by cases h; exact ⟨rfl, rfl⟩)⟩
    · obtain ⟨h1, h2⟩ := h
      subst h2
      refine ⟨v', h1, ?_, r3, r5, fun h => ?_⟩
      · rw [List.take_of_length_le (by omega), List.drop_of_length_le (by omega), List.append_nil]
        exact r2
      · have := (r4.1 h).2
        cases this
  · have hlt : i < n := by omega
    rcases hs.2 with ⟨_, h⟩ | ⟨b, c, cur, p1, _, p3, p4, p5, p6, p7⟩
    · omega
    subst p1
    have hcn : c * 6 = cur.toList.length := by simp [p6]
    have hhead : cur.toList.take (i * 6) = cells.take (i * 6) := by rw [← p7, List.take_take]; congr 1; omega
    by_cases hroom : n + 1 ≤ c
    · refine (ins_shift b n c i vb vc cur vcur w hlt hroom p5 (fun e => hne b rfl (by rw [← e]; rfl)) p3 q3 p6 hvs (by rw [p7]; exact h1c) (by rw [q7]; exact h1v)).mono fun e w1 h => ?_
      obtain ⟨h1, h2⟩ := h
      rw [p7, q7] at h2
      obtain ⟨cur1, g1, g2⟩ := setCells_same b 230 (cells.drop (i * 6)) ((i + 1) * 6) w.drew cur p3 (by rw [List.length_drop, hcl, p6]; omega)
      have g3 : cur1.toList.length = cur.toList.length := by
        rw [g2]
        simp only [List.length_append, List.length_take, List.length_drop, hcl, ← hcn]
        omega
      obtain ⟨cur2, g4, g5⟩ := setCells_same b 230 vs (i * 6) _ cur1 g1 (by rw [hvl, ← Array.length_toList, g3, ← hcn]; omega)
      have g6 : cur2.toList.length = cur1.toList.length := by
        rw [g5]
        simp only [List.length_append, List.length_take, List.length_drop, hvl, g3, ← hcn]
        omega
      obtain ⟨m1, m2, m3, m4⟩ := setCells_meta b (cells.drop (i * 6)) ((i + 1) * 6) w.drew
      obtain ⟨l1, l2, l3, l4⟩ := setCells_meta b vs (i * 6) (w.drew.setCells b ((i + 1) * 6) (cells.drop (i * 6)))
      rw [← h2] at g4 l1 l2 l3 l4
      refine ⟨_, h1, ⟨?_, .inr ⟨b, c, cur2, rfl, Nat.zero_le _, g4, hroom, p5, ?_, ?_⟩⟩, ⟨l1.trans m1, l2.trans m2, l3.trans m3, by rw [l4, m4]; exact Nat.le_refl _, fun k hk hkr => ?_⟩, fun b' h => .inl h, by simp⟩
      · simp only [List.length_append, List.length_take, List.length_drop, hcl, hvl]; omega
      · rw [← Array.length_toList, g6, g3, ← hcn]
      · exact (two_fit (by omega) (by rw [← hcn]; omega) hcl hvl rfl hhead).1 g2 g5
      · have hkb : k ≠ b := fun e => hkr (by rw [e]; rfl)
        rw [h2, setCells_other b k hkb, setCells_other b k hkb]
        rfl
    · refine (ins_grow b n c i vb vc cur vcur w hlt p4 (by omega) hbig p3 q3 p6 hvs (by rw [p7]; exact h1c) (by rw [q7]; exact h1v)).mono fun e w1 h => ?_
      obtain ⟨G, ROW, hG, hGm, hRs, hRt, h1, h2⟩ := h
      rw [p7, q7] at h2
      have hRn : G * 6 = ROW.toList.length := by simp [hRs]
      have hnew : (w.alloc (.cells ROW 230)).drew.heap[w.heap.size]? = some (.cells ROW 230 (0, 0)) := heap_alloc_new w _
      obtain ⟨cur1, g1, g2⟩ := setCells_same w.heap.size 230 vs (i * 6) _ ROW hnew (by rw [hvl, hRs]; omega)
      have g3 : cur1.toList.length = ROW.toList.length := by
        rw [g2]
        simp only [List.length_append, List.length_take, List.length_drop, hvl, ← hRn]
        omega
      obtain ⟨cur2, g4, g5⟩ := setCells_same w.heap.size 230 (cells.drop (i * 6)) ((i + 1) * 6) (((w.alloc (.cells ROW 230)).drew.setCells w.heap.size (i * 6) vs).drew) cur1 g1 (by rw [List.length_drop, hcl, ← Array.length_toList, g3, ← hRn]; omega)
      have g6 : cur2.toList.length = cur1.toList.length := by
        rw [g5]
        simp only [List.length_append, List.length_take, List.length_drop, hcl, g3, ← hRn]
        omega
      obtain ⟨m1, m2, m3, m4⟩ := setCells_meta w.heap.size vs (i * 6) (w.alloc (.cells ROW 230)).drew
      obtain ⟨l1, l2, l3, l4⟩ := setCells_meta w.heap.size (cells.drop (i * 6)) ((i + 1) * 6) (((w.alloc (.cells ROW 230)).drew.setCells w.heap.size (i * 6) vs).drew)
      rw [← h2] at g4 l1 l2 l3 l4
      refine ⟨_, h1, ⟨?_, .inr ⟨w.heap.size, G, cur2, rfl, Nat.zero_le _, g4, hG, hGm, ?_, ?_⟩⟩, ⟨l1.trans m1, l2.trans m2, l3.trans m3, ?_, fun k hk hkr => ?_⟩, fun b' h => .inr (by cases h; exact Nat.le_refl _), by simp⟩
      · simp only [List.length_append, List.length_take, List.length_drop, hcl, hvl]; omega
      · rw [← Array.length_toList, g6, g3, ← hRn]
      · exact (two_fit (by omega) (by rw [← hRn]; omega) hcl hvl rfl (hRt.trans hhead)).2 g2 g5
      · rw [l4]
        show w.heap.size ≤ ((w.alloc (.cells ROW 230)).drew.setCells w.heap.size (i * 6) vs).heap.size
        rw [m4]
        show w.heap.size ≤ (w.heap.push _).size
        simp
      · have hkb : k ≠ w.heap.size := by omega
        rw [h2, setCells_other _ k hkb]
        show ((w.alloc (.cells ROW 230)).drew.setCells w.heap.size (i * 6) vs).heap[k]? = _
        rw [setCells_other _ k hkb]
        show (w.heap.push _)[k]? = _
        rw [Array.getElem?_push_lt hk, ← Array.getElem?_eq_getElem hk]
end Go.Proofs.Ytjmikonopapihaa
