import Derived.Test.YtjmikonopapihaaHI
/-
  shelf.New (a box over an empty row), slices.Insert (a row, one element): as the generated texts call them.
-/
namespace Go.Proofs.Ytjmikonopapihaa
open Go.Ab
set_option maxRecDepth 100000
set_option linter.unusedVariables false
abbrev ia97 : AP := .nil
abbrev ih97 : HP := .nil
abbrev oa97 : AP := .cons (.ptr 0) .nil
abbrev oh97 : HP := .box (.cons (.hs 1) .nil) (.row 230 yShRow true .nil)
noncomputable def f97 : Option (ElA oa97 × ElH oh97) := some (((), ()), ((), ()), ([] : List (El yShRow)), ())
noncomputable def s97 : Ab.Spec := ⟨ia97, ih97, oa97, oh97, fun _ => f97⟩
theorem ok97 : SpecOk Try.prog 97 s97 := by
  intro c x y vs hs hH hvs hy next hk
  have hy' : y = (((), ()), ((), ()), ([] : List (El yShRow)), ()) := (Option.some.inj hy).symm
  subst hy'
  refine ok97v c ((), ()) _ vs hs hH hvs rfl next fun c1 v fr kp sim hH1 hv => ?_
  have hH1 : c1.H = [.box (.v (.pair (.sl yShRow) .unit) (none, ()))] := hH1
  obtain ⟨c2, e1, e2, e3, e4, e5, e6⟩ := row_new (c := c1) sim (e := 230) (u := yShRow) (by decide)
  rw [hH1] at e5 e6
  have hbox : c2.H[0]? = some (.box (.v (.pair (.sl yShRow) .unit) (none, ()))) := by rw [e5]; rfl
  have hσ : 0 < c2.σ.length := by rw [e3.len, e5]; simp
  have hv0 := List.getElem?_eq_getElem hσ
  generalize c2.σ[0] = v0 at hv0
  have hob := e3.obj 0 _ v0 hbox hv0
  obtain ⟨b, cs, T, g1, g2, g3, g4⟩ := hob
  have hblk : ∀ b', blkOf v0 = some b' → b' = b := fun b' h => by rw [g1] at h; cases h; rfl
  obtain ⟨f1, f2, f3⟩ := upd e3 hbox hv0 (.box (.cons (.hs 1 0) .nil)) v0 c2.S c2.w (fun _ h => h) (fun _ h => .inl h) (Nat.le_refl _) rfl rfl rfl (fun _ _ _ => rfl)
    (fun b' h => ⟨.inl h, e3.ltl b' ⟨0, _, v0, hbox, hv0, h⟩, e3.out b' ⟨0, _, v0, hbox, hv0, h⟩⟩) e3.lt
    (fun _ => ⟨rfl, Nat.le_refl _, fun _ => ⟨rfl, fun _ => ⟨rfl, rfl⟩⟩, fun _ => ⟨rfl, rfl⟩⟩)
    (fun hm => ⟨b, cs, T, g1, g2, by
      obtain ⟨q1, q2, q3, q4, q5⟩ := g3
      have q4 : q1 = [.slice none 0 0] := q4
      have q5 : q2 = [] := q5
      rw [q3, q4, q5]
      refine ⟨[.slice none 0 0], [], rfl, ?_, rfl⟩
      have h6 : RepA c2 (.hs 1 0) [.slice none 0 0] := e6
      exact RepA.mono hm h6, rfl⟩)
  have hv' : RepV c1 (.ptr 0 0 []) v := hv
  have key := hk _ v (fr.trans (e1.trans f1)) (kp.trans (e2.kp.trans f2.kp)) f3 (by show c2.H.set 0 _ = _; rw [e5]; rfl) ((hv'.mono e2).mono f2)
  have e4' : c2.w = c1.w := e4
  rw [← e4']
  exact key
abbrev ia136 : AP := .cons (.hs 0) (.cons (.val I64) (.cons (.hs 1) .nil))
abbrev ih136 : HP := .row 230 yShRow true (.row 230 yShRow false .nil)
abbrev oa136 : AP := .cons (.hs 0) .nil
abbrev oh136 : HP := .row 230 yShRow true (.skip .nil)
noncomputable def f136 (i : El I64) (s v : List (El yShRow)) : Option (ElA oa136 × ElH oh136) :=
  bif subOk i (dlen s : Int) (dlen s : Int) && (Nat.beq (dlen v) 1 && Nat.ble ((dlen s + 1) * 72) 140737488355328) then
    some (((), ()), s.take i.toNat ++ (v ++ s.drop i.toNat), ())
  else none
noncomputable def s136 : Ab.Spec := ⟨ia136, ih136, oa136, oh136, fun x => f136 x.1.2.1 x.2.1 x.2.2.1⟩
theorem relabel {c : Cx} (hs : Sim c) {H' : List HO} (hl : H'.length = c.H.length)
    (h : ∀ (i : Nat) (o' : HO), H'[i]? = some o' → ∃ o : HO, c.H[i]? = some o ∧ (o' = .dead 0 ∨ ∃ (e : TypeId) (k k' : Nat) (u : Ty) (fn : Bool) (xs : List (El u)), o = .row e k u fn xs ∧ o' = .row e k' u fn xs)) :
    Sim ⟨c.S, c.σ, H', c.w⟩ ∧ ∀ b, Cx.live ⟨c.S, c.σ, H', c.w⟩ b → c.live b := by
  have hb : ∀ (i : Nat) (o' : HO) (v : Value) (b : Nat), H'[i]? = some o' → o'.blk v = some b → ∃ o : HO, c.H[i]? = some o ∧ o.blk v = some b := fun i o' v b h1 h2 => by
    obtain ⟨o, q1, q2 | ⟨e, k, k', u, fn, xs, q2, q3⟩⟩ := h i o' h1
    · rw [q2] at h2; cases h2
    · rw [q3] at h2; exact ⟨o, q1, by rw [q2]; exact h2⟩
  have hlv : ∀ b, Cx.live ⟨c.S, c.σ, H', c.w⟩ b → c.live b := by
    rintro b ⟨i, o', v, h1, h2, h3⟩
    obtain ⟨o, q1, q2⟩ := hb i o' v b h1 h3
    exact ⟨i, o, v, q1, h2, q2⟩
  refine ⟨⟨by rw [hs.len, hl], fun i o' v h1 h2 => ?_, fun i j oi oj vi vj b h1 h2 h3 h4 h5 h6 => ?_, fun b hb => hs.out b (hlv b hb), hs.lt, fun b hb => hs.ltl b (hlv b hb)⟩, hlv⟩
  · obtain ⟨o, q1, q2 | ⟨e, k, k', u, fn, xs, q2, q3⟩⟩ := h i o' h1
    · rw [q2]; trivial
    · rw [q3]
      have := hs.obj i o v q1 h2
      rw [q2] at this
      exact this
  · obtain ⟨o, q1, q2⟩ := hb i oi vi b h1 h5
    obtain ⟨o2, q3, q4⟩ := hb j oj vj b h2 h6
    exact hs.apart i j o o2 vi vj b q1 q3 h3 h4 q2 q4
theorem ok136 : SpecOk Try.prog 136 s136 := by
  intro c x y vs hs hH hvs hy next hk
  obtain ⟨⟨⟨⟩, i, ⟨⟩, ⟨⟩⟩, s, v, ⟨⟩⟩ := x
  have hH : c.H = [.row 230 0 yShRow true s, .row 230 0 yShRow false v] := hH
  have hy : f136 i s v = some y := hy
  unfold f136 at hy
  cases hb : (subOk i (dlen s : Int) (dlen s : Int) && (Nat.beq (dlen v) 1 && Nat.ble ((dlen s + 1) * 72) 140737488355328)) with
  | false => rw [hb] at hy; cases hy
  | true =>
    rw [hb] at hy
    cases hy
    simp only [Bool.and_eq_true] at hb
    obtain ⟨hb1, hb2, hb3⟩ := hb
    obtain ⟨hi0, hi1, _⟩ := subOk_spec hb1
    have hb2 := Nat.eq_of_beq_eq_true hb2
    have hb3 := Nat.le_of_ble_eq_true hb3
    obtain ⟨v0, r0, e0, p0, v1, r1, e1, p1, v2, r2, e2, p2, p3⟩ := hvs
    have p3 : r2 = [] := p3
    subst p3 e2 e1 e0
    obtain ⟨o0, w0, q1, q2, _, _, _, q3⟩ := p0
    have q1 := q1
    rw [hH] at q1
    cases q1
    have q3 := List.singleton_inj.1 (q3 rfl)
    subst q3
    obtain ⟨o2, w2, t1, t2, _, _, _, t3⟩ := p2
    rw [hH] at t1
    cases t1
    have t3 := List.singleton_inj.1 (t3 rfl)
    subst t3
    have p1 := List.singleton_inj.1 (show [v1] = [Value.int .i64 i] from p1.1)
    subst p1
    have h0 : c.H[0]? = some (.row 230 0 yShRow true s) := by rw [hH]; rfl
    have h1 : c.H[1]? = some (.row 230 0 yShRow false v) := by rw [hH]; rfl
    obtain ⟨cells, m1, m2, m3, m4, m5⟩ := hs.obj 0 _ _ h0 q2
    obtain ⟨vcells, n1, n2, n3, n4, n5⟩ := hs.obj 1 _ _ h1 t2
    obtain ⟨k, rfl⟩ : ∃ k : Nat, i = k := ⟨Int.toNat i, (Int.toNat_of_nonneg hi0).symm⟩
    have hk' : k ≤ s.length := by have hi1 : (k : Int) ≤ (s.length : Int) := hi1; omega
    have hl1 : v.length = 1 := hb2
    rw [hl1] at n1
    have hrun : (callFunc 136 #[v0, .int .i64 (k : Int), v2]).run Try.prog c.w = .ok (.enter 136 #[v0, .int .i64 (k : Int), v2]) c.w := by
      have hf : Try.prog.funcs[136]? = some Try.f136 := by kernel_rfl
      obtain ⟨cd, hbd⟩ : ∃ cd, Try.f136.body = some cd := ⟨codeOf Try.f136, by kernel_rfl⟩
      have hnm : Try.f136.name ≠ "runtime.NumGoroutine" := by
        have : (Try.f136.name == "runtime.NumGoroutine") = false := by kernel_rfl
        simpa using this
      simp [callFunc, hf, hnm, hbd]
    show Goes Try.prog next ((callFunc 136 #[v0, .int .i64 (k : Int), v2]).run Try.prog c.w)
    rw [hrun]
    refine (ins_run (i := k) (vv := v2) m1 n1 (fun b hb1 hb2 => absurd (hs.apart 0 1 _ _ _ _ b h0 h1 q2 t2 hb1 hb2) (by decide)) hk' (by have : (dlen s + 1) * 72 ≤ 140737488355328 := hb3; show (s.length + 1) * 64 ≤ _; have : (s.length + 1) * 72 ≤ 140737488355328 := this; omega)
      (RepCs.all (p := fun v => v.oneCell' = true) (fun _ _ h => RepC.one h) m2) (RepCs.all (p := fun v => v.oneCell' = true) (fun _ _ h => RepC.one h) n2)).mono fun e w' hres => ?_
    obtain ⟨v', u1, u2, u3, u4, u5⟩ := hres
    have hrep : RepCs (RepC c.S c.w yShRow) (s.take k ++ (v ++ s.drop k)) (cells.take (k * 6) ++ (vcells ++ cells.drop (k * 6))) :=
      RepCs.append (RepCs.take (n := 6) (fun _ _ h => RepC.length h) k m2) (RepCs.append n2 (RepCs.drop (n := 6) (fun _ _ h => RepC.length h) k m2))
    have hxl : (s.take k ++ (v ++ s.drop k)).length = s.length + 1 := by
      simp only [List.length_append, List.length_take, List.length_drop, hl1]; omega
    have hne : s.take k ++ (v ++ s.drop k) ≠ [] := fun h => by rw [h] at hxl; simp at hxl
    obtain ⟨c1, f1, f2, f3, f4, f5, f6⟩ := app_row (c := c) hs (ver' := 1) (u := yShRow) (fn := true) (xs := s.take k ++ (v ++ s.drop k)) h0 q2 (fun b h => ownBlock_eq _ b h) (by rw [hxl]; exact u2) hrep (by decide) u3 u4
      (fun _ => ⟨fun h => absurd h u5, fun h => absurd h hne⟩) (fun h => by cases h) (fun _ => Nat.lt_succ_self 0)
    rw [hH] at f5
    obtain ⟨o1, w1, y1, y2, _, _, y3, y4⟩ := f6
    have y1 := y1
    rw [f5] at y1
    cases y1
    have y4 := List.singleton_inj.1 (y4 rfl)
    subst y4
    obtain ⟨z1, z2⟩ := relabel f3 (H' := [.row 230 0 yShRow true (s.take k ++ (v ++ s.drop k)), .dead 0]) (by rw [f5]; rfl) (fun j o' h => by
      rw [f5]
      match j, h with
      | 0, h => cases h; exact ⟨_, rfl, .inr ⟨_, _, _, _, _, _, rfl, rfl⟩⟩
      | 1, h => cases h; exact ⟨_, rfl, .inl rfl⟩
      | n + 2, h => cases h)
    refine ⟨v', u1, ?_⟩
    rw [← f4]
    refine hk ⟨c1.S, c1.σ, [.row 230 0 yShRow true (s.take k ++ (v ++ s.drop k)), .dead 0], c1.w⟩ v' ⟨f1.new, fun b hb => f1.newl b (z2 b hb), f1.size, f1.os, f1.tape, f1.output, f1.frame⟩ ⟨f2.sub, f2.heapS, fun j o w g1 g2 g3 => ?_⟩ z1 rfl
      ⟨.row 230 0 yShRow true (s.take k ++ (v ++ s.drop k)), v', rfl, y2, rfl, Nat.le_refl _, y3, fun _ => rfl⟩
    obtain ⟨o', w', d1, d2, d3, _⟩ := f2.objs j o w g1 g2 g3
    rw [hH] at g1
    match j, g1 with
    | 0, _ => exact ⟨_, w', rfl, d2, rfl, fun h => by cases h⟩
    | 1, _ => exact ⟨_, w', rfl, d2, rfl, fun h => by cases h⟩
    | n + 2, h => cases h
end Go.Proofs.Ytjmikonopapihaa
