import Derived.Test.YtjmikonopapihaaAbCall3
/-
  AB: what a call leaves, in the caller's context.
-/
namespace Go.Ab
set_option linter.unusedSimpArgs false
/-- what is kept, by a piece of code -/
structure Kp (c c' : Cx) : Prop where
  sub : ∀ b, c.S b → c'.S b
  heapS : ∀ b, c.S b → c'.w.heap[b]? = c.w.heap[b]?
  objs : ∀ (i : Nat) (o : HO) (v : Value), c.H[i]? = some o → c.σ[i]? = some v → o.isHole = false →
    ∃ (o' : HO) (v' : Value), c'.H[i]? = some o' ∧ c'.σ[i]? = some v' ∧ o'.isHole = false ∧ (o'.isBox = true → o.isBox = true ∧ v' = v)
theorem Mn.kp {c c' : Cx} (h : Mn c c') : Kp c c' := ⟨h.sub, h.heapS, fun i o v h1 h2 h3 => by
  obtain ⟨o', v', k1, k2, k3, _, _, k6⟩ := h.objs i o v h1 h2 h3
  exact ⟨o', v', k1, k2, k3, k6⟩⟩
theorem Kp.refl (c : Cx) : Kp c c := (Mn.refl c).kp
theorem Kp.trans {a b c : Cx} (h : Kp a b) (k : Kp b c) : Kp a c := ⟨fun x hx => k.sub x (h.sub x hx), fun x hx => (k.heapS x (h.sub x hx)).trans (h.heapS x hx), fun i o v h1 h2 h3 => by
  obtain ⟨o1, v1, g1, g2, g3, g4⟩ := h.objs i o v h1 h2 h3
  obtain ⟨o2, v2, k1, k2, k3, k4⟩ := k.objs i o1 v1 g1 g2 g3
  exact ⟨o2, v2, k1, k2, k3, fun e => ⟨(g4 (k4 e).1).1, (k4 e).2.trans (g4 (k4 e).1).2⟩⟩⟩

theorem HO.ren_blk (f g : Nat → Nat) (o : HO) (v : Value) : (o.ren f g).blk v = o.blk v := by cases o <;> rfl
theorem HO.ren_ver (f g : Nat → Nat) (o : HO) : (o.ren f g).ver = o.ver := by cases o <;> rfl
theorem HO.ren_hole (f g : Nat → Nat) (o : HO) : (o.ren f g).isHole = o.isHole := by cases o <;> rfl
theorem HO.ren_box (f g : Nat → Nat) (o : HO) : (o.ren f g).isBox = o.isBox := by cases o <;> rfl
theorem HO.ren_live (f g : Nat → Nat) (o : HO) : (o.ren f g).live = o.live := by cases o <;> rfl
theorem HO.ren_sk (f g : Nat → Nat) (o : HO) : (o.ren f g).sk = o.sk := by
  cases o with
  | box a => exact Ab.ren_sk f g a
  | _ => rfl
/-- n stands for o4, one version on -/
inductive UpTo : HO → HO → Prop
  | box {a : AV} : UpTo (.box a) (.box a)
  | row {e : TypeId} {k : Nat} {u : Ty} {fn : Bool} {xs : List (El u)} : UpTo (.row e 0 u fn xs) (.row e k u fn xs)
  | dead {k : Nat} : UpTo (.dead 0) (.dead k)
theorem UpTo.hole {o n : HO} (h : UpTo o n) : n.isHole = false ∧ o.isHole = false := by cases h <;> exact ⟨rfl, rfl⟩
theorem UpTo.ver {o n : HO} (h : UpTo o n) : o.ver = 0 := by cases h <;> rfl
theorem UpTo.blk {o n : HO} (h : UpTo o n) (v : Value) : n.blk v = o.blk v := by cases h <;> rfl
theorem UpTo.isBox {o n : HO} (h : UpTo o n) : n.isBox = o.isBox := by cases h <;> rfl
theorem UpTo.live {o n : HO} (h : UpTo o n) : n.live = o.live := by cases h <;> rfl
theorem UpTo.sk {o n : HO} (h : UpTo o n) : n.sk = o.sk := by cases h <;> rfl

structure Merge (c c1 c4 c5 : Cx) (L : List Nat) (ns : List HO) (f : Nat → Nat) : Prop where
  nodup : L.Nodup
  S1 : c1.S = c.S
  w1 : c1.w = c.w
  live1 : ∀ b, c1.live b → ∃ id o v, id ∈ L ∧ c.H[id]? = some o ∧ c.σ[id]? = some v ∧ o.blk v = some b
  fr : Fr c1 c4
  kp : Kp c1 c4
  sim4 : Sim c4
  S5 : c5.S = c4.S
  w5 : c5.w = c4.w
  len5 : c5.H.length = c.H.length
  len5' : c5.σ.length = c.H.length
  off : ∀ id, id ∉ L → c5.H[id]? = c.H[id]? ∧ c5.σ[id]? = c.σ[id]?
  on : ∀ (p id : Nat), L[p]? = some id → ∃ o4 n v, c4.H[p]? = some o4 ∧ ns[p]? = some n ∧ UpTo o4 n ∧ c4.σ[p]? = some v ∧ c5.H[id]? = some (n.ren f (vers ns)) ∧ c5.σ[id]? = some v
  all : ∀ (p : Nat) (o4 : HO), c4.H[p]? = some o4 → L[p]? = some (f p)
  old : ∀ (p id : Nat) (o : HO) (v : Value), L[p]? = some id → c.H[id]? = some o → c.σ[id]? = some v → o.isHole = false → ∀ n v', ns[p]? = some n → c4.σ[p]? = some v' → o.ver ≤ n.ver ∧
    (n.ver = o.ver → v' = v ∧ (n.live = true → o.live = true ∧ n.sk = o.sk)) ∧ (n.isBox = true → o.isBox = true ∧ v' = v)
section
variable {c c1 c4 c5 : Cx} {L : List Nat} {ns : List HO} {f : Nat → Nat}
theorem Merge.rep (h : Merge c c1 c4 c5 L ns f) : ∀ {a : AV} {cs : List Value}, RepA c4 a cs → RepA c5 (a.ren f (vers ns)) cs
  | .v u x, cs, ha => by show RepC c5.S c5.w u x cs; rw [h.S5, h.w5]; exact ha
  | .nsl, _, ha => ha
  | .nptr, _, ha => ha
  | .ptr id ver path, cs, ⟨o, v, h1, h2, h3, h4, h6, h5⟩ => by
    obtain ⟨o4, n, v', k1, k2, k3, k4, k5, k6⟩ := h.on id (f id) (h.all id o h1)
    rw [h1] at k1; cases k1
    rw [h2] at k4; cases k4
    have hv0 : ver = 0 := by have := k3.ver; omega
    refine ⟨_, v, k5, k6, by rw [HO.ren_hole]; exact k3.hole.1, by rw [hv0]; exact Nat.zero_le _, h6, fun e hl => ?_⟩
    rw [HO.ren_live, k3.live] at hl
    rw [HO.ren_sk, k3.sk]
    exact h5 (by rw [k3.ver, hv0]) hl
  | .sv id ver path lo hi, cs, ⟨o, v, h1, h2, h3, h4, h6, h5⟩ => by
    obtain ⟨o4, n, v', k1, k2, k3, k4, k5, k6⟩ := h.on id (f id) (h.all id o h1)
    rw [h1] at k1; cases k1
    rw [h2] at k4; cases k4
    have hv0 : ver = 0 := by have := k3.ver; omega
    refine ⟨_, v, k5, k6, by rw [HO.ren_hole]; exact k3.hole.1, by rw [hv0]; exact Nat.zero_le _, h6, fun e hl => ?_⟩
    rw [HO.ren_live, k3.live] at hl
    rw [HO.ren_sk, k3.sk]
    exact h5 (by rw [k3.ver, hv0]) hl
  | .pv u x, cs, ⟨b, off, vs, h1, h2, h3, h4⟩ => ⟨b, off, vs, h1, by rw [h.S5]; exact h2, by rw [h.S5, h.w5]; exact h3, by rw [h.w5]; exact h4⟩
  | .hs id ver, cs, ⟨o, v, h1, h2, h3, h4, h6, h5⟩ => by
    obtain ⟨o4, n, v', k1, k2, k3, k4, k5, k6⟩ := h.on id (f id) (h.all id o h1)
    rw [h1] at k1; cases k1
    rw [h2] at k4; cases k4
    have hv0 : ver = 0 := by have := k3.ver; omega
    have hn : vers ns id = n.ver := by unfold vers; rw [List.getD_eq_getElem?_getD, k2]; rfl
    exact ⟨_, v, k5, k6, by rw [HO.ren_hole]; exact k3.hole.1, by rw [HO.ren_ver, hn, hv0]; exact Nat.le_refl _, h6, fun _ => h5 (by rw [k3.ver, hv0])⟩
  | .fn _ _, cs, ⟨vs, h1, h2⟩ => ⟨vs, h1, h.rep h2⟩
  | .nfn, _, ha => ha
  | .nil, _, ha => ha
  | .cons a b, cs, ⟨x, y, e, h1, h2⟩ => ⟨x, y, e, h.rep h1, h.rep h2⟩
theorem Merge.rep1 (h : Merge c c1 c4 c5 L ns f) {a : AV} {v : Value} (ha : RepV1 c4 a v) : RepV1 c5 (a.ren f (vers ns)) v := by
  unfold RepV1 at *
  have : (a.ren f (vers ns)).isAgg = a.isAgg := by unfold AV.isAgg; rw [ren_sk]
  rw [this]
  cases hag : a.isAgg with
  | true => rw [hag] at ha; obtain ⟨cs, h1, h2⟩ := ha; exact ⟨cs, h1, h.rep h2⟩
  | false => rw [hag] at ha; exact h.rep ha
theorem Merge.reps (h : Merge c c1 c4 c5 L ns f) : ∀ {a : AV} {vs : List Value}, RepVs c4 a vs → RepVs c5 (a.ren f (vers ns)) vs
  | .nil, _, ha => ha
  | .cons _ _, _, ⟨v, r, e, h1, h2⟩ => ⟨v, r, e, h.rep1 h1, h.reps h2⟩
theorem Merge.repV (h : Merge c c1 c4 c5 L ns f) {a : AV} {v : Value} (ha : RepV c4 a v) : RepV c5 (a.ren f (vers ns)) v := by
  cases hb : a.sk.isBad with
  | false => exact repV_of (by rw [ren_sk]; exact hb) (h.rep1 (repV1_of hb ha))
  | true =>
    cases a <;> try (simp [AV.sk, Sk.isBad] at hb; done)
    case undef => trivial
    case tup a => obtain ⟨vs, h1, h2⟩ := ha; exact ⟨vs, h1, h.reps h2⟩
    case v u x => cases u <;> simp [AV.sk, Ty.sk, Sk.isBad] at hb
theorem Merge.ok (hs : Sim c) (h : Merge c c1 c4 c5 L ns f) : Fr c c5 ∧ Mn c c5 ∧ Sim c5 := by
  have hlive1 : ∀ b, c1.live b → c.live b := fun b hb => by
    obtain ⟨id, o, v, _, h1, h2, h3⟩ := h.live1 b hb
    exact ⟨id, o, v, h1, h2, h3⟩
  have hoff1 : ∀ (id : Nat) (o : HO) (v : Value) (b : Nat), id ∉ L → c.H[id]? = some o → c.σ[id]? = some v → o.blk v = some b → ¬ c1.live b := fun id o v b hn h1 h2 h3 hb => by
    obtain ⟨id', o', v', k0, k1, k2, k3⟩ := h.live1 b hb
    exact hn (hs.apart id id' o o' v v' b h1 k1 h2 k2 h3 k3 ▸ k0)
  have hsz : c.w.heap.size ≤ c4.w.heap.size := by rw [← h.w1]; exact h.fr.size
  -- what is live in c5
  have hlive5 : ∀ (id : Nat) (o : HO) (v : Value) (b : Nat), c5.H[id]? = some o → c5.σ[id]? = some v → o.blk v = some b →
      (id ∉ L ∧ c.H[id]? = some o ∧ c.σ[id]? = some v) ∨ (∃ (p : Nat) (o4 : HO), L[p]? = some id ∧ c4.H[p]? = some o4 ∧ c4.σ[p]? = some v ∧ o4.blk v = some b) := fun id o v b h1 h2 h3 => by
    by_cases hid : id ∈ L
    · obtain ⟨p, hp⟩ := List.getElem?_of_mem hid
      obtain ⟨o4, n, v', k1, k2, k3, k4, k5, k6⟩ := h.on p id hp
      rw [h1] at k5; cases k5
      rw [h2] at k6; cases k6
      rw [HO.ren_blk, k3.blk] at h3
      exact .inr ⟨p, o4, hp, k1, k4, h3⟩
    · obtain ⟨e1, e2⟩ := h.off id hid
      exact .inl ⟨hid, by rw [← e1]; exact h1, by rw [← e2]; exact h2⟩
  have hl4 : ∀ b, c4.live b → c1.live b ∨ c.w.heap.size ≤ b := fun b hb => by rw [← h.w1]; exact h.fr.newl b hb
  have hfrm : ∀ b, b < c.w.heap.size → ¬ c1.live b → c5.w.heap[b]? = c.w.heap[b]? := fun b hb hn => by rw [h.w5, ← h.w1]; exact h.fr.frame b (by rw [h.w1]; exact hb) hn
  have hmn : Mn c c5 := by
    refine ⟨fun b hb => by rw [h.S5]; exact h.kp.sub b (by rw [h.S1]; exact hb), fun b hb => by rw [h.w5, ← h.w1]; exact h.kp.heapS b (by rw [h.S1]; exact hb), fun id o v h1 h2 h3 => ?_⟩
    by_cases hid : id ∈ L
    · obtain ⟨p, hp⟩ := List.getElem?_of_mem hid
      obtain ⟨o4, n, v', k1, k2, k3, k4, k5, k6⟩ := h.on p id hp
      obtain ⟨q1, q2, q3⟩ := h.old p id o v hp h1 h2 h3 n v' k2 k4
      exact ⟨_, v', k5, k6, by rw [HO.ren_hole]; exact k3.hole.1, by rw [HO.ren_ver]; exact q1, by rw [HO.ren_ver, HO.ren_live, HO.ren_sk]; exact q2, by rw [HO.ren_box]; exact q3⟩
    · obtain ⟨e1, e2⟩ := h.off id hid
      exact ⟨o, v, by rw [e1]; exact h1, by rw [e2]; exact h2, h3, Nat.le_refl _, fun _ => ⟨rfl, fun h => ⟨h, rfl⟩⟩, fun h => ⟨h, rfl⟩⟩
  refine ⟨⟨fun b hb => ?_, fun b hb => ?_, by rw [h.w5]; exact hsz, ?_, ?_, ?_, fun b hb hn => hfrm b hb (fun hl => hn (hlive1 b hl))⟩, hmn, ⟨by rw [h.len5, h.len5'], fun id o v h1 h2 => ?_, fun i j oi oj vi vj b a1 a2 a3 a4 a5 a6 => ?_, fun b hb hS => ?_, fun b hb => ?_, fun b hb => ?_⟩⟩
  · rw [h.S5] at hb
    rcases h.fr.new b hb with q | q | q
    · rw [h.S1] at q; exact .inl q
    · rw [h.w1] at q; exact .inr (.inl q)
    · exact .inr (.inr (hlive1 b q))
  · obtain ⟨id, o, v, h1, h2, h3⟩ := hb
    rcases hlive5 id o v b h1 h2 h3 with ⟨_, q1, q2⟩ | ⟨p, o4, _, q1, q2, q3⟩
    · exact .inl ⟨id, o, v, q1, q2, h3⟩
    · rcases hl4 b ⟨p, o4, v, q1, q2, q3⟩ with q | q
      · exact .inl (hlive1 b q)
      · exact .inr q
  · rw [h.w5, h.fr.os, h.w1]
  · rw [h.w5, h.fr.tape, h.w1]
  · rw [h.w5, h.fr.output, h.w1]
  · by_cases hid : id ∈ L
    · obtain ⟨p, hp⟩ := List.getElem?_of_mem hid
      obtain ⟨o4, n, v', k1, k2, k3, k4, k5, k6⟩ := h.on p id hp
      rw [h1] at k5; cases k5
      rw [h2] at k6; cases k6
      have ho := h.sim4.obj p o4 v k1 k4
      cases k3 with
      | box =>
        obtain ⟨b, cs, T, g1, g2, g3, g4⟩ := ho
        exact ⟨b, cs, T, g1, by rw [h.w5]; exact g2, h.rep g3, by rw [Ab.ren_sk]; exact g4⟩
      | row =>
        obtain ⟨cells, g1, g2, g3⟩ := ho
        exact ⟨cells, by rw [h.w5]; exact g1, by rw [h.w5, h.S5]; exact g2, g3⟩
      | dead => trivial
    · obtain ⟨e1, e2⟩ := h.off id hid
      rw [e1] at h1
      rw [e2] at h2
      exact (hs.obj id o v h1 h2).mono hmn fun b hb => hfrm b (hs.ltl b ⟨id, o, v, h1, h2, hb⟩) (hoff1 id o v b hid h1 h2 hb)
  · have mixed : ∀ (i j : Nat) (oi : HO) (vi : Value) (p : Nat) (o4 : HO) (v4 : Value), i ∉ L → c.H[i]? = some oi → c.σ[i]? = some vi → oi.blk vi = some b → c4.H[p]? = some o4 → c4.σ[p]? = some v4 → o4.blk v4 = some b → False := fun i j oi vi p o4 v4 hi q1 q2 q3 r1 r2 r3 => by
      rcases hl4 b ⟨p, o4, v4, r1, r2, r3⟩ with q | q
      · exact hoff1 i oi vi b hi q1 q2 q3 q
      · have := hs.ltl b ⟨i, oi, vi, q1, q2, q3⟩; omega
    rcases hlive5 i oi vi b a1 a3 a5 with ⟨hi, q1, q2⟩ | ⟨p, o4, q0, q1, q2, q3⟩ <;> rcases hlive5 j oj vj b a2 a4 a6 with ⟨hj, r1, r2⟩ | ⟨p', o4', r0, r1, r2, r3⟩
    · exact hs.apart i j oi oj vi vj b q1 r1 q2 r2 a5 a6
    · exact (mixed i j oi vi p' o4' vj hi q1 q2 a5 r1 r2 r3).elim
    · exact (mixed j i oj vj p o4 vi hj r1 r2 a6 q1 q2 q3).elim
    · have := h.sim4.apart p p' o4 o4' vi vj b q1 r1 q2 r2 q3 r3
      subst this
      rw [q0] at r0
      cases r0
      rfl
  · rw [h.S5] at hS
    obtain ⟨id, o, v, h1, h2, h3⟩ := hb
    rcases hlive5 id o v b h1 h2 h3 with ⟨hid, q1, q2⟩ | ⟨p, o4, _, q1, q2, q3⟩
    · rcases h.fr.new b hS with q | q | q
      · rw [h.S1] at q; exact hs.out b ⟨id, o, v, q1, q2, h3⟩ q
      · rw [h.w1] at q; have := hs.ltl b ⟨id, o, v, q1, q2, h3⟩; have q' : c.w.heap.size ≤ b := q; omega
      · exact hoff1 id o v b hid q1 q2 h3 q
    · exact h.sim4.out b ⟨p, o4, v, q1, q2, q3⟩ hS
  · rw [h.S5] at hb; rw [h.w5]; exact h.sim4.lt b hb
  · rw [h.w5]
    obtain ⟨id, o, v, h1, h2, h3⟩ := hb
    rcases hlive5 id o v b h1 h2 h3 with ⟨hid, q1, q2⟩ | ⟨p, o4, _, q1, q2, q3⟩
    · exact Nat.lt_of_lt_of_le (hs.ltl b ⟨id, o, v, q1, q2, h3⟩) hsz
    · exact h.sim4.ltl b ⟨p, o4, v, q1, q2, q3⟩
end
end Go.Ab
