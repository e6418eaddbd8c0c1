import Derived.Test.YtjmikonopapihaaAbFocus
/-
  AB: one object is another one; new memory; a draw.
-/
namespace Go.Ab

theorem ObjRep.mono {c c' : Cx} (hm : Mn c c') {o : HO} {v : Value} (hb : ∀ b, o.blk v = some b → c'.w.heap[b]? = c.w.heap[b]?) (h : ObjRep c o v) : ObjRep c' o v := by
  cases o with
  | hole => trivial
  | dead _ => trivial
  | box a =>
    obtain ⟨b, cs, T, h1, h2, h3, h4⟩ := h
    exact ⟨b, cs, T, h1, by rw [hb b (by rw [h1]; rfl)]; exact h2, h3.mono hm, h4⟩
  | row e ver u fn xs =>
    obtain ⟨cells, ⟨h0, h1⟩, h2, h3, h4, h5⟩ := h
    refine ⟨cells, ⟨h0, ?_⟩, RepCs.mono (fun _ _ h => RepC.mono hm.sub hm.heapS h) h2, h3, h4, h5⟩
    rcases h1 with h1 | ⟨g, cap, cur, e1, e2, e3, e4⟩
    · exact .inl h1
    · exact .inr ⟨g, cap, cur, e1, e2, by rw [hb g (by rw [e1]; rfl)]; exact e3, e4⟩
  | frz ver u o => exact RepC.mono hm.sub hm.heapS h

theorem get_set {α : Type} {l : List α} {i j : Nat} {x y : α} (h : (l.set i x)[j]? = some y) : (j = i ∧ y = x) ∨ (j ≠ i ∧ l[j]? = some y) := by
  by_cases e : i = j
  · subst e
    rw [List.getElem?_set_self'] at h
    cases hl : l[i]? with
    | none => rw [hl] at h; cases h
    | some z => rw [hl] at h; cases h; exact .inl ⟨rfl, rfl⟩
  · rw [List.getElem?_set_ne e] at h
    exact .inr ⟨fun k => e k.symm, h⟩
theorem lt_of_get {α : Type} {l : List α} {i : Nat} {x : α} (h : l[i]? = some x) : i < l.length := (List.getElem?_eq_some_iff.1 h).1

theorem upd {c : Cx} (hs : Sim c) {i : Nat} {o : HO} {v : Value} (ho : c.H[i]? = some o) (hv : c.σ[i]? = some v) (o' : HO) (v' : Value) (S' : Nat → Prop) (w' : World)
    (sub : ∀ b, c.S b → S' b) (new : ∀ b, S' b → c.S b ∨ c.w.heap.size ≤ b ∨ o.blk v = some b)
    (size : c.w.heap.size ≤ w'.heap.size) (os : w'.os = c.w.os) (tape : w'.tape = c.w.tape) (output : w'.output = c.w.output)
    (frame : ∀ b, b < c.w.heap.size → o.blk v ≠ some b → w'.heap[b]? = c.w.heap[b]?)
    (blk : ∀ b, o'.blk v' = some b → (o.blk v = some b ∨ c.w.heap.size ≤ b) ∧ b < w'.heap.size ∧ ¬ S' b)
    (lt : ∀ b, S' b → b < w'.heap.size)
    (keep : o.isHole = false → o'.isHole = false ∧ o.ver ≤ o'.ver ∧ (o'.ver = o.ver → v' = v ∧ (o'.live = true → o.live = true ∧ o'.sk = o.sk)) ∧ (o'.isBox = true → o.isBox = true ∧ v' = v))
    (obj : Mn c ⟨S', c.σ.set i v', c.H.set i o', w'⟩ → ObjRep ⟨S', c.σ.set i v', c.H.set i o', w'⟩ o' v') :
    Fr c ⟨S', c.σ.set i v', c.H.set i o', w'⟩ ∧ Mn c ⟨S', c.σ.set i v', c.H.set i o', w'⟩ ∧ Sim ⟨S', c.σ.set i v', c.H.set i o', w'⟩ := by
  have hlive : ∀ b, o.blk v = some b → c.live b := fun b hb => ⟨i, o, v, ho, hv, hb⟩
  have hother : ∀ (j : Nat) (oj : HO) (vj : Value) (b : Nat), j ≠ i → c.H[j]? = some oj → c.σ[j]? = some vj → oj.blk vj = some b → o.blk v ≠ some b := fun j oj vj b hj h1 h2 h3 h4 =>
    hj (hs.apart j i oj o vj v b h1 ho h2 hv h3 h4)
  have hm : Mn c ⟨S', c.σ.set i v', c.H.set i o', w'⟩ := by
    refine ⟨sub, fun b hb => frame b (hs.lt b hb) (fun e => hs.out b (hlive b e) hb), fun j oj vj h1 h2 h3 => ?_⟩
    by_cases hj : j = i
    · subst hj
      rw [ho] at h1; cases h1
      rw [hv] at h2; cases h2
      obtain ⟨k1, k2, k3⟩ := keep h3
      exact ⟨o', v', List.getElem?_set_self (lt_of_get ho), List.getElem?_set_self (lt_of_get hv), k1, k2, k3⟩
    · exact ⟨oj, vj, by rw [← h1]; exact List.getElem?_set_ne (Ne.symm hj), by rw [← h2]; exact List.getElem?_set_ne (Ne.symm hj), h3, Nat.le_refl _, fun _ => ⟨rfl, fun h => ⟨h, rfl⟩⟩, fun h => ⟨h, rfl⟩⟩
  have hl' : ∀ b, Cx.live ⟨S', c.σ.set i v', c.H.set i o', w'⟩ b → o'.blk v' = some b ∨ ∃ j oj vj, j ≠ i ∧ c.H[j]? = some oj ∧ c.σ[j]? = some vj ∧ HO.blk oj vj = some b := by
    rintro b ⟨j, oj, vj, h1, h2, h3⟩
    rcases get_set h1 with ⟨rfl, rfl⟩ | ⟨hj, h1⟩
    · rcases get_set h2 with ⟨_, rfl⟩ | ⟨hj, _⟩
      · exact .inl h3
      · exact absurd rfl hj
    · rcases get_set h2 with ⟨hj', _⟩ | ⟨_, h2⟩
      · exact absurd hj' hj
      · exact .inr ⟨j, oj, vj, hj, h1, h2, h3⟩
  have hlj : ∀ (j : Nat) (oj : HO) (vj : Value) (b : Nat), c.H[j]? = some oj → c.σ[j]? = some vj → oj.blk vj = some b → c.live b := fun j oj vj b h1 h2 h3 => ⟨j, oj, vj, h1, h2, h3⟩
  refine ⟨⟨fun b hb => ?_, fun b hb => ?_, size, os, tape, output, fun b hb hn => frame b hb (fun e => hn (hlive b e))⟩, hm, ⟨by simpa using hs.len, ?_, ?_, fun b hb => ?_, lt, fun b hb => ?_⟩⟩
  · rcases new b hb with h | h | h
    · exact .inl h
    · exact .inr (.inl h)
    · exact .inr (.inr (hlive b h))
  · rcases hl' b hb with h | ⟨j, oj, vj, _, h1, h2, h3⟩
    · rcases (blk b h).1 with h | h
      · exact .inl (hlive b h)
      · exact .inr h
    · exact .inl (hlj j oj vj b h1 h2 h3)
  · intro j oj vj h1 h2
    rcases get_set h1 with ⟨rfl, rfl⟩ | ⟨hj, h1⟩
    · rcases get_set h2 with ⟨_, rfl⟩ | ⟨hj, _⟩
      · exact obj hm
      · exact absurd rfl hj
    · rcases get_set h2 with ⟨hj', _⟩ | ⟨_, h2⟩
      · exact absurd hj' hj
      · exact (hs.obj j oj vj h1 h2).mono hm fun b hb => frame b (hs.ltl b (hlj j oj vj b h1 h2 hb)) (hother j oj vj b hj h1 h2 hb)
  · intro j k oj ok vj vk b h1 h2 h3 h4 h5 h6
    have q1 : (j = i ∧ oj = o' ∧ vj = v') ∨ (j ≠ i ∧ c.H[j]? = some oj ∧ c.σ[j]? = some vj) := by
      rcases get_set h1 with ⟨e1, e2⟩ | ⟨e1, e2⟩ <;> rcases get_set h3 with ⟨f1, f2⟩ | ⟨f1, f2⟩
      · exact .inl ⟨e1, e2, f2⟩
      · exact absurd e1 f1
      · exact absurd f1 e1
      · exact .inr ⟨e1, e2, f2⟩
    have q2 : (k = i ∧ ok = o' ∧ vk = v') ∨ (k ≠ i ∧ c.H[k]? = some ok ∧ c.σ[k]? = some vk) := by
      rcases get_set h2 with ⟨e1, e2⟩ | ⟨e1, e2⟩ <;> rcases get_set h4 with ⟨f1, f2⟩ | ⟨f1, f2⟩
      · exact .inl ⟨e1, e2, f2⟩
      · exact absurd e1 f1
      · exact absurd f1 e1
      · exact .inr ⟨e1, e2, f2⟩
    rcases q1 with ⟨a1, a2, a3⟩ | ⟨a1, a2, a3⟩ <;> rcases q2 with ⟨b1, b2, b3⟩ | ⟨b1, b2, b3⟩
    · exact a1.trans b1.symm
    · rw [a2, a3] at h5
      rcases (blk b h5).1 with h | h
      · exact absurd h (hother k ok vk b b1 b2 b3 h6)
      · have := hs.ltl b (hlj k ok vk b b2 b3 h6); omega
    · rw [b2, b3] at h6
      rcases (blk b h6).1 with h | h
      · exact absurd h (hother j oj vj b a1 a2 a3 h5)
      · have := hs.ltl b (hlj j oj vj b a2 a3 h5); omega
    · exact hs.apart j k oj ok vj vk b a2 b2 a3 b3 h5 h6
  · intro hS
    rcases hl' b hb with h | ⟨j, oj, vj, hj, h1, h2, h3⟩
    · exact (blk b h).2.2 hS
    · rcases new b hS with h | h | h
      · exact hs.out b (hlj j oj vj b h1 h2 h3) h
      · have := hs.ltl b (hlj j oj vj b h1 h2 h3); have h' : c.w.heap.size ≤ b := h; omega
      · exact hother j oj vj b hj h1 h2 h3 h
  · rcases hl' b hb with h | ⟨j, oj, vj, _, h1, h2, h3⟩
    · exact (blk b h).2.1
    · exact Nat.lt_of_lt_of_le (hs.ltl b (hlj j oj vj b h1 h2 h3)) size

/-- nothing but new blocks (that may be read for ever), and draws -/
theorem upd0 {c : Cx} (hs : Sim c) (S' : Nat → Prop) (w' : World)
    (sub : ∀ b, c.S b → S' b) (new : ∀ b, S' b → c.S b ∨ c.w.heap.size ≤ b)
    (size : c.w.heap.size ≤ w'.heap.size) (os : w'.os = c.w.os) (tape : w'.tape = c.w.tape) (output : w'.output = c.w.output)
    (frame : ∀ b, b < c.w.heap.size → w'.heap[b]? = c.w.heap[b]?) (lt : ∀ b, S' b → b < w'.heap.size) :
    Fr c ⟨S', c.σ, c.H, w'⟩ ∧ Mn c ⟨S', c.σ, c.H, w'⟩ ∧ Sim ⟨S', c.σ, c.H, w'⟩ := by
  have hm : Mn c ⟨S', c.σ, c.H, w'⟩ := ⟨sub, fun b hb => frame b (hs.lt b hb), fun j oj vj h1 h2 h3 => ⟨oj, vj, h1, h2, h3, Nat.le_refl _, fun _ => ⟨rfl, fun h => ⟨h, rfl⟩⟩, fun h => ⟨h, rfl⟩⟩⟩
  refine ⟨⟨fun b hb => ?_, fun b hb => .inl hb, size, os, tape, output, fun b hb _ => frame b hb⟩, hm, ⟨hs.len, ?_, hs.apart, fun b hb hS => ?_, lt, fun b hb => Nat.lt_of_lt_of_le (hs.ltl b hb) size⟩⟩
  · rcases new b hb with h | h
    · exact .inl h
    · exact .inr (.inl h)
  · intro j oj vj h1 h2
    exact (hs.obj j oj vj h1 h2).mono hm fun b hb => frame b (hs.ltl b ⟨j, oj, vj, h1, h2, hb⟩)
  · rcases new b hS with h | h
    · exact hs.out b hb h
    · have h1 := hs.ltl b hb
      have h2 : c.w.heap.size ≤ b := h
      omega
theorem drewC {c : Cx} (hs : Sim c) : Fr c ⟨c.S, c.σ, c.H, c.w.drew⟩ ∧ Mn c ⟨c.S, c.σ, c.H, c.w.drew⟩ ∧ Sim ⟨c.S, c.σ, c.H, c.w.drew⟩ :=
  upd0 hs c.S c.w.drew (fun _ h => h) (fun _ h => .inl h) (Nat.le_refl _) rfl rfl rfl (fun _ _ => rfl) hs.lt
end Go.Ab
