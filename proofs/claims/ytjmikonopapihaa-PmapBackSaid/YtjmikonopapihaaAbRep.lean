import Derived.Test.YtjmikonopapihaaAbExec
/-
  AB: what an abstract value says of the model's values and memory.
-/
namespace Go.Ab

def RepCs {α : Type} (R : α → List Value → Prop) : List α → List Value → Prop
  | [], cs => cs = []
  | x :: xs, cs => ∃ c d, cs = c ++ d ∧ R x c ∧ RepCs R xs d
/-- the cells from an address on -/
def At (w : World) (b off : Nat) (cs : List Value) : Prop := ∀ (j : Nat) (u : Value), cs[j]? = some u → w.cell? ⟨b, off + j, none⟩ = some u
def bytesOf (s : ByteArray) : List Int := s.data.toList.map fun b => (b.toNat : Int)

/-- typed data and its cells; S: the blocks that nobody writes any more -/
def RepC (S : Nat → Prop) (w : World) : (u : Ty) → El u → List Value → Prop
  | .int k, n, cs => cs = [.int k n] ∧ k.wrap n = n
  | .bool, b, cs => cs = [.bool b]
  | .str, xs, cs => ∃ s, cs = [.string s] ∧ xs = bytesOf s ∧ s.size ≤ maxLen
  | .sl t, o, cs => match o with
    | none => cs = [.slice none 0 0]
    | some xs => ∃ b off cap vs sp, cs = [.slice (some ⟨b, off, sp⟩) xs.length cap] ∧ xs.length ≤ cap ∧ cap ≤ maxLen ∧ (xs ≠ [] → S b) ∧ RepCs (RepC S w t) xs vs ∧ At w b off vs ∧ (cap ≠ 0 → sp = none)
  | .unit, _, cs => cs = []
  | .pair a b, x, cs => ∃ c d, cs = c ++ d ∧ RepC S w a x.1 c ∧ RepC S w b x.2 d
  | .arr n t, xs, cs => xs.length = n ∧ RepCs (RepC S w t) xs cs

structure Cx where
  S : Nat → Prop
  σ : List Value
  H : List HO
  w : World

def blkOf : Value → Option Nat
  | .pointer (some a) => some a.block
  | .slice (some a) _ _ => some a.block
  | _ => none

def HO.live : HO → Bool
  | .box _ => true
  | .row _ _ _ _ _ => true
  | _ => false
def HO.isBox : HO → Bool
  | .box _ => true
  | _ => false
def HO.isHole : HO → Bool
  | .hole => true
  | _ => false
def RepA (c : Cx) : AV → List Value → Prop
  | .v u x, cs => RepC c.S c.w u x cs
  | .nsl, cs => cs = [.slice none 0 0]
  | .nptr, cs => cs = [.pointer none]
  | .ptr id ver path, cs => ∃ (o : HO) (v : Value), c.H[id]? = some o ∧ c.σ[id]? = some v ∧ o.isHole = false ∧ ver ≤ o.ver ∧ (∃ p : Addr, cs = [.pointer (some p)]) ∧
      (o.ver = ver → o.live = true → ∃ b, blkOf v = some b ∧ Sk.okP path o.sk ∧ cs = [.pointer (some ⟨b, Sk.offP path o.sk, none⟩)])
  | .pv u x, cs => ∃ b off vs, cs = [.pointer (some ⟨b, off, none⟩)] ∧ c.S b ∧ RepC c.S c.w u x vs ∧ At c.w b off vs
  | .hs id ver, cs => ∃ (o : HO) (v : Value), c.H[id]? = some o ∧ c.σ[id]? = some v ∧ o.isHole = false ∧ ver ≤ o.ver ∧ (∃ (p : Option Addr) (n m : Nat), cs = [.slice p n m]) ∧ (o.ver = ver → cs = [v])
  | .sv id ver path lo hi, cs => ∃ (o : HO) (v : Value), c.H[id]? = some o ∧ c.σ[id]? = some v ∧ o.isHole = false ∧ ver ≤ o.ver ∧ (∃ (p : Addr) (n m : Nat), cs = [.slice (some p) n m]) ∧
      (o.ver = ver → o.live = true → ∃ b off m s, blkOf v = some b ∧ Sk.okP path o.sk ∧ o.sk.fldP path = .arr m s ∧ lo ≤ hi ∧ hi ≤ m ∧ m ≤ maxLen ∧ (lo < m → off = Sk.offP path o.sk + lo * s.csz) ∧ cs = [.slice (some ⟨b, off, none⟩) (hi - lo) (m - lo)])
  | .fn f caps, cs => ∃ vs : Array Value, cs = [.func (.func f) #[] vs] ∧ RepA c caps vs.toList
  | .nfn, cs => cs = [.nilFunc]
  | .nil, cs => cs = []
  | .cons a b, cs => ∃ x y, cs = x ++ y ∧ RepA c a x ∧ RepA c b y
  | .tup _, _ => False
  | .undef, _ => False

/-- one value, as it stands in a slot -/
def RepV1 (c : Cx) (a : AV) (v : Value) : Prop :=
  match a.isAgg with
  | true => ∃ cs : List Value, v = .agg cs.toArray ∧ RepA c a cs
  | false => RepA c a [v]
def RepVs (c : Cx) : AV → List Value → Prop
  | .nil, vs => vs = []
  | .cons a b, vs => ∃ v r, vs = v :: r ∧ RepV1 c a v ∧ RepVs c b r
  | _, _ => False
def RepV (c : Cx) : AV → Value → Prop
  | .undef, _ => True
  | .tup a, v => ∃ vs : List Value, v = .tuple vs.toArray ∧ RepVs c a vs
  | a, v => RepV1 c a v

def ObjRep (c : Cx) (o : HO) (v : Value) : Prop :=
  match o with
  | .hole => True
  | .dead _ => True
  | .box a => ∃ b cs T, v = .pointer (some ⟨b, 0, none⟩) ∧ c.w.heap[b]? = some (.cells cs T (0, 0)) ∧ RepA c a cs.toList ∧ a.sk.noBad = true
  | .row e _ u fn xs => ∃ cells, c.w.ownsRow 0 e u.csz v xs.length cells ∧ RepCs (RepC c.S c.w u) xs cells ∧ 0 < u.csz ∧
      (fn = true → (v = .slice none 0 0 ↔ xs = [])) ∧ (fn = false → v ≠ .slice none 0 0)
  | .frz _ u o => RepC c.S c.w (.sl u) o [v]
/-- the block that an object may be written in -/
def HO.blk (o : HO) (v : Value) : Option Nat :=
  match o with
  | .box _ => blkOf v
  | .row _ _ _ _ _ => blkOf v
  | _ => none
def Cx.live (c : Cx) (b : Nat) : Prop := ∃ (i : Nat) (o : HO) (v : Value), c.H[i]? = some o ∧ c.σ[i]? = some v ∧ o.blk v = some b

structure Sim (c : Cx) : Prop where
  len : c.σ.length = c.H.length
  obj : ∀ (i : Nat) (o : HO) (v : Value), c.H[i]? = some o → c.σ[i]? = some v → ObjRep c o v
  apart : ∀ (i j : Nat) (oi oj : HO) (vi vj : Value) (b : Nat), c.H[i]? = some oi → c.H[j]? = some oj → c.σ[i]? = some vi → c.σ[j]? = some vj → oi.blk vi = some b → oj.blk vj = some b → i = j
  out : ∀ b, c.live b → ¬ c.S b
  lt : ∀ b, c.S b → b < c.w.heap.size
  ltl : ∀ b, c.live b → b < c.w.heap.size

/-- what was there and is not written -/
structure Fr (c c' : Cx) : Prop where
  new : ∀ b, c'.S b → c.S b ∨ c.w.heap.size ≤ b ∨ c.live b
  newl : ∀ b, c'.live b → c.live b ∨ c.w.heap.size ≤ b
  size : c.w.heap.size ≤ c'.w.heap.size
  os : c'.w.os = c.w.os
  tape : c'.w.tape = c.w.tape
  output : c'.w.output = c.w.output
  frame : ∀ b, b < c.w.heap.size → ¬ c.live b → c'.w.heap[b]? = c.w.heap[b]?
/-- what keeps values -/
structure Mn (c c' : Cx) : Prop where
  sub : ∀ b, c.S b → c'.S b
  heapS : ∀ b, c.S b → c'.w.heap[b]? = c.w.heap[b]?
  objs : ∀ (i : Nat) (o : HO) (v : Value), c.H[i]? = some o → c.σ[i]? = some v → o.isHole = false →
    ∃ (o' : HO) (v' : Value), c'.H[i]? = some o' ∧ c'.σ[i]? = some v' ∧ o'.isHole = false ∧ o.ver ≤ o'.ver ∧
      (o'.ver = o.ver → v' = v ∧ (o'.live = true → o.live = true ∧ o'.sk = o.sk)) ∧ (o'.isBox = true → o.isBox = true ∧ v' = v)

theorem Fr.refl (c : Cx) : Fr c c := ⟨fun _ h => .inl h, fun _ h => .inl h, Nat.le_refl _, rfl, rfl, rfl, fun _ _ _ => rfl⟩
theorem Fr.trans {a b c : Cx} (h : Fr a b) (k : Fr b c) : Fr a c where
  new := fun x hx => by
    rcases k.new x hx with h1 | h1 | h1
    · exact h.new x h1
    · exact .inr (.inl (Nat.le_trans h.size h1))
    · rcases h.newl x h1 with h2 | h2
      · exact .inr (.inr h2)
      · exact .inr (.inl h2)
  newl := fun x hx => by
    rcases k.newl x hx with h1 | h1
    · exact h.newl x h1
    · exact .inr (Nat.le_trans h.size h1)
  size := Nat.le_trans h.size k.size
  os := k.os.trans h.os
  tape := k.tape.trans h.tape
  output := k.output.trans h.output
  frame := fun x hx hn => (k.frame x (Nat.lt_of_lt_of_le hx h.size) (fun hl => by
    rcases h.newl x hl with h2 | h2
    · exact hn h2
    · omega)).trans (h.frame x hx hn)
theorem Mn.refl (c : Cx) : Mn c c := ⟨fun _ h => h, fun _ _ => rfl, fun _ o v h1 h2 h3 => ⟨o, v, h1, h2, h3, Nat.le_refl _, fun _ => ⟨rfl, fun h => ⟨h, rfl⟩⟩, fun h => ⟨h, rfl⟩⟩⟩
theorem Mn.trans {a b c : Cx} (h : Mn a b) (k : Mn b c) : Mn a c where
  sub := fun x hx => k.sub x (h.sub x hx)
  heapS := fun x hx => (k.heapS x (h.sub x hx)).trans (h.heapS x hx)
  objs := fun i o v h1 h2 h3 => by
    obtain ⟨o1, v1, g1, g2, g3, g4, g5, g6⟩ := h.objs i o v h1 h2 h3
    obtain ⟨o2, v2, k1, k2, k3, k4, k5, k6⟩ := k.objs i o1 v1 g1 g2 g3
    refine ⟨o2, v2, k1, k2, k3, Nat.le_trans g4 k4, fun e => ?_, fun e => ⟨(g6 (k6 e).1).1, (k6 e).2.trans (g6 (k6 e).1).2⟩⟩
    obtain ⟨p1, p2⟩ := k5 (by omega)
    obtain ⟨q1, q2⟩ := g5 (by omega)
    exact ⟨p1.trans q1, fun hl => ⟨(q2 (p2 hl).1).1, (p2 hl).2.trans (q2 (p2 hl).1).2⟩⟩

/-! ### lists of data -/
section
variable {α : Type}
theorem RepCs.mono {R R' : α → List Value → Prop} (h : ∀ x cs, R x cs → R' x cs) : ∀ {xs : List α} {cs : List Value}, RepCs R xs cs → RepCs R' xs cs
  | [], _, hr => hr
  | _ :: _, _, ⟨c, d, e, h1, h2⟩ => ⟨c, d, e, h _ _ h1, RepCs.mono h h2⟩
theorem RepCs.length {R : α → List Value → Prop} {n : Nat} (h : ∀ x cs, R x cs → cs.length = n) : ∀ {xs : List α} {cs : List Value}, RepCs R xs cs → cs.length = xs.length * n
  | [], _, hr => by rw [show _ = [] from hr]; simp
  | x :: xs, _, ⟨c, d, e, h1, h2⟩ => by
    rw [e, List.length_append, h _ _ h1, RepCs.length h h2, List.length_cons, Nat.succ_mul, Nat.add_comm]
theorem RepCs.all {R : α → List Value → Prop} {p : Value → Prop} (h : ∀ x cs, R x cs → ∀ v ∈ cs, p v) : ∀ {xs : List α} {cs : List Value}, RepCs R xs cs → ∀ v ∈ cs, p v
  | [], _, hr, v, hv => by rw [show _ = [] from hr] at hv; cases hv
  | _ :: _, _, ⟨c, d, e, h1, h2⟩, v, hv => by
    rw [e] at hv
    rcases List.mem_append.1 hv with hv | hv
    · exact h _ _ h1 v hv
    · exact RepCs.all h h2 v hv
theorem RepCs.append {R : α → List Value → Prop} : ∀ {xs ys : List α} {cs ds : List Value}, RepCs R xs cs → RepCs R ys ds → RepCs R (xs ++ ys) (cs ++ ds)
  | [], _, _, _, h, k => by rw [show _ = [] from h]; exact k
  | _ :: _, _, _, _, ⟨c, d, e, h1, h2⟩, k => ⟨c, d ++ _, by rw [e, List.append_assoc], h1, RepCs.append h2 k⟩
/-- element i, and what stands there when it is another one -/
theorem RepCs.focus {R : α → List Value → Prop} {n : Nat} (h : ∀ x cs, R x cs → cs.length = n) (d : α) : ∀ {xs : List α} {cs : List Value} (i : Nat), i < xs.length → RepCs R xs cs →
    ∃ pre mid post, cs = pre ++ (mid ++ post) ∧ pre.length = i * n ∧ R (xs.getD i d) mid ∧ ∀ y mid', R y mid' → RepCs R (xs.set i y) (pre ++ (mid' ++ post))
  | [], _, i, hi, _ => by simp at hi
  | x :: xs, _, 0, _, ⟨c, e, he, h1, h2⟩ => ⟨[], c, e, by simpa using he, by simp, h1, fun y mid' hy => ⟨mid', e, by simp, hy, h2⟩⟩
  | x :: xs, _, i + 1, hi, ⟨c, e, he, h1, h2⟩ => by
    obtain ⟨pre, mid, post, e1, e2, e3, e4⟩ := RepCs.focus h d i (by simpa using hi) h2
    refine ⟨c ++ pre, mid, post, by rw [he, e1, List.append_assoc], by rw [List.length_append, e2, h _ _ h1, Nat.succ_mul, Nat.add_comm], e3, fun y mid' hy => ?_⟩
    exact ⟨c, pre ++ (mid' ++ post), by rw [List.append_assoc], h1, e4 y mid' hy⟩
theorem RepCs.take {R : α → List Value → Prop} {n : Nat} (h : ∀ x cs, R x cs → cs.length = n) : ∀ {xs : List α} {cs : List Value} (k : Nat), RepCs R xs cs → RepCs R (xs.take k) (cs.take (k * n))
  | [], _, k, hr => by rw [show _ = [] from hr]; simp [RepCs]
  | x :: xs, cs, 0, _ => by simp [RepCs]
  | x :: xs, _, k + 1, ⟨c, d, e, h1, h2⟩ => by
    refine ⟨c, d.take (k * n), ?_, h1, RepCs.take h k h2⟩
    have hc := h _ _ h1
    rw [e, show (k + 1) * n = c.length + k * n from by rw [hc, Nat.succ_mul, Nat.add_comm], List.take_length_add_append]
theorem RepCs.drop {R : α → List Value → Prop} {n : Nat} (h : ∀ x cs, R x cs → cs.length = n) : ∀ {xs : List α} {cs : List Value} (k : Nat), RepCs R xs cs → RepCs R (xs.drop k) (cs.drop (k * n))
  | [], _, k, hr => by rw [show _ = [] from hr]; simp [RepCs]
  | x :: xs, cs, 0, hr => by simpa using hr
  | x :: xs, _, k + 1, ⟨c, d, e, h1, h2⟩ => by
    have hc := h _ _ h1
    rw [e, show (k + 1) * n = c.length + k * n from by rw [hc, Nat.succ_mul, Nat.add_comm], List.drop_length_add_append]
    exact RepCs.drop h k h2
end

/-! ### typed data -/
theorem RepC.length {S : Nat → Prop} {w : World} : ∀ {u : Ty} {x : El u} {cs : List Value}, RepC S w u x cs → cs.length = u.csz
  | .int _, _, _, h => by rw [h.1]; rfl
  | .bool, _, _, h => by rw [show _ = [_] from h]; rfl
  | .str, _, _, ⟨_, h, _⟩ => by rw [h]; rfl
  | .sl _, none, _, h => by rw [show _ = [_] from h]; rfl
  | .sl _, some _, _, ⟨_, _, _, _, _, h, _⟩ => by rw [h]; rfl
  | .unit, _, _, h => by rw [show _ = [] from h]; rfl
  | .pair _ _, _, _, ⟨c, d, h, h1, h2⟩ => by rw [h, List.length_append, RepC.length h1, RepC.length h2]; rfl
  | .arr n t, _, _, ⟨h1, h2⟩ => by rw [RepCs.length (n := t.csz) (fun _ _ h => RepC.length h) h2, h1]; rfl
theorem RepC.one {S : Nat → Prop} {w : World} : ∀ {u : Ty} {x : El u} {cs : List Value}, RepC S w u x cs → ∀ v ∈ cs, v.oneCell' = true
  | .int _, _, _, h, v, hv => by rw [h.1] at hv; rw [List.mem_singleton.1 hv]; rfl
  | .bool, _, _, h, v, hv => by rw [show _ = [_] from h] at hv; rw [List.mem_singleton.1 hv]; rfl
  | .str, _, _, ⟨_, h, _⟩, v, hv => by rw [h] at hv; rw [List.mem_singleton.1 hv]; rfl
  | .sl _, none, _, h, v, hv => by rw [show _ = [_] from h] at hv; rw [List.mem_singleton.1 hv]; rfl
  | .sl _, some _, _, ⟨_, _, _, _, _, h, _⟩, v, hv => by rw [h] at hv; rw [List.mem_singleton.1 hv]; rfl
  | .unit, _, _, h, v, hv => by rw [show _ = [] from h] at hv; cases hv
  | .pair _ _, _, _, ⟨c, d, h, h1, h2⟩, v, hv => by
    rw [h] at hv
    rcases List.mem_append.1 hv with hv | hv
    · exact RepC.one h1 v hv
    · exact RepC.one h2 v hv
  | .arr _ _, _, _, ⟨_, h2⟩, v, hv => RepCs.all (p := fun v => v.oneCell' = true) (fun _ _ h => RepC.one h) h2 v hv
theorem At.mono {w w' : World} {b off : Nat} {cs : List Value} (h : At w b off cs) (hb : w'.heap[b]? = w.heap[b]?) : At w' b off cs :=
  fun j u hj => (World.cell?_of_block (w := w) hb).trans (h j u hj)
theorem RepC.mono {S S' : Nat → Prop} {w w' : World} (hS : ∀ b, S b → S' b) (hw : ∀ b, S b → w'.heap[b]? = w.heap[b]?) :
    ∀ {u : Ty} {x : El u} {cs : List Value}, RepC S w u x cs → RepC S' w' u x cs
  | .int _, _, _, h => h
  | .bool, _, _, h => h
  | .str, _, _, h => h
  | .sl _, none, _, h => h
  | .sl _, some xs, _, ⟨b, off, cap, vs, sp, h1, h2, h3, h4, h5, h6, h7⟩ =>
    ⟨b, off, cap, vs, sp, h1, h2, h3, fun hx => hS b (h4 hx), RepCs.mono (fun _ _ h => RepC.mono hS hw h) h5, fun j u hj => by
      cases xs with
      | nil => rw [show vs = [] from h5] at hj; simp at hj
      | cons x r => exact h6.mono (hw b (h4 (by simp))) j u hj, h7⟩
  | .unit, _, _, h => h
  | .pair _ _, _, _, ⟨c, d, h, h1, h2⟩ => ⟨c, d, h, RepC.mono hS hw h1, RepC.mono hS hw h2⟩
  | .arr _ _, _, _, ⟨h1, h2⟩ => ⟨h1, RepCs.mono (fun _ _ h => RepC.mono hS hw h) h2⟩
theorem RepA.mono {c c' : Cx} (hm : Mn c c') : ∀ {a : AV} {cs : List Value}, RepA c a cs → RepA c' a cs
  | .v _ _, _, h => RepC.mono hm.sub hm.heapS h
  | .nsl, _, h => h
  | .nptr, _, h => h
  | .ptr _ _ _, _, ⟨o, v, h1, h2, h3, h4, h6, h5⟩ => by
    obtain ⟨o', v', g1, g2, g3, g4, g5, _⟩ := hm.objs _ o v h1 h2 h3
    refine ⟨o', v', g1, g2, g3, Nat.le_trans h4 g4, h6, fun e hl => ?_⟩
    obtain ⟨e1, e2⟩ := g5 (by omega)
    obtain ⟨e3, e4⟩ := e2 hl
    rw [e1, e4]
    exact h5 (by omega) e3
  | .pv _ _, _, ⟨b, off, vs, h1, h2, h3, h4⟩ => ⟨b, off, vs, h1, hm.sub b h2, RepC.mono hm.sub hm.heapS h3, h4.mono (hm.heapS b h2)⟩
  | .hs _ _, _, ⟨o, v, h1, h2, h3, h4, h6, h5⟩ => by
    obtain ⟨o', v', g1, g2, g3, g4, g5, _⟩ := hm.objs _ o v h1 h2 h3
    refine ⟨o', v', g1, g2, g3, Nat.le_trans h4 g4, h6, fun e => ?_⟩
    rw [(g5 (by omega)).1]
    exact h5 (by omega)
  | .sv _ _ _ _ _, _, ⟨o, v, h1, h2, h3, h4, h6, h5⟩ => by
    obtain ⟨o', v', g1, g2, g3, g4, g5, _⟩ := hm.objs _ o v h1 h2 h3
    refine ⟨o', v', g1, g2, g3, Nat.le_trans h4 g4, h6, fun e hl => ?_⟩
    obtain ⟨e1, e2⟩ := g5 (by omega)
    obtain ⟨e3, e4⟩ := e2 hl
    rw [e1, e4]
    exact h5 (by omega) e3
  | .fn _ _, _, ⟨vs, h1, h2⟩ => ⟨vs, h1, RepA.mono hm h2⟩
  | .nfn, _, h => h
  | .nil, _, h => h
  | .cons _ _, _, ⟨x, y, h, h1, h2⟩ => ⟨x, y, h, RepA.mono hm h1, RepA.mono hm h2⟩
theorem RepV1.mono {c c' : Cx} (hm : Mn c c') {a : AV} {v : Value} (h : RepV1 c a v) : RepV1 c' a v := by
  unfold RepV1 at *
  cases ha : a.isAgg with
  | true => rw [ha] at h; obtain ⟨cs, h1, h2⟩ := h; exact ⟨cs, h1, RepA.mono hm h2⟩
  | false => rw [ha] at h; exact RepA.mono hm h
theorem RepVs.mono {c c' : Cx} (hm : Mn c c') : ∀ {a : AV} {vs : List Value}, RepVs c a vs → RepVs c' a vs
  | .nil, _, h => h
  | .cons _ _, _, ⟨v, r, h, h1, h2⟩ => ⟨v, r, h, h1.mono hm, RepVs.mono hm h2⟩
theorem RepV.mono {c c' : Cx} (hm : Mn c c') {a : AV} {v : Value} (h : RepV c a v) : RepV c' a v := by
  cases a with
  | undef => trivial
  | tup a => obtain ⟨vs, h1, h2⟩ := h; exact ⟨vs, h1, h2.mono hm⟩
  | _ => unfold RepV at h ⊢; exact RepV1.mono hm h
theorem RepA.length {c : Cx} : ∀ {a : AV} {cs : List Value}, RepA c a cs → cs.length = a.csz
  | .v _ _, _, h => RepC.length h
  | .nsl, _, h => by rw [show _ = [_] from h]; rfl
  | .nptr, _, h => by rw [show _ = [_] from h]; rfl
  | .pv _ _, _, ⟨_, _, _, h, _⟩ => by rw [h]; rfl
  | .ptr _ _ _, _, ⟨_, _, _, _, _, _, ⟨_, h⟩, _⟩ => by rw [h]; rfl
  | .hs _ _, _, ⟨_, _, _, _, _, _, ⟨_, _, _, h⟩, _⟩ => by rw [h]; rfl
  | .sv _ _ _ _ _, _, ⟨_, _, _, _, _, _, ⟨_, _, _, h⟩, _⟩ => by rw [h]; rfl
  | .fn _ _, _, ⟨_, h, _⟩ => by rw [h]; rfl
  | .nfn, _, h => by rw [show _ = [_] from h]; rfl
  | .nil, _, h => by rw [show _ = [] from h]; rfl
  | .cons _ _, _, ⟨x, y, h, h1, h2⟩ => by rw [h, List.length_append, RepA.length h1, RepA.length h2]; rfl
theorem RepA.one {c : Cx} : ∀ {a : AV} {cs : List Value}, RepA c a cs → ∀ v ∈ cs, v.oneCell' = true
  | .v _ _, _, h => RepC.one h
  | .nsl, _, h => fun v hv => by rw [show _ = [_] from h] at hv; rw [List.mem_singleton.1 hv]; rfl
  | .nptr, _, h => fun v hv => by rw [show _ = [_] from h] at hv; rw [List.mem_singleton.1 hv]; rfl
  | .pv _ _, _, ⟨_, _, _, h, _⟩ => fun v hv => by rw [h] at hv; rw [List.mem_singleton.1 hv]; rfl
  | .ptr _ _ _, _, ⟨_, _, _, _, _, _, ⟨_, h⟩, _⟩ => fun v hv => by rw [h] at hv; rw [List.mem_singleton.1 hv]; rfl
  | .hs _ _, _, ⟨_, _, _, _, _, _, ⟨_, _, _, h⟩, _⟩ => fun v hv => by rw [h] at hv; rw [List.mem_singleton.1 hv]; rfl
  | .sv _ _ _ _ _, _, ⟨_, _, _, _, _, _, ⟨_, _, _, h⟩, _⟩ => fun v hv => by rw [h] at hv; rw [List.mem_singleton.1 hv]; rfl
  | .fn _ _, _, ⟨_, h, _⟩ => fun v hv => by rw [h] at hv; rw [List.mem_singleton.1 hv]; rfl
  | .nfn, _, h => fun v hv => by rw [show _ = [_] from h] at hv; rw [List.mem_singleton.1 hv]; rfl
  | .nil, _, h => fun v hv => by rw [show _ = [] from h] at hv; cases hv
  | .cons _ _, _, ⟨x, y, h, h1, h2⟩ => fun v hv => by
    rw [h] at hv
    rcases List.mem_append.1 hv with hv | hv
    · exact RepA.one h1 v hv
    · exact RepA.one h2 v hv
theorem castEl_rep {S : Nat → Prop} {w : World} {u u' : Ty} (h : u'.eqb u = true) (x : El u') {cs : List Value} (hr : RepC S w u' x cs) : RepC S w u (castEl h x) cs := by
  have e := Ty.eqb_eq h
  subst e
  exact hr
theorem decV_rep {S : Nat → Prop} {w : World} {u u' : Ty} {x : El u'} {y : El u} (h : decV u u' x = some y) {cs : List Value} (hr : RepC S w u' x cs) : RepC S w u y cs := by
  unfold decV at h
  split at h
  · rename_i he
    cases h
    exact castEl_rep he x hr
  · cases h
theorem dec_rep {c : Cx} : ∀ {u : Ty} {a : AV} {y : El u} {cs : List Value}, dec u a = some y → RepA c a cs → RepC c.S c.w u y cs
  | .int _, a, y, cs, h, hr => by
    cases a <;> simp only [dec] at h <;> first | (cases h; done) | exact decV_rep h hr
  | .bool, a, y, cs, h, hr => by
    cases a <;> simp only [dec] at h <;> first | (cases h; done) | exact decV_rep h hr
  | .str, a, y, cs, h, hr => by
    cases a <;> simp only [dec] at h <;> first | (cases h; done) | exact decV_rep h hr
  | .arr _ _, a, y, cs, h, hr => by
    cases a <;> simp only [dec] at h <;> first | (cases h; done) | exact decV_rep h hr
  | .sl _, a, y, cs, h, hr => by
    cases a <;> simp only [dec] at h <;> first | (cases h; done) | exact decV_rep h hr | (cases h; exact hr)
  | .unit, a, y, cs, h, hr => by
    cases a <;> simp only [dec] at h <;> first | (cases h; done) | exact decV_rep h hr | (cases h; exact hr)
  | .pair u v, a, y, cs, h, hr => by
    cases a <;> simp only [dec] at h <;> first | (cases h; done) | exact decV_rep h hr | skip
    rename_i p q
    obtain ⟨c1, c2, e, h1, h2⟩ := hr
    cases hp : dec u p with
    | none => rw [hp] at h; cases h
    | some x =>
      cases hq : dec v q with
      | none => rw [hp, hq] at h; cases h
      | some z =>
        rw [hp, hq] at h
        cases h
        exact ⟨c1, c2, e, dec_rep hp h1, dec_rep hq h2⟩
end Go.Ab
