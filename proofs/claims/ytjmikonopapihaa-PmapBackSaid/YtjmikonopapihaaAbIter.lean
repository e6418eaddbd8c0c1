import Derived.Test.YtjmikonopapihaaAbGen
import Derived.IntWalk
/-
  AB: plain lemmas on rounds, lists and numbers.
-/
namespace Go.Ab
section
variable {A B : Type} {f : A → Option (A ⊕ B)}
theorem iter_step {n : Nat} {a a' : A} (h : f a = some (.inl a')) : iterR f (n + 1) a = iterR f n a' := by simp [iterR, h]
theorem iter_done {n : Nat} {a : A} {b : B} (h : f a = some (.inr b)) : iterR f (n + 1) a = some b := by simp [iterR, h]
theorem iter_mono {n : Nat} : ∀ {m : Nat} {a : A} {b : B}, iterR f n a = some b → n ≤ m → iterR f m a = some b := by
  induction n with
  | zero => intro m a b h; cases h
  | succ n ih =>
    intro m a b h hm
    obtain ⟨m, rfl⟩ : ∃ k, m = k + 1 := ⟨m - 1, by omega⟩
    simp only [iterR] at h ⊢
    cases hf : f a with
    | none => rw [hf] at h; cases h
    | some z =>
      rw [hf] at h
      cases z with
      | inl a' => exact ih (m := m) h (by omega)
      | inr b' => exact h
/-- rounds by a measure: each round goes on with less, or ends as it must -/
theorem iter_meas (I : A → Prop) (μ : A → Nat) (Q : A → B → Prop) (h : ∀ a, I a → (∃ a', f a = some (.inl a') ∧ I a' ∧ μ a' < μ a ∧ ∀ b, Q a' b → Q a b) ∨ ∃ b, f a = some (.inr b) ∧ Q a b) :
    ∀ (n : Nat) (a : A), I a → μ a < n → ∃ b, iterR f n a = some b ∧ Q a b := by
  intro n
  induction n with
  | zero => intro a _ h; omega
  | succ n ih =>
    intro a hI hm
    rcases h a hI with ⟨a', h1, h2, h3, h4⟩ | ⟨b, h1, h2⟩
    · obtain ⟨b, h5, h6⟩ := ih a' h2 (by omega)
      exact ⟨b, by rw [iter_step h1]; exact h5, h4 b h6⟩
    · exact ⟨b, iter_done h1, h2⟩
theorem iter_fu (I : A → Prop) (μ : A → Nat) (Q : A → B → Prop) (h : ∀ a, I a → (∃ a', f a = some (.inl a') ∧ I a' ∧ μ a' < μ a ∧ ∀ b, Q a' b → Q a b) ∨ ∃ b, f a = some (.inr b) ∧ Q a b)
    {a : A} (hI : I a) (hm : μ a < 1000000000000000) : ∃ b, iterR f FU a = some b ∧ Q a b := iter_meas I μ Q h FU a hI hm
end
theorem w64 {n : Int} (h1 : -9223372036854775808 ≤ n) (h2 : n ≤ 9223372036854775807) : IntKind.wrap .i64 n = n := IntWalk.i64_in n ⟨h1, h2⟩
theorem w8 {n : Int} (h1 : 0 ≤ n) (h2 : n ≤ 255) : IntKind.wrap .u8 n = n := IntWalk.u8_in n ⟨h1, h2⟩
theorem idx_true {n len : Int} (h1 : 0 ≤ n) (h2 : n < len) : idxOk n len = true := by simp [idxOk, h1, h2]
theorem sub_true {l h n : Int} (h1 : 0 ≤ l) (h2 : l ≤ h) (h3 : h ≤ n) : subOk l h n = true := by simp [subOk, h1, h2, h3]
theorem olen_some {α : Type} (l : List α) : olen (some l) = (l.length : Int) := rfl
theorem olen_dor {α : Type} (o : Option (List α)) : olen o = ((dor o).length : Int) := by cases o <;> rfl
theorem oget_dor {α : Type} (o : Option (List α)) (i : Nat) (d : α) : oget o i d = (dor o).getD i d := by cases o <;> simp [oget]
theorem eqbL_true {a b : List Int} : eqbL a b = true ↔ a = b := by simp [eqbL]
theorem eqbL_self (a : List Int) : eqbL a a = true := eqbL_true.2 rfl
end Go.Ab
