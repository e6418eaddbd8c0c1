import Derived.Test.YtjmikonopapihaaAbDraw3
import Derived.KernelRfl
/-
  AB: callees and loops by lists; one function at a time.
-/
namespace Go.Ab
def codeOf (fn : Func) : Code := match fn.body with
  | some c => c
  | none => .skip
def FU : Nat := 1000000000000000
def mkK : List (FuncId × Spec) → Specs
  | [], _ => []
  | p :: r, f => bif Nat.beq f p.1 then p.2 :: mkK r f else mkK r f
def AllOk (P : Program) : List (FuncId × Spec) → Prop
  | [] => True
  | p :: r => SpecOk P p.1 p.2 ∧ AllOk P r
theorem mkK_ok {P : Program} : ∀ {l : List (FuncId × Spec)}, AllOk P l → ∀ f, ∀ s ∈ mkK l f, SpecOk P f s
  | [], _, f, s, h => by cases h
  | p :: r, ⟨h1, h2⟩, f, s, h => by
    simp only [mkK] at h
    cases hb : Nat.beq f p.1 with
    | false => rw [hb] at h; exact mkK_ok h2 f s h
    | true =>
      rw [hb] at h
      rcases List.mem_cons.1 h with e | e
      · rw [e, Nat.eq_of_beq_eq_true hb]; exact h1
      · exact mkK_ok h2 f s e
def mkL : List (Code × Option Frag) → Frags
  | [], _ => none
  | p :: r, n => bif Nat.beq n (firstId p.1) then p.2 else mkL r n
def AllFr (P : Program) : List (Code × Option Frag) → Prop
  | [] => True
  | (c, some f) :: r => FragOk P f c ∧ AllFr P r
  | (_, none) :: r => AllFr P r
def apartL : List (Code × Option Frag) → Bool
  | [] => true
  | p :: r => (r.all fun q => !(Nat.beq (firstId p.1) (firstId q.1))) && apartL r
theorem mkL_mem {P : Program} : ∀ {l : List (Code × Option Frag)}, AllFr P l → apartL l = true → ∀ b ∈ l.map (·.1), ∀ f, mkL l (firstId b) = some f → FragOk P f b
  | [], _, _, b, hb, _, _ => by cases hb
  | (c, o) :: r, ha, hd, b, hb, f, hf => by
    simp only [apartL, Bool.and_eq_true, List.all_eq_true] at hd
    simp only [mkL] at hf
    have har : AllFr P r := by
      cases o with
      | none => exact ha
      | some x => exact ha.2
    rcases List.mem_cons.1 hb with e | e
    · subst e
      rw [Nat.beq_refl] at hf
      simp only [cond_true] at hf
      subst hf
      exact ha.1
    · obtain ⟨q, hq, rfl⟩ := List.mem_map.1 e
      have h1 := hd.1 q hq
      simp only [Bool.not_eq_true'] at h1
      have h2 : Nat.beq (firstId q.1) (firstId c) = false := by
        cases hh : Nat.beq (firstId q.1) (firstId c) with
        | false => rfl
        | true => rw [Nat.eq_of_beq_eq_true hh, Nat.beq_refl] at h1; cases h1
      rw [h2] at hf
      exact mkL_mem har hd.2 q.1 e f hf
theorem mkL_ok {P : Program} {l : List (Code × Option Frag)} {code : Code} (h : loopsL code = l.map (·.1)) (ha : AllFr P l) (hd : apartL l = true) :
    ∀ b ∈ loopsL code, ∀ f, mkL l (firstId b) = some f → FragOk P f b := fun b hb f hf => mkL_mem ha hd b (h ▸ hb) f hf
theorem frag_gen {P : Program} (hm : P.follows .mixedOrders = true) {lk : List (FuncId × Spec)} (hK : AllOk P lk) {ls : List (Code × Option Frag)} {body : Code} (hl : loopsL body = ls.map (·.1)) (hL : AllFr P ls) (hd : apartL ls = true)
    {pad : Nat} {rows : List (Tmp × TypeId)} {tp : TP} {hp : HP} {xp : XP} {n : Nat} (Rd : ElT tp × ElH hp → Option ((ElT tp × ElH hp) ⊕ ElX xp))
    (hR : ∀ x, roundA P (mkK lk) (mkL ls) body tp hp xp n x = Rd x) (hw : wfX (hlen hp) xp = true) : FragOk P ⟨pad, rows, tp, hp, xp, n, fun x => iterR Rd FU x⟩ body :=
  frag_ok (mkK_ok hK) (draw_ok hm (mkK_ok hK)) (mkL_ok hl hL hd) Rd hR hw fun _ _ h => ⟨FU, h⟩
theorem spec_gen {P : Program} (hm : P.follows .mixedOrders = true) {lk : List (FuncId × Spec)} (hK : AllOk P lk) {ls : List (Code × Option Frag)} {f : FuncId} {fn : Func} {code : Code} (hf : P.funcs[f]? = some fn)
    (hname : (fn.name == "runtime.NumGoroutine") = false) (hb : fn.body = some code) (hl : loopsL code = ls.map (·.1)) (hL : AllFr P ls) (hd : apartL ls = true) {g : Sig} (hc : g.oa.isCh = true)
    (F : ElA g.ia × ElH g.ih → Option (ElA g.oa × ElH g.oh)) (hF : ∀ x, funcA P (mkK lk) (mkL ls) fn g x = F x) : SpecOk P f (g.spec F) :=
  spec_ok (mkK_ok hK) (draw_ok hm (mkK_ok hK)) hf hname hb (mkL_ok hl hL hd) hc hF
end Go.Ab
