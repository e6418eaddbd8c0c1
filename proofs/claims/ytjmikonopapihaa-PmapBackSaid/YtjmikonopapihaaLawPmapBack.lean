/- WHAT WAS PACKED IS UNPACKED (PmapBack): whatever bytes the entries of two dictionaries hold, and whatever slots are mapped, the function answers true, and its arguments read as they did. No condition. -/
import Derived.Test.YtjmikonopapihaaRows
import Derived.Test.YtjmikonopapihaaAbRow
import Derived.Test.YtjmikonopapihaaHD8
namespace Go.Proofs.Ytjmikonopapihaa
open Go.Ab Go.ChangeShapes Go.WideShapes Go.ChangeAt Go.RowKit
set_option maxRecDepth 100000
theorem pbOwn : ownKnob Try.prog.godebug = none := by kernel_rfl
theorem pbLaid : laidOutB Try.prog = true := by kernel_rfl
theorem byt_of {S : Nat → Prop} {w : World} {o : Option (List Int)} {cs : List Value} (h : RepC S w (.sl U8) o cs) : Byt (dor o) := by
  intro x hx
  obtain ⟨c, _, h2⟩ := sl_mem h x hx
  have h2 : IntKind.wrap .u8 x = x := h2
  simp only [IntKind.wrap, IntKind.bits, IntKind.signed] at h2
  simp at h2
  omega
theorem bytL_of {S : Nat → Prop} {w : World} {l : Bss} {cs : List Value} (h : RepC S w (.sl (.sl U8)) l cs) : BytL l := by
  intro b hb
  obtain ⟨c, h2⟩ := sl_mem h b hb
  exact byt_of h2
theorem pmapBack_lifted (os : Os) (started : os.Started) (H : Type) (enc : TypeId × Value → H) :
    ReturnsInHanded {} Try.checked os 3 .any (Rows.pmapBackSpec.pre6 enc Try.prog Try.f3 Rows.pmapBackRow.domain false) (Rows.pmapBackSpec.post enc Try.prog Try.f3 false true false false) := by
  refine returnsInHanded_of_change (C := Try.checked) pbOwn started (by kernel_rfl) Try.func3
    (ChangeSpec.witness6 (enc := enc) (C := Try.checked) false ⟨#[], #[.slice none 0 0, .slice none 0 0, .slice none 0 0], []⟩ 8 (by kernel_rfl) (by kernel_rfl) (by kernel_rfl) (by kernel_rfl)) ?_
  intro W base args ds gs before hval0 hW hcnd _
  have hval : ∀ (j : Nat) t v, Try.f3.params[j]? = some t → args[j]? = some v → Value.okWide Try.prog W .any base t v := hval0
  have hW' := hW
  obtain ⟨p, q, hA0, hV, rfl, hfz, hnd⟩ := hW
  have hA : DataW.TrodAll enc Try.prog W 0 (fun _ => true) true Try.f3.params.toList args.toList ds p := hA0
  rw [Try.params3] at hA hval
  obtain ⟨v0, v1, v2, d0, d1, d2, p0, p1, p2, rfl, rfl, rfl, h0, h1, h2⟩ := trodAll_three hA
  obtain ⟨rfl, rfl⟩ := trodVars_none hV
  obtain ⟨x0, r0⟩ := arg_rep (n := 12) (u := .sl (.sl U8)) (by kernel_rfl) (hval 0 22 v0 rfl rfl) h0
  obtain ⟨x1, r1⟩ := arg_rep (n := 12) (u := .sl (.sl U8)) (by kernel_rfl) (hval 1 22 v1 rfl rfl) h1
  obtain ⟨x2, r2⟩ := arg_rep (n := 12) (u := .sl ySlot) (by kernel_rfl) (hval 2 23 v2 rfl rfl) h2
  have lt0 : ∀ x ∈ p0, x.block < W.heap.size := by obtain ⟨m, hm⟩ := h0; exact DataW.trod_lt m _ _ _ hm
  have lt1 : ∀ x ∈ p1, x.block < W.heap.size := by obtain ⟨m, hm⟩ := h1; exact DataW.trod_lt m _ _ _ hm
  have lt2 : ∀ x ∈ p2, x.block < W.heap.size := by obtain ⟨m, hm⟩ := h2; exact DataW.trod_lt m _ _ _ hm
  have hb0 : BytL x0 := bytL_of r0
  have hb1 : BytL x1 := bytL_of r1
  have hF : s3.F ((x0, x1, x2, ()), ()) = some ((true, ()), ()) := f3_ok hb0 hb1
  refine (calls_of_spec ok3 (vs := [v0, v1, v2]) Try.func3 (by kernel_rfl) (by kernel_rfl) (x := ((x0, x1, x2, ()), ())) rfl ⟨v0, _, rfl, r0, v1, _, rfl, r1, v2, _, rfl, r2, rfl⟩ hF).mono fun e W' ⟨c', v, he, bel, hc, hv⟩ => ?_
  subst he
  have hv' : v = .bool true := List.singleton_inj.1 (show [v] = [.bool true] from hv)
  subst hv'
  exact ⟨_, rfl, _, _, _, [], _, [], hW', trodAll_mk1 (shut_bool Try.underlying4 _),
    trodAll_cons_mk (Below.trod pbLaid (by kernel_rfl) (of_decide_eq_true (by kernel_rfl)) h0 bel lt0) (trodAll_cons_mk (Below.trod pbLaid (by kernel_rfl) (of_decide_eq_true (by kernel_rfl)) h1 bel lt1) (trodAll_cons_mk (Below.trod pbLaid (by kernel_rfl) (of_decide_eq_true (by kernel_rfl)) h2 bel lt2) trodAll_mk0)), rfl, bel.frame _, fun h => by cases h⟩
theorem pmapBack_holds : Rows.PmapBackSaid :=
  OpenClaim.holds_of_wide 3 Try.f3 rfl rfl rfl rfl rfl rfl rfl ⟨rfl, rfl, rfl, rfl, rfl⟩ rfl rfl rfl rfl rfl (by kernel_rfl) Try.func3 (by kernel_rfl)
    (of_decide_eq_true (by kernel_rfl)) (by unfold Func.isWrapper; first | (rw [if_pos (by decide +kernel)]; kernel_rfl) | (rw [if_neg (by decide +kernel)]; exact ⟨rfl, rfl⟩))
    (fun os started H enc _ => pmapBack_lifted os started H enc)
end Go.Proofs.Ytjmikonopapihaa
