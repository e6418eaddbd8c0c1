import Derived.Test.YtjmikonopapihaaProg
import Derived.Test.YtjmikonopapihaaAbGen
import Derived.Test.YtjmikonopapihaaGTy
import Derived.Test.YtjmikonopapihaaGH
import Derived.Test.YtjmikonopapihaaG1
import Derived.Test.YtjmikonopapihaaG2
namespace Go.Proofs.Ytjmikonopapihaa
open Go.Ab
set_option maxRecDepth 100000
set_option maxHeartbeats 1000000

/-! f80 tripwire/area.within -/
noncomputable def c80 : Code := codeOf Try.f80
noncomputable abbrev lk80 : List (FuncId × Ab.Spec) := []
theorem hk80 : AllOk Try.prog lk80 := trivial
abbrev ia80 : AP := .cons (.val I64) (.cons (.val I64) .nil)
abbrev ih80 : HP := .nil
abbrev oa80 : AP := .cons (.val .bool) .nil
abbrev oh80 : HP := .nil
noncomputable def f80 (index_ : El I64) (from_ : El I64) : Option (ElA oa80 × ElH oh80) :=
  bif decide (from_ ≤ index_) then
    some ((decide (index_ ≤ IntKind.wrap .i64 (from_ + 63)), ()), ())
  else
    some ((false, ()), ())
noncomputable def s80 : Ab.Spec := ⟨ia80, ih80, oa80, oh80, fun x => f80 x.1.1 x.1.2.1⟩
noncomputable abbrev ls80 : List (Code × Option Frag) := []
theorem fn80 : ∀ x, funcA Try.prog (mkK lk80) (mkL ls80) Try.f80 ⟨ia80, ih80, oa80, oh80⟩ x = s80.F x := fun x => by kernel_rfl
theorem ok80 : SpecOk Try.prog 80 s80 := spec_gen hmix hk80 (ls := ls80) (code := c80) (fn := Try.f80) (by kernel_rfl) (by kernel_rfl) (by kernel_rfl) (by kernel_rfl) trivial (by kernel_rfl) (g := ⟨ia80, ih80, oa80, oh80⟩) rfl s80.F fn80

/-! f30 tripwire/area.Safe -/
noncomputable def c30 : Code := codeOf Try.f30
noncomputable abbrev lk30 : List (FuncId × Ab.Spec) := [(80, s80)]
theorem hk30 : AllOk Try.prog lk30 := ⟨ok80, trivial⟩
abbrev ia30 : AP := .cons (.val yKey) .nil
abbrev ih30 : HP := .nil
abbrev oa30 : AP := .cons (.val .bool) .nil
abbrev oh30 : HP := .nil
noncomputable def f30 (k : El yKey) : Option (ElA oa30 × ElH oh30) :=
  (f80 k.1 4865).bind fun r1 =>
  bif !r1.1.1 then
    (f80 k.1 4993).bind fun r2 =>
    bif !r2.1.1 then
      some ((decide (k.1 = 5119), ()), ())
    else
      some ((true, ()), ())
  else
    some ((true, ()), ())
noncomputable def s30 : Ab.Spec := ⟨ia30, ih30, oa30, oh30, fun x => f30 x.1.1⟩
noncomputable abbrev ls30 : List (Code × Option Frag) := []
theorem fn30 : ∀ x, funcA Try.prog (mkK lk30) (mkL ls30) Try.f30 ⟨ia30, ih30, oa30, oh30⟩ x = s30.F x := fun x => by kernel_rfl
theorem ok30 : SpecOk Try.prog 30 s30 := spec_gen hmix hk30 (ls := ls30) (code := c30) (fn := Try.f30) (by kernel_rfl) (by kernel_rfl) (by kernel_rfl) (by kernel_rfl) trivial (by kernel_rfl) (g := ⟨ia30, ih30, oa30, oh30⟩) rfl s30.F fn30

/-! f105 tripwire/pmap.bits -/
noncomputable def c105 : Code := codeOf Try.f105
noncomputable abbrev lk105 : List (FuncId × Ab.Spec) := [(91, s91), (30, s30), (92, s92)]
theorem hk105 : AllOk Try.prog lk105 := ⟨ok91, ok30, ok92, trivial⟩
abbrev ia105 : AP := .cons (.ptr 0) (.cons (.val yKey) .nil)
abbrev ih105 : HP := .box (.cons (.ptr 1) (.cons (.val I64) .nil)) (.box (.cons (.hs 2) .nil) (.row 230 yShRow true .nil))
abbrev oa105 : AP := .cons (.val I64) .nil
abbrev oh105 : HP := .box (.cons (.ptr 1) (.cons (.val I64) .nil)) (.box (.cons (.hs 2) .nil) (.row 230 yShRow true .nil))
noncomputable def f105 (k : El yKey) (d : El I64) (h2 : List (El yShRow)) : Option (ElA oa105 × ElH oh105) :=
  (f91 k d h2).bind fun r1 =>
  bif !(!r1.1.2.1) then
    bif !(decide (r1.1.1.2.1 = 4)) then
      (f30 k).bind fun r2 =>
      bif !r2.1.1 then
        bif decide (k.1 = 5118) then
          some ((0, ()), ((), r1.2.1.2.1, ()), ((), ()), r1.2.2.2.1, ())
        else
          (f92 r1.1.1.1).bind fun r3 =>
          some ((IntKind.wrap .i64 (8 * r3.1.1), ()), ((), r1.2.1.2.1, ()), ((), ()), r1.2.2.2.1, ())
      else
        some ((0, ()), ((), r1.2.1.2.1, ()), ((), ()), r1.2.2.2.1, ())
    else
      some ((0, ()), ((), r1.2.1.2.1, ()), ((), ()), r1.2.2.2.1, ())
  else
    some ((0, ()), ((), r1.2.1.2.1, ()), ((), ()), r1.2.2.2.1, ())
noncomputable def s105 : Ab.Spec := ⟨ia105, ih105, oa105, oh105, fun x => f105 x.1.2.1 x.2.1.2.1 x.2.2.2.1⟩
noncomputable abbrev ls105 : List (Code × Option Frag) := []
theorem fn105 : ∀ x, funcA Try.prog (mkK lk105) (mkL ls105) Try.f105 ⟨ia105, ih105, oa105, oh105⟩ x = s105.F x := fun x => by kernel_rfl
theorem ok105 : SpecOk Try.prog 105 s105 := spec_gen hmix hk105 (ls := ls105) (code := c105) (fn := Try.f105) (by kernel_rfl) (by kernel_rfl) (by kernel_rfl) (by kernel_rfl) trivial (by kernel_rfl) (g := ⟨ia105, ih105, oa105, oh105⟩) rfl s105.F fn105

/-! f50 tripwire/pmap.Check -/
noncomputable def c50 : Code := codeOf Try.f50
noncomputable abbrev lk50 : List (FuncId × Ab.Spec) := [(105, s105)]
theorem hk50 : AllOk Try.prog lk50 := ⟨ok105, trivial⟩
noncomputable def b50_0 : Code := (loopsL c50).getD 0 .skip
abbrev tp50_0 : TP := .cons 0 (.ptr 0) (.cons 5 (.val I64) (.cons 12 (.val (.sl ySlot)) (.cons 13 (.val I64) (.cons 14 (.val I64) .nil))))
abbrev hp50_0 : HP := .box (.cons (.ptr 1) (.cons (.val I64) .nil)) (.box (.cons (.hs 2) .nil) (.row 230 yShRow true .nil))
abbrev xp50_0 : XP := .cons (.exit 0) .nil (.box (.cons (.ptr 1) (.cons (.val I64) .nil)) (.box (.cons (.hs 2) .nil) (.row 230 yShRow true .nil))) (.cons .ret (.cons 4 (.val I64) .nil) (.box (.cons (.ptr 1) (.cons (.val I64) .nil)) (.box (.cons (.hs 2) .nil) (.row 230 yShRow true .nil))) .nil)
noncomputable def R50_0 (left : El I64) (t12 : El (.sl ySlot)) (t13 : El I64) (t14 : El I64) (d : El I64) (h2 : List (El yShRow)) : Option ((ElT tp50_0 × ElH hp50_0) ⊕ ElX xp50_0) :=
  bif decide (t14 < t13) then
    bif idxOk t14 (olen t12) then
      (f105 ((oget t12 t14.toNat (zero ySlot)).1) d h2).bind fun r2 =>
      bif !(decide (r2.1.1 = 0)) then
        bif !(decide (((oget t12 t14.toNat (zero ySlot)).2).1 = r2.1.1)) then
          some (.inr (.inr (.inl ((100925505, ()), ((), r2.2.1.2.1, ()), ((), ()), r2.2.2.2.1, ()))))
        else
          bif decide (left < r2.1.1) then
            some (.inr (.inr (.inl ((100925506, ()), ((), r2.2.1.2.1, ()), ((), ()), r2.2.2.2.1, ()))))
          else
            some (.inl (((), IntKind.wrap .i64 (left - r2.1.1), t12, t13, IntKind.wrap .i64 (t14 + 1), ()), ((), r2.2.1.2.1, ()), ((), ()), r2.2.2.2.1, ()))
      else
        some (.inr (.inr (.inl ((100925505, ()), ((), r2.2.1.2.1, ()), ((), ()), r2.2.2.2.1, ()))))
    else none
  else
    some (.inr (.inl ((), ((), d, ()), ((), ()), h2, ())))
noncomputable def r50_0 (x : ElT tp50_0 × ElH hp50_0) : Option ((ElT tp50_0 × ElH hp50_0) ⊕ ElX xp50_0) := R50_0 x.1.2.1 x.1.2.2.1 x.1.2.2.2.1 x.1.2.2.2.2.1 x.2.1.2.1 x.2.2.2.1
noncomputable def g50_0 (left : El I64) (t12 : El (.sl ySlot)) (t13 : El I64) (t14 : El I64) (d : El I64) (h2 : List (El yShRow)) : Option (ElX xp50_0) := iterR r50_0 FU (((), left, t12, t13, t14, ()), ((), d, ()), ((), ()), h2, ())
noncomputable abbrev ls50_0 : List (Code × Option Frag) := []
noncomputable def F50_0 : Frag := ⟨3, [], tp50_0, hp50_0, xp50_0, 39, fun x => iterR r50_0 FU x⟩
theorem rd50_0 : ∀ x, roundA Try.prog (mkK lk50) (mkL ls50_0) b50_0 tp50_0 hp50_0 xp50_0 39 x = r50_0 x := fun x => by kernel_rfl
theorem fo50_0 : FragOk Try.prog F50_0 b50_0 := frag_gen hmix hk50 (ls := ls50_0) (by kernel_rfl) trivial (by kernel_rfl) r50_0 rd50_0 (by kernel_rfl)
abbrev ia50 : AP := .cons (.ptr 0) (.cons (.val (.sl ySlot)) .nil)
abbrev ih50 : HP := .box (.cons (.ptr 1) (.cons (.val I64) .nil)) (.box (.cons (.hs 2) .nil) (.row 230 yShRow true .nil))
abbrev oa50 : AP := .cons (.val I64) .nil
abbrev oh50 : HP := .box (.cons (.ptr 1) (.cons (.val I64) .nil)) (.box (.cons (.hs 2) .nil) (.row 230 yShRow true .nil))
noncomputable def f50 (l : El (.sl ySlot)) (d : El I64) (h2 : List (El yShRow)) : Option (ElA oa50 × ElH oh50) :=
  bif decide ((8 : Int) < olen l) then
    some ((100925506, ()), ((), d, ()), ((), ()), h2, ())
  else
    (g50_0 64 l (olen l) 0 d h2).bind fun r3 => match r3 with
    | .inl y4 =>
      some ((0, ()), ((), y4.2.1.2.1, ()), ((), ()), y4.2.2.2.1, ())
    | .inr (.inl y4) =>
      some ((y4.1.1, ()), ((), y4.2.1.2.1, ()), ((), ()), y4.2.2.2.1, ())
noncomputable def s50 : Ab.Spec := ⟨ia50, ih50, oa50, oh50, fun x => f50 x.1.2.1 x.2.1.2.1 x.2.2.2.1⟩
noncomputable abbrev ls50 : List (Code × Option Frag) := [(b50_0, some F50_0)]
theorem fn50 : ∀ x, funcA Try.prog (mkK lk50) (mkL ls50) Try.f50 ⟨ia50, ih50, oa50, oh50⟩ x = s50.F x := fun x => by kernel_rfl
theorem ok50 : SpecOk Try.prog 50 s50 := spec_gen hmix hk50 (ls := ls50) (code := c50) (fn := Try.f50) (by kernel_rfl) (by kernel_rfl) (by kernel_rfl) (by kernel_rfl) ⟨fo50_0, trivial⟩ (by kernel_rfl) (g := ⟨ia50, ih50, oa50, oh50⟩) rfl s50.F fn50

/-! f15 (*tripwire/dict.Dict).Raw -/
noncomputable def c15 : Code := codeOf Try.f15
noncomputable abbrev lk15 : List (FuncId × Ab.Spec) := [(53, s53), (54, s54)]
theorem hk15 : AllOk Try.prog lk15 := ⟨ok53, ok54, trivial⟩
abbrev ia15 : AP := .cons (.ptr 0) (.cons (.val yKey) .nil)
abbrev ih15 : HP := .box (.cons (.ptr 1) (.cons (.val I64) .nil)) (.box (.cons (.hs 2) .nil) (.row 230 yShRow true .nil))
abbrev oa15 : AP := .cons (.val (.sl U8)) (.cons (.val .bool) .nil)
abbrev oh15 : HP := .box (.cons (.ptr 1) (.cons (.val I64) .nil)) (.box (.cons (.hs 2) .nil) (.row 230 yShRow true .nil))
noncomputable def f15 (k : El yKey) (d : El I64) (h2 : List (El yShRow)) : Option (ElA oa15 × ElH oh15) :=
  (f53 k d h2).bind fun r1 =>
  (f54 r1.1.1.2.1).bind fun r2 =>
  some ((r2.1.1, r1.1.2.1, ()), ((), r1.2.1.2.1, ()), ((), ()), r1.2.2.2.1, ())
noncomputable def s15 : Ab.Spec := ⟨ia15, ih15, oa15, oh15, fun x => f15 x.1.2.1 x.2.1.2.1 x.2.2.2.1⟩
noncomputable abbrev ls15 : List (Code × Option Frag) := []
theorem fn15 : ∀ x, funcA Try.prog (mkK lk15) (mkL ls15) Try.f15 ⟨ia15, ih15, oa15, oh15⟩ x = s15.F x := fun x => by kernel_rfl
theorem ok15 : SpecOk Try.prog 15 s15 := spec_gen hmix hk15 (ls := ls15) (code := c15) (fn := Try.f15) (by kernel_rfl) (by kernel_rfl) (by kernel_rfl) (by kernel_rfl) trivial (by kernel_rfl) (g := ⟨ia15, ih15, oa15, oh15⟩) rfl s15.F fn15

/-! f12 tripwire/pmap.Pack -/
noncomputable def c12 : Code := codeOf Try.f12
noncomputable abbrev lk12 : List (FuncId × Ab.Spec) := [(50, s50), (15, s15)]
theorem hk12 : AllOk Try.prog lk12 := ⟨ok50, ok15, trivial⟩
noncomputable def b12_0 : Code := (loopsL c12).getD 0 .skip
abbrev tp12_0 : TP := .cons 0 (.ptr 0) (.cons 6 (.ptr 7) (.cons 7 (.val I64) (.cons 16 (.val (.sl ySlot)) (.cons 17 (.val I64) (.cons 18 (.val I64) .nil)))))
abbrev hp12_0 : HP := .box (.cons (.ptr 1) (.cons (.val I64) .nil)) (.box (.cons (.hs 2) .nil) (.row 230 yShRow true (.skip (.skip (.skip (.skip (.box (.val (.arr 8 U8)) .nil)))))))
abbrev xp12_0 : XP := .cons (.exit 0) (.cons 6 (.ptr 7) (.cons 7 (.val I64) .nil)) (.box (.cons (.ptr 1) (.cons (.val I64) .nil)) (.box (.cons (.hs 2) .nil) (.row 230 yShRow true (.skip (.skip (.skip (.skip (.box (.val (.arr 8 U8)) .nil)))))))) .nil
noncomputable def R12_0 (n : El I64) (t16 : El (.sl ySlot)) (t17 : El I64) (t18 : El I64) (d : El I64) (h2 : List (El yShRow)) (frame : El (.arr 8 U8)) : Option ((ElT tp12_0 × ElH hp12_0) ⊕ ElX xp12_0) :=
  bif decide (t18 < t17) then
    bif idxOk t18 (olen t16) then
      (f15 ((oget t16 t18.toNat (zero ySlot)).1) d h2).bind fun r3 =>
      bif subOk n 8 8 then
        some (.inl (((), (), IntKind.wrap .i64 (n + ((min (dlen (dor r3.1.1)) (8 - n.toNat) : Nat) : Int)), t16, t17, IntKind.wrap .i64 (t18 + 1), ()), ((), r3.2.1.2.1, ()), ((), ()), r3.2.2.2.1, dcpy frame n.toNat 8 (dor r3.1.1), ()))
      else none
    else none
  else
    some (.inr (.inl (((), n, ()), ((), d, ()), ((), ()), h2, frame, ())))
noncomputable def r12_0 (x : ElT tp12_0 × ElH hp12_0) : Option ((ElT tp12_0 × ElH hp12_0) ⊕ ElX xp12_0) := R12_0 x.1.2.2.1 x.1.2.2.2.1 x.1.2.2.2.2.1 x.1.2.2.2.2.2.1 x.2.1.2.1 x.2.2.2.1 x.2.2.2.2.1
noncomputable def g12_0 (n : El I64) (t16 : El (.sl ySlot)) (t17 : El I64) (t18 : El I64) (d : El I64) (h2 : List (El yShRow)) (frame : El (.arr 8 U8)) : Option (ElX xp12_0) := iterR r12_0 FU (((), (), n, t16, t17, t18, ()), ((), d, ()), ((), ()), h2, frame, ())
noncomputable abbrev ls12_0 : List (Code × Option Frag) := []
noncomputable def F12_0 : Frag := ⟨8, [], tp12_0, hp12_0, xp12_0, 39, fun x => iterR r12_0 FU x⟩
theorem rd12_0 : ∀ x, roundA Try.prog (mkK lk12) (mkL ls12_0) b12_0 tp12_0 hp12_0 xp12_0 39 x = r12_0 x := fun x => by kernel_rfl
theorem fo12_0 : FragOk Try.prog F12_0 b12_0 := frag_gen hmix hk12 (ls := ls12_0) (by kernel_rfl) trivial (by kernel_rfl) r12_0 rd12_0 (by kernel_rfl)
abbrev ia12 : AP := .cons (.ptr 0) (.cons (.val (.sl ySlot)) .nil)
abbrev ih12 : HP := .box (.cons (.ptr 1) (.cons (.val I64) .nil)) (.box (.cons (.hs 2) .nil) (.row 230 yShRow true .nil))
abbrev oa12 : AP := .cons (.val (.sl U8)) (.cons (.val I64) .nil)
abbrev oh12 : HP := .box (.cons (.ptr 1) (.cons (.val I64) .nil)) (.box (.cons (.hs 2) .nil) (.row 230 yShRow true .nil))
noncomputable def f12 (l : El (.sl ySlot)) (d : El I64) (h2 : List (El yShRow)) : Option (ElA oa12 × ElH oh12) :=
  (f50 l d h2).bind fun r1 =>
  bif !(decide (r1.1.1 = 0)) then
    some ((none, 14, ()), ((), r1.2.1.2.1, ()), ((), ()), r1.2.2.2.1, ())
  else
    (g12_0 0 l (olen l) 0 r1.2.1.2.1 r1.2.2.2.1 (List.replicate 8 0)).bind fun r4 => match r4 with
    | .inl y5 =>
      bif subOk 0 y5.1.2.1 8 then
        bif Nat.ble (dlen (dsub y5.2.2.2.2.1 0 y5.1.2.1.toNat) * 1) 140737488355328 then
          some ((rowC true (dsub y5.2.2.2.2.1 0 y5.1.2.1.toNat), 0, ()), ((), y5.2.1.2.1, ()), ((), ()), y5.2.2.2.1, ())
        else none
      else none
noncomputable def s12 : Ab.Spec := ⟨ia12, ih12, oa12, oh12, fun x => f12 x.1.2.1 x.2.1.2.1 x.2.2.2.1⟩
noncomputable abbrev ls12 : List (Code × Option Frag) := [(b12_0, some F12_0)]
theorem fn12 : ∀ x, funcA Try.prog (mkK lk12) (mkL ls12) Try.f12 ⟨ia12, ih12, oa12, oh12⟩ x = s12.F x := fun x => by kernel_rfl
theorem ok12 : SpecOk Try.prog 12 s12 := spec_gen hmix hk12 (ls := ls12) (code := c12) (fn := Try.f12) (by kernel_rfl) (by kernel_rfl) (by kernel_rfl) (by kernel_rfl) ⟨fo12_0, trivial⟩ (by kernel_rfl) (g := ⟨ia12, ih12, oa12, oh12⟩) rfl s12.F fn12

/-! f66 tripwire/value.Bytes -/
noncomputable def c66 : Code := codeOf Try.f66
noncomputable abbrev lk66 : List (FuncId × Ab.Spec) := [(112, s112), (120, s120), (121, s121)]
theorem hk66 : AllOk Try.prog lk66 := ⟨ok112, ok120, ok121, trivial⟩
abbrev ia66 : AP := .cons (.val ySpec) (.cons (.val I64) .nil)
abbrev ih66 : HP := .nil
abbrev oa66 : AP := .cons (.val (.sl U8)) (.cons (.val I64) .nil)
abbrev oh66 : HP := .nil
noncomputable def f66 (s : El ySpec) (n : El I64) : Option (ElA oa66 × ElH oh66) :=
  (f112 s).bind fun r1 =>
  bif !(!r1.1.1) then
    (f120 s).bind fun r2 =>
    bif !r2.1.1 then
      some ((none, 2, ()), ())
    else
      bif !(decide (n < s.2.2.1)) then
        bif decide (s.2.2.2.1 < n) then
          some ((none, 14, ()), ())
        else
          (f121 s.1 n).bind fun r3 =>
          some ((r3.1.1, r3.1.2.1, ()), ())
      else
        some ((none, 14, ()), ())
  else
    some ((none, 2, ()), ())
noncomputable def s66 : Ab.Spec := ⟨ia66, ih66, oa66, oh66, fun x => f66 x.1.1 x.1.2.1⟩
noncomputable abbrev ls66 : List (Code × Option Frag) := []
theorem fn66 : ∀ x, funcA Try.prog (mkK lk66) (mkL ls66) Try.f66 ⟨ia66, ih66, oa66, oh66⟩ x = s66.F x := fun x => by kernel_rfl
theorem ok66 : SpecOk Try.prog 66 s66 := spec_gen hmix hk66 (ls := ls66) (code := c66) (fn := Try.f66) (by kernel_rfl) (by kernel_rfl) (by kernel_rfl) (by kernel_rfl) trivial (by kernel_rfl) (g := ⟨ia66, ih66, oa66, oh66⟩) rfl s66.F fn66

/-! f19 (*tripwire/dict.Dict).Set -/
noncomputable def c19 : Code := codeOf Try.f19
noncomputable abbrev lk19 : List (FuncId × Ab.Spec) := [(65, s65), (66, s66), (67, s67)]
theorem hk19 : AllOk Try.prog lk19 := ⟨ok65, ok66, ok67, trivial⟩
abbrev ia19 : AP := .cons (.ptr 0) (.cons (.val yKey) (.cons (.val I64) .nil))
abbrev ih19 : HP := .box (.cons (.ptr 1) (.cons (.val I64) .nil)) (.box (.cons (.hs 2) .nil) (.row 230 yShRow true .nil))
abbrev oa19 : AP := .cons (.val I64) .nil
abbrev oh19 : HP := .box (.cons (.ptr 1) (.cons (.val I64) .nil)) (.box (.cons (.hs 2) .nil) (.row 230 yShRow true .nil))
noncomputable def f19 (k : El yKey) (n : El I64) (d : El I64) (h2 : List (El yShRow)) : Option (ElA oa19 × ElH oh19) :=
  (f65 k d h2).bind fun r1 =>
  bif !(decide (r1.1.2.1 = 0)) then
    some ((r1.1.2.1, ()), ((), r1.2.1.2.1, ()), ((), ()), r1.2.2.2.1, ())
  else
    (f66 r1.1.1.1 n).bind fun r2 =>
    bif !(decide (r2.1.2.1 = 0)) then
      some ((r2.1.2.1, ()), ((), r1.2.1.2.1, ()), ((), ()), r1.2.2.2.1, ())
    else
      (f67 k r1.1.1 r2.1.1 r1.2.1.2.1 r1.2.2.2.1).bind fun r3 =>
      some ((0, ()), ((), r3.2.1.2.1, ()), ((), ()), r3.2.2.2.1, ())
noncomputable def s19 : Ab.Spec := ⟨ia19, ih19, oa19, oh19, fun x => f19 x.1.2.1 x.1.2.2.1 x.2.1.2.1 x.2.2.2.1⟩
noncomputable abbrev ls19 : List (Code × Option Frag) := []
theorem fn19 : ∀ x, funcA Try.prog (mkK lk19) (mkL ls19) Try.f19 ⟨ia19, ih19, oa19, oh19⟩ x = s19.F x := fun x => by kernel_rfl
theorem ok19 : SpecOk Try.prog 19 s19 := spec_gen hmix hk19 (ls := ls19) (code := c19) (fn := Try.f19) (by kernel_rfl) (by kernel_rfl) (by kernel_rfl) (by kernel_rfl) trivial (by kernel_rfl) (g := ⟨ia19, ih19, oa19, oh19⟩) rfl s19.F fn19

/-! f13 tripwire/tripwirelaw25.live -/
noncomputable def c13 : Code := codeOf Try.f13
noncomputable abbrev lk13 : List (FuncId × Ab.Spec) := [(16, s16), (19, s19), (12, s12)]
theorem hk13 : AllOk Try.prog lk13 := ⟨ok16, ok19, ok12, trivial⟩
abbrev ia13 : AP := .nil
abbrev ih13 : HP := .nil
abbrev oa13 : AP := .cons (.val .bool) .nil
abbrev oh13 : HP := .nil
noncomputable def f13 : Option (ElA oa13 × ElH oh13) :=
  (f16).bind fun r1 =>
  (f19 (8192, 1, ()) 5 r1.2.1.2.1 r1.2.2.2.1).bind fun r2 =>
  (f19 (8192, 2, ()) 258 r2.2.1.2.1 r2.2.2.2.1).bind fun r3 =>
  (f12 (some ([((8192, 1, ()), 8, ()), ((8192, 2, ()), 16, ())] : List (El ySlot))) r3.2.1.2.1 r3.2.2.2.1).bind fun r4 =>
  bif decide (r4.1.2.1 = 0) then
    some ((eqbL (dor r4.1.1) ([5, 2, 1] : List (El U8)), ()), ())
  else
    some ((false, ()), ())
noncomputable def s13 : Ab.Spec := ⟨ia13, ih13, oa13, oh13, fun x => f13⟩
noncomputable abbrev ls13 : List (Code × Option Frag) := []
theorem fn13 : ∀ x, funcA Try.prog (mkK lk13) (mkL ls13) Try.f13 ⟨ia13, ih13, oa13, oh13⟩ x = s13.F x := fun x => by kernel_rfl
theorem ok13 : SpecOk Try.prog 13 s13 := spec_gen hmix hk13 (ls := ls13) (code := c13) (fn := Try.f13) (by kernel_rfl) (by kernel_rfl) (by kernel_rfl) (by kernel_rfl) trivial (by kernel_rfl) (g := ⟨ia13, ih13, oa13, oh13⟩) rfl s13.F fn13

/-! f51 tripwire/pmap.Size -/
noncomputable def c51 : Code := codeOf Try.f51
noncomputable abbrev lk51 : List (FuncId × Ab.Spec) := []
theorem hk51 : AllOk Try.prog lk51 := trivial
noncomputable def b51_0 : Code := (loopsL c51).getD 0 .skip
abbrev tp51_0 : TP := .cons 3 (.val I64) (.cons 9 (.val (.sl ySlot)) (.cons 10 (.val I64) (.cons 11 (.val I64) .nil)))
abbrev hp51_0 : HP := .nil
abbrev xp51_0 : XP := .cons (.exit 0) (.cons 3 (.val I64) .nil) .nil (.cons .ret (.cons 2 (.val I64) .nil) .nil .nil)
noncomputable def R51_0 (n : El I64) (t9 : El (.sl ySlot)) (t10 : El I64) (t11 : El I64) : Option ((ElT tp51_0 × ElH hp51_0) ⊕ ElX xp51_0) :=
  bif decide (t11 < t10) then
    bif idxOk t11 (olen t9) then
      bif decide (((oget t9 t11.toNat (zero ySlot)).2).1 = 8) then
        some (.inl ((IntKind.wrap .i64 (n + IntKind.wrap .i64 (Int.tdiv (((oget t9 t11.toNat (zero ySlot)).2).1) 8)), t9, t10, IntKind.wrap .i64 (t11 + 1), ()), ()))
      else
        bif decide (((oget t9 t11.toNat (zero ySlot)).2).1 = 16) then
          some (.inl ((IntKind.wrap .i64 (n + IntKind.wrap .i64 (Int.tdiv (((oget t9 t11.toNat (zero ySlot)).2).1) 8)), t9, t10, IntKind.wrap .i64 (t11 + 1), ()), ()))
        else
          bif decide (((oget t9 t11.toNat (zero ySlot)).2).1 = 32) then
            some (.inl ((IntKind.wrap .i64 (n + IntKind.wrap .i64 (Int.tdiv (((oget t9 t11.toNat (zero ySlot)).2).1) 8)), t9, t10, IntKind.wrap .i64 (t11 + 1), ()), ()))
          else
            some (.inr (.inr (.inl ((0, ()), ()))))
    else none
  else
    some (.inr (.inl ((n, ()), ())))
noncomputable def r51_0 (x : ElT tp51_0 × ElH hp51_0) : Option ((ElT tp51_0 × ElH hp51_0) ⊕ ElX xp51_0) := R51_0 x.1.1 x.1.2.1 x.1.2.2.1 x.1.2.2.2.1
noncomputable def g51_0 (n : El I64) (t9 : El (.sl ySlot)) (t10 : El I64) (t11 : El I64) : Option (ElX xp51_0) := iterR r51_0 FU ((n, t9, t10, t11, ()), ())
noncomputable abbrev ls51_0 : List (Code × Option Frag) := []
noncomputable def F51_0 : Frag := ⟨0, [], tp51_0, hp51_0, xp51_0, 28, fun x => iterR r51_0 FU x⟩
theorem rd51_0 : ∀ x, roundA Try.prog (mkK lk51) (mkL ls51_0) b51_0 tp51_0 hp51_0 xp51_0 28 x = r51_0 x := fun x => by kernel_rfl
theorem fo51_0 : FragOk Try.prog F51_0 b51_0 := frag_gen hmix hk51 (ls := ls51_0) (by kernel_rfl) trivial (by kernel_rfl) r51_0 rd51_0 (by kernel_rfl)
abbrev ia51 : AP := .cons (.val (.sl ySlot)) .nil
abbrev ih51 : HP := .nil
abbrev oa51 : AP := .cons (.val I64) .nil
abbrev oh51 : HP := .nil
noncomputable def f51 (l : El (.sl ySlot)) : Option (ElA oa51 × ElH oh51) :=
  bif decide ((8 : Int) < olen l) then
    some ((0, ()), ())
  else
    (g51_0 0 l (olen l) 0).bind fun r1 => match r1 with
    | .inl y2 =>
      some ((y2.1.1, ()), ())
    | .inr (.inl y2) =>
      some ((y2.1.1, ()), ())
noncomputable def s51 : Ab.Spec := ⟨ia51, ih51, oa51, oh51, fun x => f51 x.1.1⟩
noncomputable abbrev ls51 : List (Code × Option Frag) := [(b51_0, some F51_0)]
theorem fn51 : ∀ x, funcA Try.prog (mkK lk51) (mkL ls51) Try.f51 ⟨ia51, ih51, oa51, oh51⟩ x = s51.F x := fun x => by kernel_rfl
theorem ok51 : SpecOk Try.prog 51 s51 := spec_gen hmix hk51 (ls := ls51) (code := c51) (fn := Try.f51) (by kernel_rfl) (by kernel_rfl) (by kernel_rfl) (by kernel_rfl) ⟨fo51_0, trivial⟩ (by kernel_rfl) (g := ⟨ia51, ih51, oa51, oh51⟩) rfl s51.F fn51

/-! f52 tripwire/pmap.parts -/
noncomputable def c52 : Code := codeOf Try.f52
noncomputable abbrev lk52 : List (FuncId × Ab.Spec) := [(91, s91), (104, s104)]
theorem hk52 : AllOk Try.prog lk52 := ⟨ok91, ok104, trivial⟩
noncomputable def b52_0 : Code := (loopsL c52).getD 0 .skip
abbrev tp52_0 : TP := .cons 0 (.ptr 0) (.cons 1 (.val (.sl U8)) (.cons 8 (.hs 3) (.cons 14 (.val (.sl ySlot)) (.cons 15 (.val I64) (.cons 16 (.val I64) .nil)))))
abbrev hp52_0 : HP := .box (.cons (.ptr 1) (.cons (.val I64) .nil)) (.box (.cons (.hs 2) .nil) (.row 230 yShRow true (.row 30 (.sl U8) true .nil)))
abbrev xp52_0 : XP := .cons (.exit 0) (.cons 8 (.hs 3) .nil) (.box (.cons (.ptr 1) (.cons (.val I64) .nil)) (.box (.cons (.hs 2) .nil) (.row 230 yShRow true (.row 30 (.sl U8) true .nil)))) (.cons .ret (.cons 6 (.val (.sl (.sl U8))) (.cons 7 (.val .bool) .nil)) (.box (.cons (.ptr 1) (.cons (.val I64) .nil)) (.box (.cons (.hs 2) .nil) (.row 230 yShRow true (.skip .nil)))) .nil)
noncomputable def R52_0 (b : El (.sl U8)) (t14 : El (.sl ySlot)) (t15 : El I64) (t16 : El I64) (d : El I64) (h2 : List (El yShRow)) (out : List (El (.sl U8))) : Option ((ElT tp52_0 × ElH hp52_0) ⊕ ElX xp52_0) :=
  bif decide (t16 < t15) then
    bif idxOk t16 (olen t14) then
      (f91 ((oget t14 t16.toNat (zero ySlot)).1) d h2).bind fun r3 =>
      bif subOk 0 (IntKind.wrap .i64 (Int.tdiv (((oget t14 t16.toNat (zero ySlot)).2).1) 8)) (olen b) then
        (f104 r3.1.1 (osub b 0 ((IntKind.wrap .i64 (Int.tdiv (((oget t14 t16.toNat (zero ySlot)).2).1) 8)).toNat))).bind fun r4 =>
        bif !(decide (r4.1.1 = 0)) then
          some (.inr (.inr (.inl ((none, false, ()), ((), r3.2.1.2.1, ()), ((), ()), r3.2.2.2.1, ()))))
        else
          bif subOk 0 (IntKind.wrap .i64 (Int.tdiv (((oget t14 t16.toNat (zero ySlot)).2).1) 8)) (olen b) then
            bif Nat.ble ((dlen out + dlen ([osub b 0 ((IntKind.wrap .i64 (Int.tdiv (((oget t14 t16.toNat (zero ySlot)).2).1) 8)).toNat)] : List (El (.sl U8)))) * 24) 140737488355328 then
              bif subOk (IntKind.wrap .i64 (Int.tdiv (((oget t14 t16.toNat (zero ySlot)).2).1) 8)) (olen b) (olen b) then
                some (.inl (((), osub b ((IntKind.wrap .i64 (Int.tdiv (((oget t14 t16.toNat (zero ySlot)).2).1) 8)).toNat) ((olen b).toNat), (), t14, t15, IntKind.wrap .i64 (t16 + 1), ()), ((), r3.2.1.2.1, ()), ((), ()), r3.2.2.2.1, dapp out ([osub b 0 ((IntKind.wrap .i64 (Int.tdiv (((oget t14 t16.toNat (zero ySlot)).2).1) 8)).toNat)] : List (El (.sl U8))), ()))
              else none
            else none
          else none
      else none
    else none
  else
    some (.inr (.inl (((), ()), ((), d, ()), ((), ()), h2, out, ())))
noncomputable def r52_0 (x : ElT tp52_0 × ElH hp52_0) : Option ((ElT tp52_0 × ElH hp52_0) ⊕ ElX xp52_0) := R52_0 x.1.2.1 x.1.2.2.2.1 x.1.2.2.2.2.1 x.1.2.2.2.2.2.1 x.2.1.2.1 x.2.2.2.1 x.2.2.2.2.1
noncomputable def g52_0 (b : El (.sl U8)) (t14 : El (.sl ySlot)) (t15 : El I64) (t16 : El I64) (d : El I64) (h2 : List (El yShRow)) (out : List (El (.sl U8))) : Option (ElX xp52_0) := iterR r52_0 FU (((), b, (), t14, t15, t16, ()), ((), d, ()), ((), ()), h2, out, ())
noncomputable abbrev ls52_0 : List (Code × Option Frag) := []
noncomputable def F52_0 : Frag := ⟨3, [(8, 22)], tp52_0, hp52_0, xp52_0, 47, fun x => iterR r52_0 FU x⟩
theorem rd52_0 : ∀ x, roundA Try.prog (mkK lk52) (mkL ls52_0) b52_0 tp52_0 hp52_0 xp52_0 47 x = r52_0 x := fun x => by kernel_rfl
theorem fo52_0 : FragOk Try.prog F52_0 b52_0 := frag_gen hmix hk52 (ls := ls52_0) (by kernel_rfl) trivial (by kernel_rfl) r52_0 rd52_0 (by kernel_rfl)
abbrev ia52 : AP := .cons (.ptr 0) (.cons (.val (.sl U8)) (.cons (.val (.sl ySlot)) .nil))
abbrev ih52 : HP := .box (.cons (.ptr 1) (.cons (.val I64) .nil)) (.box (.cons (.hs 2) .nil) (.row 230 yShRow true .nil))
abbrev oa52 : AP := .cons (.val (.sl (.sl U8))) (.cons (.val .bool) .nil)
abbrev oh52 : HP := .box (.cons (.ptr 1) (.cons (.val I64) .nil)) (.box (.cons (.hs 2) .nil) (.row 230 yShRow true .nil))
noncomputable def f52 (b : El (.sl U8)) (l : El (.sl ySlot)) (d : El I64) (h2 : List (El yShRow)) : Option (ElA oa52 × ElH oh52) :=
  (g52_0 b l (olen l) 0 d h2 ([] : List (El (.sl U8)))).bind fun r5 => match r5 with
  | .inl y6 =>
    some ((rowC true y6.2.2.2.2.1, true, ()), ((), y6.2.1.2.1, ()), ((), ()), y6.2.2.2.1, ())
  | .inr (.inl y6) =>
    some ((y6.1.1, y6.1.2.1, ()), ((), y6.2.1.2.1, ()), ((), ()), y6.2.2.2.1, ())
noncomputable def s52 : Ab.Spec := ⟨ia52, ih52, oa52, oh52, fun x => f52 x.1.2.1 x.1.2.2.1 x.2.1.2.1 x.2.2.2.1⟩
noncomputable abbrev ls52 : List (Code × Option Frag) := [(b52_0, some F52_0)]
theorem fn52 : ∀ x, funcA Try.prog (mkK lk52) (mkL ls52) Try.f52 ⟨ia52, ih52, oa52, oh52⟩ x = s52.F x := fun x => by kernel_rfl
theorem ok52 : SpecOk Try.prog 52 s52 := spec_gen hmix hk52 (ls := ls52) (code := c52) (fn := Try.f52) (by kernel_rfl) (by kernel_rfl) (by kernel_rfl) (by kernel_rfl) ⟨fo52_0, trivial⟩ (by kernel_rfl) (g := ⟨ia52, ih52, oa52, oh52⟩) rfl s52.F fn52

/-! f14 tripwire/pmap.Unpack -/
noncomputable def c14 : Code := codeOf Try.f14
noncomputable abbrev lk14 : List (FuncId × Ab.Spec) := [(50, s50), (51, s51), (52, s52), (48, s48)]
theorem hk14 : AllOk Try.prog lk14 := ⟨ok50, ok51, ok52, ok48, trivial⟩
noncomputable def b14_0 : Code := (loopsL c14).getD 0 .skip
abbrev tp14_0 : TP := .cons 0 (.ptr 0) (.cons 7 (.val (.sl (.sl U8))) (.cons 32 (.val (.sl ySlot)) (.cons 33 (.val I64) (.cons 34 (.val I64) .nil))))
abbrev hp14_0 : HP := .box (.cons (.ptr 1) (.cons (.val I64) .nil)) (.box (.cons (.hs 2) .nil) (.row 230 yShRow true (.skip (.skip (.skip (.skip (.skip (.skip (.skip (.skip (.skip (.skip (.skip (.skip .nil))))))))))))))
abbrev xp14_0 : XP := .cons (.exit 1) .nil (.box (.cons (.ptr 1) (.cons (.val I64) .nil)) (.box (.cons (.hs 2) .nil) (.row 230 yShRow true (.skip (.skip (.skip (.skip (.skip (.skip (.skip (.skip (.skip (.skip (.skip (.skip .nil))))))))))))))) (.cons .ret (.cons 6 (.val I64) .nil) (.box (.cons (.ptr 1) (.cons (.val I64) .nil)) (.box (.cons (.hs 2) .nil) (.row 230 yShRow true (.skip (.skip (.skip (.skip (.skip (.skip (.skip (.skip (.skip (.skip (.skip (.skip .nil))))))))))))))) .nil)
noncomputable def R14_0 (all : El (.sl (.sl U8))) (t32 : El (.sl ySlot)) (t33 : El I64) (t34 : El I64) (d : El I64) (h2 : List (El yShRow)) : Option ((ElT tp14_0 × ElH hp14_0) ⊕ ElX xp14_0) :=
  bif decide (t34 < t33) then
    bif idxOk t34 (olen t32) then
      bif idxOk t34 (olen all) then
        (f48 ((oget t32 t34.toNat (zero ySlot)).1) (oget all t34.toNat (zero (.sl U8))) d h2).bind fun r5 =>
        bif !(decide (r5.1.1 = 0)) then
          some (.inr (.inr (.inl ((r5.1.1, ()), ((), r5.2.1.2.1, ()), ((), ()), r5.2.2.2.1, ()))))
        else
          some (.inl (((), all, t32, t33, IntKind.wrap .i64 (t34 + 1), ()), ((), r5.2.1.2.1, ()), ((), ()), r5.2.2.2.1, ()))
      else none
    else none
  else
    some (.inr (.inl ((), ((), d, ()), ((), ()), h2, ())))
noncomputable def r14_0 (x : ElT tp14_0 × ElH hp14_0) : Option ((ElT tp14_0 × ElH hp14_0) ⊕ ElX xp14_0) := R14_0 x.1.2.1 x.1.2.2.1 x.1.2.2.2.1 x.1.2.2.2.2.1 x.2.1.2.1 x.2.2.2.1
noncomputable def g14_0 (all : El (.sl (.sl U8))) (t32 : El (.sl ySlot)) (t33 : El I64) (t34 : El I64) (d : El I64) (h2 : List (El yShRow)) : Option (ElX xp14_0) := iterR r14_0 FU (((), all, t32, t33, t34, ()), ((), d, ()), ((), ()), h2, ())
noncomputable abbrev ls14_0 : List (Code × Option Frag) := []
noncomputable def F14_0 : Frag := ⟨15, [], tp14_0, hp14_0, xp14_0, 51, fun x => iterR r14_0 FU x⟩
theorem rd14_0 : ∀ x, roundA Try.prog (mkK lk14) (mkL ls14_0) b14_0 tp14_0 hp14_0 xp14_0 51 x = r14_0 x := fun x => by kernel_rfl
theorem fo14_0 : FragOk Try.prog F14_0 b14_0 := frag_gen hmix hk14 (ls := ls14_0) (by kernel_rfl) trivial (by kernel_rfl) r14_0 rd14_0 (by kernel_rfl)
abbrev ia14 : AP := .cons (.ptr 0) (.cons (.val (.sl U8)) (.cons (.val (.sl ySlot)) .nil))
abbrev ih14 : HP := .box (.cons (.ptr 1) (.cons (.val I64) .nil)) (.box (.cons (.hs 2) .nil) (.row 230 yShRow true .nil))
abbrev oa14 : AP := .cons (.val I64) .nil
abbrev oh14 : HP := .box (.cons (.ptr 1) (.cons (.val I64) .nil)) (.box (.cons (.hs 2) .nil) (.row 230 yShRow true .nil))
noncomputable def f14 (b : El (.sl U8)) (l : El (.sl ySlot)) (d : El I64) (h2 : List (El yShRow)) : Option (ElA oa14 × ElH oh14) :=
  (f50 l d h2).bind fun r1 =>
  bif !(decide (r1.1.1 = 0)) then
    some ((14, ()), ((), r1.2.1.2.1, ()), ((), ()), r1.2.2.2.1, ())
  else
    (f51 l).bind fun r2 =>
    bif !(decide (olen b = r2.1.1)) then
      some ((11, ()), ((), r1.2.1.2.1, ()), ((), ()), r1.2.2.2.1, ())
    else
      (f52 b l r1.2.1.2.1 r1.2.2.2.1).bind fun r3 =>
      bif !r3.1.2.1 then
        some ((4, ()), ((), r3.2.1.2.1, ()), ((), ()), r3.2.2.2.1, ())
      else
        (g14_0 r3.1.1 l (olen l) 0 r3.2.1.2.1 r3.2.2.2.1).bind fun r6 => match r6 with
        | .inl y7 =>
          some ((0, ()), ((), y7.2.1.2.1, ()), ((), ()), y7.2.2.2.1, ())
        | .inr (.inl y7) =>
          some ((y7.1.1, ()), ((), y7.2.1.2.1, ()), ((), ()), y7.2.2.2.1, ())
noncomputable def s14 : Ab.Spec := ⟨ia14, ih14, oa14, oh14, fun x => f14 x.1.2.1 x.1.2.2.1 x.2.1.2.1 x.2.2.2.1⟩
noncomputable abbrev ls14 : List (Code × Option Frag) := [(b14_0, some F14_0)]
theorem fn14 : ∀ x, funcA Try.prog (mkK lk14) (mkL ls14) Try.f14 ⟨ia14, ih14, oa14, oh14⟩ x = s14.F x := fun x => by kernel_rfl
theorem ok14 : SpecOk Try.prog 14 s14 := spec_gen hmix hk14 (ls := ls14) (code := c14) (fn := Try.f14) (by kernel_rfl) (by kernel_rfl) (by kernel_rfl) (by kernel_rfl) ⟨fo14_0, trivial⟩ (by kernel_rfl) (g := ⟨ia14, ih14, oa14, oh14⟩) rfl s14.F fn14

/-! f3 tripwire/tripwirelaw25.PmapBack -/
noncomputable def c3 : Code := codeOf Try.f3
noncomputable abbrev lk3 : List (FuncId × Ab.Spec) := [(11, s11), (12, s12), (13, s13), (14, s14), (15, s15)]
theorem hk3 : AllOk Try.prog lk3 := ⟨ok11, ok12, ok13, ok14, ok15, trivial⟩
noncomputable def b3_0 : Code := (loopsL c3).getD 0 .skip
noncomputable def b3_1 : Code := (loopsL b3_0).getD 0 .skip
abbrev tp3_1 : TP := .cons 2 (.val (.sl ySlot)) (.cons 7 (.ptr 0) (.cons 9 (.ptr 5) (.cons 10 (.ptr 9) (.cons 13 (.val I64) (.cons 14 (.ptr 26) (.cons 15 (.val .bool) (.cons 16 (.val I64) .nil)))))))
abbrev hp3_1 : HP := .box (.cons (.ptr 1) (.cons (.val I64) .nil)) (.box (.cons (.hs 2) .nil) (.row 230 yShRow true (.skip (.skip (.box (.cons (.ptr 6) (.cons (.val I64) .nil)) (.box (.cons (.hs 7) .nil) (.row 230 yShRow true (.skip (.box (.val yDict) (.skip (.skip (.skip (.skip (.skip (.skip (.skip (.skip (.skip (.skip (.skip (.skip (.skip (.skip (.skip (.skip (.box (.val yKey) .nil))))))))))))))))))))))))))
abbrev xp3_1 : XP := .cons (.exit 2) (.cons 2 (.val (.sl ySlot)) (.cons 7 (.ptr 0) (.cons 9 (.ptr 5) (.cons 10 (.ptr 9) (.cons 13 (.val I64) (.cons 14 (.ptr 26) (.cons 15 (.val .bool) .nil))))))) (.box (.cons (.ptr 1) (.cons (.val I64) .nil)) (.box (.cons (.hs 2) .nil) (.row 230 yShRow true (.skip (.skip (.box (.cons (.ptr 6) (.cons (.val I64) .nil)) (.box (.cons (.hs 7) .nil) (.row 230 yShRow true (.skip (.box (.val yDict) (.skip (.skip (.skip (.skip (.skip (.skip (.skip (.skip (.skip (.skip (.skip (.skip (.skip (.skip (.skip (.skip (.box (.val yKey) .nil))))))))))))))))))))))))))) .nil
noncomputable def R3_1 (t2 : El (.sl ySlot)) (t13 : El I64) (t15 : El .bool) (t16 : El I64) (t7 : El I64) (h2 : List (El yShRow)) (t9 : El I64) (h7 : List (El yShRow)) (t10 : El yDict) (t14 : El yKey) : Option ((ElT tp3_1 × ElH hp3_1) ⊕ ElX xp3_1) :=
  bif decide (t16 < olen t2) then
    bif !t15 then
      bif idxOk t16 (olen t2) then
        some (.inl ((t2, (), (), (), t13, (), eqT yKey ((oget t2 t16.toNat (zero ySlot)).1) t14, IntKind.wrap .i64 (t16 + 1), ()), ((), t7, ()), ((), ()), h2, ((), t9, ()), ((), ()), h7, t10, t14, ()))
      else none
    else
      some (.inl ((t2, (), (), (), t13, (), true, IntKind.wrap .i64 (t16 + 1), ()), ((), t7, ()), ((), ()), h2, ((), t9, ()), ((), ()), h7, t10, t14, ()))
  else
    some (.inr (.inl ((t2, (), (), (), t13, (), t15, ()), ((), t7, ()), ((), ()), h2, ((), t9, ()), ((), ()), h7, t10, t14, ())))
noncomputable def r3_1 (x : ElT tp3_1 × ElH hp3_1) : Option ((ElT tp3_1 × ElH hp3_1) ⊕ ElX xp3_1) := R3_1 x.1.1 x.1.2.2.2.2.1 x.1.2.2.2.2.2.2.1 x.1.2.2.2.2.2.2.2.1 x.2.1.2.1 x.2.2.2.1 x.2.2.2.2.1.2.1 x.2.2.2.2.2.2.1 x.2.2.2.2.2.2.2.1 x.2.2.2.2.2.2.2.2.1
noncomputable def g3_1 (t2 : El (.sl ySlot)) (t13 : El I64) (t15 : El .bool) (t16 : El I64) (t7 : El I64) (h2 : List (El yShRow)) (t9 : El I64) (h7 : List (El yShRow)) (t10 : El yDict) (t14 : El yKey) : Option (ElX xp3_1) := iterR r3_1 FU ((t2, (), (), (), t13, (), t15, t16, ()), ((), t7, ()), ((), ()), h2, ((), t9, ()), ((), ()), h7, t10, t14, ())
noncomputable abbrev ls3_1 : List (Code × Option Frag) := []
noncomputable def F3_1 : Frag := ⟨27, [], tp3_1, hp3_1, xp3_1, 113, fun x => iterR r3_1 FU x⟩
theorem rd3_1 : ∀ x, roundA Try.prog (mkK lk3) (mkL ls3_1) b3_1 tp3_1 hp3_1 xp3_1 113 x = r3_1 x := fun x => by kernel_rfl
theorem fo3_1 : FragOk Try.prog F3_1 b3_1 := frag_gen hmix hk3 (ls := ls3_1) (by kernel_rfl) trivial (by kernel_rfl) r3_1 rd3_1 (by kernel_rfl)
abbrev tp3_0 : TP := .cons 2 (.val (.sl ySlot)) (.cons 7 (.ptr 0) (.cons 9 (.ptr 5) (.cons 10 (.ptr 9) (.cons 13 (.val I64) .nil))))
abbrev hp3_0 : HP := .box (.cons (.ptr 1) (.cons (.val I64) .nil)) (.box (.cons (.hs 2) .nil) (.row 230 yShRow true (.skip (.skip (.box (.cons (.ptr 6) (.cons (.val I64) .nil)) (.box (.cons (.hs 7) .nil) (.row 230 yShRow true (.skip (.box (.val yDict) (.skip (.skip (.skip (.skip (.skip (.skip (.skip (.skip (.skip (.skip (.skip (.skip (.skip (.skip (.skip (.skip .nil)))))))))))))))))))))))))
abbrev xp3_0 : XP := .cons (.exit 0) .nil (.skip (.skip (.skip (.skip (.skip (.skip (.skip (.skip (.skip (.skip (.skip (.skip (.skip (.skip (.skip (.skip (.skip (.skip (.skip (.skip (.skip (.skip (.skip (.skip (.skip (.skip .nil)))))))))))))))))))))))))) (.cons .ret (.cons 6 (.val .bool) .nil) (.skip (.skip (.skip (.skip (.skip (.skip (.skip (.skip (.skip (.skip (.skip (.skip (.skip (.skip (.skip (.skip (.skip (.skip (.skip (.skip (.skip (.skip (.skip (.skip (.skip (.skip .nil)))))))))))))))))))))))))) .nil)
noncomputable def R3_0 (t2 : El (.sl ySlot)) (t13 : El I64) (t7 : El I64) (h2 : List (El yShRow)) (t9 : El I64) (h7 : List (El yShRow)) (t10 : El yDict) : Option ((ElT tp3_0 × ElH hp3_0) ⊕ ElX xp3_0) :=
  bif decide (t13 < olen t10.1) then
    bif idxOk t13 (olen t10.1) then
      (g3_1 t2 t13 false 0 t7 h2 t9 h7 t10 ((oget t10.1 t13.toNat (zero yEntry)).1)).bind fun r12 => match r12 with
      | .inl y13 =>
        bif idxOk y13.1.2.2.2.2.1 (olen y13.2.2.2.2.2.2.2.1.1) then
          bif y13.1.2.2.2.2.2.2.1 then
            (f15 y13.2.2.2.2.2.2.2.2.1 y13.2.1.2.1 y13.2.2.2.1).bind fun r14 =>
            (f15 y13.2.2.2.2.2.2.2.2.1 y13.2.2.2.2.1.2.1 y13.2.2.2.2.2.2.1).bind fun r15 =>
            bif !(eqbL (dor r15.1.1) (dor r14.1.1)) then
              some (.inr (.inr (.inl ((false, ()), ()))))
            else
              some (.inl ((y13.1.1, (), (), (), IntKind.wrap .i64 (y13.1.2.2.2.2.1 + 1), ()), ((), r14.2.1.2.1, ()), ((), ()), r14.2.2.2.1, ((), r15.2.1.2.1, ()), ((), ()), r15.2.2.2.1, y13.2.2.2.2.2.2.2.1, ()))
          else
            (f15 y13.2.2.2.2.2.2.2.2.1 y13.2.2.2.2.1.2.1 y13.2.2.2.2.2.2.1).bind fun r16 =>
            bif !(eqbL (dor r16.1.1) ((((oget y13.2.2.2.2.2.2.2.1.1 y13.1.2.2.2.2.1.toNat (zero yEntry)).2).2).1)) then
              some (.inr (.inr (.inl ((false, ()), ()))))
            else
              some (.inl ((y13.1.1, (), (), (), IntKind.wrap .i64 (y13.1.2.2.2.2.1 + 1), ()), ((), y13.2.1.2.1, ()), ((), ()), y13.2.2.2.1, ((), r16.2.1.2.1, ()), ((), ()), r16.2.2.2.1, y13.2.2.2.2.2.2.2.1, ()))
        else none
    else none
  else
    some (.inr (.inl ((), ())))
noncomputable def r3_0 (x : ElT tp3_0 × ElH hp3_0) : Option ((ElT tp3_0 × ElH hp3_0) ⊕ ElX xp3_0) := R3_0 x.1.1 x.1.2.2.2.2.1 x.2.1.2.1 x.2.2.2.1 x.2.2.2.2.1.2.1 x.2.2.2.2.2.2.1 x.2.2.2.2.2.2.2.1
noncomputable def g3_0 (t2 : El (.sl ySlot)) (t13 : El I64) (t7 : El I64) (h2 : List (El yShRow)) (t9 : El I64) (h7 : List (El yShRow)) (t10 : El yDict) : Option (ElX xp3_0) := iterR r3_0 FU ((t2, (), (), (), t13, ()), ((), t7, ()), ((), ()), h2, ((), t9, ()), ((), ()), h7, t10, ())
noncomputable abbrev ls3_0 : List (Code × Option Frag) := [(b3_1, some F3_1)]
noncomputable def F3_0 : Frag := ⟨26, [], tp3_0, hp3_0, xp3_0, 113, fun x => iterR r3_0 FU x⟩
theorem rd3_0 : ∀ x, roundA Try.prog (mkK lk3) (mkL ls3_0) b3_0 tp3_0 hp3_0 xp3_0 113 x = r3_0 x := fun x => by kernel_rfl
theorem fo3_0 : FragOk Try.prog F3_0 b3_0 := frag_gen hmix hk3 (ls := ls3_0) (by kernel_rfl) ⟨fo3_1, trivial⟩ (by kernel_rfl) r3_0 rd3_0 (by kernel_rfl)
abbrev ia3 : AP := .cons (.val (.sl (.sl U8))) (.cons (.val (.sl (.sl U8))) (.cons (.val (.sl ySlot)) .nil))
abbrev ih3 : HP := .nil
abbrev oa3 : AP := .cons (.val .bool) .nil
abbrev oh3 : HP := .nil
noncomputable def f3 (ListtoArray : El (.sl (.sl U8))) (t1 : El (.sl (.sl U8))) (t2 : El (.sl ySlot)) : Option (ElA oa3 × ElH oh3) :=
  bif subOk 0 (if 12 < olen t2 then 12 else olen t2) (olen t2) then
    (f11 ListtoArray).bind fun r1 =>
    (f11 t1).bind fun r2 =>
    (f12 (osub t2 0 ((if 12 < olen t2 then 12 else olen t2).toNat)) r1.2.1.2.1 r1.2.2.2.1).bind fun r3 =>
    bif !(decide (r3.1.2.1 = 0)) then
      (f13).bind fun r4 =>
      bif r4.1.1 then
        (f14 r3.1.1 (osub t2 0 ((if 12 < olen t2 then 12 else olen t2).toNat)) r2.2.1.2.1 r2.2.2.2.1).bind fun r5 =>
        some ((decide (r5.1.1 = 14), ()), ())
      else
        some ((false, ()), ())
    else
      (f14 r3.1.1 (osub t2 0 ((if 12 < olen t2 then 12 else olen t2).toNat)) r2.2.1.2.1 r2.2.2.2.1).bind fun r6 =>
      bif !(decide (r6.1.1 = 0)) then
        some ((false, ()), ())
      else
        (g3_0 (osub t2 0 ((if 12 < olen t2 then 12 else olen t2).toNat)) 0 r3.2.1.2.1 r3.2.2.2.1 r6.2.1.2.1 r6.2.2.2.1 r2.1.2.1).bind fun r17 => match r17 with
        | .inl _ =>
          (f13).bind fun r19 =>
          some ((r19.1.1, ()), ())
        | .inr (.inl y18) =>
          some ((y18.1.1, ()), ())
  else none
noncomputable def s3 : Ab.Spec := ⟨ia3, ih3, oa3, oh3, fun x => f3 x.1.1 x.1.2.1 x.1.2.2.1⟩
noncomputable abbrev ls3 : List (Code × Option Frag) := [(b3_0, some F3_0)]
theorem fn3 : ∀ x, funcA Try.prog (mkK lk3) (mkL ls3) Try.f3 ⟨ia3, ih3, oa3, oh3⟩ x = s3.F x := fun x => by kernel_rfl
theorem ok3 : SpecOk Try.prog 3 s3 := spec_gen hmix hk3 (ls := ls3) (code := c3) (fn := Try.f3) (by kernel_rfl) (by kernel_rfl) (by kernel_rfl) (by kernel_rfl) ⟨fo3_0, trivial⟩ (by kernel_rfl) (g := ⟨ia3, ih3, oa3, oh3⟩) rfl s3.F fn3

end Go.Proofs.Ytjmikonopapihaa
