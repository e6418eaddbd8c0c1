import Derived.Test.YtjmikonopapihaaProg
import Derived.Test.YtjmikonopapihaaAbGen
import Derived.Test.YtjmikonopapihaaGTy
import Derived.Test.YtjmikonopapihaaGH
import Derived.Test.YtjmikonopapihaaG0
namespace Go.Proofs.Ytjmikonopapihaa
open Go.Ab
set_option maxRecDepth 100000
set_option maxHeartbeats 1000000

/-! f63 tripwire/tripwireref14.At -/
noncomputable def c63 : Code := codeOf Try.f63
noncomputable abbrev lk63 : List (FuncId × Ab.Spec) := []
theorem hk63 : AllOk Try.prog lk63 := trivial
noncomputable def b63_0 : Code := (loopsL c63).getD 0 .skip
abbrev tp63_0 : TP := .cons 2 (.ptr 0) (.cons 3 (.ptr 1) (.cons 5 (.val I64) .nil))
abbrev hp63_0 : HP := .box (.val yDict) (.box (.val yKey) .nil)
abbrev xp63_0 : XP := .cons (.exit 0) .nil (.skip (.skip .nil)) (.cons .ret (.cons 4 (.val I64) .nil) (.skip (.skip .nil)) .nil)
noncomputable def R63_0 (i : El I64) (d : El yDict) (k : El yKey) : Option ((ElT tp63_0 × ElH hp63_0) ⊕ ElX xp63_0) :=
  bif decide (i < olen d.1) then
    bif idxOk i (olen d.1) then
      bif eqT yKey ((oget d.1 i.toNat (zero yEntry)).1) k then
        some (.inr (.inr (.inl ((i, ()), ()))))
      else
        some (.inl (((), (), IntKind.wrap .i64 (i + 1), ()), d, k, ()))
    else none
  else
    some (.inr (.inl ((), ())))
noncomputable def r63_0 (x : ElT tp63_0 × ElH hp63_0) : Option ((ElT tp63_0 × ElH hp63_0) ⊕ ElX xp63_0) := R63_0 x.1.2.2.1 x.2.1 x.2.2.1
noncomputable def g63_0 (i : El I64) (d : El yDict) (k : El yKey) : Option (ElX xp63_0) := iterR r63_0 FU (((), (), i, ()), d, k, ())
noncomputable abbrev ls63_0 : List (Code × Option Frag) := []
noncomputable def F63_0 : Frag := ⟨2, [], tp63_0, hp63_0, xp63_0, 22, fun x => iterR r63_0 FU x⟩
theorem rd63_0 : ∀ x, roundA Try.prog (mkK lk63) (mkL ls63_0) b63_0 tp63_0 hp63_0 xp63_0 22 x = r63_0 x := fun x => by kernel_rfl
theorem fo63_0 : FragOk Try.prog F63_0 b63_0 := frag_gen hmix hk63 (ls := ls63_0) (by kernel_rfl) trivial (by kernel_rfl) r63_0 rd63_0 (by kernel_rfl)
abbrev ia63 : AP := .cons (.val yDict) (.cons (.val yKey) .nil)
abbrev ih63 : HP := .nil
abbrev oa63 : AP := .cons (.val I64) .nil
abbrev oh63 : HP := .nil
noncomputable def f63 (d : El yDict) (k : El yKey) : Option (ElA oa63 × ElH oh63) :=
  (g63_0 0 d k).bind fun r1 => match r1 with
  | .inl _ =>
    some (((-1), ()), ())
  | .inr (.inl y2) =>
    some ((y2.1.1, ()), ())
noncomputable def s63 : Ab.Spec := ⟨ia63, ih63, oa63, oh63, fun x => f63 x.1.1 x.1.2.1⟩
noncomputable abbrev ls63 : List (Code × Option Frag) := [(b63_0, some F63_0)]
theorem fn63 : ∀ x, funcA Try.prog (mkK lk63) (mkL ls63) Try.f63 ⟨ia63, ih63, oa63, oh63⟩ x = s63.F x := fun x => by kernel_rfl
theorem ok63 : SpecOk Try.prog 63 s63 := spec_gen hmix hk63 (ls := ls63) (code := c63) (fn := Try.f63) (by kernel_rfl) (by kernel_rfl) (by kernel_rfl) (by kernel_rfl) ⟨fo63_0, trivial⟩ (by kernel_rfl) (g := ⟨ia63, ih63, oa63, oh63⟩) rfl s63.F fn63

/-! f57 tripwire/tripwireref14.Add -/
noncomputable def c57 : Code := codeOf Try.f57
noncomputable abbrev lk57 : List (FuncId × Ab.Spec) := [(109, s109), (110, s110), (62, s62), (111, s111), (63, s63)]
theorem hk57 : AllOk Try.prog lk57 := ⟨ok109, ok110, ok62, ok111, ok63, trivial⟩
abbrev ia57 : AP := .cons (.val yDict) (.cons (.val yKey) (.cons (.val ySpec) (.cons (.val (.sl U8)) .nil)))
abbrev ih57 : HP := .nil
abbrev oa57 : AP := .cons (.val yDict) (.cons (.val I64) .nil)
abbrev oh57 : HP := .nil
noncomputable def f57 (d : El yDict) (k : El yKey) (s : El ySpec) (first : El (.sl U8)) : Option (ElA oa57 × ElH oh57) :=
  (f109 k).bind fun r1 =>
  bif !(!r1.1.1) then
    (f110 s).bind fun r2 =>
    bif !r2.1.1 then
      some ((d, 2, ()), ())
    else
      bif decide (olen first = 0) then
        (f62 s first).bind fun r3 =>
        bif !(decide (r3.1.1 = 0)) then
          (f111 s).bind fun r4 =>
          (f62 s r4.1.1).bind fun r5 =>
          bif !(decide (r5.1.1 = 0)) then
            some ((d, 14, ()), ())
          else
            (f63 d k).bind fun r6 =>
            bif decide ((0 : Int) ≤ r6.1.1) then
              some ((d, 8, ()), ())
            else
              bif decide (olen d.1 = 512) then
                some ((d, 6, ()), ())
              else
                bif Nat.ble ((dlen ([] : List (El yEntry)) + dlen (dor d.1)) * 64) 140737488355328 then
                  bif Nat.ble ((dlen (dapp ([] : List (El yEntry)) (dor d.1)) + dlen ([(k, s, dor r4.1.1, ())] : List (El yEntry))) * 64) 140737488355328 then
                    some (((some (dapp (dapp ([] : List (El yEntry)) (dor d.1)) ([(k, s, dor r4.1.1, ())] : List (El yEntry))), d.2), 0, ()), ())
                  else none
                else none
        else
          (f62 s first).bind fun r7 =>
          bif !(decide (r7.1.1 = 0)) then
            some ((d, 14, ()), ())
          else
            (f63 d k).bind fun r8 =>
            bif decide ((0 : Int) ≤ r8.1.1) then
              some ((d, 8, ()), ())
            else
              bif decide (olen d.1 = 512) then
                some ((d, 6, ()), ())
              else
                bif Nat.ble ((dlen ([] : List (El yEntry)) + dlen (dor d.1)) * 64) 140737488355328 then
                  bif Nat.ble ((dlen (dapp ([] : List (El yEntry)) (dor d.1)) + dlen ([(k, s, dor first, ())] : List (El yEntry))) * 64) 140737488355328 then
                    some (((some (dapp (dapp ([] : List (El yEntry)) (dor d.1)) ([(k, s, dor first, ())] : List (El yEntry))), d.2), 0, ()), ())
                  else none
                else none
      else
        (f62 s first).bind fun r9 =>
        bif !(decide (r9.1.1 = 0)) then
          some ((d, 14, ()), ())
        else
          (f63 d k).bind fun r10 =>
          bif decide ((0 : Int) ≤ r10.1.1) then
            some ((d, 8, ()), ())
          else
            bif decide (olen d.1 = 512) then
              some ((d, 6, ()), ())
            else
              bif Nat.ble ((dlen ([] : List (El yEntry)) + dlen (dor d.1)) * 64) 140737488355328 then
                bif Nat.ble ((dlen (dapp ([] : List (El yEntry)) (dor d.1)) + dlen ([(k, s, dor first, ())] : List (El yEntry))) * 64) 140737488355328 then
                  some (((some (dapp (dapp ([] : List (El yEntry)) (dor d.1)) ([(k, s, dor first, ())] : List (El yEntry))), d.2), 0, ()), ())
                else none
              else none
  else
    some ((d, 2, ()), ())
noncomputable def s57 : Ab.Spec := ⟨ia57, ih57, oa57, oh57, fun x => f57 x.1.1 x.1.2.1 x.1.2.2.1 x.1.2.2.2.1⟩
noncomputable abbrev ls57 : List (Code × Option Frag) := []
theorem fn57 : ∀ x, funcA Try.prog (mkK lk57) (mkL ls57) Try.f57 ⟨ia57, ih57, oa57, oh57⟩ x = s57.F x := fun x => by kernel_rfl
theorem ok57 : SpecOk Try.prog 57 s57 := spec_gen hmix hk57 (ls := ls57) (code := c57) (fn := Try.f57) (by kernel_rfl) (by kernel_rfl) (by kernel_rfl) (by kernel_rfl) trivial (by kernel_rfl) (g := ⟨ia57, ih57, oa57, oh57⟩) rfl s57.F fn57

/-! f107 tripwire/dict.number -/
noncomputable def c107 : Code := codeOf Try.f107
noncomputable abbrev lk107 : List (FuncId × Ab.Spec) := []
theorem hk107 : AllOk Try.prog lk107 := trivial
abbrev ia107 : AP := .cons (.val yKey) .nil
abbrev ih107 : HP := .nil
abbrev oa107 : AP := .cons (.val I64) .nil
abbrev oh107 : HP := .nil
noncomputable def f107 (k : El yKey) : Option (ElA oa107 × ElH oh107) :=
  bif !(decide (k.1 < 1)) then
    bif !(decide ((65536 : Int) ≤ k.1)) then
      bif !(decide (k.2.1 < 0)) then
        bif decide ((256 : Int) ≤ k.2.1) then
          some (((-1), ()), ())
        else
          some ((IntKind.wrap .i64 (IntKind.wrap .i64 (k.1 * 256) + k.2.1), ()), ())
      else
        some (((-1), ()), ())
    else
      some (((-1), ()), ())
  else
    some (((-1), ()), ())
noncomputable def s107 : Ab.Spec := ⟨ia107, ih107, oa107, oh107, fun x => f107 x.1.1⟩
noncomputable abbrev ls107 : List (Code × Option Frag) := []
theorem fn107 : ∀ x, funcA Try.prog (mkK lk107) (mkL ls107) Try.f107 ⟨ia107, ih107, oa107, oh107⟩ x = s107.F x := fun x => by kernel_rfl
theorem ok107 : SpecOk Try.prog 107 s107 := spec_gen hmix hk107 (ls := ls107) (code := c107) (fn := Try.f107) (by kernel_rfl) (by kernel_rfl) (by kernel_rfl) (by kernel_rfl) trivial (by kernel_rfl) (g := ⟨ia107, ih107, oa107, oh107⟩) rfl s107.F fn107

/-! f92 tripwire/word.Size -/
noncomputable def c92 : Code := codeOf Try.f92
noncomputable abbrev lk92 : List (FuncId × Ab.Spec) := []
theorem hk92 : AllOk Try.prog lk92 := trivial
abbrev ia92 : AP := .cons (.val I64) .nil
abbrev ih92 : HP := .nil
abbrev oa92 : AP := .cons (.val I64) .nil
abbrev oh92 : HP := .nil
noncomputable def f92 (k : El I64) : Option (ElA oa92 × ElH oh92) :=
  bif decide (k = 1) then
    some ((1, ()), ())
  else
    bif decide (k = 2) then
      some ((1, ()), ())
    else
      bif decide (k = 5) then
        some ((1, ()), ())
      else
        bif decide (k = 3) then
          some ((2, ()), ())
        else
          bif decide (k = 6) then
            some ((2, ()), ())
          else
            bif decide (k = 4) then
              some ((4, ()), ())
            else
              bif decide (k = 7) then
                some ((4, ()), ())
              else
                some ((0, ()), ())
noncomputable def s92 : Ab.Spec := ⟨ia92, ih92, oa92, oh92, fun x => f92 x.1.1⟩
noncomputable abbrev ls92 : List (Code × Option Frag) := []
theorem fn92 : ∀ x, funcA Try.prog (mkK lk92) (mkL ls92) Try.f92 ⟨ia92, ih92, oa92, oh92⟩ x = s92.F x := fun x => by kernel_rfl
theorem ok92 : SpecOk Try.prog 92 s92 := spec_gen hmix hk92 (ls := ls92) (code := c92) (fn := Try.f92) (by kernel_rfl) (by kernel_rfl) (by kernel_rfl) (by kernel_rfl) trivial (by kernel_rfl) (g := ⟨ia92, ih92, oa92, oh92⟩) rfl s92.F fn92

/-! f120 tripwire/value.numbers -/
noncomputable def c120 : Code := codeOf Try.f120
noncomputable abbrev lk120 : List (FuncId × Ab.Spec) := [(92, s92)]
theorem hk120 : AllOk Try.prog lk120 := ⟨ok92, trivial⟩
abbrev ia120 : AP := .cons (.val ySpec) .nil
abbrev ih120 : HP := .nil
abbrev oa120 : AP := .cons (.val .bool) .nil
abbrev oh120 : HP := .nil
noncomputable def f120 (s : El ySpec) : Option (ElA oa120 × ElH oh120) :=
  (f92 s.1).bind fun r1 =>
  some ((decide ((0 : Int) < r1.1.1), ()), ())
noncomputable def s120 : Ab.Spec := ⟨ia120, ih120, oa120, oh120, fun x => f120 x.1.1⟩
noncomputable abbrev ls120 : List (Code × Option Frag) := []
theorem fn120 : ∀ x, funcA Try.prog (mkK lk120) (mkL ls120) Try.f120 ⟨ia120, ih120, oa120, oh120⟩ x = s120.F x := fun x => by kernel_rfl
theorem ok120 : SpecOk Try.prog 120 s120 := spec_gen hmix hk120 (ls := ls120) (code := c120) (fn := Try.f120) (by kernel_rfl) (by kernel_rfl) (by kernel_rfl) (by kernel_rfl) trivial (by kernel_rfl) (g := ⟨ia120, ih120, oa120, oh120⟩) rfl s120.F fn120

/-! f141 tripwire/word.signed -/
noncomputable def c141 : Code := codeOf Try.f141
noncomputable abbrev lk141 : List (FuncId × Ab.Spec) := []
theorem hk141 : AllOk Try.prog lk141 := trivial
abbrev ia141 : AP := .cons (.val I64) .nil
abbrev ih141 : HP := .nil
abbrev oa141 : AP := .cons (.val .bool) .nil
abbrev oh141 : HP := .nil
noncomputable def f141 (k : El I64) : Option (ElA oa141 × ElH oh141) :=
  bif !(decide (k = 5)) then
    bif !(decide (k = 6)) then
      some ((decide (k = 7), ()), ())
    else
      some ((true, ()), ())
  else
    some ((true, ()), ())
noncomputable def s141 : Ab.Spec := ⟨ia141, ih141, oa141, oh141, fun x => f141 x.1.1⟩
noncomputable abbrev ls141 : List (Code × Option Frag) := []
theorem fn141 : ∀ x, funcA Try.prog (mkK lk141) (mkL ls141) Try.f141 ⟨ia141, ih141, oa141, oh141⟩ x = s141.F x := fun x => by kernel_rfl
theorem ok141 : SpecOk Try.prog 141 s141 := spec_gen hmix hk141 (ls := ls141) (code := c141) (fn := Try.f141) (by kernel_rfl) (by kernel_rfl) (by kernel_rfl) (by kernel_rfl) trivial (by kernel_rfl) (g := ⟨ia141, ih141, oa141, oh141⟩) rfl s141.F fn141

/-! f140 tripwire/word.Low -/
noncomputable def c140 : Code := codeOf Try.f140
noncomputable abbrev lk140 : List (FuncId × Ab.Spec) := [(141, s141), (92, s92)]
theorem hk140 : AllOk Try.prog lk140 := ⟨ok141, ok92, trivial⟩
abbrev ia140 : AP := .cons (.val I64) .nil
abbrev ih140 : HP := .nil
abbrev oa140 : AP := .cons (.val I64) .nil
abbrev oh140 : HP := .nil
noncomputable def f140 (k : El I64) : Option (ElA oa140 × ElH oh140) :=
  (f141 k).bind fun r1 =>
  bif !r1.1.1 then
    some ((0, ()), ())
  else
    (f92 k).bind fun r2 =>
    bif decide ((0 : Int) ≤ IntKind.wrap .i64 (IntKind.wrap .i64 (8 * r2.1.1) - 1)) then
      some ((IntKind.wrap .i64 ((-1) * 2 ^ min (IntKind.wrap .i64 (IntKind.wrap .i64 (8 * r2.1.1) - 1)).toNat 64), ()), ())
    else none
noncomputable def s140 : Ab.Spec := ⟨ia140, ih140, oa140, oh140, fun x => f140 x.1.1⟩
noncomputable abbrev ls140 : List (Code × Option Frag) := []
theorem fn140 : ∀ x, funcA Try.prog (mkK lk140) (mkL ls140) Try.f140 ⟨ia140, ih140, oa140, oh140⟩ x = s140.F x := fun x => by kernel_rfl
theorem ok140 : SpecOk Try.prog 140 s140 := spec_gen hmix hk140 (ls := ls140) (code := c140) (fn := Try.f140) (by kernel_rfl) (by kernel_rfl) (by kernel_rfl) (by kernel_rfl) trivial (by kernel_rfl) (g := ⟨ia140, ih140, oa140, oh140⟩) rfl s140.F fn140

/-! f138 tripwire/word.High -/
noncomputable def c138 : Code := codeOf Try.f138
noncomputable abbrev lk138 : List (FuncId × Ab.Spec) := [(141, s141), (92, s92)]
theorem hk138 : AllOk Try.prog lk138 := ⟨ok141, ok92, trivial⟩
abbrev ia138 : AP := .cons (.val I64) .nil
abbrev ih138 : HP := .nil
abbrev oa138 : AP := .cons (.val I64) .nil
abbrev oh138 : HP := .nil
noncomputable def f138 (k : El I64) : Option (ElA oa138 × ElH oh138) :=
  bif decide (k = 1) then
    some ((1, ()), ())
  else
    (f141 k).bind fun r1 =>
    bif r1.1.1 then
      (f92 k).bind fun r2 =>
      bif decide ((0 : Int) ≤ IntKind.wrap .i64 (IntKind.wrap .i64 (8 * r2.1.1) - 1)) then
        some ((IntKind.wrap .i64 (IntKind.wrap .i64 (1 * 2 ^ min (IntKind.wrap .i64 (IntKind.wrap .i64 (8 * r2.1.1) - 1)).toNat 64) - 1), ()), ())
      else none
    else
      (f92 k).bind fun r3 =>
      bif decide ((0 : Int) ≤ IntKind.wrap .i64 (8 * r3.1.1)) then
        some ((IntKind.wrap .i64 (IntKind.wrap .i64 (1 * 2 ^ min (IntKind.wrap .i64 (8 * r3.1.1)).toNat 64) - 1), ()), ())
      else none
noncomputable def s138 : Ab.Spec := ⟨ia138, ih138, oa138, oh138, fun x => f138 x.1.1⟩
noncomputable abbrev ls138 : List (Code × Option Frag) := []
theorem fn138 : ∀ x, funcA Try.prog (mkK lk138) (mkL ls138) Try.f138 ⟨ia138, ih138, oa138, oh138⟩ x = s138.F x := fun x => by kernel_rfl
theorem ok138 : SpecOk Try.prog 138 s138 := spec_gen hmix hk138 (ls := ls138) (code := c138) (fn := Try.f138) (by kernel_rfl) (by kernel_rfl) (by kernel_rfl) (by kernel_rfl) trivial (by kernel_rfl) (g := ⟨ia138, ih138, oa138, oh138⟩) rfl s138.F fn138

/-! f131 tripwire/word.Fits -/
noncomputable def c131 : Code := codeOf Try.f131
noncomputable abbrev lk131 : List (FuncId × Ab.Spec) := [(92, s92), (140, s140), (138, s138)]
theorem hk131 : AllOk Try.prog lk131 := ⟨ok92, ok140, ok138, trivial⟩
abbrev ia131 : AP := .cons (.val I64) (.cons (.val I64) .nil)
abbrev ih131 : HP := .nil
abbrev oa131 : AP := .cons (.val .bool) .nil
abbrev oh131 : HP := .nil
noncomputable def f131 (k : El I64) (n : El I64) : Option (ElA oa131 × ElH oh131) :=
  (f92 k).bind fun r1 =>
  bif decide ((0 : Int) < r1.1.1) then
    (f140 k).bind fun r2 =>
    bif decide (r2.1.1 ≤ n) then
      (f138 k).bind fun r3 =>
      some ((decide (n ≤ r3.1.1), ()), ())
    else
      some ((false, ()), ())
  else
    some ((false, ()), ())
noncomputable def s131 : Ab.Spec := ⟨ia131, ih131, oa131, oh131, fun x => f131 x.1.1 x.1.2.1⟩
noncomputable abbrev ls131 : List (Code × Option Frag) := []
theorem fn131 : ∀ x, funcA Try.prog (mkK lk131) (mkL ls131) Try.f131 ⟨ia131, ih131, oa131, oh131⟩ x = s131.F x := fun x => by kernel_rfl
theorem ok131 : SpecOk Try.prog 131 s131 := spec_gen hmix hk131 (ls := ls131) (code := c131) (fn := Try.f131) (by kernel_rfl) (by kernel_rfl) (by kernel_rfl) (by kernel_rfl) trivial (by kernel_rfl) (g := ⟨ia131, ih131, oa131, oh131⟩) rfl s131.F fn131

/-! f112 tripwire/value.May -/
noncomputable def c112 : Code := codeOf Try.f112
noncomputable abbrev lk112 : List (FuncId × Ab.Spec) := [(120, s120), (131, s131)]
theorem hk112 : AllOk Try.prog lk112 := ⟨ok120, ok131, trivial⟩
abbrev ia112 : AP := .cons (.val ySpec) .nil
abbrev ih112 : HP := .nil
abbrev oa112 : AP := .cons (.val .bool) .nil
abbrev oh112 : HP := .nil
noncomputable def f112 (s : El ySpec) : Option (ElA oa112 × ElH oh112) :=
  bif !(decide (s.2.1 < 1)) then
    bif !(decide ((4 : Int) < s.2.1)) then
      bif decide (s.2.2.2.1 < s.2.2.1) then
        some ((false, ()), ())
      else
        (f120 s).bind fun r1 =>
        bif r1.1.1 then
          (f131 s.1 s.2.2.1).bind fun r2 =>
          bif r2.1.1 then
            (f131 s.1 s.2.2.2.1).bind fun r3 =>
            some ((r3.1.1, ()), ())
          else
            some ((false, ()), ())
        else
          bif decide (s.1 = 8) then
            bif decide ((0 : Int) ≤ s.2.2.1) then
              some ((decide (s.2.2.2.1 ≤ 64), ()), ())
            else
              some ((false, ()), ())
          else
            some ((false, ()), ())
    else
      some ((false, ()), ())
  else
    some ((false, ()), ())
noncomputable def s112 : Ab.Spec := ⟨ia112, ih112, oa112, oh112, fun x => f112 x.1.1⟩
noncomputable abbrev ls112 : List (Code × Option Frag) := []
theorem fn112 : ∀ x, funcA Try.prog (mkK lk112) (mkL ls112) Try.f112 ⟨ia112, ih112, oa112, oh112⟩ x = s112.F x := fun x => by kernel_rfl
theorem ok112 : SpecOk Try.prog 112 s112 := spec_gen hmix hk112 (ls := ls112) (code := c112) (fn := Try.f112) (by kernel_rfl) (by kernel_rfl) (by kernel_rfl) (by kernel_rfl) trivial (by kernel_rfl) (g := ⟨ia112, ih112, oa112, oh112⟩) rfl s112.F fn112

/-! f134 tripwire/value.length -/
noncomputable def c134 : Code := codeOf Try.f134
noncomputable abbrev lk134 : List (FuncId × Ab.Spec) := []
theorem hk134 : AllOk Try.prog lk134 := trivial
abbrev ia134 : AP := .cons (.val I64) (.cons (.val I64) (.cons (.val I64) .nil))
abbrev ih134 : HP := .nil
abbrev oa134 : AP := .cons (.val I64) .nil
abbrev oh134 : HP := .nil
noncomputable def f134 (n : El I64) (low : El I64) (high : El I64) : Option (ElA oa134 × ElH oh134) :=
  bif decide (n < low) then
    some ((101122067, ()), ())
  else
    bif decide (high < n) then
      some ((101122066, ()), ())
    else
      some ((0, ()), ())
noncomputable def s134 : Ab.Spec := ⟨ia134, ih134, oa134, oh134, fun x => f134 x.1.1 x.1.2.1 x.1.2.2.1⟩
noncomputable abbrev ls134 : List (Code × Option Frag) := []
theorem fn134 : ∀ x, funcA Try.prog (mkK lk134) (mkL ls134) Try.f134 ⟨ia134, ih134, oa134, oh134⟩ x = s134.F x := fun x => by kernel_rfl
theorem ok134 : SpecOk Try.prog 134 s134 := spec_gen hmix hk134 (ls := ls134) (code := c134) (fn := Try.f134) (by kernel_rfl) (by kernel_rfl) (by kernel_rfl) (by kernel_rfl) trivial (by kernel_rfl) (g := ⟨ia134, ih134, oa134, oh134⟩) rfl s134.F fn134

/-! f133 tripwire/word.Get -/
noncomputable def c133 : Code := codeOf Try.f133
noncomputable abbrev lk133 : List (FuncId × Ab.Spec) := [(92, s92), (141, s141), (138, s138), (131, s131)]
theorem hk133 : AllOk Try.prog lk133 := ⟨ok92, ok141, ok138, ok131, trivial⟩
noncomputable def b133_0 : Code := (loopsL c133).getD 0 .skip
abbrev tp133_0 : TP := .cons 0 (.val I64) (.cons 1 (.val (.sl U8)) (.cons 7 (.val I64) (.cons 20 (.val (.sl U8)) (.cons 21 (.val I64) (.cons 22 (.val I64) .nil)))))
abbrev hp133_0 : HP := .skip (.skip (.skip (.skip .nil)))
abbrev xp133_0 : XP := .cons (.exit 1) (.cons 0 (.val I64) (.cons 1 (.val (.sl U8)) (.cons 7 (.val I64) .nil))) (.skip (.skip (.skip (.skip .nil)))) .nil
noncomputable def R133_0 (k : El I64) (b : El (.sl U8)) (n : El I64) (t20 : El (.sl U8)) (t21 : El I64) (t22 : El I64) : Option ((ElT tp133_0 × ElH hp133_0) ⊕ ElX xp133_0) :=
  bif decide (t22 < t21) then
    bif idxOk t22 (olen t20) then
      bif decide ((0 : Int) ≤ IntKind.wrap .i64 (8 * t22)) then
        some (.inl ((k, b, bitsF .or .i64 n (IntKind.wrap .i64 (IntKind.wrap .i64 (oget t20 t22.toNat (zero U8)) * 2 ^ min (IntKind.wrap .i64 (8 * t22)).toNat 64)), t20, t21, IntKind.wrap .i64 (t22 + 1), ()), ()))
      else none
    else none
  else
    some (.inr (.inl ((k, b, n, ()), ())))
noncomputable def r133_0 (x : ElT tp133_0 × ElH hp133_0) : Option ((ElT tp133_0 × ElH hp133_0) ⊕ ElX xp133_0) := R133_0 x.1.1 x.1.2.1 x.1.2.2.1 x.1.2.2.2.1 x.1.2.2.2.2.1 x.1.2.2.2.2.2.1
noncomputable def g133_0 (k : El I64) (b : El (.sl U8)) (n : El I64) (t20 : El (.sl U8)) (t21 : El I64) (t22 : El I64) : Option (ElX xp133_0) := iterR r133_0 FU ((k, b, n, t20, t21, t22, ()), ())
noncomputable abbrev ls133_0 : List (Code × Option Frag) := []
noncomputable def F133_0 : Frag := ⟨4, [], tp133_0, hp133_0, xp133_0, 54, fun x => iterR r133_0 FU x⟩
theorem rd133_0 : ∀ x, roundA Try.prog (mkK lk133) (mkL ls133_0) b133_0 tp133_0 hp133_0 xp133_0 54 x = r133_0 x := fun x => by kernel_rfl
theorem fo133_0 : FragOk Try.prog F133_0 b133_0 := frag_gen hmix hk133 (ls := ls133_0) (by kernel_rfl) trivial (by kernel_rfl) r133_0 rd133_0 (by kernel_rfl)
abbrev ia133 : AP := .cons (.val I64) (.cons (.val (.sl U8)) .nil)
abbrev ih133 : HP := .nil
abbrev oa133 : AP := .cons (.val I64) (.cons (.val I64) .nil)
abbrev oh133 : HP := .nil
noncomputable def f133 (k : El I64) (b : El (.sl U8)) : Option (ElA oa133 × ElH oh133) :=
  (f92 k).bind fun r1 =>
  bif decide (r1.1.1 = 0) then
    some ((0, 2, ()), ())
  else
    bif !(decide (olen b = r1.1.1)) then
      some ((0, 11, ()), ())
    else
      (g133_0 k b 0 b (olen b) 0).bind fun r2 => match r2 with
      | .inl y3 =>
        (f141 y3.1.1).bind fun r4 =>
        bif r4.1.1 then
          (f138 y3.1.1).bind fun r5 =>
          bif decide (r5.1.1 < y3.1.2.2.1) then
            bif decide ((0 : Int) ≤ IntKind.wrap .i64 (8 * olen y3.1.2.1)) then
              (f131 y3.1.1 (IntKind.wrap .i64 (y3.1.2.2.1 - IntKind.wrap .i64 (1 * 2 ^ min (IntKind.wrap .i64 (8 * olen y3.1.2.1)).toNat 64)))).bind fun r6 =>
              bif !r6.1.1 then
                some ((0, 4, ()), ())
              else
                some ((IntKind.wrap .i64 (y3.1.2.2.1 - IntKind.wrap .i64 (1 * 2 ^ min (IntKind.wrap .i64 (8 * olen y3.1.2.1)).toNat 64)), 0, ()), ())
            else none
          else
            (f131 y3.1.1 y3.1.2.2.1).bind fun r7 =>
            bif !r7.1.1 then
              some ((0, 4, ()), ())
            else
              some ((y3.1.2.2.1, 0, ()), ())
        else
          (f131 y3.1.1 y3.1.2.2.1).bind fun r8 =>
          bif !r8.1.1 then
            some ((0, 4, ()), ())
          else
            some ((y3.1.2.2.1, 0, ()), ())
noncomputable def s133 : Ab.Spec := ⟨ia133, ih133, oa133, oh133, fun x => f133 x.1.1 x.1.2.1⟩
noncomputable abbrev ls133 : List (Code × Option Frag) := [(b133_0, some F133_0)]
theorem fn133 : ∀ x, funcA Try.prog (mkK lk133) (mkL ls133) Try.f133 ⟨ia133, ih133, oa133, oh133⟩ x = s133.F x := fun x => by kernel_rfl
theorem ok133 : SpecOk Try.prog 133 s133 := spec_gen hmix hk133 (ls := ls133) (code := c133) (fn := Try.f133) (by kernel_rfl) (by kernel_rfl) (by kernel_rfl) (by kernel_rfl) ⟨fo133_0, trivial⟩ (by kernel_rfl) (g := ⟨ia133, ih133, oa133, oh133⟩) rfl s133.F fn133

/-! f104 tripwire/value.Fits -/
noncomputable def c104 : Code := codeOf Try.f104
noncomputable abbrev lk104 : List (FuncId × Ab.Spec) := [(112, s112), (120, s120), (134, s134), (92, s92), (133, s133)]
theorem hk104 : AllOk Try.prog lk104 := ⟨ok112, ok120, ok134, ok92, ok133, trivial⟩
abbrev ia104 : AP := .cons (.val ySpec) (.cons (.val (.sl U8)) .nil)
abbrev ih104 : HP := .nil
abbrev oa104 : AP := .cons (.val I64) .nil
abbrev oh104 : HP := .nil
noncomputable def f104 (s : El ySpec) (b : El (.sl U8)) : Option (ElA oa104 × ElH oh104) :=
  (f112 s).bind fun r1 =>
  bif !r1.1.1 then
    some ((134217728, ()), ())
  else
    (f120 s).bind fun r2 =>
    bif !r2.1.1 then
      (f134 (olen b) s.2.2.1 s.2.2.2.1).bind fun r3 =>
      some ((r3.1.1, ()), ())
    else
      (f92 s.1).bind fun r4 =>
      (f134 (olen b) r4.1.1 r4.1.1).bind fun r5 =>
      bif !(decide (r5.1.1 = 0)) then
        some ((r5.1.1, ()), ())
      else
        (f133 s.1 b).bind fun r6 =>
        bif !(decide (r6.1.2.1 = 0)) then
          some ((101253168, ()), ())
        else
          bif decide (s.2.2.2.1 < r6.1.1) then
            some ((101253169, ()), ())
          else
            bif decide (r6.1.1 < s.2.2.1) then
              some ((101253170, ()), ())
            else
              some ((0, ()), ())
noncomputable def s104 : Ab.Spec := ⟨ia104, ih104, oa104, oh104, fun x => f104 x.1.1 x.1.2.1⟩
noncomputable abbrev ls104 : List (Code × Option Frag) := []
theorem fn104 : ∀ x, funcA Try.prog (mkK lk104) (mkL ls104) Try.f104 ⟨ia104, ih104, oa104, oh104⟩ x = s104.F x := fun x => by kernel_rfl
theorem ok104 : SpecOk Try.prog 104 s104 := spec_gen hmix hk104 (ls := ls104) (code := c104) (fn := Try.f104) (by kernel_rfl) (by kernel_rfl) (by kernel_rfl) (by kernel_rfl) trivial (by kernel_rfl) (g := ⟨ia104, ih104, oa104, oh104⟩) rfl s104.F fn104

/-! f121 tripwire/word.Put -/
noncomputable def c121 : Code := codeOf Try.f121
noncomputable abbrev lk121 : List (FuncId × Ab.Spec) := [(131, s131), (92, s92)]
theorem hk121 : AllOk Try.prog lk121 := ⟨ok131, ok92, trivial⟩
noncomputable def b121_0 : Code := (loopsL c121).getD 0 .skip
abbrev tp121_0 : TP := .cons 1 (.val I64) (.cons 6 (.hs 8) (.cons 16 (.val I64) (.cons 17 (.val I64) .nil)))
abbrev hp121_0 : HP := .skip (.skip (.skip (.skip (.skip (.skip (.skip (.skip (.row 5 U8 false .nil))))))))
abbrev xp121_0 : XP := .cons (.exit 0) (.cons 6 (.hs 8) .nil) (.skip (.skip (.skip (.skip (.skip (.skip (.skip (.skip (.row 5 U8 false .nil))))))))) .nil
noncomputable def R121_0 (n : El I64) (t16 : El I64) (t17 : El I64) (b : List (El U8)) : Option ((ElT tp121_0 × ElH hp121_0) ⊕ ElX xp121_0) :=
  bif decide (t17 < t16) then
    bif decide ((0 : Int) ≤ IntKind.wrap .i64 (8 * t17)) then
      bif idxOk t17 (dlen b : Int) then
        some (.inl ((n, (), t16, IntKind.wrap .i64 (t17 + 1), ()), dset b t17.toNat (IntKind.wrap .u8 (Int.fdiv n (2 ^ min (IntKind.wrap .i64 (8 * t17)).toNat 64))), ()))
      else none
    else none
  else
    some (.inr (.inl (((), ()), b, ())))
noncomputable def r121_0 (x : ElT tp121_0 × ElH hp121_0) : Option ((ElT tp121_0 × ElH hp121_0) ⊕ ElX xp121_0) := R121_0 x.1.1 x.1.2.2.1 x.1.2.2.2.1 x.2.1
noncomputable def g121_0 (n : El I64) (t16 : El I64) (t17 : El I64) (b : List (El U8)) : Option (ElX xp121_0) := iterR r121_0 FU ((n, (), t16, t17, ()), b, ())
noncomputable abbrev ls121_0 : List (Code × Option Frag) := []
noncomputable def F121_0 : Frag := ⟨9, [], tp121_0, hp121_0, xp121_0, 30, fun x => iterR r121_0 FU x⟩
theorem rd121_0 : ∀ x, roundA Try.prog (mkK lk121) (mkL ls121_0) b121_0 tp121_0 hp121_0 xp121_0 30 x = r121_0 x := fun x => by kernel_rfl
theorem fo121_0 : FragOk Try.prog F121_0 b121_0 := frag_gen hmix hk121 (ls := ls121_0) (by kernel_rfl) trivial (by kernel_rfl) r121_0 rd121_0 (by kernel_rfl)
abbrev ia121 : AP := .cons (.val I64) (.cons (.val I64) .nil)
abbrev ih121 : HP := .nil
abbrev oa121 : AP := .cons (.val (.sl U8)) (.cons (.val I64) .nil)
abbrev oh121 : HP := .nil
noncomputable def f121 (k : El I64) (n : El I64) : Option (ElA oa121 × ElH oh121) :=
  (f131 k n).bind fun r1 =>
  bif !r1.1.1 then
    some ((none, 2, ()), ())
  else
    (f92 k).bind fun r2 =>
    bif decide (0 ≤ r2.1.1) && (decide (r2.1.1 ≤ r2.1.1) && decide (r2.1.1 * 1 ≤ 140737488355328)) then
      (g121_0 n (dlen (drep r2.1.1.toNat (zero U8)) : Int) 0 (drep r2.1.1.toNat (zero U8))).bind fun r3 => match r3 with
      | .inl y4 =>
        some ((some y4.2.1, 0, ()), ())
    else none
noncomputable def s121 : Ab.Spec := ⟨ia121, ih121, oa121, oh121, fun x => f121 x.1.1 x.1.2.1⟩
noncomputable abbrev ls121 : List (Code × Option Frag) := [(b121_0, some F121_0)]
theorem fn121 : ∀ x, funcA Try.prog (mkK lk121) (mkL ls121) Try.f121 ⟨ia121, ih121, oa121, oh121⟩ x = s121.F x := fun x => by kernel_rfl
theorem ok121 : SpecOk Try.prog 121 s121 := spec_gen hmix hk121 (ls := ls121) (code := c121) (fn := Try.f121) (by kernel_rfl) (by kernel_rfl) (by kernel_rfl) (by kernel_rfl) ⟨fo121_0, trivial⟩ (by kernel_rfl) (g := ⟨ia121, ih121, oa121, oh121⟩) rfl s121.F fn121

/-! f113 tripwire/value.First -/
noncomputable def c113 : Code := codeOf Try.f113
noncomputable abbrev lk113 : List (FuncId × Ab.Spec) := [(112, s112), (120, s120), (121, s121)]
theorem hk113 : AllOk Try.prog lk113 := ⟨ok112, ok120, ok121, trivial⟩
abbrev ia113 : AP := .cons (.val ySpec) .nil
abbrev ih113 : HP := .nil
abbrev oa113 : AP := .cons (.val (.sl U8)) .nil
abbrev oh113 : HP := .nil
noncomputable def f113 (s : El ySpec) : Option (ElA oa113 × ElH oh113) :=
  (f112 s).bind fun r1 =>
  bif !r1.1.1 then
    some ((none, ()), ())
  else
    (f120 s).bind fun r2 =>
    bif !r2.1.1 then
      bif decide (0 ≤ s.2.2.1) && (decide (s.2.2.1 ≤ s.2.2.1) && decide (s.2.2.1 * 1 ≤ 140737488355328)) then
        some ((some (drep s.2.2.1.toNat (zero U8)), ()), ())
      else none
    else
      (f121 s.1 (if s.2.2.2.1 < (if 0 < s.2.2.1 then s.2.2.1 else 0) then s.2.2.2.1 else (if 0 < s.2.2.1 then s.2.2.1 else 0))).bind fun r3 =>
      some ((r3.1.1, ()), ())
noncomputable def s113 : Ab.Spec := ⟨ia113, ih113, oa113, oh113, fun x => f113 x.1.1⟩
noncomputable abbrev ls113 : List (Code × Option Frag) := []
theorem fn113 : ∀ x, funcA Try.prog (mkK lk113) (mkL ls113) Try.f113 ⟨ia113, ih113, oa113, oh113⟩ x = s113.F x := fun x => by kernel_rfl
theorem ok113 : SpecOk Try.prog 113 s113 := spec_gen hmix hk113 (ls := ls113) (code := c113) (fn := Try.f113) (by kernel_rfl) (by kernel_rfl) (by kernel_rfl) (by kernel_rfl) trivial (by kernel_rfl) (g := ⟨ia113, ih113, oa113, oh113⟩) rfl s113.F fn113

/-! f135 (*tripwire/shelf.Shelf[int, tripwire/dict.entry]).Place -/
noncomputable def c135 : Code := codeOf Try.f135
noncomputable abbrev lk135 : List (FuncId × Ab.Spec) := []
theorem hk135 : AllOk Try.prog lk135 := trivial
noncomputable def b135_0 : Code := (loopsL c135).getD 0 .skip
abbrev tp135_0 : TP := .cons 0 (.ptr 0) (.cons 1 (.val I64) (.cons 6 (.val I64) (.cons 7 (.val I64) .nil)))
abbrev hp135_0 : HP := .box (.cons (.hs 1) .nil) (.row 230 yShRow true .nil)
abbrev xp135_0 : XP := .cons (.exit 0) (.cons 0 (.ptr 0) (.cons 1 (.val I64) (.cons 6 (.val I64) .nil))) (.box (.cons (.hs 1) .nil) (.row 230 yShRow true .nil)) .nil
noncomputable def R135_0 (k : El I64) (lo : El I64) (hi : El I64) (h1 : List (El yShRow)) : Option ((ElT tp135_0 × ElH hp135_0) ⊕ ElX xp135_0) :=
  bif decide (lo < hi) then
    bif idxOk (IntKind.wrap .i64 (Int.tdiv (IntKind.wrap .i64 (lo + hi)) 2)) (dlen h1 : Int) then
      bif decide ((dget h1 ((IntKind.wrap .i64 (Int.tdiv (IntKind.wrap .i64 (lo + hi)) 2)).toNat) (zero yShRow)).1 < k) then
        some (.inl (((), k, IntKind.wrap .i64 (IntKind.wrap .i64 (Int.tdiv (IntKind.wrap .i64 (lo + hi)) 2) + 1), hi, ()), ((), ()), h1, ()))
      else
        some (.inl (((), k, lo, IntKind.wrap .i64 (Int.tdiv (IntKind.wrap .i64 (lo + hi)) 2), ()), ((), ()), h1, ()))
    else none
  else
    some (.inr (.inl (((), k, lo, ()), ((), ()), h1, ())))
noncomputable def r135_0 (x : ElT tp135_0 × ElH hp135_0) : Option ((ElT tp135_0 × ElH hp135_0) ⊕ ElX xp135_0) := R135_0 x.1.2.1 x.1.2.2.1 x.1.2.2.2.1 x.2.2.1
noncomputable def g135_0 (k : El I64) (lo : El I64) (hi : El I64) (h1 : List (El yShRow)) : Option (ElX xp135_0) := iterR r135_0 FU (((), k, lo, hi, ()), ((), ()), h1, ())
noncomputable abbrev ls135_0 : List (Code × Option Frag) := []
noncomputable def F135_0 : Frag := ⟨2, [], tp135_0, hp135_0, xp135_0, 61, fun x => iterR r135_0 FU x⟩
theorem rd135_0 : ∀ x, roundA Try.prog (mkK lk135) (mkL ls135_0) b135_0 tp135_0 hp135_0 xp135_0 61 x = r135_0 x := fun x => by kernel_rfl
theorem fo135_0 : FragOk Try.prog F135_0 b135_0 := frag_gen hmix hk135 (ls := ls135_0) (by kernel_rfl) trivial (by kernel_rfl) r135_0 rd135_0 (by kernel_rfl)
abbrev ia135 : AP := .cons (.ptr 0) (.cons (.val I64) .nil)
abbrev ih135 : HP := .box (.cons (.hs 1) .nil) (.row 230 yShRow true .nil)
abbrev oa135 : AP := .cons (.val I64) (.cons (.val .bool) .nil)
abbrev oh135 : HP := .box (.cons (.hs 1) .nil) (.row 230 yShRow true .nil)
noncomputable def f135 (k : El I64) (h1 : List (El yShRow)) : Option (ElA oa135 × ElH oh135) :=
  bif !(decide (k = k)) then
    some ((0, false, ()), ((), ()), h1, ())
  else
    (g135_0 k 0 (dlen h1 : Int) h1).bind fun r1 => match r1 with
    | .inl y2 =>
      bif decide (y2.1.2.2.1 < (dlen y2.2.2.1 : Int)) then
        bif idxOk y2.1.2.2.1 (dlen y2.2.2.1 : Int) then
          some ((y2.1.2.2.1, decide ((dget y2.2.2.1 y2.1.2.2.1.toNat (zero yShRow)).1 = y2.1.2.1), ()), ((), ()), y2.2.2.1, ())
        else none
      else
        some ((y2.1.2.2.1, false, ()), ((), ()), y2.2.2.1, ())
noncomputable def s135 : Ab.Spec := ⟨ia135, ih135, oa135, oh135, fun x => f135 x.1.2.1 x.2.2.1⟩
noncomputable abbrev ls135 : List (Code × Option Frag) := [(b135_0, some F135_0)]
theorem fn135 : ∀ x, funcA Try.prog (mkK lk135) (mkL ls135) Try.f135 ⟨ia135, ih135, oa135, oh135⟩ x = s135.F x := fun x => by kernel_rfl
theorem ok135 : SpecOk Try.prog 135 s135 := spec_gen hmix hk135 (ls := ls135) (code := c135) (fn := Try.f135) (by kernel_rfl) (by kernel_rfl) (by kernel_rfl) (by kernel_rfl) ⟨fo135_0, trivial⟩ (by kernel_rfl) (g := ⟨ia135, ih135, oa135, oh135⟩) rfl s135.F fn135

/-! f106 (*tripwire/shelf.Shelf[int, tripwire/dict.entry]).Get -/
noncomputable def c106 : Code := codeOf Try.f106
noncomputable abbrev lk106 : List (FuncId × Ab.Spec) := [(135, s135)]
theorem hk106 : AllOk Try.prog lk106 := ⟨ok135, trivial⟩
abbrev ia106 : AP := .cons (.ptr 0) (.cons (.val I64) .nil)
abbrev ih106 : HP := .box (.cons (.hs 1) .nil) (.row 230 yShRow true .nil)
abbrev oa106 : AP := .cons (.val yEntrydict) (.cons (.val .bool) .nil)
abbrev oh106 : HP := .box (.cons (.hs 1) .nil) (.row 230 yShRow true .nil)
noncomputable def f106 (k : El I64) (h1 : List (El yShRow)) : Option (ElA oa106 × ElH oh106) :=
  (f135 k h1).bind fun r1 =>
  bif !r1.1.2.1 then
    some ((((0, 0, 0, 0, ()), none, ()), false, ()), ((), ()), r1.2.2.1, ())
  else
    bif idxOk r1.1.1 (dlen r1.2.2.1 : Int) then
      some ((((dget r1.2.2.1 r1.1.1.toNat (zero yShRow)).2).1, true, ()), ((), ()), r1.2.2.1, ())
    else none
noncomputable def s106 : Ab.Spec := ⟨ia106, ih106, oa106, oh106, fun x => f106 x.1.2.1 x.2.2.1⟩
noncomputable abbrev ls106 : List (Code × Option Frag) := []
theorem fn106 : ∀ x, funcA Try.prog (mkK lk106) (mkL ls106) Try.f106 ⟨ia106, ih106, oa106, oh106⟩ x = s106.F x := fun x => by kernel_rfl
theorem ok106 : SpecOk Try.prog 106 s106 := spec_gen hmix hk106 (ls := ls106) (code := c106) (fn := Try.f106) (by kernel_rfl) (by kernel_rfl) (by kernel_rfl) (by kernel_rfl) trivial (by kernel_rfl) (g := ⟨ia106, ih106, oa106, oh106⟩) rfl s106.F fn106

/-! f53 (*tripwire/dict.Dict).find -/
noncomputable def c53 : Code := codeOf Try.f53
noncomputable abbrev lk53 : List (FuncId × Ab.Spec) := [(107, s107), (106, s106)]
theorem hk53 : AllOk Try.prog lk53 := ⟨ok107, ok106, trivial⟩
abbrev ia53 : AP := .cons (.ptr 0) (.cons (.val yKey) .nil)
abbrev ih53 : HP := .box (.cons (.ptr 1) (.cons (.val I64) .nil)) (.box (.cons (.hs 2) .nil) (.row 230 yShRow true .nil))
abbrev oa53 : AP := .cons (.val yEntrydict) (.cons (.val .bool) .nil)
abbrev oh53 : HP := .box (.cons (.ptr 1) (.cons (.val I64) .nil)) (.box (.cons (.hs 2) .nil) (.row 230 yShRow true .nil))
noncomputable def f53 (k : El yKey) (d : El I64) (h2 : List (El yShRow)) : Option (ElA oa53 × ElH oh53) :=
  (f107 k).bind fun r1 =>
  (f106 r1.1.1 h2).bind fun r2 =>
  some ((r2.1.1, r2.1.2.1, ()), ((), d, ()), ((), ()), r2.2.2.1, ())
noncomputable def s53 : Ab.Spec := ⟨ia53, ih53, oa53, oh53, fun x => f53 x.1.2.1 x.2.1.2.1 x.2.2.2.1⟩
noncomputable abbrev ls53 : List (Code × Option Frag) := []
theorem fn53 : ∀ x, funcA Try.prog (mkK lk53) (mkL ls53) Try.f53 ⟨ia53, ih53, oa53, oh53⟩ x = s53.F x := fun x => by kernel_rfl
theorem ok53 : SpecOk Try.prog 53 s53 := spec_gen hmix hk53 (ls := ls53) (code := c53) (fn := Try.f53) (by kernel_rfl) (by kernel_rfl) (by kernel_rfl) (by kernel_rfl) trivial (by kernel_rfl) (g := ⟨ia53, ih53, oa53, oh53⟩) rfl s53.F fn53

/-! f114 (*tripwire/shelf.Shelf[int, tripwire/dict.entry]).Len -/
noncomputable def c114 : Code := codeOf Try.f114
noncomputable abbrev lk114 : List (FuncId × Ab.Spec) := []
theorem hk114 : AllOk Try.prog lk114 := trivial
abbrev ia114 : AP := .cons (.ptr 0) .nil
abbrev ih114 : HP := .box (.cons (.hs 1) .nil) (.row 230 yShRow true .nil)
abbrev oa114 : AP := .cons (.val I64) .nil
abbrev oh114 : HP := .box (.cons (.hs 1) .nil) (.row 230 yShRow true .nil)
noncomputable def f114 (h1 : List (El yShRow)) : Option (ElA oa114 × ElH oh114) :=
  some (((dlen h1 : Int), ()), ((), ()), h1, ())
noncomputable def s114 : Ab.Spec := ⟨ia114, ih114, oa114, oh114, fun x => f114 x.2.2.1⟩
noncomputable abbrev ls114 : List (Code × Option Frag) := []
theorem fn114 : ∀ x, funcA Try.prog (mkK lk114) (mkL ls114) Try.f114 ⟨ia114, ih114, oa114, oh114⟩ x = s114.F x := fun x => by kernel_rfl
theorem ok114 : SpecOk Try.prog 114 s114 := spec_gen hmix hk114 (ls := ls114) (code := c114) (fn := Try.f114) (by kernel_rfl) (by kernel_rfl) (by kernel_rfl) (by kernel_rfl) trivial (by kernel_rfl) (g := ⟨ia114, ih114, oa114, oh114⟩) rfl s114.F fn114

/-! f54 bytes.Clone -/
noncomputable def c54 : Code := codeOf Try.f54
noncomputable abbrev lk54 : List (FuncId × Ab.Spec) := []
theorem hk54 : AllOk Try.prog lk54 := trivial
abbrev ia54 : AP := .cons (.val (.sl U8)) .nil
abbrev ih54 : HP := .nil
abbrev oa54 : AP := .cons (.val (.sl U8)) .nil
abbrev oh54 : HP := .nil
noncomputable def f54 (b : El (.sl U8)) : Option (ElA oa54 × ElH oh54) :=
  bif Option.isNone b then
    some ((none, ()), ())
  else
    bif Nat.ble ((dlen ([] : List (El U8)) + dlen (dor b)) * 1) 140737488355328 then
      some ((some (dapp ([] : List (El U8)) (dor b)), ()), ())
    else none
noncomputable def s54 : Ab.Spec := ⟨ia54, ih54, oa54, oh54, fun x => f54 x.1.1⟩
noncomputable abbrev ls54 : List (Code × Option Frag) := []
theorem fn54 : ∀ x, funcA Try.prog (mkK lk54) (mkL ls54) Try.f54 ⟨ia54, ih54, oa54, oh54⟩ x = s54.F x := fun x => by kernel_rfl
theorem ok54 : SpecOk Try.prog 54 s54 := spec_gen hmix hk54 (ls := ls54) (code := c54) (fn := Try.f54) (by kernel_rfl) (by kernel_rfl) (by kernel_rfl) (by kernel_rfl) trivial (by kernel_rfl) (g := ⟨ia54, ih54, oa54, oh54⟩) rfl s54.F fn54

/-! f115 (*tripwire/shelf.Shelf[int, tripwire/dict.entry]).Put -/
noncomputable def c115 : Code := codeOf Try.f115
noncomputable abbrev lk115 : List (FuncId × Ab.Spec) := [(135, s135), (136, s136)]
theorem hk115 : AllOk Try.prog lk115 := ⟨ok135, ok136, trivial⟩
abbrev ia115 : AP := .cons (.ptr 0) (.cons (.val I64) (.cons (.val yEntrydict) .nil))
abbrev ih115 : HP := .box (.cons (.hs 1) .nil) (.row 230 yShRow true .nil)
abbrev oa115 : AP := .cons (.val .bool) .nil
abbrev oh115 : HP := .box (.cons (.hs 1) .nil) (.row 230 yShRow true .nil)
noncomputable def f115 (k : El I64) (v : El yEntrydict) (h1 : List (El yShRow)) : Option (ElA oa115 × ElH oh115) :=
  bif !(decide (k = k)) then
    some ((false, ()), ((), ()), h1, ())
  else
    (f135 k h1).bind fun r1 =>
    bif r1.1.2.1 then
      bif idxOk r1.1.1 (dlen r1.2.2.1 : Int) then
        some ((true, ()), ((), ()), dset r1.2.2.1 r1.1.1.toNat ((dget r1.2.2.1 r1.1.1.toNat (zero yShRow)).1, v, ((dget r1.2.2.1 r1.1.1.toNat (zero yShRow)).2).2), ())
      else none
    else
      (f136 r1.1.1 r1.2.2.1 ([(k, v, ())] : List (El yShRow))).bind fun r2 =>
      some ((false, ()), ((), ()), r2.2.1, ())
noncomputable def s115 : Ab.Spec := ⟨ia115, ih115, oa115, oh115, fun x => f115 x.1.2.1 x.1.2.2.1 x.2.2.1⟩
noncomputable abbrev ls115 : List (Code × Option Frag) := []
theorem fn115 : ∀ x, funcA Try.prog (mkK lk115) (mkL ls115) Try.f115 ⟨ia115, ih115, oa115, oh115⟩ x = s115.F x := fun x => by kernel_rfl
theorem ok115 : SpecOk Try.prog 115 s115 := spec_gen hmix hk115 (ls := ls115) (code := c115) (fn := Try.f115) (by kernel_rfl) (by kernel_rfl) (by kernel_rfl) (by kernel_rfl) trivial (by kernel_rfl) (g := ⟨ia115, ih115, oa115, oh115⟩) rfl s115.F fn115

end Go.Proofs.Ytjmikonopapihaa
