import Derived.Test.YtjmikonopapihaaProg
import Derived.Test.YtjmikonopapihaaAbGen
import Derived.Test.YtjmikonopapihaaGTy
import Derived.Test.YtjmikonopapihaaGH
namespace Go.Proofs.Ytjmikonopapihaa
open Go.Ab
set_option maxRecDepth 100000
set_option maxHeartbeats 1000000

/-! f41 tripwire/dict.New -/
noncomputable def c41 : Code := codeOf Try.f41
noncomputable abbrev lk41 : List (FuncId × Ab.Spec) := [(97, s97)]
theorem hk41 : AllOk Try.prog lk41 := ⟨ok97, trivial⟩
abbrev ia41 : AP := .nil
abbrev ih41 : HP := .nil
abbrev oa41 : AP := .cons (.ptr 0) .nil
abbrev oh41 : HP := .box (.cons (.ptr 1) (.cons (.val I64) .nil)) (.box (.cons (.hs 2) .nil) (.row 230 yShRow true .nil))
noncomputable def f41 : Option (ElA oa41 × ElH oh41) :=
  (f97).bind fun r1 =>
  some (((), ()), ((), 0, ()), ((), ()), r1.2.2.1, ())
noncomputable def s41 : Ab.Spec := ⟨ia41, ih41, oa41, oh41, fun x => f41⟩
noncomputable abbrev ls41 : List (Code × Option Frag) := []
theorem fn41 : ∀ x, funcA Try.prog (mkK lk41) (mkL ls41) Try.f41 ⟨ia41, ih41, oa41, oh41⟩ x = s41.F x := fun x => by kernel_rfl
theorem ok41 : SpecOk Try.prog 41 s41 := spec_gen hmix hk41 (ls := ls41) (code := c41) (fn := Try.f41) (by kernel_rfl) (by kernel_rfl) (by kernel_rfl) (by kernel_rfl) trivial (by kernel_rfl) (g := ⟨ia41, ih41, oa41, oh41⟩) rfl s41.F fn41

/-! f93 tripwire/tripwireref02.Shape -/
noncomputable def c93 : Code := codeOf Try.f93
noncomputable abbrev lk93 : List (FuncId × Ab.Spec) := []
theorem hk93 : AllOk Try.prog lk93 := trivial
abbrev ia93 : AP := .cons (.val I64) .nil
abbrev ih93 : HP := .nil
abbrev oa93 : AP := .cons (.val I64) (.cons (.val I64) (.cons (.val I64) .nil))
abbrev oh93 : HP := .nil
noncomputable def f93 (k : El I64) : Option (ElA oa93 × ElH oh93) :=
  bif decide (k = 1) then
    some ((1, 0, 1, ()), ())
  else
    bif decide (k = 2) then
      some ((1, 0, 255, ()), ())
    else
      bif decide (k = 3) then
        some ((2, 0, 65535, ()), ())
      else
        bif decide (k = 4) then
          some ((4, 0, 4294967295, ()), ())
        else
          bif decide (k = 5) then
            some ((1, (-128), 127, ()), ())
          else
            bif decide (k = 6) then
              some ((2, (-32768), 32767, ()), ())
            else
              bif decide (k = 7) then
                some ((4, (-2147483648), 2147483647, ()), ())
              else
                some ((0, 0, 0, ()), ())
noncomputable def s93 : Ab.Spec := ⟨ia93, ih93, oa93, oh93, fun x => f93 x.1.1⟩
noncomputable abbrev ls93 : List (Code × Option Frag) := []
theorem fn93 : ∀ x, funcA Try.prog (mkK lk93) (mkL ls93) Try.f93 ⟨ia93, ih93, oa93, oh93⟩ x = s93.F x := fun x => by kernel_rfl
theorem ok93 : SpecOk Try.prog 93 s93 := spec_gen hmix hk93 (ls := ls93) (code := c93) (fn := Try.f93) (by kernel_rfl) (by kernel_rfl) (by kernel_rfl) (by kernel_rfl) trivial (by kernel_rfl) (g := ⟨ia93, ih93, oa93, oh93⟩) rfl s93.F fn93

/-! f77 tripwire/tripwireref15.name -/
noncomputable def c77 : Code := codeOf Try.f77
noncomputable abbrev lk77 : List (FuncId × Ab.Spec) := []
theorem hk77 : AllOk Try.prog lk77 := trivial
abbrev ia77 : AP := .cons (.val I64) (.cons (.val I64) .nil)
abbrev ih77 : HP := .nil
abbrev oa77 : AP := .cons (.val yKey) .nil
abbrev oh77 : HP := .nil
noncomputable def f77 (index_ : El I64) (sub : El I64) : Option (ElA oa77 × ElH oh77) :=
  some (((index_, sub, ()), ()), ())
noncomputable def s77 : Ab.Spec := ⟨ia77, ih77, oa77, oh77, fun x => f77 x.1.1 x.1.2.1⟩
noncomputable abbrev ls77 : List (Code × Option Frag) := []
theorem fn77 : ∀ x, funcA Try.prog (mkK lk77) (mkL ls77) Try.f77 ⟨ia77, ih77, oa77, oh77⟩ x = s77.F x := fun x => by kernel_rfl
theorem ok77 : SpecOk Try.prog 77 s77 := spec_gen hmix hk77 (ls := ls77) (code := c77) (fn := Try.f77) (by kernel_rfl) (by kernel_rfl) (by kernel_rfl) (by kernel_rfl) trivial (by kernel_rfl) (g := ⟨ia77, ih77, oa77, oh77⟩) rfl s77.F fn77

/-! f55 tripwire/tripwireref15.App -/
noncomputable def c55 : Code := codeOf Try.f55
noncomputable abbrev lk55 : List (FuncId × Ab.Spec) := [(93, s93), (77, s77)]
theorem hk55 : AllOk Try.prog lk55 := ⟨ok93, ok77, trivial⟩
noncomputable def b55_0 : Code := (loopsL c55).getD 0 .skip
abbrev tp55_0 : TP := .cons 1 (.hs 0) (.cons 2 (.val (.sl I64)) (.cons 3 (.val I64) .nil))
abbrev hp55_0 : HP := .row 43 yEntry false (.skip .nil)
abbrev xp55_0 : XP := .cons (.exit 0) (.cons 1 (.hs 0) .nil) (.row 43 yEntry false (.skip .nil)) .nil
noncomputable def R55_0 (kinds : El (.sl I64)) (i : El I64) (out : List (El yEntry)) : Option ((ElT tp55_0 × ElH hp55_0) ⊕ ElX xp55_0) :=
  bif decide (i < olen kinds) then
    bif idxOk i (olen kinds) then
      (f93 (oget kinds i.toNat (zero I64))).bind fun r3 =>
      (f77 8192 (IntKind.wrap .i64 (i + 1))).bind fun r4 =>
      bif idxOk i (olen kinds) then
        bif decide (0 ≤ r3.1.1) && (decide (r3.1.1 ≤ r3.1.1) && decide (r3.1.1 * 1 ≤ 140737488355328)) then
          bif Nat.ble ((dlen out + dlen ([(r4.1.1, (oget kinds i.toNat (zero I64), 3, r3.1.2.1, r3.1.2.2.1, ()), drep r3.1.1.toNat (zero U8), ())] : List (El yEntry))) * 64) 140737488355328 then
            some (.inl (((), kinds, IntKind.wrap .i64 (i + 1), ()), dapp out ([(r4.1.1, (oget kinds i.toNat (zero I64), 3, r3.1.2.1, r3.1.2.2.1, ()), drep r3.1.1.toNat (zero U8), ())] : List (El yEntry)), ()))
          else none
        else none
      else none
    else none
  else
    some (.inr (.inl (((), ()), out, ())))
noncomputable def r55_0 (x : ElT tp55_0 × ElH hp55_0) : Option ((ElT tp55_0 × ElH hp55_0) ⊕ ElX xp55_0) := R55_0 x.1.2.1 x.1.2.2.1 x.2.1
noncomputable def g55_0 (kinds : El (.sl I64)) (i : El I64) (out : List (El yEntry)) : Option (ElX xp55_0) := iterR r55_0 FU (((), kinds, i, ()), out, ())
noncomputable abbrev ls55_0 : List (Code × Option Frag) := []
noncomputable def F55_0 : Frag := ⟨2, [], tp55_0, hp55_0, xp55_0, 53, fun x => iterR r55_0 FU x⟩
theorem rd55_0 : ∀ x, roundA Try.prog (mkK lk55) (mkL ls55_0) b55_0 tp55_0 hp55_0 xp55_0 53 x = r55_0 x := fun x => by kernel_rfl
theorem fo55_0 : FragOk Try.prog F55_0 b55_0 := frag_gen hmix hk55 (ls := ls55_0) (by kernel_rfl) trivial (by kernel_rfl) r55_0 rd55_0 (by kernel_rfl)
abbrev ia55 : AP := .nil
abbrev ih55 : HP := .nil
abbrev oa55 : AP := .cons (.hs 0) .nil
abbrev oh55 : HP := .row 43 yEntry false .nil
noncomputable def f55 : Option (ElA oa55 × ElH oh55) :=
  (g55_0 (some ([2, 3, 4, 6, 1, 5] : List (El I64))) 0 ([] : List (El yEntry))).bind fun r5 => match r5 with
  | .inl y6 =>
    (f77 8192 7).bind fun r7 =>
    bif Nat.ble ((dlen y6.2.1 + dlen ([(r7.1.1, (8, 3, 0, 40, ()), ([] : List (El U8)), ())] : List (El yEntry))) * 64) 140737488355328 then
      (f77 8192 8).bind fun r8 =>
      bif Nat.ble ((dlen (dapp y6.2.1 ([(r7.1.1, (8, 3, 0, 40, ()), ([] : List (El U8)), ())] : List (El yEntry))) + dlen ([(r8.1.1, (2, 4, 0, 9, ()), ([0] : List (El U8)), ())] : List (El yEntry))) * 64) 140737488355328 then
        some (((), ()), dapp (dapp y6.2.1 ([(r7.1.1, (8, 3, 0, 40, ()), ([] : List (El U8)), ())] : List (El yEntry))) ([(r8.1.1, (2, 4, 0, 9, ()), ([0] : List (El U8)), ())] : List (El yEntry)), ())
      else none
    else none
noncomputable def s55 : Ab.Spec := ⟨ia55, ih55, oa55, oh55, fun x => f55⟩
noncomputable abbrev ls55 : List (Code × Option Frag) := [(b55_0, some F55_0)]
theorem fn55 : ∀ x, funcA Try.prog (mkK lk55) (mkL ls55) Try.f55 ⟨ia55, ih55, oa55, oh55⟩ x = s55.F x := fun x => by kernel_rfl
theorem ok55 : SpecOk Try.prog 55 s55 := spec_gen hmix hk55 (ls := ls55) (code := c55) (fn := Try.f55) (by kernel_rfl) (by kernel_rfl) (by kernel_rfl) (by kernel_rfl) ⟨fo55_0, trivial⟩ (by kernel_rfl) (g := ⟨ia55, ih55, oa55, oh55⟩) rfl s55.F fn55

/-! f123 tripwire/tripwireref02.power -/
noncomputable def c123 : Code := codeOf Try.f123
noncomputable abbrev lk123 : List (FuncId × Ab.Spec) := []
theorem hk123 : AllOk Try.prog lk123 := trivial
noncomputable def b123_0 : Code := (loopsL c123).getD 0 .skip
abbrev tp123_0 : TP := .cons 0 (.val I64) (.cons 3 (.val I64) (.cons 4 (.val I64) .nil))
abbrev hp123_0 : HP := .nil
abbrev xp123_0 : XP := .cons (.exit 0) (.cons 3 (.val I64) .nil) .nil .nil
noncomputable def R123_0 (size : El I64) (n : El I64) (i : El I64) : Option ((ElT tp123_0 × ElH hp123_0) ⊕ ElX xp123_0) :=
  bif decide (i < size) then
    some (.inl ((size, IntKind.wrap .i64 (n * 256), IntKind.wrap .i64 (i + 1), ()), ()))
  else
    some (.inr (.inl ((n, ()), ())))
noncomputable def r123_0 (x : ElT tp123_0 × ElH hp123_0) : Option ((ElT tp123_0 × ElH hp123_0) ⊕ ElX xp123_0) := R123_0 x.1.1 x.1.2.1 x.1.2.2.1
noncomputable def g123_0 (size : El I64) (n : El I64) (i : El I64) : Option (ElX xp123_0) := iterR r123_0 FU ((size, n, i, ()), ())
noncomputable abbrev ls123_0 : List (Code × Option Frag) := []
noncomputable def F123_0 : Frag := ⟨0, [], tp123_0, hp123_0, xp123_0, 13, fun x => iterR r123_0 FU x⟩
theorem rd123_0 : ∀ x, roundA Try.prog (mkK lk123) (mkL ls123_0) b123_0 tp123_0 hp123_0 xp123_0 13 x = r123_0 x := fun x => by kernel_rfl
theorem fo123_0 : FragOk Try.prog F123_0 b123_0 := frag_gen hmix hk123 (ls := ls123_0) (by kernel_rfl) trivial (by kernel_rfl) r123_0 rd123_0 (by kernel_rfl)
abbrev ia123 : AP := .cons (.val I64) .nil
abbrev ih123 : HP := .nil
abbrev oa123 : AP := .cons (.val I64) .nil
abbrev oh123 : HP := .nil
noncomputable def f123 (size : El I64) : Option (ElA oa123 × ElH oh123) :=
  (g123_0 size 1 0).bind fun r1 => match r1 with
  | .inl y2 =>
    some ((y2.1.1, ()), ())
noncomputable def s123 : Ab.Spec := ⟨ia123, ih123, oa123, oh123, fun x => f123 x.1.1⟩
noncomputable abbrev ls123 : List (Code × Option Frag) := [(b123_0, some F123_0)]
theorem fn123 : ∀ x, funcA Try.prog (mkK lk123) (mkL ls123) Try.f123 ⟨ia123, ih123, oa123, oh123⟩ x = s123.F x := fun x => by kernel_rfl
theorem ok123 : SpecOk Try.prog 123 s123 := spec_gen hmix hk123 (ls := ls123) (code := c123) (fn := Try.f123) (by kernel_rfl) (by kernel_rfl) (by kernel_rfl) (by kernel_rfl) ⟨fo123_0, trivial⟩ (by kernel_rfl) (g := ⟨ia123, ih123, oa123, oh123⟩) rfl s123.F fn123

/-! f68 tripwire/tripwireref02.Put -/
noncomputable def c68 : Code := codeOf Try.f68
noncomputable abbrev lk68 : List (FuncId × Ab.Spec) := [(93, s93), (123, s123)]
theorem hk68 : AllOk Try.prog lk68 := ⟨ok93, ok123, trivial⟩
noncomputable def b68_0 : Code := (loopsL c68).getD 0 .skip
abbrev tp68_0 : TP := .cons 1 (.val I64) (.cons 6 (.val I64) (.cons 9 (.hs 8) (.cons 10 (.val I64) .nil)))
abbrev hp68_0 : HP := .skip (.skip (.skip (.skip (.skip (.skip (.skip (.skip (.row 5 U8 false .nil))))))))
abbrev xp68_0 : XP := .cons (.exit 0) (.cons 9 (.hs 8) .nil) (.skip (.skip (.skip (.skip (.skip (.skip (.skip (.skip (.row 5 U8 false .nil))))))))) .nil
noncomputable def R68_0 (n : El I64) (size : El I64) (i : El I64) (b : List (El U8)) : Option ((ElT tp68_0 × ElH hp68_0) ⊕ ElX xp68_0) :=
  bif decide (i < size) then
    bif Nat.ble ((dlen b + dlen ([IntKind.wrap .u8 (Int.tmod n 256)] : List (El U8))) * 1) 140737488355328 then
      some (.inl ((IntKind.wrap .i64 (Int.tdiv n 256), size, (), IntKind.wrap .i64 (i + 1), ()), dapp b ([IntKind.wrap .u8 (Int.tmod n 256)] : List (El U8)), ()))
    else none
  else
    some (.inr (.inl (((), ()), b, ())))
noncomputable def r68_0 (x : ElT tp68_0 × ElH hp68_0) : Option ((ElT tp68_0 × ElH hp68_0) ⊕ ElX xp68_0) := R68_0 x.1.1 x.1.2.1 x.1.2.2.2.1 x.2.1
noncomputable def g68_0 (n : El I64) (size : El I64) (i : El I64) (b : List (El U8)) : Option (ElX xp68_0) := iterR r68_0 FU ((n, size, (), i, ()), b, ())
noncomputable abbrev ls68_0 : List (Code × Option Frag) := []
noncomputable def F68_0 : Frag := ⟨9, [], tp68_0, hp68_0, xp68_0, 50, fun x => iterR r68_0 FU x⟩
theorem rd68_0 : ∀ x, roundA Try.prog (mkK lk68) (mkL ls68_0) b68_0 tp68_0 hp68_0 xp68_0 50 x = r68_0 x := fun x => by kernel_rfl
theorem fo68_0 : FragOk Try.prog F68_0 b68_0 := frag_gen hmix hk68 (ls := ls68_0) (by kernel_rfl) trivial (by kernel_rfl) r68_0 rd68_0 (by kernel_rfl)
abbrev ia68 : AP := .cons (.val I64) (.cons (.val I64) .nil)
abbrev ih68 : HP := .nil
abbrev oa68 : AP := .cons (.val (.sl U8)) (.cons (.val I64) .nil)
abbrev oh68 : HP := .nil
noncomputable def f68 (k : El I64) (n : El I64) : Option (ElA oa68 × ElH oh68) :=
  (f93 k).bind fun r1 =>
  bif !(decide (r1.1.1 = 0)) then
    bif !(decide (n < r1.1.2.1)) then
      bif decide (r1.1.2.2.1 < n) then
        some ((none, 2, ()), ())
      else
        bif decide (n < 0) then
          (f123 r1.1.1).bind fun r2 =>
          (g68_0 (IntKind.wrap .i64 (n + r2.1.1)) r1.1.1 0 ([] : List (El U8))).bind fun r3 => match r3 with
          | .inl y4 =>
            some ((some y4.2.1, 0, ()), ())
        else
          (g68_0 n r1.1.1 0 ([] : List (El U8))).bind fun r5 => match r5 with
          | .inl y6 =>
            some ((some y6.2.1, 0, ()), ())
    else
      some ((none, 2, ()), ())
  else
    some ((none, 2, ()), ())
noncomputable def s68 : Ab.Spec := ⟨ia68, ih68, oa68, oh68, fun x => f68 x.1.1 x.1.2.1⟩
noncomputable abbrev ls68 : List (Code × Option Frag) := [(b68_0, some F68_0)]
theorem fn68 : ∀ x, funcA Try.prog (mkK lk68) (mkL ls68) Try.f68 ⟨ia68, ih68, oa68, oh68⟩ x = s68.F x := fun x => by kernel_rfl
theorem ok68 : SpecOk Try.prog 68 s68 := spec_gen hmix hk68 (ls := ls68) (code := c68) (fn := Try.f68) (by kernel_rfl) (by kernel_rfl) (by kernel_rfl) (by kernel_rfl) ⟨fo68_0, trivial⟩ (by kernel_rfl) (g := ⟨ia68, ih68, oa68, oh68⟩) rfl s68.F fn68

/-! f108 tripwire/tripwireref15.one -/
noncomputable def c108 : Code := codeOf Try.f108
noncomputable abbrev lk108 : List (FuncId × Ab.Spec) := [(68, s68), (77, s77)]
theorem hk108 : AllOk Try.prog lk108 := ⟨ok68, ok77, trivial⟩
abbrev ia108 : AP := .cons (.val I64) (.cons (.val I64) (.cons (.val I64) (.cons (.val I64) (.cons (.val I64) (.cons (.val .bool) .nil)))))
abbrev ih108 : HP := .nil
abbrev oa108 : AP := .cons (.val yEntry) .nil
abbrev oh108 : HP := .nil
noncomputable def f108 (index_ : El I64) (sub : El I64) (kind : El I64) (low : El I64) (high : El I64) (fixed : El .bool) : Option (ElA oa108 × ElH oh108) :=
  bif fixed then
    (f68 kind low).bind fun r1 =>
    (f77 index_ sub).bind fun r2 =>
    some (((r2.1.1, (kind, 4, low, high, ()), dor r1.1.1, ()), ()), ())
  else
    (f68 kind low).bind fun r3 =>
    (f77 index_ sub).bind fun r4 =>
    some (((r4.1.1, (kind, 3, low, high, ()), dor r3.1.1, ()), ()), ())
noncomputable def s108 : Ab.Spec := ⟨ia108, ih108, oa108, oh108, fun x => f108 x.1.1 x.1.2.1 x.1.2.2.1 x.1.2.2.2.1 x.1.2.2.2.2.1 x.1.2.2.2.2.2.1⟩
noncomputable abbrev ls108 : List (Code × Option Frag) := []
theorem fn108 : ∀ x, funcA Try.prog (mkK lk108) (mkL ls108) Try.f108 ⟨ia108, ih108, oa108, oh108⟩ x = s108.F x := fun x => by kernel_rfl
theorem ok108 : SpecOk Try.prog 108 s108 := spec_gen hmix hk108 (ls := ls108) (code := c108) (fn := Try.f108) (by kernel_rfl) (by kernel_rfl) (by kernel_rfl) (by kernel_rfl) trivial (by kernel_rfl) (g := ⟨ia108, ih108, oa108, oh108⟩) rfl s108.F fn108

/-! f56 tripwire/tripwireref15.Rows -/
noncomputable def c56 : Code := codeOf Try.f56
noncomputable abbrev lk56 : List (FuncId × Ab.Spec) := [(108, s108)]
theorem hk56 : AllOk Try.prog lk56 := ⟨ok108, trivial⟩
noncomputable def b56_0 : Code := (loopsL c56).getD 0 .skip
noncomputable def b56_1 : Code := (loopsL c56).getD 1 .skip
noncomputable def b56_2 : Code := (loopsL b56_1).getD 0 .skip
noncomputable def b56_3 : Code := (loopsL c56).getD 2 .skip
abbrev tp56_0 : TP := .cons 1 (.hs 0) (.cons 2 (.val I64) .nil)
abbrev hp56_0 : HP := .row 43 yEntry false .nil
abbrev xp56_0 : XP := .cons (.exit 0) (.cons 1 (.hs 0) .nil) (.row 43 yEntry false .nil) .nil
noncomputable def R56_0 (t2 : El I64) (t1 : List (El yEntry)) : Option ((ElT tp56_0 × ElH hp56_0) ⊕ ElX xp56_0) :=
  bif decide (t2 < 4) then
    (f108 (IntKind.wrap .i64 (4865 + t2)) 0 2 6 6 true).bind fun r8 =>
    bif Nat.ble ((dlen t1 + dlen ([r8.1.1] : List (El yEntry))) * 64) 140737488355328 then
      (f108 (IntKind.wrap .i64 (4865 + t2)) 1 2 0 2 false).bind fun r9 =>
      bif Nat.ble ((dlen (dapp t1 ([r8.1.1] : List (El yEntry))) + dlen ([r9.1.1] : List (El yEntry))) * 64) 140737488355328 then
        (f108 (IntKind.wrap .i64 (4865 + t2)) 2 3 1 65535 false).bind fun r10 =>
        bif Nat.ble ((dlen (dapp (dapp t1 ([r8.1.1] : List (El yEntry))) ([r9.1.1] : List (El yEntry))) + dlen ([r10.1.1] : List (El yEntry))) * 64) 140737488355328 then
          (f108 (IntKind.wrap .i64 (4865 + t2)) 3 3 1 65535 false).bind fun r11 =>
          bif Nat.ble ((dlen (dapp (dapp (dapp t1 ([r8.1.1] : List (El yEntry))) ([r9.1.1] : List (El yEntry))) ([r10.1.1] : List (El yEntry))) + dlen ([r11.1.1] : List (El yEntry))) * 64) 140737488355328 then
            (f108 (IntKind.wrap .i64 (4865 + t2)) 4 2 254 254 true).bind fun r12 =>
            bif Nat.ble ((dlen (dapp (dapp (dapp (dapp t1 ([r8.1.1] : List (El yEntry))) ([r9.1.1] : List (El yEntry))) ([r10.1.1] : List (El yEntry))) ([r11.1.1] : List (El yEntry))) + dlen ([r12.1.1] : List (El yEntry))) * 64) 140737488355328 then
              (f108 (IntKind.wrap .i64 (4865 + t2)) 5 4 257 383 false).bind fun r13 =>
              bif Nat.ble ((dlen (dapp (dapp (dapp (dapp (dapp t1 ([r8.1.1] : List (El yEntry))) ([r9.1.1] : List (El yEntry))) ([r10.1.1] : List (El yEntry))) ([r11.1.1] : List (El yEntry))) ([r12.1.1] : List (El yEntry))) + dlen ([r13.1.1] : List (El yEntry))) * 64) 140737488355328 then
                (f108 (IntKind.wrap .i64 (4865 + t2)) 6 4 258 384 false).bind fun r14 =>
                bif Nat.ble ((dlen (dapp (dapp (dapp (dapp (dapp (dapp t1 ([r8.1.1] : List (El yEntry))) ([r9.1.1] : List (El yEntry))) ([r10.1.1] : List (El yEntry))) ([r11.1.1] : List (El yEntry))) ([r12.1.1] : List (El yEntry))) ([r13.1.1] : List (El yEntry))) + dlen ([r14.1.1] : List (El yEntry))) * 64) 140737488355328 then
                  some (.inl (((), IntKind.wrap .i64 (t2 + 1), ()), dapp (dapp (dapp (dapp (dapp (dapp (dapp t1 ([r8.1.1] : List (El yEntry))) ([r9.1.1] : List (El yEntry))) ([r10.1.1] : List (El yEntry))) ([r11.1.1] : List (El yEntry))) ([r12.1.1] : List (El yEntry))) ([r13.1.1] : List (El yEntry))) ([r14.1.1] : List (El yEntry)), ()))
                else none
              else none
            else none
          else none
        else none
      else none
    else none
  else
    some (.inr (.inl (((), ()), t1, ())))
noncomputable def r56_0 (x : ElT tp56_0 × ElH hp56_0) : Option ((ElT tp56_0 × ElH hp56_0) ⊕ ElX xp56_0) := R56_0 x.1.2.1 x.2.1
noncomputable def g56_0 (t2 : El I64) (t1 : List (El yEntry)) : Option (ElX xp56_0) := iterR r56_0 FU (((), t2, ()), t1, ())
noncomputable abbrev ls56_0 : List (Code × Option Frag) := []
noncomputable def F56_0 : Frag := ⟨1, [], tp56_0, hp56_0, xp56_0, 92, fun x => iterR r56_0 FU x⟩
theorem rd56_0 : ∀ x, roundA Try.prog (mkK lk56) (mkL ls56_0) b56_0 tp56_0 hp56_0 xp56_0 92 x = r56_0 x := fun x => by kernel_rfl
theorem fo56_0 : FragOk Try.prog F56_0 b56_0 := frag_gen hmix hk56 (ls := ls56_0) (by kernel_rfl) trivial (by kernel_rfl) r56_0 rd56_0 (by kernel_rfl)
abbrev tp56_2 : TP := .cons 1 (.hs 0) (.cons 3 (.val I64) (.cons 4 (.val I64) .nil))
abbrev hp56_2 : HP := .row 43 yEntry false (.skip (.skip (.skip (.skip (.skip (.skip .nil))))))
abbrev xp56_2 : XP := .cons (.exit 4) (.cons 1 (.hs 0) (.cons 3 (.val I64) .nil)) (.row 43 yEntry false (.skip (.skip (.skip (.skip (.skip (.skip .nil))))))) .nil
noncomputable def R56_2 (t3 : El I64) (t4 : El I64) (t1 : List (El yEntry)) : Option ((ElT tp56_2 × ElH hp56_2) ⊕ ElX xp56_2) :=
  bif decide (t4 ≤ 8) then
    (f108 (IntKind.wrap .i64 (4993 + t3)) t4 4 0 4294967295 false).bind fun r19 =>
    bif Nat.ble ((dlen t1 + dlen ([r19.1.1] : List (El yEntry))) * 64) 140737488355328 then
      some (.inl (((), t3, IntKind.wrap .i64 (t4 + 1), ()), dapp t1 ([r19.1.1] : List (El yEntry)), ()))
    else none
  else
    some (.inr (.inl (((), t3, ()), t1, ())))
noncomputable def r56_2 (x : ElT tp56_2 × ElH hp56_2) : Option ((ElT tp56_2 × ElH hp56_2) ⊕ ElX xp56_2) := R56_2 x.1.2.1 x.1.2.2.1 x.2.1
noncomputable def g56_2 (t3 : El I64) (t4 : El I64) (t1 : List (El yEntry)) : Option (ElX xp56_2) := iterR r56_2 FU (((), t3, t4, ()), t1, ())
noncomputable abbrev ls56_2 : List (Code × Option Frag) := []
noncomputable def F56_2 : Frag := ⟨7, [], tp56_2, hp56_2, xp56_2, 92, fun x => iterR r56_2 FU x⟩
theorem rd56_2 : ∀ x, roundA Try.prog (mkK lk56) (mkL ls56_2) b56_2 tp56_2 hp56_2 xp56_2 92 x = r56_2 x := fun x => by kernel_rfl
theorem fo56_2 : FragOk Try.prog F56_2 b56_2 := frag_gen hmix hk56 (ls := ls56_2) (by kernel_rfl) trivial (by kernel_rfl) r56_2 rd56_2 (by kernel_rfl)
abbrev tp56_1 : TP := .cons 1 (.hs 0) (.cons 3 (.val I64) .nil)
abbrev hp56_1 : HP := .row 43 yEntry false .nil
abbrev xp56_1 : XP := .cons (.exit 2) (.cons 1 (.hs 0) .nil) (.row 43 yEntry false .nil) .nil
noncomputable def R56_1 (t3 : El I64) (t1 : List (El yEntry)) : Option ((ElT tp56_1 × ElH hp56_1) ⊕ ElX xp56_1) :=
  bif decide (t3 < 4) then
    (f108 (IntKind.wrap .i64 (4993 + t3)) 0 2 0 8 false).bind fun r22 =>
    bif Nat.ble ((dlen t1 + dlen ([r22.1.1] : List (El yEntry))) * 64) 140737488355328 then
      (g56_2 t3 1 (dapp t1 ([r22.1.1] : List (El yEntry)))).bind fun r23 => match r23 with
      | .inl y24 =>
        some (.inl (((), IntKind.wrap .i64 (y24.1.2.1 + 1), ()), y24.2.1, ()))
    else none
  else
    some (.inr (.inl (((), ()), t1, ())))
noncomputable def r56_1 (x : ElT tp56_1 × ElH hp56_1) : Option ((ElT tp56_1 × ElH hp56_1) ⊕ ElX xp56_1) := R56_1 x.1.2.1 x.2.1
noncomputable def g56_1 (t3 : El I64) (t1 : List (El yEntry)) : Option (ElX xp56_1) := iterR r56_1 FU (((), t3, ()), t1, ())
noncomputable abbrev ls56_1 : List (Code × Option Frag) := [(b56_2, some F56_2)]
noncomputable def F56_1 : Frag := ⟨1, [], tp56_1, hp56_1, xp56_1, 92, fun x => iterR r56_1 FU x⟩
theorem rd56_1 : ∀ x, roundA Try.prog (mkK lk56) (mkL ls56_1) b56_1 tp56_1 hp56_1 xp56_1 92 x = r56_1 x := fun x => by kernel_rfl
theorem fo56_1 : FragOk Try.prog F56_1 b56_1 := frag_gen hmix hk56 (ls := ls56_1) (by kernel_rfl) ⟨fo56_2, trivial⟩ (by kernel_rfl) r56_1 rd56_1 (by kernel_rfl)
abbrev tp56_3 : TP := .cons 1 (.hs 0) (.cons 5 (.val I64) .nil)
abbrev hp56_3 : HP := .row 43 yEntry false (.skip (.skip (.skip (.skip (.skip (.skip (.skip (.skip (.skip (.skip (.skip (.skip .nil))))))))))))
abbrev xp56_3 : XP := .cons (.exit 6) (.cons 1 (.hs 0) .nil) (.row 43 yEntry false (.skip (.skip (.skip (.skip (.skip (.skip (.skip (.skip (.skip (.skip (.skip (.skip .nil))))))))))))) .nil
noncomputable def R56_3 (t5 : El I64) (t1 : List (El yEntry)) : Option ((ElT tp56_3 × ElH hp56_3) ⊕ ElX xp56_3) :=
  bif decide (t5 ≤ 4) then
    (f108 5119 t5 3 0 65535 false).bind fun r30 =>
    bif Nat.ble ((dlen t1 + dlen ([r30.1.1] : List (El yEntry))) * 64) 140737488355328 then
      some (.inl (((), IntKind.wrap .i64 (t5 + 1), ()), dapp t1 ([r30.1.1] : List (El yEntry)), ()))
    else none
  else
    some (.inr (.inl (((), ()), t1, ())))
noncomputable def r56_3 (x : ElT tp56_3 × ElH hp56_3) : Option ((ElT tp56_3 × ElH hp56_3) ⊕ ElX xp56_3) := R56_3 x.1.2.1 x.2.1
noncomputable def g56_3 (t5 : El I64) (t1 : List (El yEntry)) : Option (ElX xp56_3) := iterR r56_3 FU (((), t5, ()), t1, ())
noncomputable abbrev ls56_3 : List (Code × Option Frag) := []
noncomputable def F56_3 : Frag := ⟨13, [], tp56_3, hp56_3, xp56_3, 92, fun x => iterR r56_3 FU x⟩
theorem rd56_3 : ∀ x, roundA Try.prog (mkK lk56) (mkL ls56_3) b56_3 tp56_3 hp56_3 xp56_3 92 x = r56_3 x := fun x => by kernel_rfl
theorem fo56_3 : FragOk Try.prog F56_3 b56_3 := frag_gen hmix hk56 (ls := ls56_3) (by kernel_rfl) trivial (by kernel_rfl) r56_3 rd56_3 (by kernel_rfl)
abbrev ia56 : AP := .nil
abbrev ih56 : HP := .nil
abbrev oa56 : AP := .cons (.val (.sl yEntry)) .nil
abbrev oh56 : HP := .nil
noncomputable def f56 : Option (ElA oa56 × ElH oh56) :=
  (g56_0 0 ([] : List (El yEntry))).bind fun r15 => match r15 with
  | .inl y16 =>
    (g56_1 0 y16.2.1).bind fun r25 => match r25 with
    | .inl y26 =>
      (f108 5118 0 2 0 255 false).bind fun r27 =>
      bif Nat.ble ((dlen y26.2.1 + dlen ([r27.1.1] : List (El yEntry))) * 64) 140737488355328 then
        (f108 5119 0 2 4 4 true).bind fun r28 =>
        bif Nat.ble ((dlen (dapp y26.2.1 ([r27.1.1] : List (El yEntry))) + dlen ([r28.1.1] : List (El yEntry))) * 64) 140737488355328 then
          (g56_3 1 (dapp (dapp y26.2.1 ([r27.1.1] : List (El yEntry))) ([r28.1.1] : List (El yEntry)))).bind fun r31 => match r31 with
          | .inl y32 =>
            some ((some y32.2.1, ()), ())
        else none
      else none
noncomputable def s56 : Ab.Spec := ⟨ia56, ih56, oa56, oh56, fun x => f56⟩
noncomputable abbrev ls56 : List (Code × Option Frag) := [(b56_0, some F56_0), (b56_1, some F56_1), (b56_3, some F56_3)]
theorem fn56 : ∀ x, funcA Try.prog (mkK lk56) (mkL ls56) Try.f56 ⟨ia56, ih56, oa56, oh56⟩ x = s56.F x := fun x => by kernel_rfl
theorem ok56 : SpecOk Try.prog 56 s56 := spec_gen hmix hk56 (ls := ls56) (code := c56) (fn := Try.f56) (by kernel_rfl) (by kernel_rfl) (by kernel_rfl) (by kernel_rfl) ⟨fo56_0, fo56_1, fo56_3, trivial⟩ (by kernel_rfl) (g := ⟨ia56, ih56, oa56, oh56⟩) rfl s56.F fn56

/-! f109 tripwire/tripwireref14.Name -/
noncomputable def c109 : Code := codeOf Try.f109
noncomputable abbrev lk109 : List (FuncId × Ab.Spec) := []
theorem hk109 : AllOk Try.prog lk109 := trivial
abbrev ia109 : AP := .cons (.val yKey) .nil
abbrev ih109 : HP := .nil
abbrev oa109 : AP := .cons (.val .bool) .nil
abbrev oh109 : HP := .nil
noncomputable def f109 (k : El yKey) : Option (ElA oa109 × ElH oh109) :=
  bif decide ((1 : Int) ≤ k.1) then
    bif decide (k.1 ≤ 65535) then
      bif decide ((0 : Int) ≤ k.2.1) then
        some ((decide (k.2.1 ≤ 255), ()), ())
      else
        some ((false, ()), ())
    else
      some ((false, ()), ())
  else
    some ((false, ()), ())
noncomputable def s109 : Ab.Spec := ⟨ia109, ih109, oa109, oh109, fun x => f109 x.1.1⟩
noncomputable abbrev ls109 : List (Code × Option Frag) := []
theorem fn109 : ∀ x, funcA Try.prog (mkK lk109) (mkL ls109) Try.f109 ⟨ia109, ih109, oa109, oh109⟩ x = s109.F x := fun x => by kernel_rfl
theorem ok109 : SpecOk Try.prog 109 s109 := spec_gen hmix hk109 (ls := ls109) (code := c109) (fn := Try.f109) (by kernel_rfl) (by kernel_rfl) (by kernel_rfl) (by kernel_rfl) trivial (by kernel_rfl) (g := ⟨ia109, ih109, oa109, oh109⟩) rfl s109.F fn109

/-! f110 tripwire/tripwireref13.May -/
noncomputable def c110 : Code := codeOf Try.f110
noncomputable abbrev lk110 : List (FuncId × Ab.Spec) := [(93, s93)]
theorem hk110 : AllOk Try.prog lk110 := ⟨ok93, trivial⟩
abbrev ia110 : AP := .cons (.val ySpec) .nil
abbrev ih110 : HP := .nil
abbrev oa110 : AP := .cons (.val .bool) .nil
abbrev oh110 : HP := .nil
noncomputable def f110 (s : El ySpec) : Option (ElA oa110 × ElH oh110) :=
  (f93 s.1).bind fun r1 =>
  bif decide (s.1 = 8) then
    bif decide ((1 : Int) ≤ s.2.1) then
      bif decide (s.2.1 ≤ 4) then
        bif decide ((0 : Int) ≤ s.2.2.1) then
          bif decide (s.2.2.1 ≤ s.2.2.2.1) then
            some ((decide (s.2.2.2.1 ≤ 64), ()), ())
          else
            some ((false, ()), ())
        else
          some ((false, ()), ())
      else
        some ((false, ()), ())
    else
      some ((false, ()), ())
  else
    bif decide ((0 : Int) < r1.1.1) then
      bif decide ((1 : Int) ≤ s.2.1) then
        bif decide (s.2.1 ≤ 4) then
          bif decide (r1.1.2.1 ≤ s.2.2.1) then
            bif decide (s.2.2.1 ≤ s.2.2.2.1) then
              some ((decide (s.2.2.2.1 ≤ r1.1.2.2.1), ()), ())
            else
              some ((false, ()), ())
          else
            some ((false, ()), ())
        else
          some ((false, ()), ())
      else
        some ((false, ()), ())
    else
      some ((false, ()), ())
noncomputable def s110 : Ab.Spec := ⟨ia110, ih110, oa110, oh110, fun x => f110 x.1.1⟩
noncomputable abbrev ls110 : List (Code × Option Frag) := []
theorem fn110 : ∀ x, funcA Try.prog (mkK lk110) (mkL ls110) Try.f110 ⟨ia110, ih110, oa110, oh110⟩ x = s110.F x := fun x => by kernel_rfl
theorem ok110 : SpecOk Try.prog 110 s110 := spec_gen hmix hk110 (ls := ls110) (code := c110) (fn := Try.f110) (by kernel_rfl) (by kernel_rfl) (by kernel_rfl) (by kernel_rfl) trivial (by kernel_rfl) (g := ⟨ia110, ih110, oa110, oh110⟩) rfl s110.F fn110

/-! f119 tripwire/tripwireref02.Get -/
noncomputable def c119 : Code := codeOf Try.f119
noncomputable abbrev lk119 : List (FuncId × Ab.Spec) := [(93, s93), (123, s123)]
theorem hk119 : AllOk Try.prog lk119 := ⟨ok93, ok123, trivial⟩
noncomputable def b119_0 : Code := (loopsL c119).getD 0 .skip
abbrev tp119_0 : TP := .cons 1 (.val (.sl U8)) (.cons 6 (.val I64) (.cons 7 (.val I64) (.cons 8 (.val I64) (.cons 9 (.val I64) (.cons 10 (.val I64) .nil)))))
abbrev hp119_0 : HP := .skip (.skip (.skip (.skip .nil)))
abbrev xp119_0 : XP := .cons (.exit 0) (.cons 6 (.val I64) (.cons 7 (.val I64) (.cons 8 (.val I64) (.cons 9 (.val I64) .nil)))) (.skip (.skip (.skip (.skip .nil)))) .nil
noncomputable def R119_0 (b : El (.sl U8)) (size : El I64) (low : El I64) (high : El I64) (n : El I64) (i : El I64) : Option ((ElT tp119_0 × ElH hp119_0) ⊕ ElX xp119_0) :=
  bif decide ((0 : Int) ≤ i) then
    bif idxOk i (olen b) then
      some (.inl ((b, size, low, high, IntKind.wrap .i64 (IntKind.wrap .i64 (n * 256) + IntKind.wrap .i64 (oget b i.toNat (zero U8))), IntKind.wrap .i64 (i - 1), ()), ()))
    else none
  else
    some (.inr (.inl ((size, low, high, n, ()), ())))
noncomputable def r119_0 (x : ElT tp119_0 × ElH hp119_0) : Option ((ElT tp119_0 × ElH hp119_0) ⊕ ElX xp119_0) := R119_0 x.1.1 x.1.2.1 x.1.2.2.1 x.1.2.2.2.1 x.1.2.2.2.2.1 x.1.2.2.2.2.2.1
noncomputable def g119_0 (b : El (.sl U8)) (size : El I64) (low : El I64) (high : El I64) (n : El I64) (i : El I64) : Option (ElX xp119_0) := iterR r119_0 FU ((b, size, low, high, n, i, ()), ())
noncomputable abbrev ls119_0 : List (Code × Option Frag) := []
noncomputable def F119_0 : Frag := ⟨4, [], tp119_0, hp119_0, xp119_0, 53, fun x => iterR r119_0 FU x⟩
theorem rd119_0 : ∀ x, roundA Try.prog (mkK lk119) (mkL ls119_0) b119_0 tp119_0 hp119_0 xp119_0 53 x = r119_0 x := fun x => by kernel_rfl
theorem fo119_0 : FragOk Try.prog F119_0 b119_0 := frag_gen hmix hk119 (ls := ls119_0) (by kernel_rfl) trivial (by kernel_rfl) r119_0 rd119_0 (by kernel_rfl)
abbrev ia119 : AP := .cons (.val I64) (.cons (.val (.sl U8)) .nil)
abbrev ih119 : HP := .nil
abbrev oa119 : AP := .cons (.val I64) (.cons (.val I64) .nil)
abbrev oh119 : HP := .nil
noncomputable def f119 (k : El I64) (b : El (.sl U8)) : Option (ElA oa119 × ElH oh119) :=
  (f93 k).bind fun r1 =>
  bif decide (r1.1.1 = 0) then
    some ((0, 2, ()), ())
  else
    bif !(decide (olen b = r1.1.1)) then
      some ((0, 11, ()), ())
    else
      (g119_0 b r1.1.1 r1.1.2.1 r1.1.2.2.1 0 (IntKind.wrap .i64 (r1.1.1 - 1))).bind fun r2 => match r2 with
      | .inl y3 =>
        bif decide (y3.1.2.2.1 < y3.1.2.2.2.1) then
          (f123 y3.1.1).bind fun r4 =>
          bif !(decide (IntKind.wrap .i64 (y3.1.2.2.2.1 - r4.1.1) < y3.1.2.1)) then
            bif decide (y3.1.2.2.1 < IntKind.wrap .i64 (y3.1.2.2.2.1 - r4.1.1)) then
              some ((0, 4, ()), ())
            else
              some ((IntKind.wrap .i64 (y3.1.2.2.2.1 - r4.1.1), 0, ()), ())
          else
            some ((0, 4, ()), ())
        else
          bif !(decide (y3.1.2.2.2.1 < y3.1.2.1)) then
            bif decide (y3.1.2.2.1 < y3.1.2.2.2.1) then
              some ((0, 4, ()), ())
            else
              some ((y3.1.2.2.2.1, 0, ()), ())
          else
            some ((0, 4, ()), ())
noncomputable def s119 : Ab.Spec := ⟨ia119, ih119, oa119, oh119, fun x => f119 x.1.1 x.1.2.1⟩
noncomputable abbrev ls119 : List (Code × Option Frag) := [(b119_0, some F119_0)]
theorem fn119 : ∀ x, funcA Try.prog (mkK lk119) (mkL ls119) Try.f119 ⟨ia119, ih119, oa119, oh119⟩ x = s119.F x := fun x => by kernel_rfl
theorem ok119 : SpecOk Try.prog 119 s119 := spec_gen hmix hk119 (ls := ls119) (code := c119) (fn := Try.f119) (by kernel_rfl) (by kernel_rfl) (by kernel_rfl) (by kernel_rfl) ⟨fo119_0, trivial⟩ (by kernel_rfl) (g := ⟨ia119, ih119, oa119, oh119⟩) rfl s119.F fn119

/-! f62 tripwire/tripwireref13.Fits -/
noncomputable def c62 : Code := codeOf Try.f62
noncomputable abbrev lk62 : List (FuncId × Ab.Spec) := [(110, s110), (93, s93), (119, s119)]
theorem hk62 : AllOk Try.prog lk62 := ⟨ok110, ok93, ok119, trivial⟩
abbrev ia62 : AP := .cons (.val ySpec) (.cons (.val (.sl U8)) .nil)
abbrev ih62 : HP := .nil
abbrev oa62 : AP := .cons (.val I64) .nil
abbrev oh62 : HP := .nil
noncomputable def f62 (s : El ySpec) (b : El (.sl U8)) : Option (ElA oa62 × ElH oh62) :=
  (f110 s).bind fun r1 =>
  bif !r1.1.1 then
    some ((134217728, ()), ())
  else
    (f93 s.1).bind fun r2 =>
    bif decide (s.1 = 8) then
      bif decide (olen b < s.2.2.1) then
        some ((101122067, ()), ())
      else
        bif decide (s.2.2.2.1 < olen b) then
          some ((101122066, ()), ())
        else
          bif decide (s.1 = 8) then
            some ((0, ()), ())
          else
            (f119 s.1 b).bind fun r3 =>
            bif !(decide (r3.1.2.1 = 0)) then
              some ((101253168, ()), ())
            else
              bif decide (s.2.2.2.1 < r3.1.1) then
                some ((101253169, ()), ())
              else
                bif decide (r3.1.1 < s.2.2.1) then
                  some ((101253170, ()), ())
                else
                  some ((0, ()), ())
    else
      bif decide (olen b < r2.1.1) then
        some ((101122067, ()), ())
      else
        bif decide (r2.1.1 < olen b) then
          some ((101122066, ()), ())
        else
          bif decide (s.1 = 8) then
            some ((0, ()), ())
          else
            (f119 s.1 b).bind fun r4 =>
            bif !(decide (r4.1.2.1 = 0)) then
              some ((101253168, ()), ())
            else
              bif decide (s.2.2.2.1 < r4.1.1) then
                some ((101253169, ()), ())
              else
                bif decide (r4.1.1 < s.2.2.1) then
                  some ((101253170, ()), ())
                else
                  some ((0, ()), ())
noncomputable def s62 : Ab.Spec := ⟨ia62, ih62, oa62, oh62, fun x => f62 x.1.1 x.1.2.1⟩
noncomputable abbrev ls62 : List (Code × Option Frag) := []
theorem fn62 : ∀ x, funcA Try.prog (mkK lk62) (mkL ls62) Try.f62 ⟨ia62, ih62, oa62, oh62⟩ x = s62.F x := fun x => by kernel_rfl
theorem ok62 : SpecOk Try.prog 62 s62 := spec_gen hmix hk62 (ls := ls62) (code := c62) (fn := Try.f62) (by kernel_rfl) (by kernel_rfl) (by kernel_rfl) (by kernel_rfl) trivial (by kernel_rfl) (g := ⟨ia62, ih62, oa62, oh62⟩) rfl s62.F fn62

/-! f111 tripwire/tripwireref13.First -/
noncomputable def c111 : Code := codeOf Try.f111
noncomputable abbrev lk111 : List (FuncId × Ab.Spec) := [(110, s110), (68, s68)]
theorem hk111 : AllOk Try.prog lk111 := ⟨ok110, ok68, trivial⟩
noncomputable def b111_0 : Code := (loopsL c111).getD 0 .skip
abbrev tp111_0 : TP := .cons 1 (.ptr 0) (.cons 3 (.hs 1) (.cons 4 (.val I64) .nil))
abbrev hp111_0 : HP := .box (.val ySpec) (.row 5 U8 false (.skip (.skip (.skip (.skip .nil)))))
abbrev xp111_0 : XP := .cons (.exit 0) (.cons 3 (.hs 1) .nil) (.skip (.row 5 U8 false (.skip (.skip (.skip (.skip .nil)))))) .nil
noncomputable def R111_0 (n : El I64) (s : El ySpec) (out : List (El U8)) : Option ((ElT tp111_0 × ElH hp111_0) ⊕ ElX xp111_0) :=
  bif decide (n < s.2.2.1) then
    bif Nat.ble ((dlen out + dlen ([0] : List (El U8))) * 1) 140737488355328 then
      some (.inl (((), (), IntKind.wrap .i64 (n + 1), ()), s, dapp out ([0] : List (El U8)), ()))
    else none
  else
    some (.inr (.inl (((), ()), out, ())))
noncomputable def r111_0 (x : ElT tp111_0 × ElH hp111_0) : Option ((ElT tp111_0 × ElH hp111_0) ⊕ ElX xp111_0) := R111_0 x.1.2.2.1 x.2.1 x.2.2.1
noncomputable def g111_0 (n : El I64) (s : El ySpec) (out : List (El U8)) : Option (ElX xp111_0) := iterR r111_0 FU (((), (), n, ()), s, out, ())
noncomputable abbrev ls111_0 : List (Code × Option Frag) := []
noncomputable def F111_0 : Frag := ⟨6, [], tp111_0, hp111_0, xp111_0, 44, fun x => iterR r111_0 FU x⟩
theorem rd111_0 : ∀ x, roundA Try.prog (mkK lk111) (mkL ls111_0) b111_0 tp111_0 hp111_0 xp111_0 44 x = r111_0 x := fun x => by kernel_rfl
theorem fo111_0 : FragOk Try.prog F111_0 b111_0 := frag_gen hmix hk111 (ls := ls111_0) (by kernel_rfl) trivial (by kernel_rfl) r111_0 rd111_0 (by kernel_rfl)
abbrev ia111 : AP := .cons (.val ySpec) .nil
abbrev ih111 : HP := .nil
abbrev oa111 : AP := .cons (.val (.sl U8)) .nil
abbrev oh111 : HP := .nil
noncomputable def f111 (s : El ySpec) : Option (ElA oa111 × ElH oh111) :=
  (f110 s).bind fun r1 =>
  bif !r1.1.1 then
    some ((some ([] : List (El U8)), ()), ())
  else
    bif decide (s.1 = 8) then
      (g111_0 0 s ([] : List (El U8))).bind fun r2 => match r2 with
      | .inl y3 =>
        some ((some y3.2.1, ()), ())
    else
      bif decide ((0 : Int) < s.2.2.1) then
        bif decide (s.2.2.2.1 < 0) then
          (f68 s.1 s.2.2.2.1).bind fun r4 =>
          some ((r4.1.1, ()), ())
        else
          (f68 s.1 s.2.2.1).bind fun r5 =>
          some ((r5.1.1, ()), ())
      else
        bif decide (s.2.2.2.1 < 0) then
          (f68 s.1 s.2.2.2.1).bind fun r6 =>
          some ((r6.1.1, ()), ())
        else
          (f68 s.1 0).bind fun r7 =>
          some ((r7.1.1, ()), ())
noncomputable def s111 : Ab.Spec := ⟨ia111, ih111, oa111, oh111, fun x => f111 x.1.1⟩
noncomputable abbrev ls111 : List (Code × Option Frag) := [(b111_0, some F111_0)]
theorem fn111 : ∀ x, funcA Try.prog (mkK lk111) (mkL ls111) Try.f111 ⟨ia111, ih111, oa111, oh111⟩ x = s111.F x := fun x => by kernel_rfl
theorem ok111 : SpecOk Try.prog 111 s111 := spec_gen hmix hk111 (ls := ls111) (code := c111) (fn := Try.f111) (by kernel_rfl) (by kernel_rfl) (by kernel_rfl) (by kernel_rfl) ⟨fo111_0, trivial⟩ (by kernel_rfl) (g := ⟨ia111, ih111, oa111, oh111⟩) rfl s111.F fn111

end Go.Proofs.Ytjmikonopapihaa
