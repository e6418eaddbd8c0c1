import Derived.Test.YtjmikonopapihaaProg
import Derived.Test.YtjmikonopapihaaAbGen
import Derived.Test.YtjmikonopapihaaGTy
import Derived.Test.YtjmikonopapihaaGH
import Derived.Test.YtjmikonopapihaaG0
import Derived.Test.YtjmikonopapihaaG1
namespace Go.Proofs.Ytjmikonopapihaa
open Go.Ab
set_option maxRecDepth 100000
set_option maxHeartbeats 1000000

/-! f58 (*tripwire/dict.Dict).Add -/
noncomputable def c58 : Code := codeOf Try.f58
noncomputable abbrev lk58 : List (FuncId × Ab.Spec) := [(107, s107), (112, s112), (104, s104), (113, s113), (53, s53), (114, s114), (54, s54), (115, s115)]
theorem hk58 : AllOk Try.prog lk58 := ⟨ok107, ok112, ok104, ok113, ok53, ok114, ok54, ok115, trivial⟩
abbrev ia58 : AP := .cons (.ptr 0) (.cons (.val yKey) (.cons (.val ySpec) (.cons (.val (.sl U8)) .nil)))
abbrev ih58 : HP := .box (.cons (.ptr 1) (.cons (.val I64) .nil)) (.box (.cons (.hs 2) .nil) (.row 230 yShRow true .nil))
abbrev oa58 : AP := .cons (.val I64) .nil
abbrev oh58 : HP := .box (.cons (.ptr 1) (.cons (.val I64) .nil)) (.box (.cons (.hs 2) .nil) (.row 230 yShRow true .nil))
noncomputable def f58 (k : El yKey) (s : El ySpec) (first : El (.sl U8)) (d : El I64) (h2 : List (El yShRow)) : Option (ElA oa58 × ElH oh58) :=
  (f107 k).bind fun r1 =>
  bif !(decide (r1.1.1 < 0)) then
    (f112 s).bind fun r2 =>
    bif !r2.1.1 then
      some ((2, ()), ((), d, ()), ((), ()), h2, ())
    else
      bif decide (olen first = 0) then
        (f104 s first).bind fun r3 =>
        bif !(decide (r3.1.1 = 0)) then
          (f113 s).bind fun r4 =>
          (f104 s r4.1.1).bind fun r5 =>
          bif !(decide (r5.1.1 = 0)) then
            some ((14, ()), ((), d, ()), ((), ()), h2, ())
          else
            (f53 k d h2).bind fun r6 =>
            bif r6.1.2.1 then
              some ((8, ()), ((), r6.2.1.2.1, ()), ((), ()), r6.2.2.2.1, ())
            else
              (f114 r6.2.2.2.1).bind fun r7 =>
              bif decide ((512 : Int) ≤ r7.1.1) then
                some ((6, ()), ((), r6.2.1.2.1, ()), ((), ()), r7.2.2.1, ())
              else
                (f107 k).bind fun r8 =>
                (f54 r4.1.1).bind fun r9 =>
                (f115 r8.1.1 (s, r9.1.1, ()) r7.2.2.1).bind fun r10 =>
                some ((0, ()), ((), r6.2.1.2.1, ()), ((), ()), r10.2.2.1, ())
        else
          (f104 s first).bind fun r11 =>
          bif !(decide (r11.1.1 = 0)) then
            some ((14, ()), ((), d, ()), ((), ()), h2, ())
          else
            (f53 k d h2).bind fun r12 =>
            bif r12.1.2.1 then
              some ((8, ()), ((), r12.2.1.2.1, ()), ((), ()), r12.2.2.2.1, ())
            else
              (f114 r12.2.2.2.1).bind fun r13 =>
              bif decide ((512 : Int) ≤ r13.1.1) then
                some ((6, ()), ((), r12.2.1.2.1, ()), ((), ()), r13.2.2.1, ())
              else
                (f107 k).bind fun r14 =>
                (f54 first).bind fun r15 =>
                (f115 r14.1.1 (s, r15.1.1, ()) r13.2.2.1).bind fun r16 =>
                some ((0, ()), ((), r12.2.1.2.1, ()), ((), ()), r16.2.2.1, ())
      else
        (f104 s first).bind fun r17 =>
        bif !(decide (r17.1.1 = 0)) then
          some ((14, ()), ((), d, ()), ((), ()), h2, ())
        else
          (f53 k d h2).bind fun r18 =>
          bif r18.1.2.1 then
            some ((8, ()), ((), r18.2.1.2.1, ()), ((), ()), r18.2.2.2.1, ())
          else
            (f114 r18.2.2.2.1).bind fun r19 =>
            bif decide ((512 : Int) ≤ r19.1.1) then
              some ((6, ()), ((), r18.2.1.2.1, ()), ((), ()), r19.2.2.1, ())
            else
              (f107 k).bind fun r20 =>
              (f54 first).bind fun r21 =>
              (f115 r20.1.1 (s, r21.1.1, ()) r19.2.2.1).bind fun r22 =>
              some ((0, ()), ((), r18.2.1.2.1, ()), ((), ()), r22.2.2.1, ())
  else
    some ((2, ()), ((), d, ()), ((), ()), h2, ())
noncomputable def s58 : Ab.Spec := ⟨ia58, ih58, oa58, oh58, fun x => f58 x.1.2.1 x.1.2.2.1 x.1.2.2.2.1 x.2.1.2.1 x.2.2.2.1⟩
noncomputable abbrev ls58 : List (Code × Option Frag) := []
theorem fn58 : ∀ x, funcA Try.prog (mkK lk58) (mkL ls58) Try.f58 ⟨ia58, ih58, oa58, oh58⟩ x = s58.F x := fun x => by kernel_rfl
theorem ok58 : SpecOk Try.prog 58 s58 := spec_gen hmix hk58 (ls := ls58) (code := c58) (fn := Try.f58) (by kernel_rfl) (by kernel_rfl) (by kernel_rfl) (by kernel_rfl) trivial (by kernel_rfl) (g := ⟨ia58, ih58, oa58, oh58⟩) rfl s58.F fn58

/-! f94 tripwire/area.rows -/
noncomputable def c94 : Code := codeOf Try.f94
noncomputable abbrev lk94 : List (FuncId × Ab.Spec) := []
theorem hk94 : AllOk Try.prog lk94 := trivial
abbrev ia94 : AP := .nil
abbrev ih94 : HP := .nil
abbrev oa94 : AP := .cons (.val (.sl yRow)) .nil
abbrev oh94 : HP := .nil
noncomputable def f94 : Option (ElA oa94 × ElH oh94) :=
  some ((some ([(0, 2, 6, 6, true, ()), (1, 2, 0, 2, false, ()), (2, 3, 1, 65535, false, ()), (3, 3, 1, 65535, false, ()), (4, 2, 254, 254, true, ()), (5, 4, 257, 383, false, ()), (6, 4, 258, 384, false, ())] : List (El yRow)), ()), ())
noncomputable def s94 : Ab.Spec := ⟨ia94, ih94, oa94, oh94, fun x => f94⟩
noncomputable abbrev ls94 : List (Code × Option Frag) := []
theorem fn94 : ∀ x, funcA Try.prog (mkK lk94) (mkL ls94) Try.f94 ⟨ia94, ih94, oa94, oh94⟩ x = s94.F x := fun x => by kernel_rfl
theorem ok94 : SpecOk Try.prog 94 s94 := spec_gen hmix hk94 (ls := ls94) (code := c94) (fn := Try.f94) (by kernel_rfl) (by kernel_rfl) (by kernel_rfl) (by kernel_rfl) trivial (by kernel_rfl) (g := ⟨ia94, ih94, oa94, oh94⟩) rfl s94.F fn94

/-! f137 tripwire/area.add -/
noncomputable def c137 : Code := codeOf Try.f137
noncomputable abbrev lk137 : List (FuncId × Ab.Spec) := [(121, s121), (58, s58)]
theorem hk137 : AllOk Try.prog lk137 := ⟨ok121, ok58, trivial⟩
abbrev ia137 : AP := .cons (.ptr 0) (.cons (.val I64) (.cons (.val yRow) .nil))
abbrev ih137 : HP := .box (.cons (.ptr 1) (.cons (.val I64) .nil)) (.box (.cons (.hs 2) .nil) (.row 230 yShRow true .nil))
abbrev oa137 : AP := .cons (.val I64) .nil
abbrev oh137 : HP := .box (.cons (.ptr 1) (.cons (.val I64) .nil)) (.box (.cons (.hs 2) .nil) (.row 230 yShRow true .nil))
noncomputable def f137 (index_ : El I64) (r : El yRow) (d : El I64) (h2 : List (El yShRow)) : Option (ElA oa137 × ElH oh137) :=
  bif r.2.2.2.2.1 then
    (f121 r.2.1 r.2.2.1).bind fun r1 =>
    bif !(decide (r1.1.2.1 = 0)) then
      some ((r1.1.2.1, ()), ((), d, ()), ((), ()), h2, ())
    else
      (f58 (index_, r.1, ()) (r.2.1, 4, r.2.2.1, r.2.2.2.1, ()) r1.1.1 d h2).bind fun r2 =>
      some ((r2.1.1, ()), ((), r2.2.1.2.1, ()), ((), ()), r2.2.2.2.1, ())
  else
    (f121 r.2.1 r.2.2.1).bind fun r3 =>
    bif !(decide (r3.1.2.1 = 0)) then
      some ((r3.1.2.1, ()), ((), d, ()), ((), ()), h2, ())
    else
      (f58 (index_, r.1, ()) (r.2.1, 3, r.2.2.1, r.2.2.2.1, ()) r3.1.1 d h2).bind fun r4 =>
      some ((r4.1.1, ()), ((), r4.2.1.2.1, ()), ((), ()), r4.2.2.2.1, ())
noncomputable def s137 : Ab.Spec := ⟨ia137, ih137, oa137, oh137, fun x => f137 x.1.2.1 x.1.2.2.1 x.2.1.2.1 x.2.2.2.1⟩
noncomputable abbrev ls137 : List (Code × Option Frag) := []
theorem fn137 : ∀ x, funcA Try.prog (mkK lk137) (mkL ls137) Try.f137 ⟨ia137, ih137, oa137, oh137⟩ x = s137.F x := fun x => by kernel_rfl
theorem ok137 : SpecOk Try.prog 137 s137 := spec_gen hmix hk137 (ls := ls137) (code := c137) (fn := Try.f137) (by kernel_rfl) (by kernel_rfl) (by kernel_rfl) (by kernel_rfl) trivial (by kernel_rfl) (g := ⟨ia137, ih137, oa137, oh137⟩) rfl s137.F fn137

/-! f116 tripwire/area.all -/
noncomputable def c116 : Code := codeOf Try.f116
noncomputable abbrev lk116 : List (FuncId × Ab.Spec) := [(137, s137)]
theorem hk116 : AllOk Try.prog lk116 := ⟨ok137, trivial⟩
noncomputable def b116_0 : Code := (loopsL c116).getD 0 .skip
abbrev tp116_0 : TP := .cons 0 (.ptr 0) (.cons 1 (.val I64) (.cons 10 (.val (.sl yRow)) (.cons 11 (.val I64) (.cons 12 (.val I64) .nil))))
abbrev hp116_0 : HP := .box (.cons (.ptr 1) (.cons (.val I64) .nil)) (.box (.cons (.hs 2) .nil) (.row 230 yShRow true .nil))
abbrev xp116_0 : XP := .cons (.exit 0) .nil (.box (.cons (.ptr 1) (.cons (.val I64) .nil)) (.box (.cons (.hs 2) .nil) (.row 230 yShRow true .nil))) (.cons .ret (.cons 6 (.val I64) .nil) (.box (.cons (.ptr 1) (.cons (.val I64) .nil)) (.box (.cons (.hs 2) .nil) (.row 230 yShRow true .nil))) .nil)
noncomputable def R116_0 (index_ : El I64) (t10 : El (.sl yRow)) (t11 : El I64) (t12 : El I64) (d : El I64) (h2 : List (El yShRow)) : Option ((ElT tp116_0 × ElH hp116_0) ⊕ ElX xp116_0) :=
  bif decide (t12 < t11) then
    bif idxOk t12 (olen t10) then
      (f137 index_ (oget t10 t12.toNat (zero yRow)) d h2).bind fun r2 =>
      bif !(decide (r2.1.1 = 0)) then
        some (.inr (.inr (.inl ((r2.1.1, ()), ((), r2.2.1.2.1, ()), ((), ()), r2.2.2.2.1, ()))))
      else
        some (.inl (((), index_, t10, t11, IntKind.wrap .i64 (t12 + 1), ()), ((), r2.2.1.2.1, ()), ((), ()), r2.2.2.2.1, ()))
    else none
  else
    some (.inr (.inl ((), ((), d, ()), ((), ()), h2, ())))
noncomputable def r116_0 (x : ElT tp116_0 × ElH hp116_0) : Option ((ElT tp116_0 × ElH hp116_0) ⊕ ElX xp116_0) := R116_0 x.1.2.1 x.1.2.2.1 x.1.2.2.2.1 x.1.2.2.2.2.1 x.2.1.2.1 x.2.2.2.1
noncomputable def g116_0 (index_ : El I64) (t10 : El (.sl yRow)) (t11 : El I64) (t12 : El I64) (d : El I64) (h2 : List (El yShRow)) : Option (ElX xp116_0) := iterR r116_0 FU (((), index_, t10, t11, t12, ()), ((), d, ()), ((), ()), h2, ())
noncomputable abbrev ls116_0 : List (Code × Option Frag) := []
noncomputable def F116_0 : Frag := ⟨3, [], tp116_0, hp116_0, xp116_0, 24, fun x => iterR r116_0 FU x⟩
theorem rd116_0 : ∀ x, roundA Try.prog (mkK lk116) (mkL ls116_0) b116_0 tp116_0 hp116_0 xp116_0 24 x = r116_0 x := fun x => by kernel_rfl
theorem fo116_0 : FragOk Try.prog F116_0 b116_0 := frag_gen hmix hk116 (ls := ls116_0) (by kernel_rfl) trivial (by kernel_rfl) r116_0 rd116_0 (by kernel_rfl)
abbrev ia116 : AP := .cons (.ptr 0) (.cons (.val I64) (.cons (.val (.sl yRow)) .nil))
abbrev ih116 : HP := .box (.cons (.ptr 1) (.cons (.val I64) .nil)) (.box (.cons (.hs 2) .nil) (.row 230 yShRow true .nil))
abbrev oa116 : AP := .cons (.val I64) .nil
abbrev oh116 : HP := .box (.cons (.ptr 1) (.cons (.val I64) .nil)) (.box (.cons (.hs 2) .nil) (.row 230 yShRow true .nil))
noncomputable def f116 (index_ : El I64) (l : El (.sl yRow)) (d : El I64) (h2 : List (El yShRow)) : Option (ElA oa116 × ElH oh116) :=
  (g116_0 index_ l (olen l) 0 d h2).bind fun r3 => match r3 with
  | .inl y4 =>
    some ((0, ()), ((), y4.2.1.2.1, ()), ((), ()), y4.2.2.2.1, ())
  | .inr (.inl y4) =>
    some ((y4.1.1, ()), ((), y4.2.1.2.1, ()), ((), ()), y4.2.2.2.1, ())
noncomputable def s116 : Ab.Spec := ⟨ia116, ih116, oa116, oh116, fun x => f116 x.1.2.1 x.1.2.2.1 x.2.1.2.1 x.2.2.2.1⟩
noncomputable abbrev ls116 : List (Code × Option Frag) := [(b116_0, some F116_0)]
theorem fn116 : ∀ x, funcA Try.prog (mkK lk116) (mkL ls116) Try.f116 ⟨ia116, ih116, oa116, oh116⟩ x = s116.F x := fun x => by kernel_rfl
theorem ok116 : SpecOk Try.prog 116 s116 := spec_gen hmix hk116 (ls := ls116) (code := c116) (fn := Try.f116) (by kernel_rfl) (by kernel_rfl) (by kernel_rfl) (by kernel_rfl) ⟨fo116_0, trivial⟩ (by kernel_rfl) (g := ⟨ia116, ih116, oa116, oh116⟩) rfl s116.F fn116

/-! f117 tripwire/area.many -/
noncomputable def c117 : Code := codeOf Try.f117
noncomputable abbrev lk117 : List (FuncId × Ab.Spec) := [(138, s138)]
theorem hk117 : AllOk Try.prog lk117 := ⟨ok138, trivial⟩
noncomputable def b117_0 : Code := (loopsL c117).getD 0 .skip
abbrev tp117_0 : TP := .cons 0 (.val I64) (.cons 2 (.val I64) (.cons 7 (.hs 0) (.cons 9 (.val I64) (.cons 10 (.val I64) .nil))))
abbrev hp117_0 : HP := .row 189 yRow true .nil
abbrev xp117_0 : XP := .cons (.exit 0) (.cons 7 (.hs 0) .nil) (.row 189 yRow true .nil) .nil
noncomputable def R117_0 (from_ : El I64) (kind : El I64) (t9 : El I64) (t10 : El I64) (l : List (El yRow)) : Option ((ElT tp117_0 × ElH hp117_0) ⊕ ElX xp117_0) :=
  bif decide (t10 < t9) then
    (f138 kind).bind fun r2 =>
    bif Nat.ble ((dlen l + dlen ([(IntKind.wrap .i64 (from_ + t10), kind, 0, r2.1.1, false, ())] : List (El yRow))) * 40) 140737488355328 then
      some (.inl ((from_, kind, (), t9, IntKind.wrap .i64 (t10 + 1), ()), dapp l ([(IntKind.wrap .i64 (from_ + t10), kind, 0, r2.1.1, false, ())] : List (El yRow)), ()))
    else none
  else
    some (.inr (.inl (((), ()), l, ())))
noncomputable def r117_0 (x : ElT tp117_0 × ElH hp117_0) : Option ((ElT tp117_0 × ElH hp117_0) ⊕ ElX xp117_0) := R117_0 x.1.1 x.1.2.1 x.1.2.2.2.1 x.1.2.2.2.2.1 x.2.1
noncomputable def g117_0 (from_ : El I64) (kind : El I64) (t9 : El I64) (t10 : El I64) (l : List (El yRow)) : Option (ElX xp117_0) := iterR r117_0 FU ((from_, kind, (), t9, t10, ()), l, ())
noncomputable abbrev ls117_0 : List (Code × Option Frag) := []
noncomputable def F117_0 : Frag := ⟨0, [(7, 186)], tp117_0, hp117_0, xp117_0, 25, fun x => iterR r117_0 FU x⟩
theorem rd117_0 : ∀ x, roundA Try.prog (mkK lk117) (mkL ls117_0) b117_0 tp117_0 hp117_0 xp117_0 25 x = r117_0 x := fun x => by kernel_rfl
theorem fo117_0 : FragOk Try.prog F117_0 b117_0 := frag_gen hmix hk117 (ls := ls117_0) (by kernel_rfl) trivial (by kernel_rfl) r117_0 rd117_0 (by kernel_rfl)
abbrev ia117 : AP := .cons (.val I64) (.cons (.val I64) (.cons (.val I64) .nil))
abbrev ih117 : HP := .nil
abbrev oa117 : AP := .cons (.val (.sl yRow)) .nil
abbrev oh117 : HP := .nil
noncomputable def f117 (from_ : El I64) (n : El I64) (kind : El I64) : Option (ElA oa117 × ElH oh117) :=
  (g117_0 from_ kind n 0 ([] : List (El yRow))).bind fun r3 => match r3 with
  | .inl y4 =>
    some ((rowC true y4.2.1, ()), ())
noncomputable def s117 : Ab.Spec := ⟨ia117, ih117, oa117, oh117, fun x => f117 x.1.1 x.1.2.1 x.1.2.2.1⟩
noncomputable abbrev ls117 : List (Code × Option Frag) := [(b117_0, some F117_0)]
theorem fn117 : ∀ x, funcA Try.prog (mkK lk117) (mkL ls117) Try.f117 ⟨ia117, ih117, oa117, oh117⟩ x = s117.F x := fun x => by kernel_rfl
theorem ok117 : SpecOk Try.prog 117 s117 := spec_gen hmix hk117 (ls := ls117) (code := c117) (fn := Try.f117) (by kernel_rfl) (by kernel_rfl) (by kernel_rfl) (by kernel_rfl) ⟨fo117_0, trivial⟩ (by kernel_rfl) (g := ⟨ia117, ih117, oa117, oh117⟩) rfl s117.F fn117

/-! f59 tripwire/area.Lay -/
noncomputable def c59 : Code := codeOf Try.f59
noncomputable abbrev lk59 : List (FuncId × Ab.Spec) := [(94, s94), (116, s116), (117, s117)]
theorem hk59 : AllOk Try.prog lk59 := ⟨ok94, ok116, ok117, trivial⟩
noncomputable def b59_0 : Code := (loopsL c59).getD 0 .skip
noncomputable def b59_1 : Code := (loopsL c59).getD 1 .skip
abbrev tp59_0 : TP := .cons 0 (.ptr 0) (.cons 12 (.val I64) .nil)
abbrev hp59_0 : HP := .box (.cons (.ptr 1) (.cons (.val I64) .nil)) (.box (.cons (.hs 2) .nil) (.row 230 yShRow true .nil))
abbrev xp59_0 : XP := .cons (.exit 0) (.cons 0 (.ptr 0) .nil) (.box (.cons (.ptr 1) (.cons (.val I64) .nil)) (.box (.cons (.hs 2) .nil) (.row 230 yShRow true .nil))) (.cons .ret (.cons 2 (.val I64) .nil) (.box (.cons (.ptr 1) (.cons (.val I64) .nil)) (.box (.cons (.hs 2) .nil) (.row 230 yShRow true .nil))) .nil)
noncomputable def R59_0 (t12 : El I64) (d : El I64) (h2 : List (El yShRow)) : Option ((ElT tp59_0 × ElH hp59_0) ⊕ ElX xp59_0) :=
  bif decide (t12 < 4) then
    (f94).bind fun r3 =>
    (f116 (IntKind.wrap .i64 (4865 + t12)) r3.1.1 d h2).bind fun r4 =>
    bif !(decide (r4.1.1 = 0)) then
      some (.inr (.inr (.inl ((r4.1.1, ()), ((), r4.2.1.2.1, ()), ((), ()), r4.2.2.2.1, ()))))
    else
      some (.inl (((), IntKind.wrap .i64 (t12 + 1), ()), ((), r4.2.1.2.1, ()), ((), ()), r4.2.2.2.1, ()))
  else
    some (.inr (.inl (((), ()), ((), d, ()), ((), ()), h2, ())))
noncomputable def r59_0 (x : ElT tp59_0 × ElH hp59_0) : Option ((ElT tp59_0 × ElH hp59_0) ⊕ ElX xp59_0) := R59_0 x.1.2.1 x.2.1.2.1 x.2.2.2.1
noncomputable def g59_0 (t12 : El I64) (d : El I64) (h2 : List (El yShRow)) : Option (ElX xp59_0) := iterR r59_0 FU (((), t12, ()), ((), d, ()), ((), ()), h2, ())
noncomputable abbrev ls59_0 : List (Code × Option Frag) := []
noncomputable def F59_0 : Frag := ⟨3, [], tp59_0, hp59_0, xp59_0, 53, fun x => iterR r59_0 FU x⟩
theorem rd59_0 : ∀ x, roundA Try.prog (mkK lk59) (mkL ls59_0) b59_0 tp59_0 hp59_0 xp59_0 53 x = r59_0 x := fun x => by kernel_rfl
theorem fo59_0 : FragOk Try.prog F59_0 b59_0 := frag_gen hmix hk59 (ls := ls59_0) (by kernel_rfl) trivial (by kernel_rfl) r59_0 rd59_0 (by kernel_rfl)
abbrev tp59_1 : TP := .cons 0 (.ptr 0) (.cons 24 (.val I64) .nil)
abbrev hp59_1 : HP := .box (.cons (.ptr 1) (.cons (.val I64) .nil)) (.box (.cons (.hs 2) .nil) (.row 230 yShRow true .nil))
abbrev xp59_1 : XP := .cons (.exit 2) (.cons 0 (.ptr 0) .nil) (.box (.cons (.ptr 1) (.cons (.val I64) .nil)) (.box (.cons (.hs 2) .nil) (.row 230 yShRow true .nil))) (.cons .ret (.cons 2 (.val I64) .nil) (.box (.cons (.ptr 1) (.cons (.val I64) .nil)) (.box (.cons (.hs 2) .nil) (.row 230 yShRow true .nil))) .nil)
noncomputable def R59_1 (t24 : El I64) (d : El I64) (h2 : List (El yShRow)) : Option ((ElT tp59_1 × ElH hp59_1) ⊕ ElX xp59_1) :=
  bif decide (t24 < 4) then
    (f117 1 8 4).bind fun r9 =>
    bif Nat.ble ((dlen ([(0, 2, 0, 8, false, ())] : List (El yRow)) + dlen (dor r9.1.1)) * 40) 140737488355328 then
      (f116 (IntKind.wrap .i64 (4993 + t24)) (some (dapp ([(0, 2, 0, 8, false, ())] : List (El yRow)) (dor r9.1.1))) d h2).bind fun r10 =>
      bif !(decide (r10.1.1 = 0)) then
        some (.inr (.inr (.inl ((r10.1.1, ()), ((), r10.2.1.2.1, ()), ((), ()), r10.2.2.2.1, ()))))
      else
        some (.inl (((), IntKind.wrap .i64 (t24 + 1), ()), ((), r10.2.1.2.1, ()), ((), ()), r10.2.2.2.1, ()))
    else none
  else
    some (.inr (.inl (((), ()), ((), d, ()), ((), ()), h2, ())))
noncomputable def r59_1 (x : ElT tp59_1 × ElH hp59_1) : Option ((ElT tp59_1 × ElH hp59_1) ⊕ ElX xp59_1) := R59_1 x.1.2.1 x.2.1.2.1 x.2.2.2.1
noncomputable def g59_1 (t24 : El I64) (d : El I64) (h2 : List (El yShRow)) : Option (ElX xp59_1) := iterR r59_1 FU (((), t24, ()), ((), d, ()), ((), ()), h2, ())
noncomputable abbrev ls59_1 : List (Code × Option Frag) := []
noncomputable def F59_1 : Frag := ⟨3, [], tp59_1, hp59_1, xp59_1, 53, fun x => iterR r59_1 FU x⟩
theorem rd59_1 : ∀ x, roundA Try.prog (mkK lk59) (mkL ls59_1) b59_1 tp59_1 hp59_1 xp59_1 53 x = r59_1 x := fun x => by kernel_rfl
theorem fo59_1 : FragOk Try.prog F59_1 b59_1 := frag_gen hmix hk59 (ls := ls59_1) (by kernel_rfl) trivial (by kernel_rfl) r59_1 rd59_1 (by kernel_rfl)
abbrev ia59 : AP := .cons (.ptr 0) .nil
abbrev ih59 : HP := .box (.cons (.ptr 1) (.cons (.val I64) .nil)) (.box (.cons (.hs 2) .nil) (.row 230 yShRow true .nil))
abbrev oa59 : AP := .cons (.val I64) .nil
abbrev oh59 : HP := .box (.cons (.ptr 1) (.cons (.val I64) .nil)) (.box (.cons (.hs 2) .nil) (.row 230 yShRow true .nil))
noncomputable def f59 (d : El I64) (h2 : List (El yShRow)) : Option (ElA oa59 × ElH oh59) :=
  (g59_0 0 d h2).bind fun r5 => match r5 with
  | .inl y6 =>
    (g59_1 0 y6.2.1.2.1 y6.2.2.2.1).bind fun r11 => match r11 with
    | .inl y12 =>
      (f117 0 1 2).bind fun r13 =>
      (f116 5118 r13.1.1 y12.2.1.2.1 y12.2.2.2.1).bind fun r14 =>
      bif !(decide (r14.1.1 = 0)) then
        some ((r14.1.1, ()), ((), r14.2.1.2.1, ()), ((), ()), r14.2.2.2.1, ())
      else
        (f117 1 4 3).bind fun r15 =>
        bif Nat.ble ((dlen ([(0, 2, 4, 4, true, ())] : List (El yRow)) + dlen (dor r15.1.1)) * 40) 140737488355328 then
          (f116 5119 (some (dapp ([(0, 2, 4, 4, true, ())] : List (El yRow)) (dor r15.1.1))) r14.2.1.2.1 r14.2.2.2.1).bind fun r16 =>
          some ((r16.1.1, ()), ((), r16.2.1.2.1, ()), ((), ()), r16.2.2.2.1, ())
        else none
    | .inr (.inl y12) =>
      some ((y12.1.1, ()), ((), y12.2.1.2.1, ()), ((), ()), y12.2.2.2.1, ())
  | .inr (.inl y6) =>
    some ((y6.1.1, ()), ((), y6.2.1.2.1, ()), ((), ()), y6.2.2.2.1, ())
noncomputable def s59 : Ab.Spec := ⟨ia59, ih59, oa59, oh59, fun x => f59 x.2.1.2.1 x.2.2.2.1⟩
noncomputable abbrev ls59 : List (Code × Option Frag) := [(b59_0, some F59_0), (b59_1, some F59_1)]
theorem fn59 : ∀ x, funcA Try.prog (mkK lk59) (mkL ls59) Try.f59 ⟨ia59, ih59, oa59, oh59⟩ x = s59.F x := fun x => by kernel_rfl
theorem ok59 : SpecOk Try.prog 59 s59 := spec_gen hmix hk59 (ls := ls59) (code := c59) (fn := Try.f59) (by kernel_rfl) (by kernel_rfl) (by kernel_rfl) (by kernel_rfl) ⟨fo59_0, fo59_1, trivial⟩ (by kernel_rfl) (g := ⟨ia59, ih59, oa59, oh59⟩) rfl s59.F fn59

/-! f16 tripwire/tripwirelaw15.Laid -/
noncomputable def c16 : Code := codeOf Try.f16
noncomputable abbrev lk16 : List (FuncId × Ab.Spec) := [(41, s41), (55, s55), (56, s56), (57, s57), (58, s58), (59, s59)]
theorem hk16 : AllOk Try.prog lk16 := ⟨ok41, ok55, ok56, ok57, ok58, ok59, trivial⟩
noncomputable def b16_0 : Code := (loopsL c16).getD 0 .skip
abbrev tp16_0 : TP := .cons 1 (.ptr 0) (.cons 2 (.ptr 1) (.cons 3 (.ptr 5) (.cons 4 (.hs 6) (.cons 5 (.val I64) .nil))))
abbrev hp16_0 : HP := .box (.val yDict) (.box (.cons (.ptr 2) (.cons (.val I64) .nil)) (.box (.cons (.hs 3) .nil) (.row 230 yShRow true (.skip (.box (.val yDict) (.row 43 yEntry false (.skip (.skip (.skip (.skip (.skip (.skip (.skip (.skip .nil))))))))))))))
abbrev xp16_0 : XP := .cons (.exit 0) (.cons 1 (.ptr 0) (.cons 2 (.ptr 1) (.cons 3 (.ptr 5) .nil))) (.box (.val yDict) (.box (.cons (.ptr 2) (.cons (.val I64) .nil)) (.box (.cons (.hs 3) .nil) (.row 230 yShRow true (.skip (.box (.val yDict) (.skip (.skip (.skip (.skip (.skip (.skip (.skip (.skip (.skip .nil))))))))))))))) .nil
noncomputable def R16_0 (i : El I64) (t1 : El yDict) (d : El I64) (h3 : List (El yShRow)) (r : El yDict) (l : List (El yEntry)) : Option ((ElT tp16_0 × ElH hp16_0) ⊕ ElX xp16_0) :=
  bif decide (i < (dlen l : Int)) then
    bif idxOk i (dlen l : Int) then
      bif idxOk i (dlen l : Int) then
        bif idxOk i (dlen l : Int) then
          (f57 r ((dget l i.toNat (zero yEntry)).1) (((dget l i.toNat (zero yEntry)).2).1) (some ((((dget l i.toNat (zero yEntry)).2).2).1))).bind fun r7 =>
          (f55).bind fun r8 =>
          bif decide (i < (dlen r8.2.1 : Int)) then
            bif idxOk i (dlen l : Int) then
              bif idxOk i (dlen l : Int) then
                bif idxOk i (dlen l : Int) then
                  (f58 ((dget l i.toNat (zero yEntry)).1) (((dget l i.toNat (zero yEntry)).2).1) (some ((((dget l i.toNat (zero yEntry)).2).2).1)) d h3).bind fun r9 =>
                  some (.inl (((), (), (), (), IntKind.wrap .i64 (i + 1), ()), t1, ((), r9.2.1.2.1, ()), ((), ()), r9.2.2.2.1, r7.1.1, l, ()))
                else none
              else none
            else none
          else
            some (.inl (((), (), (), (), IntKind.wrap .i64 (i + 1), ()), t1, ((), d, ()), ((), ()), h3, r7.1.1, l, ()))
        else none
      else none
    else none
  else
    some (.inr (.inl (((), (), (), ()), t1, ((), d, ()), ((), ()), h3, r, ())))
noncomputable def r16_0 (x : ElT tp16_0 × ElH hp16_0) : Option ((ElT tp16_0 × ElH hp16_0) ⊕ ElX xp16_0) := R16_0 x.1.2.2.2.2.1 x.2.1 x.2.2.1.2.1 x.2.2.2.2.1 x.2.2.2.2.2.1 x.2.2.2.2.2.2.1
noncomputable def g16_0 (i : El I64) (t1 : El yDict) (d : El I64) (h3 : List (El yShRow)) (r : El yDict) (l : List (El yEntry)) : Option (ElX xp16_0) := iterR r16_0 FU (((), (), (), (), i, ()), t1, ((), d, ()), ((), ()), h3, r, l, ())
noncomputable abbrev ls16_0 : List (Code × Option Frag) := []
noncomputable def F16_0 : Frag := ⟨15, [], tp16_0, hp16_0, xp16_0, 63, fun x => iterR r16_0 FU x⟩
theorem rd16_0 : ∀ x, roundA Try.prog (mkK lk16) (mkL ls16_0) b16_0 tp16_0 hp16_0 xp16_0 63 x = r16_0 x := fun x => by kernel_rfl
theorem fo16_0 : FragOk Try.prog F16_0 b16_0 := frag_gen hmix hk16 (ls := ls16_0) (by kernel_rfl) trivial (by kernel_rfl) r16_0 rd16_0 (by kernel_rfl)
abbrev ia16 : AP := .nil
abbrev ih16 : HP := .nil
abbrev oa16 : AP := .cons (.ptr 0) (.cons (.val yDict) .nil)
abbrev oh16 : HP := .box (.cons (.ptr 1) (.cons (.val I64) .nil)) (.box (.cons (.hs 2) .nil) (.row 230 yShRow true .nil))
noncomputable def f16 : Option (ElA oa16 × ElH oh16) :=
  (f41).bind fun r1 =>
  (f55).bind fun r2 =>
  (f56).bind fun r3 =>
  bif Nat.ble ((dlen r2.2.1 + dlen (dor r3.1.1)) * 64) 140737488355328 then
    (g16_0 0 (none, 0, ()) r1.2.1.2.1 r1.2.2.2.1 (none, 0, ()) (dapp r2.2.1 (dor r3.1.1))).bind fun r10 => match r10 with
    | .inl y11 =>
      (f59 y11.2.2.1.2.1 y11.2.2.2.2.1).bind fun r12 =>
      some (((), y11.2.2.2.2.2.1, ()), ((), r12.2.1.2.1, ()), ((), ()), r12.2.2.2.1, ())
  else none
noncomputable def s16 : Ab.Spec := ⟨ia16, ih16, oa16, oh16, fun x => f16⟩
noncomputable abbrev ls16 : List (Code × Option Frag) := [(b16_0, some F16_0)]
theorem fn16 : ∀ x, funcA Try.prog (mkK lk16) (mkL ls16) Try.f16 ⟨ia16, ih16, oa16, oh16⟩ x = s16.F x := fun x => by kernel_rfl
theorem ok16 : SpecOk Try.prog 16 s16 := spec_gen hmix hk16 (ls := ls16) (code := c16) (fn := Try.f16) (by kernel_rfl) (by kernel_rfl) (by kernel_rfl) (by kernel_rfl) ⟨fo16_0, trivial⟩ (by kernel_rfl) (g := ⟨ia16, ih16, oa16, oh16⟩) rfl s16.F fn16

/-! f65 (*tripwire/dict.Dict).own -/
noncomputable def c65 : Code := codeOf Try.f65
noncomputable abbrev lk65 : List (FuncId × Ab.Spec) := [(53, s53)]
theorem hk65 : AllOk Try.prog lk65 := ⟨ok53, trivial⟩
abbrev ia65 : AP := .cons (.ptr 0) (.cons (.val yKey) .nil)
abbrev ih65 : HP := .box (.cons (.ptr 1) (.cons (.val I64) .nil)) (.box (.cons (.hs 2) .nil) (.row 230 yShRow true .nil))
abbrev oa65 : AP := .cons (.val yEntrydict) (.cons (.val I64) .nil)
abbrev oh65 : HP := .box (.cons (.ptr 1) (.cons (.val I64) .nil)) (.box (.cons (.hs 2) .nil) (.row 230 yShRow true .nil))
noncomputable def f65 (k : El yKey) (d : El I64) (h2 : List (El yShRow)) : Option (ElA oa65 × ElH oh65) :=
  (f53 k d h2).bind fun r1 =>
  bif !r1.1.2.1 then
    some ((((0, 0, 0, 0, ()), none, ()), 7, ()), ((), r1.2.1.2.1, ()), ((), ()), r1.2.2.2.1, ())
  else
    bif decide (r1.1.1.1.2.1 = 4) then
      some ((((0, 0, 0, 0, ()), none, ()), 12, ()), ((), r1.2.1.2.1, ()), ((), ()), r1.2.2.2.1, ())
    else
      some ((r1.1.1, 0, ()), ((), r1.2.1.2.1, ()), ((), ()), r1.2.2.2.1, ())
noncomputable def s65 : Ab.Spec := ⟨ia65, ih65, oa65, oh65, fun x => f65 x.1.2.1 x.2.1.2.1 x.2.2.2.1⟩
noncomputable abbrev ls65 : List (Code × Option Frag) := []
theorem fn65 : ∀ x, funcA Try.prog (mkK lk65) (mkL ls65) Try.f65 ⟨ia65, ih65, oa65, oh65⟩ x = s65.F x := fun x => by kernel_rfl
theorem ok65 : SpecOk Try.prog 65 s65 := spec_gen hmix hk65 (ls := ls65) (code := c65) (fn := Try.f65) (by kernel_rfl) (by kernel_rfl) (by kernel_rfl) (by kernel_rfl) trivial (by kernel_rfl) (g := ⟨ia65, ih65, oa65, oh65⟩) rfl s65.F fn65

/-! f122 bytes.Equal -/
noncomputable def c122 : Code := codeOf Try.f122
noncomputable abbrev lk122 : List (FuncId × Ab.Spec) := []
theorem hk122 : AllOk Try.prog lk122 := trivial
abbrev ia122 : AP := .cons (.val (.sl U8)) (.cons (.val (.sl U8)) .nil)
abbrev ih122 : HP := .nil
abbrev oa122 : AP := .cons (.val .bool) .nil
abbrev oh122 : HP := .nil
noncomputable def f122 (a : El (.sl U8)) (b : El (.sl U8)) : Option (ElA oa122 × ElH oh122) :=
  some ((eqbL (dor a) (dor b), ()), ())
noncomputable def s122 : Ab.Spec := ⟨ia122, ih122, oa122, oh122, fun x => f122 x.1.1 x.1.2.1⟩
noncomputable abbrev ls122 : List (Code × Option Frag) := []
theorem fn122 : ∀ x, funcA Try.prog (mkK lk122) (mkL ls122) Try.f122 ⟨ia122, ih122, oa122, oh122⟩ x = s122.F x := fun x => by kernel_rfl
theorem ok122 : SpecOk Try.prog 122 s122 := spec_gen hmix hk122 (ls := ls122) (code := c122) (fn := Try.f122) (by kernel_rfl) (by kernel_rfl) (by kernel_rfl) (by kernel_rfl) trivial (by kernel_rfl) (g := ⟨ia122, ih122, oa122, oh122⟩) rfl s122.F fn122

/-! f67 (*tripwire/dict.Dict).hold -/
noncomputable def c67 : Code := codeOf Try.f67
noncomputable abbrev lk67 : List (FuncId × Ab.Spec) := [(122, s122), (107, s107), (54, s54), (115, s115)]
theorem hk67 : AllOk Try.prog lk67 := ⟨ok122, ok107, ok54, ok115, trivial⟩
abbrev ia67 : AP := .cons (.ptr 0) (.cons (.val yKey) (.cons (.val yEntrydict) (.cons (.val (.sl U8)) .nil)))
abbrev ih67 : HP := .box (.cons (.ptr 1) (.cons (.val I64) .nil)) (.box (.cons (.hs 2) .nil) (.row 230 yShRow true .nil))
abbrev oa67 : AP := .nil
abbrev oh67 : HP := .box (.cons (.ptr 1) (.cons (.val I64) .nil)) (.box (.cons (.hs 2) .nil) (.row 230 yShRow true .nil))
noncomputable def f67 (k : El yKey) (x : El yEntrydict) (b : El (.sl U8)) (d : El I64) (h2 : List (El yShRow)) : Option (ElA oa67 × ElH oh67) :=
  (f122 x.2.1 b).bind fun r1 =>
  bif !r1.1.1 then
    (f107 k).bind fun r2 =>
    (f54 b).bind fun r3 =>
    (f115 r2.1.1 (x.1, r3.1.1, ()) h2).bind fun r4 =>
    some ((), ((), IntKind.wrap .i64 (d + 1), ()), ((), ()), r4.2.2.1, ())
  else
    (f107 k).bind fun r5 =>
    (f54 b).bind fun r6 =>
    (f115 r5.1.1 (x.1, r6.1.1, ()) h2).bind fun r7 =>
    some ((), ((), d, ()), ((), ()), r7.2.2.1, ())
noncomputable def s67 : Ab.Spec := ⟨ia67, ih67, oa67, oh67, fun x => f67 x.1.2.1 x.1.2.2.1 x.1.2.2.2.1 x.2.1.2.1 x.2.2.2.1⟩
noncomputable abbrev ls67 : List (Code × Option Frag) := []
theorem fn67 : ∀ x, funcA Try.prog (mkK lk67) (mkL ls67) Try.f67 ⟨ia67, ih67, oa67, oh67⟩ x = s67.F x := fun x => by kernel_rfl
theorem ok67 : SpecOk Try.prog 67 s67 := spec_gen hmix hk67 (ls := ls67) (code := c67) (fn := Try.f67) (by kernel_rfl) (by kernel_rfl) (by kernel_rfl) (by kernel_rfl) trivial (by kernel_rfl) (g := ⟨ia67, ih67, oa67, oh67⟩) rfl s67.F fn67

/-! f48 (*tripwire/dict.Dict).Put -/
noncomputable def c48 : Code := codeOf Try.f48
noncomputable abbrev lk48 : List (FuncId × Ab.Spec) := [(65, s65), (104, s104), (67, s67)]
theorem hk48 : AllOk Try.prog lk48 := ⟨ok65, ok104, ok67, trivial⟩
abbrev ia48 : AP := .cons (.ptr 0) (.cons (.val yKey) (.cons (.val (.sl U8)) .nil))
abbrev ih48 : HP := .box (.cons (.ptr 1) (.cons (.val I64) .nil)) (.box (.cons (.hs 2) .nil) (.row 230 yShRow true .nil))
abbrev oa48 : AP := .cons (.val I64) .nil
abbrev oh48 : HP := .box (.cons (.ptr 1) (.cons (.val I64) .nil)) (.box (.cons (.hs 2) .nil) (.row 230 yShRow true .nil))
noncomputable def f48 (k : El yKey) (b : El (.sl U8)) (d : El I64) (h2 : List (El yShRow)) : Option (ElA oa48 × ElH oh48) :=
  (f65 k d h2).bind fun r1 =>
  bif !(decide (r1.1.2.1 = 0)) then
    some ((r1.1.2.1, ()), ((), r1.2.1.2.1, ()), ((), ()), r1.2.2.2.1, ())
  else
    (f104 r1.1.1.1 b).bind fun r2 =>
    bif !(decide (r2.1.1 = 0)) then
      some ((14, ()), ((), r1.2.1.2.1, ()), ((), ()), r1.2.2.2.1, ())
    else
      (f67 k r1.1.1 b r1.2.1.2.1 r1.2.2.2.1).bind fun r3 =>
      some ((0, ()), ((), r3.2.1.2.1, ()), ((), ()), r3.2.2.2.1, ())
noncomputable def s48 : Ab.Spec := ⟨ia48, ih48, oa48, oh48, fun x => f48 x.1.2.1 x.1.2.2.1 x.2.1.2.1 x.2.2.2.1⟩
noncomputable abbrev ls48 : List (Code × Option Frag) := []
theorem fn48 : ∀ x, funcA Try.prog (mkK lk48) (mkL ls48) Try.f48 ⟨ia48, ih48, oa48, oh48⟩ x = s48.F x := fun x => by kernel_rfl
theorem ok48 : SpecOk Try.prog 48 s48 := spec_gen hmix hk48 (ls := ls48) (code := c48) (fn := Try.f48) (by kernel_rfl) (by kernel_rfl) (by kernel_rfl) (by kernel_rfl) trivial (by kernel_rfl) (g := ⟨ia48, ih48, oa48, oh48⟩) rfl s48.F fn48

/-! f69 tripwire/tripwireref14.hold -/
noncomputable def c69 : Code := codeOf Try.f69
noncomputable abbrev lk69 : List (FuncId × Ab.Spec) := []
theorem hk69 : AllOk Try.prog lk69 := trivial
abbrev ia69 : AP := .cons (.val yDict) (.cons (.val I64) (.cons (.val (.sl U8)) .nil))
abbrev ih69 : HP := .nil
abbrev oa69 : AP := .cons (.val yDict) .nil
abbrev oh69 : HP := .nil
noncomputable def f69 (d : El yDict) (i : El I64) (b : El (.sl U8)) : Option (ElA oa69 × ElH oh69) :=
  bif Nat.ble ((dlen ([] : List (El yEntry)) + dlen (dor d.1)) * 64) 140737488355328 then
    bif idxOk i (dlen (dapp ([] : List (El yEntry)) (dor d.1)) : Int) then
      bif !(eqbL ((((dget (dapp ([] : List (El yEntry)) (dor d.1)) i.toNat (zero yEntry)).2).2).1) (dor b)) then
        bif idxOk i (dlen (dapp ([] : List (El yEntry)) (dor d.1)) : Int) then
          some (((some (dset (dapp ([] : List (El yEntry)) (dor d.1)) i.toNat ((dget (dapp ([] : List (El yEntry)) (dor d.1)) i.toNat (zero yEntry)).1, ((dget (dapp ([] : List (El yEntry)) (dor d.1)) i.toNat (zero yEntry)).2).1, dor b, (((dget (dapp ([] : List (El yEntry)) (dor d.1)) i.toNat (zero yEntry)).2).2).2)), IntKind.wrap .i64 (d.2.1 + 1), d.2.2), ()), ())
        else none
      else
        bif idxOk i (dlen (dapp ([] : List (El yEntry)) (dor d.1)) : Int) then
          some (((some (dset (dapp ([] : List (El yEntry)) (dor d.1)) i.toNat ((dget (dapp ([] : List (El yEntry)) (dor d.1)) i.toNat (zero yEntry)).1, ((dget (dapp ([] : List (El yEntry)) (dor d.1)) i.toNat (zero yEntry)).2).1, dor b, (((dget (dapp ([] : List (El yEntry)) (dor d.1)) i.toNat (zero yEntry)).2).2).2)), d.2), ()), ())
        else none
    else none
  else none
noncomputable def s69 : Ab.Spec := ⟨ia69, ih69, oa69, oh69, fun x => f69 x.1.1 x.1.2.1 x.1.2.2.1⟩
noncomputable abbrev ls69 : List (Code × Option Frag) := []
theorem fn69 : ∀ x, funcA Try.prog (mkK lk69) (mkL ls69) Try.f69 ⟨ia69, ih69, oa69, oh69⟩ x = s69.F x := fun x => by kernel_rfl
theorem ok69 : SpecOk Try.prog 69 s69 := spec_gen hmix hk69 (ls := ls69) (code := c69) (fn := Try.f69) (by kernel_rfl) (by kernel_rfl) (by kernel_rfl) (by kernel_rfl) trivial (by kernel_rfl) (g := ⟨ia69, ih69, oa69, oh69⟩) rfl s69.F fn69

/-! f49 tripwire/tripwireref14.Put -/
noncomputable def c49 : Code := codeOf Try.f49
noncomputable abbrev lk49 : List (FuncId × Ab.Spec) := [(63, s63), (62, s62), (69, s69)]
theorem hk49 : AllOk Try.prog lk49 := ⟨ok63, ok62, ok69, trivial⟩
abbrev ia49 : AP := .cons (.val yDict) (.cons (.val yKey) (.cons (.val (.sl U8)) .nil))
abbrev ih49 : HP := .nil
abbrev oa49 : AP := .cons (.val yDict) (.cons (.val I64) .nil)
abbrev oh49 : HP := .nil
noncomputable def f49 (d : El yDict) (k : El yKey) (b : El (.sl U8)) : Option (ElA oa49 × ElH oh49) :=
  (f63 d k).bind fun r1 =>
  bif decide (r1.1.1 < 0) then
    some ((d, 7, ()), ())
  else
    bif idxOk r1.1.1 (olen d.1) then
      bif decide (((((oget d.1 r1.1.1.toNat (zero yEntry)).2).1).2).1 = 4) then
        some ((d, 12, ()), ())
      else
        bif idxOk r1.1.1 (olen d.1) then
          (f62 (((oget d.1 r1.1.1.toNat (zero yEntry)).2).1) b).bind fun r2 =>
          bif !(decide (r2.1.1 = 0)) then
            some ((d, 14, ()), ())
          else
            (f69 d r1.1.1 b).bind fun r3 =>
            some ((r3.1.1, 0, ()), ())
        else none
    else none
noncomputable def s49 : Ab.Spec := ⟨ia49, ih49, oa49, oh49, fun x => f49 x.1.1 x.1.2.1 x.1.2.2.1⟩
noncomputable abbrev ls49 : List (Code × Option Frag) := []
theorem fn49 : ∀ x, funcA Try.prog (mkK lk49) (mkL ls49) Try.f49 ⟨ia49, ih49, oa49, oh49⟩ x = s49.F x := fun x => by kernel_rfl
theorem ok49 : SpecOk Try.prog 49 s49 := spec_gen hmix hk49 (ls := ls49) (code := c49) (fn := Try.f49) (by kernel_rfl) (by kernel_rfl) (by kernel_rfl) (by kernel_rfl) trivial (by kernel_rfl) (g := ⟨ia49, ih49, oa49, oh49⟩) rfl s49.F fn49

/-! f11 tripwire/tripwirelaw25.filled -/
noncomputable def c11 : Code := codeOf Try.f11
noncomputable abbrev lk11 : List (FuncId × Ab.Spec) := [(16, s16), (48, s48), (49, s49)]
theorem hk11 : AllOk Try.prog lk11 := ⟨ok16, ok48, ok49, trivial⟩
noncomputable def b11_0 : Code := (loopsL c11).getD 0 .skip
abbrev tp11_0 : TP := .cons 0 (.val (.sl (.sl U8))) (.cons 3 (.ptr 0) (.cons 4 (.ptr 1) (.cons 5 (.ptr 5) (.cons 6 (.val I64) .nil))))
abbrev hp11_0 : HP := .box (.val yDict) (.box (.cons (.ptr 2) (.cons (.val I64) .nil)) (.box (.cons (.hs 3) .nil) (.row 230 yShRow true (.skip (.box (.val yDict) .nil)))))
abbrev xp11_0 : XP := .cons (.exit 0) (.cons 3 (.ptr 0) (.cons 4 (.ptr 1) (.cons 5 (.ptr 5) .nil))) (.box (.val yDict) (.box (.cons (.ptr 2) (.cons (.val I64) .nil)) (.box (.cons (.hs 3) .nil) (.row 230 yShRow true (.skip (.box (.val yDict) .nil)))))) .nil
noncomputable def R11_0 (l : El (.sl (.sl U8))) (i : El I64) (t3 : El yDict) (d : El I64) (h3 : List (El yShRow)) (r : El yDict) : Option ((ElT tp11_0 × ElH hp11_0) ⊕ ElX xp11_0) :=
  bif decide (i < olen l) then
    bif decide (i < 8) then
      bif idxOk i (olen l) then
        (f48 (8192, IntKind.wrap .i64 (i + 1), ()) (oget l i.toNat (zero (.sl U8))) d h3).bind fun r4 =>
        bif idxOk i (olen l) then
          (f49 r (8192, IntKind.wrap .i64 (i + 1), ()) (oget l i.toNat (zero (.sl U8)))).bind fun r5 =>
          some (.inl ((l, (), (), (), IntKind.wrap .i64 (i + 1), ()), t3, ((), r4.2.1.2.1, ()), ((), ()), r4.2.2.2.1, r5.1.1, ()))
        else none
      else none
    else
      some (.inr (.inl (((), (), (), ()), t3, ((), d, ()), ((), ()), h3, r, ())))
  else
    some (.inr (.inl (((), (), (), ()), t3, ((), d, ()), ((), ()), h3, r, ())))
noncomputable def r11_0 (x : ElT tp11_0 × ElH hp11_0) : Option ((ElT tp11_0 × ElH hp11_0) ⊕ ElX xp11_0) := R11_0 x.1.1 x.1.2.2.2.2.1 x.2.1 x.2.2.1.2.1 x.2.2.2.2.1 x.2.2.2.2.2.1
noncomputable def g11_0 (l : El (.sl (.sl U8))) (i : El I64) (t3 : El yDict) (d : El I64) (h3 : List (El yShRow)) (r : El yDict) : Option (ElX xp11_0) := iterR r11_0 FU ((l, (), (), (), i, ()), t3, ((), d, ()), ((), ()), h3, r, ())
noncomputable abbrev ls11_0 : List (Code × Option Frag) := []
noncomputable def F11_0 : Frag := ⟨6, [], tp11_0, hp11_0, xp11_0, 44, fun x => iterR r11_0 FU x⟩
theorem rd11_0 : ∀ x, roundA Try.prog (mkK lk11) (mkL ls11_0) b11_0 tp11_0 hp11_0 xp11_0 44 x = r11_0 x := fun x => by kernel_rfl
theorem fo11_0 : FragOk Try.prog F11_0 b11_0 := frag_gen hmix hk11 (ls := ls11_0) (by kernel_rfl) trivial (by kernel_rfl) r11_0 rd11_0 (by kernel_rfl)
abbrev ia11 : AP := .cons (.val (.sl (.sl U8))) .nil
abbrev ih11 : HP := .nil
abbrev oa11 : AP := .cons (.ptr 0) (.cons (.val yDict) .nil)
abbrev oh11 : HP := .box (.cons (.ptr 1) (.cons (.val I64) .nil)) (.box (.cons (.hs 2) .nil) (.row 230 yShRow true .nil))
noncomputable def f11 (l : El (.sl (.sl U8))) : Option (ElA oa11 × ElH oh11) :=
  (f16).bind fun r1 =>
  (g11_0 l 0 (none, 0, ()) r1.2.1.2.1 r1.2.2.2.1 r1.1.2.1).bind fun r6 => match r6 with
  | .inl y7 =>
    some (((), y7.2.2.2.2.2.1, ()), ((), y7.2.2.1.2.1, ()), ((), ()), y7.2.2.2.2.1, ())
noncomputable def s11 : Ab.Spec := ⟨ia11, ih11, oa11, oh11, fun x => f11 x.1.1⟩
noncomputable abbrev ls11 : List (Code × Option Frag) := [(b11_0, some F11_0)]
theorem fn11 : ∀ x, funcA Try.prog (mkK lk11) (mkL ls11) Try.f11 ⟨ia11, ih11, oa11, oh11⟩ x = s11.F x := fun x => by kernel_rfl
theorem ok11 : SpecOk Try.prog 11 s11 := spec_gen hmix hk11 (ls := ls11) (code := c11) (fn := Try.f11) (by kernel_rfl) (by kernel_rfl) (by kernel_rfl) (by kernel_rfl) ⟨fo11_0, trivial⟩ (by kernel_rfl) (g := ⟨ia11, ih11, oa11, oh11⟩) rfl s11.F fn11

/-! f91 (*tripwire/dict.Dict).Spec -/
noncomputable def c91 : Code := codeOf Try.f91
noncomputable abbrev lk91 : List (FuncId × Ab.Spec) := [(53, s53)]
theorem hk91 : AllOk Try.prog lk91 := ⟨ok53, trivial⟩
abbrev ia91 : AP := .cons (.ptr 0) (.cons (.val yKey) .nil)
abbrev ih91 : HP := .box (.cons (.ptr 1) (.cons (.val I64) .nil)) (.box (.cons (.hs 2) .nil) (.row 230 yShRow true .nil))
abbrev oa91 : AP := .cons (.val ySpec) (.cons (.val .bool) .nil)
abbrev oh91 : HP := .box (.cons (.ptr 1) (.cons (.val I64) .nil)) (.box (.cons (.hs 2) .nil) (.row 230 yShRow true .nil))
noncomputable def f91 (k : El yKey) (d : El I64) (h2 : List (El yShRow)) : Option (ElA oa91 × ElH oh91) :=
  (f53 k d h2).bind fun r1 =>
  some ((r1.1.1.1, r1.1.2.1, ()), ((), r1.2.1.2.1, ()), ((), ()), r1.2.2.2.1, ())
noncomputable def s91 : Ab.Spec := ⟨ia91, ih91, oa91, oh91, fun x => f91 x.1.2.1 x.2.1.2.1 x.2.2.2.1⟩
noncomputable abbrev ls91 : List (Code × Option Frag) := []
theorem fn91 : ∀ x, funcA Try.prog (mkK lk91) (mkL ls91) Try.f91 ⟨ia91, ih91, oa91, oh91⟩ x = s91.F x := fun x => by kernel_rfl
theorem ok91 : SpecOk Try.prog 91 s91 := spec_gen hmix hk91 (ls := ls91) (code := c91) (fn := Try.f91) (by kernel_rfl) (by kernel_rfl) (by kernel_rfl) (by kernel_rfl) trivial (by kernel_rfl) (g := ⟨ia91, ih91, oa91, oh91⟩) rfl s91.F fn91

end Go.Proofs.Ytjmikonopapihaa
