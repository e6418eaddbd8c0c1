import Derived.Test.YtjmikonopapihaaProg
import Derived.Test.YtjmikonopapihaaAbGen
import Derived.Test.YtjmikonopapihaaGTy
namespace Go.Proofs.Ytjmikonopapihaa
open Go.Ab
set_option maxRecDepth 100000
set_option maxHeartbeats 1000000

abbrev yShRow : Ty := .pair I64 (.pair yEntrydict .unit)
/-! f97 tripwire/shelf.New[int,tripwire/dict.entry] -/
noncomputable def c97v : Code := codeOf Try.f97
noncomputable abbrev lk97v : List (FuncId × Ab.Spec) := []
theorem hk97v : AllOk Try.prog lk97v := trivial
abbrev ia97v : AP := .nil
abbrev ih97v : HP := .nil
abbrev oa97v : AP := .cons (.ptr 0) .nil
abbrev oh97v : HP := .box (.val (.pair (.sl yShRow) .unit)) .nil
noncomputable def f97v : Option (ElA oa97v × ElH oh97v) :=
  some (((), ()), (none, ()), ())
noncomputable def s97v : Ab.Spec := ⟨ia97v, ih97v, oa97v, oh97v, fun x => f97v⟩
noncomputable abbrev ls97v : List (Code × Option Frag) := []
theorem fn97v : ∀ x, funcA Try.prog (mkK lk97v) (mkL ls97v) Try.f97 ⟨ia97v, ih97v, oa97v, oh97v⟩ x = s97v.F x := fun x => by kernel_rfl
theorem ok97v : SpecOk Try.prog 97 s97v := spec_gen hmix hk97v (ls := ls97v) (code := c97v) (fn := Try.f97) (by kernel_rfl) (by kernel_rfl) (by kernel_rfl) (by kernel_rfl) trivial (by kernel_rfl) (g := ⟨ia97v, ih97v, oa97v, oh97v⟩) rfl s97v.F fn97v

end Go.Proofs.Ytjmikonopapihaa
