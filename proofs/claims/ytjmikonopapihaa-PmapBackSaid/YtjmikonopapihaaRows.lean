/-
  No cell of these rows narrows 'for every input' (looked for: loops, veiled, ifaces, maps, wideKeys, modest, calm, conditions, laid).
  DERIVED. THE GIVEN ROWS OF THIS SEAT. 8 by the template 'for every input the law returns true; each argument reads behind the call as it read before'; 0 by the template 'total and deterministic' (their statements: YtjmikonopapihaaTotals.lean).
  GIVEN WITH THE SEED: the statements are not yours to turn. If you find one false, say at which input.
  Laid BY PROGRAM, IN A SANDBOX (cutbox-rows.mjs): the forced cells as the released guide's own fill.sh prints them over the translation cc92487d87f291d7… (all of the seat's roots in one cut). By AI agents, Wed Nov 11 2026. No macro, syntax, notation, axiom, sorry.
-/
import Derived.Test.YtjmikonopapihaaChecked
import GoSem.Claim
import GoSem.ClaimJoined
import GoSem.ClaimMapViews
import Derived.JoinedTies
import Derived.KernelRfl
namespace Go.Proofs.Ytjmikonopapihaa
/- THE CELL 'sum', in the pinned program and in every row, IS THE sha256 OF THE DUMP (.gsa) THAT YtjmikonopapihaaProg.lean LOADS. Nothing in Lean hashes anything: it is a label: what it is worth is what the hold of that sum in a sandbox is worth. -/
noncomputable def Try.pinned : Pinned := { name := "ytjmikonopapihaa", sum := "cc92487d87f291d790a28d17cf22f802c83fdc744b7b78d6bb567184c45d354f", checked := Try.checked }
namespace Rows
def none {H : Type} : Left H := { results := [], args := [] }

/-- 'tripwirelaw25.PmapBack': WHATEVER THE INPUT: true; the input reads as it did. -/
def pmapBackSpec : ChangeSpec := { name := "pmapBack", fn := fun _ => fun
  | [d1, d2, d3] => { results := [.lit (.bool true)], args := [d1, d2, d3] }
  | _ => none }
def pmapBackRow : OpenClaim := { program := "ytjmikonopapihaa", sum := "cc92487d87f291d790a28d17cf22f802c83fdc744b7b78d6bb567184c45d354f", func := "tripwire/tripwirelaw25.PmapBack", spec := "pmapBack", inPlace := ["slices.overlaps[tripwire/shelf.row[int, tripwire/dict.entry]]"], apart := false }
def PmapBackSaid : Prop := pmapBackRow.holds Try.pinned (OpenSpec.ofChange pmapBackSpec)

/-- ITS FALSE NEIGHBOUR: 'it returns false'. Refute it at one input. -/
def pmapBackWrong : ChangeSpec := { name := "pmapBack", fn := fun _ => fun
  | [d1, d2, d3] => { results := [.lit (.bool false)], args := [d1, d2, d3] }
  | _ => none }
def PmapBackWrongFalsely : Prop := pmapBackRow.holds Try.pinned (OpenSpec.ofChange pmapBackWrong)

/-- 'tripwirelaw25.PmapUnpacks': WHATEVER THE INPUT: true; the input reads as it did. -/
def pmapUnpacksSpec : ChangeSpec := { name := "pmapUnpacks", fn := fun _ => fun
  | [d1, d2] => { results := [.lit (.bool true)], args := [d1, d2] }
  | _ => none }
def pmapUnpacksRow : OpenClaim := { program := "ytjmikonopapihaa", sum := "cc92487d87f291d790a28d17cf22f802c83fdc744b7b78d6bb567184c45d354f", func := "tripwire/tripwirelaw25.PmapUnpacks", spec := "pmapUnpacks", inPlace := ["slices.overlaps[tripwire/shelf.row[int, tripwire/dict.entry]]"], apart := false }
def PmapUnpacksSaid : Prop := pmapUnpacksRow.holds Try.pinned (OpenSpec.ofChange pmapUnpacksSpec)

/-- ITS FALSE NEIGHBOUR: 'it returns false'. Refute it at one input. -/
def pmapUnpacksWrong : ChangeSpec := { name := "pmapUnpacks", fn := fun _ => fun
  | [d1, d2] => { results := [.lit (.bool false)], args := [d1, d2] }
  | _ => none }
def PmapUnpacksWrongFalsely : Prop := pmapUnpacksRow.holds Try.pinned (OpenSpec.ofChange pmapUnpacksWrong)

/-- 'tripwirelaw26.PdoSends': WHATEVER THE INPUT: true; the input reads as it did. -/
def pdoSendsSpec : ChangeSpec := { name := "pdoSends", fn := fun _ => fun
  | [d1, d2, d3] => { results := [.lit (.bool true)], args := [d1, d2, d3] }
  | _ => none }
def pdoSendsRow : OpenClaim := { program := "ytjmikonopapihaa", sum := "cc92487d87f291d790a28d17cf22f802c83fdc744b7b78d6bb567184c45d354f", func := "tripwire/tripwirelaw26.PdoSends", spec := "pdoSends", inPlace := ["slices.overlaps[tripwire/shelf.row[int, tripwire/dict.entry]]"], apart := false }
def PdoSendsSaid : Prop := pdoSendsRow.holds Try.pinned (OpenSpec.ofChange pdoSendsSpec)

/-- ITS FALSE NEIGHBOUR: 'it returns false'. Refute it at one input. -/
def pdoSendsWrong : ChangeSpec := { name := "pdoSends", fn := fun _ => fun
  | [d1, d2, d3] => { results := [.lit (.bool false)], args := [d1, d2, d3] }
  | _ => none }
def PdoSendsWrongFalsely : Prop := pdoSendsRow.holds Try.pinned (OpenSpec.ofChange pdoSendsWrong)

/-- 'tripwirelaw15.AreaWrites': WHATEVER THE INPUT: true; the input reads as it did. -/
def areaWritesSpec : ChangeSpec := { name := "areaWrites", fn := fun _ => fun
  | [d] => { results := [.lit (.bool true)], args := [d] }
  | _ => none }
def areaWritesRow : OpenClaim := { program := "ytjmikonopapihaa", sum := "cc92487d87f291d790a28d17cf22f802c83fdc744b7b78d6bb567184c45d354f", func := "tripwire/tripwirelaw15.AreaWrites", spec := "areaWrites", inPlace := ["slices.overlaps[tripwire/shelf.row[int, tripwire/dict.entry]]"], unfollowed := true, recurses := true, apart := false }
def AreaWritesSaid : Prop := areaWritesRow.holds Try.pinned (OpenSpec.ofChange areaWritesSpec)

/-- ITS FALSE NEIGHBOUR: 'it returns false'. Refute it at one input. -/
def areaWritesWrong : ChangeSpec := { name := "areaWrites", fn := fun _ => fun
  | [d] => { results := [.lit (.bool false)], args := [d] }
  | _ => none }
def AreaWritesWrongFalsely : Prop := areaWritesRow.holds Try.pinned (OpenSpec.ofChange areaWritesWrong)

/-- 'tripwirelaw15.AreaChannels': WHATEVER THE INPUT: true; the input reads as it did. -/
def areaChannelsSpec : ChangeSpec := { name := "areaChannels", fn := fun _ => fun
  | [d1, d2] => { results := [.lit (.bool true)], args := [d1, d2] }
  | _ => none }
def areaChannelsRow : OpenClaim := { program := "ytjmikonopapihaa", sum := "cc92487d87f291d790a28d17cf22f802c83fdc744b7b78d6bb567184c45d354f", func := "tripwire/tripwirelaw15.AreaChannels", spec := "areaChannels", inPlace := ["slices.overlaps[tripwire/shelf.row[int, tripwire/dict.entry]]"], unfollowed := true, recurses := true, apart := false }
def AreaChannelsSaid : Prop := areaChannelsRow.holds Try.pinned (OpenSpec.ofChange areaChannelsSpec)

/-- ITS FALSE NEIGHBOUR: 'it returns false'. Refute it at one input. -/
def areaChannelsWrong : ChangeSpec := { name := "areaChannels", fn := fun _ => fun
  | [d1, d2] => { results := [.lit (.bool false)], args := [d1, d2] }
  | _ => none }
def AreaChannelsWrongFalsely : Prop := areaChannelsRow.holds Try.pinned (OpenSpec.ofChange areaChannelsWrong)

/-- 'tripwirelaw15.AreaStores': WHATEVER THE INPUT: true; the input reads as it did. -/
def areaStoresSpec : ChangeSpec := { name := "areaStores", fn := fun _ => fun
  | [d1, d2, d3] => { results := [.lit (.bool true)], args := [d1, d2, d3] }
  | _ => none }
def areaStoresRow : OpenClaim := { program := "ytjmikonopapihaa", sum := "cc92487d87f291d790a28d17cf22f802c83fdc744b7b78d6bb567184c45d354f", func := "tripwire/tripwirelaw15.AreaStores", spec := "areaStores", inPlace := ["slices.overlaps[tripwire/shelf.row[int, tripwire/dict.entry]]"], apart := false }
def AreaStoresSaid : Prop := areaStoresRow.holds Try.pinned (OpenSpec.ofChange areaStoresSpec)

/-- ITS FALSE NEIGHBOUR: 'it returns false'. Refute it at one input. -/
def areaStoresWrong : ChangeSpec := { name := "areaStores", fn := fun _ => fun
  | [d1, d2, d3] => { results := [.lit (.bool false)], args := [d1, d2, d3] }
  | _ => none }
def AreaStoresWrongFalsely : Prop := areaStoresRow.holds Try.pinned (OpenSpec.ofChange areaStoresWrong)

/-- 'tripwirelaw26.PdoTakes': WHATEVER THE INPUT: true; the input reads as it did. -/
def pdoTakesSpec : ChangeSpec := { name := "pdoTakes", fn := fun _ => fun
  | [d1, d2, d3] => { results := [.lit (.bool true)], args := [d1, d2, d3] }
  | _ => none }
def pdoTakesRow : OpenClaim := { program := "ytjmikonopapihaa", sum := "cc92487d87f291d790a28d17cf22f802c83fdc744b7b78d6bb567184c45d354f", func := "tripwire/tripwirelaw26.PdoTakes", spec := "pdoTakes", inPlace := ["slices.overlaps[tripwire/shelf.row[int, tripwire/dict.entry]]"], apart := false }
def PdoTakesSaid : Prop := pdoTakesRow.holds Try.pinned (OpenSpec.ofChange pdoTakesSpec)

/-- ITS FALSE NEIGHBOUR: 'it returns false'. Refute it at one input. -/
def pdoTakesWrong : ChangeSpec := { name := "pdoTakes", fn := fun _ => fun
  | [d1, d2, d3] => { results := [.lit (.bool false)], args := [d1, d2, d3] }
  | _ => none }
def PdoTakesWrongFalsely : Prop := pdoTakesRow.holds Try.pinned (OpenSpec.ofChange pdoTakesWrong)

/-- 'tripwirelaw26.PdoTimes': WHATEVER THE INPUT: true; the input reads as it did. -/
def pdoTimesSpec : ChangeSpec := { name := "pdoTimes", fn := fun _ => fun
  | [d1, d2, d3] => { results := [.lit (.bool true)], args := [d1, d2, d3] }
  | _ => none }
def pdoTimesRow : OpenClaim := { program := "ytjmikonopapihaa", sum := "cc92487d87f291d790a28d17cf22f802c83fdc744b7b78d6bb567184c45d354f", func := "tripwire/tripwirelaw26.PdoTimes", spec := "pdoTimes", inPlace := ["slices.overlaps[tripwire/shelf.row[int, tripwire/dict.entry]]"], apart := false }
def PdoTimesSaid : Prop := pdoTimesRow.holds Try.pinned (OpenSpec.ofChange pdoTimesSpec)

/-- ITS FALSE NEIGHBOUR: 'it returns false'. Refute it at one input. -/
def pdoTimesWrong : ChangeSpec := { name := "pdoTimes", fn := fun _ => fun
  | [d1, d2, d3] => { results := [.lit (.bool false)], args := [d1, d2, d3] }
  | _ => none }
def PdoTimesWrongFalsely : Prop := pdoTimesRow.holds Try.pinned (OpenSpec.ofChange pdoTimesWrong)

/- THE SECOND FORM. 'bulk': how many values and letters a reading holds, each counted each time it is reached (what is shared counts as often as it is met; a slice's spare places count too). A statement '..UptoSaid' is the law's where the arguments, and the package variables that the reading takes, are together of bulk at most 1048576: NARROWER than '..Said'. Prove '..Said' where nothing that the law and all that it calls make is longer than what came in: it says more and counts as full. Else prove '..UptoSaid'. A law counts once. -/
mutual
def uptoBulk {H : Type} : DataW H → Nat
  | .lit (.string bytes) => bytes.length + 1
  | .lit _ => 1
  | .nil => 1
  | .ptr d => uptoBulk d + 1
  | .slice elems spare => uptoBulkAll elems + uptoBulkAll spare + 1
  | .agg parts => uptoBulkAll parts + 1
  | .iface _ d => uptoBulk d + 1
  | .map entries => uptoBulkEntries entries + 1
  | .held _ => 1
def uptoBulkAll {H : Type} : List (DataW H) → Nat
  | [] => 0
  | d :: r => uptoBulk d + uptoBulkAll r
def uptoBulkEntries {H : Type} : List (Lit × DataW H) → Nat
  | [] => 0
  | x :: r => uptoBulkEntry x + uptoBulkEntries r
def uptoBulkEntry {H : Type} : Lit × DataW H → Nat
  | (.string bytes, d) => bytes.length + uptoBulk d + 1
  | (_, d) => uptoBulk d + 1
 end
def uptoSmall : (H : Type) → List (DataW H) → Bool := fun _ ds => decide (uptoBulkAll ds ≤ 1048576)
def OpenSpec.upto (s : _root_.Go.ChangeSpec) : _root_.Go.OpenSpec := { _root_.Go.OpenSpec.ofChange s with cond := some uptoSmall }

/-- 'tripwirelaw25.PmapBack', WHERE WHAT IT READS IS OF BULK AT MOST 1048576: true; the input reads as it did. -/
def pmapBackUptoRow : OpenClaim := { program := "ytjmikonopapihaa", sum := "cc92487d87f291d790a28d17cf22f802c83fdc744b7b78d6bb567184c45d354f", func := "tripwire/tripwirelaw25.PmapBack", spec := "pmapBack", inPlace := ["slices.overlaps[tripwire/shelf.row[int, tripwire/dict.entry]]"], apart := false, narrowed := true }
def PmapBackUptoSaid : Prop := pmapBackUptoRow.holds Try.pinned (OpenSpec.upto pmapBackSpec)

/-- 'tripwirelaw25.PmapUnpacks', WHERE WHAT IT READS IS OF BULK AT MOST 1048576: true; the input reads as it did. -/
def pmapUnpacksUptoRow : OpenClaim := { program := "ytjmikonopapihaa", sum := "cc92487d87f291d790a28d17cf22f802c83fdc744b7b78d6bb567184c45d354f", func := "tripwire/tripwirelaw25.PmapUnpacks", spec := "pmapUnpacks", inPlace := ["slices.overlaps[tripwire/shelf.row[int, tripwire/dict.entry]]"], apart := false, narrowed := true }
def PmapUnpacksUptoSaid : Prop := pmapUnpacksUptoRow.holds Try.pinned (OpenSpec.upto pmapUnpacksSpec)

/-- 'tripwirelaw26.PdoSends', WHERE WHAT IT READS IS OF BULK AT MOST 1048576: true; the input reads as it did. -/
def pdoSendsUptoRow : OpenClaim := { program := "ytjmikonopapihaa", sum := "cc92487d87f291d790a28d17cf22f802c83fdc744b7b78d6bb567184c45d354f", func := "tripwire/tripwirelaw26.PdoSends", spec := "pdoSends", inPlace := ["slices.overlaps[tripwire/shelf.row[int, tripwire/dict.entry]]"], apart := false, narrowed := true }
def PdoSendsUptoSaid : Prop := pdoSendsUptoRow.holds Try.pinned (OpenSpec.upto pdoSendsSpec)

/-- 'tripwirelaw15.AreaWrites', WHERE WHAT IT READS IS OF BULK AT MOST 1048576: true; the input reads as it did. -/
def areaWritesUptoRow : OpenClaim := { program := "ytjmikonopapihaa", sum := "cc92487d87f291d790a28d17cf22f802c83fdc744b7b78d6bb567184c45d354f", func := "tripwire/tripwirelaw15.AreaWrites", spec := "areaWrites", inPlace := ["slices.overlaps[tripwire/shelf.row[int, tripwire/dict.entry]]"], unfollowed := true, recurses := true, apart := false, narrowed := true }
def AreaWritesUptoSaid : Prop := areaWritesUptoRow.holds Try.pinned (OpenSpec.upto areaWritesSpec)

/-- 'tripwirelaw15.AreaChannels', WHERE WHAT IT READS IS OF BULK AT MOST 1048576: true; the input reads as it did. -/
def areaChannelsUptoRow : OpenClaim := { program := "ytjmikonopapihaa", sum := "cc92487d87f291d790a28d17cf22f802c83fdc744b7b78d6bb567184c45d354f", func := "tripwire/tripwirelaw15.AreaChannels", spec := "areaChannels", inPlace := ["slices.overlaps[tripwire/shelf.row[int, tripwire/dict.entry]]"], unfollowed := true, recurses := true, apart := false, narrowed := true }
def AreaChannelsUptoSaid : Prop := areaChannelsUptoRow.holds Try.pinned (OpenSpec.upto areaChannelsSpec)

/-- 'tripwirelaw15.AreaStores', WHERE WHAT IT READS IS OF BULK AT MOST 1048576: true; the input reads as it did. -/
def areaStoresUptoRow : OpenClaim := { program := "ytjmikonopapihaa", sum := "cc92487d87f291d790a28d17cf22f802c83fdc744b7b78d6bb567184c45d354f", func := "tripwire/tripwirelaw15.AreaStores", spec := "areaStores", inPlace := ["slices.overlaps[tripwire/shelf.row[int, tripwire/dict.entry]]"], apart := false, narrowed := true }
def AreaStoresUptoSaid : Prop := areaStoresUptoRow.holds Try.pinned (OpenSpec.upto areaStoresSpec)

/-- 'tripwirelaw26.PdoTakes', WHERE WHAT IT READS IS OF BULK AT MOST 1048576: true; the input reads as it did. -/
def pdoTakesUptoRow : OpenClaim := { program := "ytjmikonopapihaa", sum := "cc92487d87f291d790a28d17cf22f802c83fdc744b7b78d6bb567184c45d354f", func := "tripwire/tripwirelaw26.PdoTakes", spec := "pdoTakes", inPlace := ["slices.overlaps[tripwire/shelf.row[int, tripwire/dict.entry]]"], apart := false, narrowed := true }
def PdoTakesUptoSaid : Prop := pdoTakesUptoRow.holds Try.pinned (OpenSpec.upto pdoTakesSpec)

/-- 'tripwirelaw26.PdoTimes', WHERE WHAT IT READS IS OF BULK AT MOST 1048576: true; the input reads as it did. -/
def pdoTimesUptoRow : OpenClaim := { program := "ytjmikonopapihaa", sum := "cc92487d87f291d790a28d17cf22f802c83fdc744b7b78d6bb567184c45d354f", func := "tripwire/tripwirelaw26.PdoTimes", spec := "pdoTimes", inPlace := ["slices.overlaps[tripwire/shelf.row[int, tripwire/dict.entry]]"], apart := false, narrowed := true }
def PdoTimesUptoSaid : Prop := pdoTimesUptoRow.holds Try.pinned (OpenSpec.upto pdoTimesSpec)

end Rows
end Go.Proofs.Ytjmikonopapihaa
