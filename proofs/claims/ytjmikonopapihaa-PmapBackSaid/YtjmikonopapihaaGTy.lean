import Derived.Test.YtjmikonopapihaaProg
import Derived.Test.YtjmikonopapihaaAbGen
namespace Go.Proofs.Ytjmikonopapihaa
open Go.Ab
set_option maxRecDepth 100000
set_option maxHeartbeats 1000000

abbrev I64 : Ty := .int .i64
abbrev U8 : Ty := .int .u8
theorem hmix : Try.prog.follows .mixedOrders = true := by kernel_rfl
abbrev yTaker : Ty := .pair (.sl (.int .u8)) .unit
abbrev yErrorAddressString : Ty := .pair .str (.pair (.int .u64) .unit)
abbrev yKey : Ty := .pair (.int .i64) (.pair (.int .i64) .unit)
abbrev yTakertripwireref26 : Ty := .pair .bool yTaker
abbrev yBoundsError : Ty := .pair (.int .i64) (.pair (.int .i64) (.pair .bool (.pair (.int .u8) .unit)))
abbrev ySpec : Ty := .pair (.int .i64) (.pair (.int .i64) yKey)
abbrev ySlot : Ty := .pair yKey (.pair (.int .i64) .unit)
abbrev yFrame : Ty := .pair (.int .i64) (.pair .bool (.pair (.int .i64) (.pair (.arr 8 (.int .u8)) .unit)))
abbrev yTick : Ty := .pair (.int .u8) (.pair .bool (.pair (.int .u8) (.pair (.int .i64) (.pair .bool .unit))))
abbrev yRow : Ty := .pair (.int .i64) (.pair (.int .i64) (.pair (.int .i64) (.pair (.int .i64) (.pair .bool .unit))))
abbrev yDeed : Ty := .pair yKey (.pair (.sl (.int .u8)) (.pair .bool (.pair .bool .unit)))
abbrev yEntrydict : Ty := .pair ySpec yTaker
abbrev yCame : Ty := .pair .bool (.pair .bool (.pair yFrame .unit))
abbrev yEntry : Ty := .pair yKey (.pair ySpec (.pair .str .unit))
abbrev yDict : Ty := .pair (.sl yEntry) (.pair (.int .i64) .unit)
abbrev yPdo : Ty := .pair .bool (.pair (.int .i64) (.pair (.int .i64) (.pair (.int .i64) (.pair (.int .i64) (.pair (.int .i64) (.pair (.arr 8 ySlot) .unit))))))
abbrev yChannel : Ty := .pair (.int .i64) (.pair (.int .i64) (.pair (.int .i64) (.pair (.int .i64) (.pair (.int .i64) (.pair (.int .i64) (.pair (.arr 8 ySlot) .unit))))))
abbrev ySender : Ty := .pair yPdo (.pair .bool (.pair (.int .i64) (.pair .str (.pair (.int .i64) .unit))))
end Go.Proofs.Ytjmikonopapihaa
