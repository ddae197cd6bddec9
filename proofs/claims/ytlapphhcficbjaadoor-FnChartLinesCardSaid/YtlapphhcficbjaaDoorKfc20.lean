/- Parts of the proof, laid as one text by a program of mine. -/
import Derived.Test.YtlapphhcficbjaaDoorKfc0
namespace Go.Proofs.YtlapphhcficbjaaDoor
open Go.RowKit
theorem seatMay : Tryd.pinned.checked.prog.mayEnter = true := by kernel_rfl
theorem seatLifts : Tryd.pinned.checked.prog.liftsFinal = false := by kernel_rfl
theorem seatHeard : Tryd.pinned.checked.prog.stopsHeard = true := by kernel_rfl
theorem seatMake : Tryd.pinned.checked.prog.make = some .cut := by kernel_rfl
theorem seatKeys : Tryd.pinned.checked.prog.plainKeys = true := by kernel_rfl
theorem seatLaid : laidOutB Tryd.pinned.checked.prog = true := by kernel_rfl
theorem seatMaps : mapsRowed Tryd.pinned.checked.prog = true := by kernel_rfl
theorem seatMain : Tryd.pinned.checked.prog.mainIs = some (true, "1b5795ec53c907a5802001cf7d7ee82e1fcb965da5921e59e6cbe3372e8d9fbc".toList) := by kernel_rfl
theorem seatLooks : true = Tryd.pinned.checked.prog.looks [] := by kernel_rfl
end Go.Proofs.YtlapphhcficbjaaDoor
