/- Parts of the proof, laid as one text by a program of mine. -/
import Derived.Test.YtnbkkiacffkfmaaDoorKbc0
namespace Go.Proofs.YtnbkkiacffkfmaaDoor
open Go.RowKit
theorem seatMay : Tryd.pinned.checked.prog.mayEnter = true := by kernel_rfl
theorem seatLifts : Tryd.pinned.checked.prog.liftsFinal = false := by kernel_rfl
theorem seatHeard : Tryd.pinned.checked.prog.stopsHeard = true := by kernel_rfl
theorem seatMake : Tryd.pinned.checked.prog.make = some .cut := by kernel_rfl
theorem seatKeys : Tryd.pinned.checked.prog.plainKeys = true := by kernel_rfl
theorem seatLaid : laidOutB Tryd.pinned.checked.prog = true := by kernel_rfl
theorem seatMaps : mapsRowed Tryd.pinned.checked.prog = true := by kernel_rfl
theorem seatMain : Tryd.pinned.checked.prog.mainIs = some (true, "43899079f30704ee22414ab1f8f25768ada29be35ffda2ecf66ca4b4d100976a".toList) := by kernel_rfl
theorem seatLooks : false = Tryd.pinned.checked.prog.looks [] := by kernel_rfl
end Go.Proofs.YtnbkkiacffkfmaaDoor
