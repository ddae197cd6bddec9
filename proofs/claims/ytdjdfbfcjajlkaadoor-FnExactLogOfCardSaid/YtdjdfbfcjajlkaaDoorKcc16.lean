/- Parts of the proof, laid as one text by a program of mine. -/
import Derived.Test.YtdjdfbfcjajlkaaDoorKcc0
namespace Go.Proofs.YtdjdfbfcjajlkaaDoor
open Go.RowKit
theorem seatMay : Tryd.pinned.checked.prog.mayEnter = true := by kernel_rfl
theorem seatLifts : Tryd.pinned.checked.prog.liftsFinal = false := by kernel_rfl
theorem seatHeard : Tryd.pinned.checked.prog.stopsHeard = true := by kernel_rfl
theorem seatMake : Tryd.pinned.checked.prog.make = some .cut := by kernel_rfl
theorem seatKeys : Tryd.pinned.checked.prog.plainKeys = true := by kernel_rfl
theorem seatLaid : laidOutB Tryd.pinned.checked.prog = true := by kernel_rfl
theorem seatMaps : mapsRowed Tryd.pinned.checked.prog = true := by kernel_rfl
theorem seatMain : Tryd.pinned.checked.prog.mainIs = some (true, "37d122861b5ec1871380f20c550d25a64537571dcb9689e04e0b4be772f43c0c".toList) := by kernel_rfl
theorem seatLooks : true = Tryd.pinned.checked.prog.looks [] := by kernel_rfl
end Go.Proofs.YtdjdfbfcjajlkaaDoor
