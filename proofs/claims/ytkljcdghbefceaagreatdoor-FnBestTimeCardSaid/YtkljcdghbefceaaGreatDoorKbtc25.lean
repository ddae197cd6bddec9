/- Parts of the proof, laid as one text by a program of mine. -/
import Derived.Test.YtkljcdghbefceaaGreatDoorKbtc0
namespace Go.Proofs.YtkljcdghbefceaaGreatDoor
open Go.RowKit
theorem seatMay : Tryz.pinned.checked.prog.mayEnter = true := by kernel_rfl
theorem seatLifts : Tryz.pinned.checked.prog.liftsFinal = false := by kernel_rfl
theorem seatHeard : Tryz.pinned.checked.prog.stopsHeard = true := by kernel_rfl
theorem seatMake : Tryz.pinned.checked.prog.make = some .cut := by kernel_rfl
theorem seatKeys : Tryz.pinned.checked.prog.plainKeys = true := by kernel_rfl
theorem seatLaid : laidOutB Tryz.pinned.checked.prog = true := by kernel_rfl
theorem seatMaps : mapsRowed Tryz.pinned.checked.prog = true := by kernel_rfl
theorem seatMain : Tryz.pinned.checked.prog.mainIs = some (true, "3c476bc01b2fc8d06f59f59ae0e352cff9cd9d092e87cce8c384c0c1ba13068e".toList) := by kernel_rfl
theorem seatLooks : true = Tryz.pinned.checked.prog.looks [] := by kernel_rfl
end Go.Proofs.YtkljcdghbefceaaGreatDoor
