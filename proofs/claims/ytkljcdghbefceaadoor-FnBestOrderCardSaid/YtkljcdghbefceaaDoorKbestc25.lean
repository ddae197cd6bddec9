/- Parts of the proof, laid as one text by a program of mine. -/
import Derived.Test.YtkljcdghbefceaaDoorKbestc0
namespace Go.Proofs.YtkljcdghbefceaaDoor
open Go.RowKit
theorem seatMay : Tryd.pinned.checked.prog.mayEnter = true := by kernel_rfl
theorem seatLifts : Tryd.pinned.checked.prog.liftsFinal = false := by kernel_rfl
theorem seatHeard : Tryd.pinned.checked.prog.stopsHeard = true := by kernel_rfl
theorem seatMake : Tryd.pinned.checked.prog.make = some .cut := by kernel_rfl
theorem seatKeys : Tryd.pinned.checked.prog.plainKeys = true := by kernel_rfl
theorem seatLaid : laidOutB Tryd.pinned.checked.prog = true := by kernel_rfl
theorem seatMaps : mapsRowed Tryd.pinned.checked.prog = true := by kernel_rfl
theorem seatMain : Tryd.pinned.checked.prog.mainIs = some (true, "ec80cede5b466d76f5e3b10535171d51b6bfd7863c0532227731e42f29849f81".toList) := by kernel_rfl
theorem seatLooks : true = Tryd.pinned.checked.prog.looks [] := by kernel_rfl
end Go.Proofs.YtkljcdghbefceaaDoor
