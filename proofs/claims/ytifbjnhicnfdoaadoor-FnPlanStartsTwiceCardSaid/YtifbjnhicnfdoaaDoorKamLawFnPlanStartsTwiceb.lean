/- Parts of the proof, laid as one text by a program of mine. -/
import Derived.Test.YtifbjnhicnfdoaaDoorKac22
import Derived.Test.YtifbjnhicnfdoaaDoorCards
namespace Go.Proofs.YtifbjnhicnfdoaaDoor.fnPlanStartsTwice
open Go.RowKit
theorem rowC1 : Tryd.pinned.checked.prog.inPlace 14 = Rows.fnPlanStartsTwiceRow.inPlace := by kernel_rfl
theorem rowC2 : Tryd.pinned.checked.prog.unfollowed 14 = Rows.fnPlanStartsTwiceRow.unfollowed := by kernel_rfl
theorem rowC3 : Tryd.pinned.checked.prog.recurses 14 = Rows.fnPlanStartsTwiceRow.recurses := by kernel_rfl
theorem rowC4 : Tryd.pinned.checked.prog.varsNamed 14 = Rows.fnPlanStartsTwiceRow.named := by kernel_rfl
theorem rowClosed : joinedFacts Tryd.pinned.checked.prog 14 Tryd.f14 Rows.fnPlanStartsTwiceSpec Rows.fnPlanStartsTwiceRow = true := by
 unfold joinedFacts
 rw [rowC1, rowC2, rowC3, rowC4, seatMay, seatLifts, seatHeard, seatMake, seatKeys, seatLaid, seatMaps]
 kernel_rfl
theorem rowG1 : false = Rows.fnPlanStartsTwiceRow.goesBy Tryd.pinned.checked.prog := by kernel_rfl
theorem rowG2 : Rows.fnPlanStartsTwiceRow.wfByText (OpenSpec.ofChange Rows.fnPlanStartsTwiceSpec) = true := by kernel_rfl
theorem rowG5 : Tryd.prog.funcNamed "loop.example/buildscheduler/laws.FnPlanStartsTwice" = some 14 := by kernel_rfl
end Go.Proofs.YtifbjnhicnfdoaaDoor.fnPlanStartsTwice
