/- Parts of the proof, laid as one text by a program of mine. -/
import Derived.Test.YtifbjnhicnfdoaaDoorKac22
import Derived.Test.YtifbjnhicnfdoaaDoorCards
namespace Go.Proofs.YtifbjnhicnfdoaaDoor.fnPlanStartsBusy
open Go.RowKit
theorem rowC1 : Tryd.pinned.checked.prog.inPlace 15 = Rows.fnPlanStartsBusyRow.inPlace := by kernel_rfl
theorem rowC2 : Tryd.pinned.checked.prog.unfollowed 15 = Rows.fnPlanStartsBusyRow.unfollowed := by kernel_rfl
theorem rowC3 : Tryd.pinned.checked.prog.recurses 15 = Rows.fnPlanStartsBusyRow.recurses := by kernel_rfl
theorem rowC4 : Tryd.pinned.checked.prog.varsNamed 15 = Rows.fnPlanStartsBusyRow.named := by kernel_rfl
theorem rowClosed : joinedFacts Tryd.pinned.checked.prog 15 Tryd.f15 Rows.fnPlanStartsBusySpec Rows.fnPlanStartsBusyRow = true := by
 unfold joinedFacts
 rw [rowC1, rowC2, rowC3, rowC4, seatMay, seatLifts, seatHeard, seatMake, seatKeys, seatLaid, seatMaps]
 kernel_rfl
theorem rowG1 : false = Rows.fnPlanStartsBusyRow.goesBy Tryd.pinned.checked.prog := by kernel_rfl
theorem rowG2 : Rows.fnPlanStartsBusyRow.wfByText (OpenSpec.ofChange Rows.fnPlanStartsBusySpec) = true := by kernel_rfl
theorem rowG5 : Tryd.prog.funcNamed "loop.example/buildscheduler/laws.FnPlanStartsBusy" = some 15 := by kernel_rfl
end Go.Proofs.YtifbjnhicnfdoaaDoor.fnPlanStartsBusy
