/- Parts of the proof, laid as one text by a program of mine. -/
import Derived.Test.YtifbjnhicnfdoaaDoorKac22
import Derived.Test.YtifbjnhicnfdoaaDoorCards
namespace Go.Proofs.YtifbjnhicnfdoaaDoor.fnPlanStartsOne
open Go.RowKit
theorem rowC1 : Tryd.pinned.checked.prog.inPlace 12 = Rows.fnPlanStartsOneRow.inPlace := by kernel_rfl
theorem rowC2 : Tryd.pinned.checked.prog.unfollowed 12 = Rows.fnPlanStartsOneRow.unfollowed := by kernel_rfl
theorem rowC3 : Tryd.pinned.checked.prog.recurses 12 = Rows.fnPlanStartsOneRow.recurses := by kernel_rfl
theorem rowC4 : Tryd.pinned.checked.prog.varsNamed 12 = Rows.fnPlanStartsOneRow.named := by kernel_rfl
theorem rowClosed : joinedFacts Tryd.pinned.checked.prog 12 Tryd.f12 Rows.fnPlanStartsOneSpec Rows.fnPlanStartsOneRow = true := by
 unfold joinedFacts
 rw [rowC1, rowC2, rowC3, rowC4, seatMay, seatLifts, seatHeard, seatMake, seatKeys, seatLaid, seatMaps]
 kernel_rfl
theorem rowG1 : false = Rows.fnPlanStartsOneRow.goesBy Tryd.pinned.checked.prog := by kernel_rfl
theorem rowG2 : Rows.fnPlanStartsOneRow.wfByText (OpenSpec.ofChange Rows.fnPlanStartsOneSpec) = true := by kernel_rfl
theorem rowG5 : Tryd.prog.funcNamed "loop.example/buildscheduler/laws.FnPlanStartsOne" = some 12 := by kernel_rfl
end Go.Proofs.YtifbjnhicnfdoaaDoor.fnPlanStartsOne
