/- Parts of the proof, laid as one text by a program of mine. -/
import Derived.Test.YtifbjnhicnfdoaaDoorKac22
import Derived.Test.YtifbjnhicnfdoaaDoorCards
namespace Go.Proofs.YtifbjnhicnfdoaaDoor.fnPlanStarts
open Go.RowKit
theorem rowC1 : Tryd.pinned.checked.prog.inPlace 10 = Rows.fnPlanStartsRow.inPlace := by kernel_rfl
theorem rowC2 : Tryd.pinned.checked.prog.unfollowed 10 = Rows.fnPlanStartsRow.unfollowed := by kernel_rfl
theorem rowC3 : Tryd.pinned.checked.prog.recurses 10 = Rows.fnPlanStartsRow.recurses := by kernel_rfl
theorem rowC4 : Tryd.pinned.checked.prog.varsNamed 10 = Rows.fnPlanStartsRow.named := by kernel_rfl
theorem rowClosed : joinedFacts Tryd.pinned.checked.prog 10 Tryd.f10 Rows.fnPlanStartsSpec Rows.fnPlanStartsRow = true := by
 unfold joinedFacts
 rw [rowC1, rowC2, rowC3, rowC4, seatMay, seatLifts, seatHeard, seatMake, seatKeys, seatLaid, seatMaps]
 kernel_rfl
theorem rowG1 : false = Rows.fnPlanStartsRow.goesBy Tryd.pinned.checked.prog := by kernel_rfl
theorem rowG2 : Rows.fnPlanStartsRow.wfByText (OpenSpec.ofChange Rows.fnPlanStartsSpec) = true := by kernel_rfl
theorem rowG5 : Tryd.prog.funcNamed "loop.example/buildscheduler/laws.FnPlanStarts" = some 10 := by kernel_rfl
end Go.Proofs.YtifbjnhicnfdoaaDoor.fnPlanStarts
