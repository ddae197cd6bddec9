/- Parts of the proof, laid as one text by a program of mine. -/
import Derived.Test.YtifbjnhicnfdoaaDoorKac22
import Derived.Test.YtifbjnhicnfdoaaDoorCards
namespace Go.Proofs.YtifbjnhicnfdoaaDoor.fnDoneByEnd
open Go.RowKit
theorem rowC1 : Tryd.pinned.checked.prog.inPlace 11 = Rows.fnDoneByEndRow.inPlace := by kernel_rfl
theorem rowC2 : Tryd.pinned.checked.prog.unfollowed 11 = Rows.fnDoneByEndRow.unfollowed := by kernel_rfl
theorem rowC3 : Tryd.pinned.checked.prog.recurses 11 = Rows.fnDoneByEndRow.recurses := by kernel_rfl
theorem rowC4 : Tryd.pinned.checked.prog.varsNamed 11 = Rows.fnDoneByEndRow.named := by kernel_rfl
theorem rowClosed : joinedFacts Tryd.pinned.checked.prog 11 Tryd.f11 Rows.fnDoneByEndSpec Rows.fnDoneByEndRow = true := by
 unfold joinedFacts
 rw [rowC1, rowC2, rowC3, rowC4, seatMay, seatLifts, seatHeard, seatMake, seatKeys, seatLaid, seatMaps]
 kernel_rfl
theorem rowG1 : false = Rows.fnDoneByEndRow.goesBy Tryd.pinned.checked.prog := by kernel_rfl
theorem rowG2 : Rows.fnDoneByEndRow.wfByText (OpenSpec.ofChange Rows.fnDoneByEndSpec) = true := by kernel_rfl
theorem rowG5 : Tryd.prog.funcNamed "loop.example/buildscheduler/laws.FnDoneByEnd" = some 11 := by kernel_rfl
end Go.Proofs.YtifbjnhicnfdoaaDoor.fnDoneByEnd
