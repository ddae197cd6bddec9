/- Parts of the proof, laid as one text by a program of mine. -/
import Derived.Test.YtifbjnhicnfdoaaDoorKac22
import Derived.Test.YtifbjnhicnfdoaaDoorCards
namespace Go.Proofs.YtifbjnhicnfdoaaDoor.fnWorkersFor
open Go.RowKit
theorem rowC1 : Tryd.pinned.checked.prog.inPlace 13 = Rows.fnWorkersForRow.inPlace := by kernel_rfl
theorem rowC2 : Tryd.pinned.checked.prog.unfollowed 13 = Rows.fnWorkersForRow.unfollowed := by kernel_rfl
theorem rowC3 : Tryd.pinned.checked.prog.recurses 13 = Rows.fnWorkersForRow.recurses := by kernel_rfl
theorem rowC4 : Tryd.pinned.checked.prog.varsNamed 13 = Rows.fnWorkersForRow.named := by kernel_rfl
theorem rowClosed : joinedFacts Tryd.pinned.checked.prog 13 Tryd.f13 Rows.fnWorkersForSpec Rows.fnWorkersForRow = true := by
 unfold joinedFacts
 rw [rowC1, rowC2, rowC3, rowC4, seatMay, seatLifts, seatHeard, seatMake, seatKeys, seatLaid, seatMaps]
 kernel_rfl
theorem rowG1 : false = Rows.fnWorkersForRow.goesBy Tryd.pinned.checked.prog := by kernel_rfl
theorem rowG2 : Rows.fnWorkersForRow.wfByText (OpenSpec.ofChange Rows.fnWorkersForSpec) = true := by kernel_rfl
theorem rowG5 : Tryd.prog.funcNamed "loop.example/buildscheduler/laws.FnWorkersFor" = some 13 := by kernel_rfl
end Go.Proofs.YtifbjnhicnfdoaaDoor.fnWorkersFor
