/- Parts of the proof, laid as one text by a program of mine. -/
import Derived.Test.YtifbjnhicnfdoaaDoorKac22
import Derived.Test.YtifbjnhicnfdoaaDoorCards
namespace Go.Proofs.YtifbjnhicnfdoaaDoor.fnLogOf
open Go.RowKit
theorem rowC1 : Tryd.pinned.checked.prog.inPlace 4 = Rows.fnLogOfRow.inPlace := by kernel_rfl
theorem rowC2 : Tryd.pinned.checked.prog.unfollowed 4 = Rows.fnLogOfRow.unfollowed := by kernel_rfl
theorem rowC3 : Tryd.pinned.checked.prog.recurses 4 = Rows.fnLogOfRow.recurses := by kernel_rfl
theorem rowC4 : Tryd.pinned.checked.prog.varsNamed 4 = Rows.fnLogOfRow.named := by kernel_rfl
theorem rowClosed : joinedFacts Tryd.pinned.checked.prog 4 Tryd.f4 Rows.fnLogOfSpec Rows.fnLogOfRow = true := by
 unfold joinedFacts
 rw [rowC1, rowC2, rowC3, rowC4, seatMay, seatLifts, seatHeard, seatMake, seatKeys, seatLaid, seatMaps]
 kernel_rfl
theorem rowG1 : false = Rows.fnLogOfRow.goesBy Tryd.pinned.checked.prog := by kernel_rfl
theorem rowG2 : Rows.fnLogOfRow.wfByText (OpenSpec.ofChange Rows.fnLogOfSpec) = true := by kernel_rfl
theorem rowG5 : Tryd.prog.funcNamed "loop.example/buildscheduler/laws.FnLogOf" = some 4 := by kernel_rfl
end Go.Proofs.YtifbjnhicnfdoaaDoor.fnLogOf
