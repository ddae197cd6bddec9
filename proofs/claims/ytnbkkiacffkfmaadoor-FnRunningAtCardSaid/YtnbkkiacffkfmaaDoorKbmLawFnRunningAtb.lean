/- Parts of the proof, laid as one text by a program of mine. -/
import Derived.Test.YtnbkkiacffkfmaaDoorKbc18
import Derived.Test.YtnbkkiacffkfmaaDoorCards
namespace Go.Proofs.YtnbkkiacffkfmaaDoor.fnRunningAt
open Go.RowKit
theorem rowC1 : Tryd.pinned.checked.prog.inPlace 16 = Rows.fnRunningAtRow.inPlace := by kernel_rfl
theorem rowC2 : Tryd.pinned.checked.prog.unfollowed 16 = Rows.fnRunningAtRow.unfollowed := by kernel_rfl
theorem rowC3 : Tryd.pinned.checked.prog.recurses 16 = Rows.fnRunningAtRow.recurses := by kernel_rfl
theorem rowC4 : Tryd.pinned.checked.prog.varsNamed 16 = Rows.fnRunningAtRow.named := by kernel_rfl
theorem rowClosed : joinedFacts Tryd.pinned.checked.prog 16 Tryd.f16 Rows.fnRunningAtSpec Rows.fnRunningAtRow = true := by
 unfold joinedFacts
 rw [rowC1, rowC2, rowC3, rowC4, seatMay, seatLifts, seatHeard, seatMake, seatKeys, seatLaid, seatMaps]
 kernel_rfl
theorem rowG1 : false = Rows.fnRunningAtRow.goesBy Tryd.pinned.checked.prog := by kernel_rfl
theorem rowG2 : Rows.fnRunningAtRow.wfByText (OpenSpec.ofChange Rows.fnRunningAtSpec) = true := by kernel_rfl
theorem rowG5 : Tryd.prog.funcNamed "loop.example/buildscheduler/laws.FnRunningAt" = some 16 := by kernel_rfl
end Go.Proofs.YtnbkkiacffkfmaaDoor.fnRunningAt
