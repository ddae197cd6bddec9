/- Parts of the proof, laid as one text by a program of mine. -/
import Derived.Test.YtnbkkiacffkfmaaDoorKbc18
import Derived.Test.YtnbkkiacffkfmaaDoorCards
namespace Go.Proofs.YtnbkkiacffkfmaaDoor.fnCancelAt
open Go.RowKit
theorem rowC1 : Tryd.pinned.checked.prog.inPlace 11 = Rows.fnCancelAtRow.inPlace := by kernel_rfl
theorem rowC2 : Tryd.pinned.checked.prog.unfollowed 11 = Rows.fnCancelAtRow.unfollowed := by kernel_rfl
theorem rowC3 : Tryd.pinned.checked.prog.recurses 11 = Rows.fnCancelAtRow.recurses := by kernel_rfl
theorem rowC4 : Tryd.pinned.checked.prog.varsNamed 11 = Rows.fnCancelAtRow.named := by kernel_rfl
theorem rowClosed : joinedFacts Tryd.pinned.checked.prog 11 Tryd.f11 Rows.fnCancelAtSpec Rows.fnCancelAtRow = true := by
 unfold joinedFacts
 rw [rowC1, rowC2, rowC3, rowC4, seatMay, seatLifts, seatHeard, seatMake, seatKeys, seatLaid, seatMaps]
 kernel_rfl
theorem rowG1 : false = Rows.fnCancelAtRow.goesBy Tryd.pinned.checked.prog := by kernel_rfl
theorem rowG2 : Rows.fnCancelAtRow.wfByText (OpenSpec.ofChange Rows.fnCancelAtSpec) = true := by kernel_rfl
theorem rowG5 : Tryd.prog.funcNamed "loop.example/buildscheduler/laws.FnCancelAt" = some 11 := by kernel_rfl
end Go.Proofs.YtnbkkiacffkfmaaDoor.fnCancelAt
