/- Parts of the proof, laid as one text by a program of mine. -/
import Derived.Test.YtnbkkiacffkfmaaDoorKac18
import Derived.Test.YtnbkkiacffkfmaaDoorCards
namespace Go.Proofs.YtnbkkiacffkfmaaDoor.fnCancelAtEnd
open Go.RowKit
theorem rowC1 : Tryd.pinned.checked.prog.inPlace 15 = Rows.fnCancelAtEndRow.inPlace := by kernel_rfl
theorem rowC2 : Tryd.pinned.checked.prog.unfollowed 15 = Rows.fnCancelAtEndRow.unfollowed := by kernel_rfl
theorem rowC3 : Tryd.pinned.checked.prog.recurses 15 = Rows.fnCancelAtEndRow.recurses := by kernel_rfl
theorem rowC4 : Tryd.pinned.checked.prog.varsNamed 15 = Rows.fnCancelAtEndRow.named := by kernel_rfl
theorem rowClosed : joinedFacts Tryd.pinned.checked.prog 15 Tryd.f15 Rows.fnCancelAtEndSpec Rows.fnCancelAtEndRow = true := by
 unfold joinedFacts
 rw [rowC1, rowC2, rowC3, rowC4, seatMay, seatLifts, seatHeard, seatMake, seatKeys, seatLaid, seatMaps]
 kernel_rfl
theorem rowG1 : false = Rows.fnCancelAtEndRow.goesBy Tryd.pinned.checked.prog := by kernel_rfl
theorem rowG2 : Rows.fnCancelAtEndRow.wfByText (OpenSpec.ofChange Rows.fnCancelAtEndSpec) = true := by kernel_rfl
theorem rowG5 : Tryd.prog.funcNamed "loop.example/buildscheduler/laws.FnCancelAtEnd" = some 15 := by kernel_rfl
end Go.Proofs.YtnbkkiacffkfmaaDoor.fnCancelAtEnd
