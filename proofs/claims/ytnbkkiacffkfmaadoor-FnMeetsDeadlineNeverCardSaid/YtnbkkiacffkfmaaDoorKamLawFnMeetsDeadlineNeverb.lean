/- Parts of the proof, laid as one text by a program of mine. -/
import Derived.Test.YtnbkkiacffkfmaaDoorKac18
import Derived.Test.YtnbkkiacffkfmaaDoorCards
namespace Go.Proofs.YtnbkkiacffkfmaaDoor.fnMeetsDeadlineNever
open Go.RowKit
theorem rowC1 : Tryd.pinned.checked.prog.inPlace 9 = Rows.fnMeetsDeadlineNeverRow.inPlace := by kernel_rfl
theorem rowC2 : Tryd.pinned.checked.prog.unfollowed 9 = Rows.fnMeetsDeadlineNeverRow.unfollowed := by kernel_rfl
theorem rowC3 : Tryd.pinned.checked.prog.recurses 9 = Rows.fnMeetsDeadlineNeverRow.recurses := by kernel_rfl
theorem rowC4 : Tryd.pinned.checked.prog.varsNamed 9 = Rows.fnMeetsDeadlineNeverRow.named := by kernel_rfl
theorem rowClosed : joinedFacts Tryd.pinned.checked.prog 9 Tryd.f9 Rows.fnMeetsDeadlineNeverSpec Rows.fnMeetsDeadlineNeverRow = true := by
 unfold joinedFacts
 rw [rowC1, rowC2, rowC3, rowC4, seatMay, seatLifts, seatHeard, seatMake, seatKeys, seatLaid, seatMaps]
 kernel_rfl
theorem rowG1 : false = Rows.fnMeetsDeadlineNeverRow.goesBy Tryd.pinned.checked.prog := by kernel_rfl
theorem rowG2 : Rows.fnMeetsDeadlineNeverRow.wfByText (OpenSpec.ofChange Rows.fnMeetsDeadlineNeverSpec) = true := by kernel_rfl
theorem rowG5 : Tryd.prog.funcNamed "loop.example/buildscheduler/laws.FnMeetsDeadlineNever" = some 9 := by kernel_rfl
end Go.Proofs.YtnbkkiacffkfmaaDoor.fnMeetsDeadlineNever
