/- Parts of the proof, laid as one text by a program of mine. -/
import Derived.Test.YtnbkkiacffkfmaaDoorKac18
import Derived.Test.YtnbkkiacffkfmaaDoorCards
namespace Go.Proofs.YtnbkkiacffkfmaaDoor.fnMeetsDeadline
open Go.RowKit
theorem rowC1 : Tryd.pinned.checked.prog.inPlace 10 = Rows.fnMeetsDeadlineRow.inPlace := by kernel_rfl
theorem rowC2 : Tryd.pinned.checked.prog.unfollowed 10 = Rows.fnMeetsDeadlineRow.unfollowed := by kernel_rfl
theorem rowC3 : Tryd.pinned.checked.prog.recurses 10 = Rows.fnMeetsDeadlineRow.recurses := by kernel_rfl
theorem rowC4 : Tryd.pinned.checked.prog.varsNamed 10 = Rows.fnMeetsDeadlineRow.named := by kernel_rfl
theorem rowClosed : joinedFacts Tryd.pinned.checked.prog 10 Tryd.f10 Rows.fnMeetsDeadlineSpec Rows.fnMeetsDeadlineRow = true := by
 unfold joinedFacts
 rw [rowC1, rowC2, rowC3, rowC4, seatMay, seatLifts, seatHeard, seatMake, seatKeys, seatLaid, seatMaps]
 kernel_rfl
theorem rowG1 : false = Rows.fnMeetsDeadlineRow.goesBy Tryd.pinned.checked.prog := by kernel_rfl
theorem rowG2 : Rows.fnMeetsDeadlineRow.wfByText (OpenSpec.ofChange Rows.fnMeetsDeadlineSpec) = true := by kernel_rfl
theorem rowG5 : Tryd.prog.funcNamed "loop.example/buildscheduler/laws.FnMeetsDeadline" = some 10 := by kernel_rfl
end Go.Proofs.YtnbkkiacffkfmaaDoor.fnMeetsDeadline
