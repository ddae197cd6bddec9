/- Parts of the proof, laid as one text by a program of mine. -/
import Derived.Test.YtnbkkiacffkfmaaDoorKac18
import Derived.Test.YtnbkkiacffkfmaaDoorCards
namespace Go.Proofs.YtnbkkiacffkfmaaDoor.fnEndTime
open Go.RowKit
theorem rowC1 : Tryd.pinned.checked.prog.inPlace 7 = Rows.fnEndTimeRow.inPlace := by kernel_rfl
theorem rowC2 : Tryd.pinned.checked.prog.unfollowed 7 = Rows.fnEndTimeRow.unfollowed := by kernel_rfl
theorem rowC3 : Tryd.pinned.checked.prog.recurses 7 = Rows.fnEndTimeRow.recurses := by kernel_rfl
theorem rowC4 : Tryd.pinned.checked.prog.varsNamed 7 = Rows.fnEndTimeRow.named := by kernel_rfl
theorem rowClosed : joinedFacts Tryd.pinned.checked.prog 7 Tryd.f7 Rows.fnEndTimeSpec Rows.fnEndTimeRow = true := by
 unfold joinedFacts
 rw [rowC1, rowC2, rowC3, rowC4, seatMay, seatLifts, seatHeard, seatMake, seatKeys, seatLaid, seatMaps]
 kernel_rfl
theorem rowG1 : false = Rows.fnEndTimeRow.goesBy Tryd.pinned.checked.prog := by kernel_rfl
theorem rowG2 : Rows.fnEndTimeRow.wfByText (OpenSpec.ofChange Rows.fnEndTimeSpec) = true := by kernel_rfl
theorem rowG5 : Tryd.prog.funcNamed "loop.example/buildscheduler/laws.FnEndTime" = some 7 := by kernel_rfl
end Go.Proofs.YtnbkkiacffkfmaaDoor.fnEndTime
