/- Parts of the proof, laid as one text by a program of mine. -/
import Derived.Test.YtnbkkiacffkfmaaDoorKac18
import Derived.Test.YtnbkkiacffkfmaaDoorCards
namespace Go.Proofs.YtnbkkiacffkfmaaDoor.fnRunningAtTime
open Go.RowKit
theorem rowC1 : Tryd.pinned.checked.prog.inPlace 14 = Rows.fnRunningAtTimeRow.inPlace := by kernel_rfl
theorem rowC2 : Tryd.pinned.checked.prog.unfollowed 14 = Rows.fnRunningAtTimeRow.unfollowed := by kernel_rfl
theorem rowC3 : Tryd.pinned.checked.prog.recurses 14 = Rows.fnRunningAtTimeRow.recurses := by kernel_rfl
theorem rowC4 : Tryd.pinned.checked.prog.varsNamed 14 = Rows.fnRunningAtTimeRow.named := by kernel_rfl
theorem rowClosed : joinedFacts Tryd.pinned.checked.prog 14 Tryd.f14 Rows.fnRunningAtTimeSpec Rows.fnRunningAtTimeRow = true := by
 unfold joinedFacts
 rw [rowC1, rowC2, rowC3, rowC4, seatMay, seatLifts, seatHeard, seatMake, seatKeys, seatLaid, seatMaps]
 kernel_rfl
theorem rowG1 : false = Rows.fnRunningAtTimeRow.goesBy Tryd.pinned.checked.prog := by kernel_rfl
theorem rowG2 : Rows.fnRunningAtTimeRow.wfByText (OpenSpec.ofChange Rows.fnRunningAtTimeSpec) = true := by kernel_rfl
theorem rowG5 : Tryd.prog.funcNamed "loop.example/buildscheduler/laws.FnRunningAtTime" = some 14 := by kernel_rfl
end Go.Proofs.YtnbkkiacffkfmaaDoor.fnRunningAtTime
