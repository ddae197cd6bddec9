/- Parts of the proof, laid as one text by a program of mine. -/
import Derived.Test.YtnbkkiacffkfmaaDoorKac18
import Derived.Test.YtnbkkiacffkfmaaDoorCards
namespace Go.Proofs.YtnbkkiacffkfmaaDoor.fnValidStarts
open Go.RowKit
theorem rowC1 : Tryd.pinned.checked.prog.inPlace 3 = Rows.fnValidStartsRow.inPlace := by kernel_rfl
theorem rowC2 : Tryd.pinned.checked.prog.unfollowed 3 = Rows.fnValidStartsRow.unfollowed := by kernel_rfl
theorem rowC3 : Tryd.pinned.checked.prog.recurses 3 = Rows.fnValidStartsRow.recurses := by kernel_rfl
theorem rowC4 : Tryd.pinned.checked.prog.varsNamed 3 = Rows.fnValidStartsRow.named := by kernel_rfl
theorem rowClosed : joinedFacts Tryd.pinned.checked.prog 3 Tryd.f3 Rows.fnValidStartsSpec Rows.fnValidStartsRow = true := by
 unfold joinedFacts
 rw [rowC1, rowC2, rowC3, rowC4, seatMay, seatLifts, seatHeard, seatMake, seatKeys, seatLaid, seatMaps]
 kernel_rfl
theorem rowG1 : false = Rows.fnValidStartsRow.goesBy Tryd.pinned.checked.prog := by kernel_rfl
theorem rowG2 : Rows.fnValidStartsRow.wfByText (OpenSpec.ofChange Rows.fnValidStartsSpec) = true := by kernel_rfl
theorem rowG5 : Tryd.prog.funcNamed "loop.example/buildscheduler/laws.FnValidStarts" = some 3 := by kernel_rfl
end Go.Proofs.YtnbkkiacffkfmaaDoor.fnValidStarts
