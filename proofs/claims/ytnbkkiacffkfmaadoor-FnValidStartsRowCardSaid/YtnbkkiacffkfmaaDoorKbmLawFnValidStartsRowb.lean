/- Parts of the proof, laid as one text by a program of mine. -/
import Derived.Test.YtnbkkiacffkfmaaDoorKbc18
import Derived.Test.YtnbkkiacffkfmaaDoorCards
namespace Go.Proofs.YtnbkkiacffkfmaaDoor.fnValidStartsRow
open Go.RowKit
theorem rowC1 : Tryd.pinned.checked.prog.inPlace 5 = Rows.fnValidStartsRowRow.inPlace := by kernel_rfl
theorem rowC2 : Tryd.pinned.checked.prog.unfollowed 5 = Rows.fnValidStartsRowRow.unfollowed := by kernel_rfl
theorem rowC3 : Tryd.pinned.checked.prog.recurses 5 = Rows.fnValidStartsRowRow.recurses := by kernel_rfl
theorem rowC4 : Tryd.pinned.checked.prog.varsNamed 5 = Rows.fnValidStartsRowRow.named := by kernel_rfl
theorem rowClosed : joinedFacts Tryd.pinned.checked.prog 5 Tryd.f5 Rows.fnValidStartsRowSpec Rows.fnValidStartsRowRow = true := by
 unfold joinedFacts
 rw [rowC1, rowC2, rowC3, rowC4, seatMay, seatLifts, seatHeard, seatMake, seatKeys, seatLaid, seatMaps]
 kernel_rfl
theorem rowG1 : false = Rows.fnValidStartsRowRow.goesBy Tryd.pinned.checked.prog := by kernel_rfl
theorem rowG2 : Rows.fnValidStartsRowRow.wfByText (OpenSpec.ofChange Rows.fnValidStartsRowSpec) = true := by kernel_rfl
theorem rowG5 : Tryd.prog.funcNamed "loop.example/buildscheduler/laws.FnValidStartsRow" = some 5 := by kernel_rfl
end Go.Proofs.YtnbkkiacffkfmaaDoor.fnValidStartsRow
