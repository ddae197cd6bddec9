/- Parts of the proof, laid as one text by a program of mine. -/
import Derived.Test.YtdjdfbfcjajlkaaDoorKac15
import Derived.Test.YtdjdfbfcjajlkaaDoorCards
namespace Go.Proofs.YtdjdfbfcjajlkaaDoor.fnExactValidStarts
open Go.RowKit
theorem rowC1 : Tryd.pinned.checked.prog.inPlace 5 = Rows.fnExactValidStartsRow.inPlace := by kernel_rfl
theorem rowC2 : Tryd.pinned.checked.prog.unfollowed 5 = Rows.fnExactValidStartsRow.unfollowed := by kernel_rfl
theorem rowC3 : Tryd.pinned.checked.prog.recurses 5 = Rows.fnExactValidStartsRow.recurses := by kernel_rfl
theorem rowC4 : Tryd.pinned.checked.prog.varsNamed 5 = Rows.fnExactValidStartsRow.named := by kernel_rfl
theorem rowClosed : joinedFacts Tryd.pinned.checked.prog 5 Tryd.f5 Rows.fnExactValidStartsSpec Rows.fnExactValidStartsRow = true := by
 unfold joinedFacts
 rw [rowC1, rowC2, rowC3, rowC4, seatMay, seatLifts, seatHeard, seatMake, seatKeys, seatLaid, seatMaps]
 kernel_rfl
theorem rowG1 : false = Rows.fnExactValidStartsRow.goesBy Tryd.pinned.checked.prog := by kernel_rfl
theorem rowG2 : Rows.fnExactValidStartsRow.wfByText (OpenSpec.ofChange Rows.fnExactValidStartsSpec) = true := by kernel_rfl
theorem rowG5 : Tryd.prog.funcNamed "loop.example/buildscheduler/laws.FnExactValidStarts" = some 5 := by kernel_rfl
end Go.Proofs.YtdjdfbfcjajlkaaDoor.fnExactValidStarts
