/- Parts of the proof, laid as one text by a program of mine. -/
import Derived.Test.YtdjdfbfcjajlkaaDoorKcc16
import Derived.Test.YtdjdfbfcjajlkaaDoorCards
namespace Go.Proofs.YtdjdfbfcjajlkaaDoor.fnExactPlanStarts
open Go.RowKit
theorem rowC1 : Tryd.pinned.checked.prog.inPlace 4 = Rows.fnExactPlanStartsRow.inPlace := by kernel_rfl
theorem rowC2 : Tryd.pinned.checked.prog.unfollowed 4 = Rows.fnExactPlanStartsRow.unfollowed := by kernel_rfl
theorem rowC3 : Tryd.pinned.checked.prog.recurses 4 = Rows.fnExactPlanStartsRow.recurses := by kernel_rfl
theorem rowC4 : Tryd.pinned.checked.prog.varsNamed 4 = Rows.fnExactPlanStartsRow.named := by kernel_rfl
theorem rowClosed : joinedFacts Tryd.pinned.checked.prog 4 Tryd.f4 Rows.fnExactPlanStartsSpec Rows.fnExactPlanStartsRow = true := by
 unfold joinedFacts
 rw [rowC1, rowC2, rowC3, rowC4, seatMay, seatLifts, seatHeard, seatMake, seatKeys, seatLaid, seatMaps]
 kernel_rfl
theorem rowG1 : false = Rows.fnExactPlanStartsRow.goesBy Tryd.pinned.checked.prog := by kernel_rfl
theorem rowG2 : Rows.fnExactPlanStartsRow.wfByText (OpenSpec.ofChange Rows.fnExactPlanStartsSpec) = true := by kernel_rfl
theorem rowG5 : Tryd.prog.funcNamed "loop.example/buildscheduler/laws.FnExactPlanStarts" = some 4 := by kernel_rfl
end Go.Proofs.YtdjdfbfcjajlkaaDoor.fnExactPlanStarts
