/- Parts of the proof, laid as one text by a program of mine. -/
import Derived.Test.YtdjdfbfcjajlkaaDoorKbc21
import Derived.Test.YtdjdfbfcjajlkaaDoorCards
namespace Go.Proofs.YtdjdfbfcjajlkaaDoor.fnLeastTimeMore
open Go.RowKit
theorem rowC1 : Tryd.pinned.checked.prog.inPlace 13 = Rows.fnLeastTimeMoreRow.inPlace := by kernel_rfl
theorem rowC2 : Tryd.pinned.checked.prog.unfollowed 13 = Rows.fnLeastTimeMoreRow.unfollowed := by kernel_rfl
theorem rowC3 : Tryd.pinned.checked.prog.recurses 13 = Rows.fnLeastTimeMoreRow.recurses := by kernel_rfl
theorem rowC4 : Tryd.pinned.checked.prog.varsNamed 13 = Rows.fnLeastTimeMoreRow.named := by kernel_rfl
theorem rowClosed : joinedFacts Tryd.pinned.checked.prog 13 Tryd.f13 Rows.fnLeastTimeMoreSpec Rows.fnLeastTimeMoreRow = true := by
 unfold joinedFacts
 rw [rowC1, rowC2, rowC3, rowC4, seatMay, seatLifts, seatHeard, seatMake, seatKeys, seatLaid, seatMaps]
 kernel_rfl
theorem rowG1 : false = Rows.fnLeastTimeMoreRow.goesBy Tryd.pinned.checked.prog := by kernel_rfl
theorem rowG2 : Rows.fnLeastTimeMoreRow.wfByText (OpenSpec.ofChange Rows.fnLeastTimeMoreSpec) = true := by kernel_rfl
theorem rowG5 : Tryd.prog.funcNamed "loop.example/buildscheduler/laws.FnLeastTimeMore" = some 13 := by kernel_rfl
end Go.Proofs.YtdjdfbfcjajlkaaDoor.fnLeastTimeMore
