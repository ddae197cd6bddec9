/- Parts of the proof, laid as one text by a program of mine. -/
import Derived.Test.YtdjdfbfcjajlkaaDoorKbc21
import Derived.Test.YtdjdfbfcjajlkaaDoorCards
namespace Go.Proofs.YtdjdfbfcjajlkaaDoor.fnEndTimeLeast
open Go.RowKit
theorem rowC1 : Tryd.pinned.checked.prog.inPlace 12 = Rows.fnEndTimeLeastRow.inPlace := by kernel_rfl
theorem rowC2 : Tryd.pinned.checked.prog.unfollowed 12 = Rows.fnEndTimeLeastRow.unfollowed := by kernel_rfl
theorem rowC3 : Tryd.pinned.checked.prog.recurses 12 = Rows.fnEndTimeLeastRow.recurses := by kernel_rfl
theorem rowC4 : Tryd.pinned.checked.prog.varsNamed 12 = Rows.fnEndTimeLeastRow.named := by kernel_rfl
theorem rowClosed : joinedFacts Tryd.pinned.checked.prog 12 Tryd.f12 Rows.fnEndTimeLeastSpec Rows.fnEndTimeLeastRow = true := by
 unfold joinedFacts
 rw [rowC1, rowC2, rowC3, rowC4, seatMay, seatLifts, seatHeard, seatMake, seatKeys, seatLaid, seatMaps]
 kernel_rfl
theorem rowG1 : false = Rows.fnEndTimeLeastRow.goesBy Tryd.pinned.checked.prog := by kernel_rfl
theorem rowG2 : Rows.fnEndTimeLeastRow.wfByText (OpenSpec.ofChange Rows.fnEndTimeLeastSpec) = true := by kernel_rfl
theorem rowG5 : Tryd.prog.funcNamed "loop.example/buildscheduler/laws.FnEndTimeLeast" = some 12 := by kernel_rfl
end Go.Proofs.YtdjdfbfcjajlkaaDoor.fnEndTimeLeast
