/- Parts of the proof, laid as one text by a program of mine. -/
import Derived.Test.YtdjdfbfcjajlkaaDoorKcc16
import Derived.Test.YtdjdfbfcjajlkaaDoorCards
namespace Go.Proofs.YtdjdfbfcjajlkaaDoor.fnExactLogOf
open Go.RowKit
theorem rowC1 : Tryd.pinned.checked.prog.inPlace 10 = Rows.fnExactLogOfRow.inPlace := by kernel_rfl
theorem rowC2 : Tryd.pinned.checked.prog.unfollowed 10 = Rows.fnExactLogOfRow.unfollowed := by kernel_rfl
theorem rowC3 : Tryd.pinned.checked.prog.recurses 10 = Rows.fnExactLogOfRow.recurses := by kernel_rfl
theorem rowC4 : Tryd.pinned.checked.prog.varsNamed 10 = Rows.fnExactLogOfRow.named := by kernel_rfl
theorem rowClosed : joinedFacts Tryd.pinned.checked.prog 10 Tryd.f10 Rows.fnExactLogOfSpec Rows.fnExactLogOfRow = true := by
 unfold joinedFacts
 rw [rowC1, rowC2, rowC3, rowC4, seatMay, seatLifts, seatHeard, seatMake, seatKeys, seatLaid, seatMaps]
 kernel_rfl
theorem rowG1 : false = Rows.fnExactLogOfRow.goesBy Tryd.pinned.checked.prog := by kernel_rfl
theorem rowG2 : Rows.fnExactLogOfRow.wfByText (OpenSpec.ofChange Rows.fnExactLogOfSpec) = true := by kernel_rfl
theorem rowG5 : Tryd.prog.funcNamed "loop.example/buildscheduler/laws.FnExactLogOf" = some 10 := by kernel_rfl
end Go.Proofs.YtdjdfbfcjajlkaaDoor.fnExactLogOf
