/- Parts of the proof, laid as one text by a program of mine. -/
import Derived.Test.YtdjdfbfcjajlkaaDoorKac15
import Derived.Test.YtdjdfbfcjajlkaaDoorCards
namespace Go.Proofs.YtdjdfbfcjajlkaaDoor.fnExactWorkersFor
open Go.RowKit
theorem rowC1 : Tryd.pinned.checked.prog.inPlace 3 = Rows.fnExactWorkersForRow.inPlace := by kernel_rfl
theorem rowC2 : Tryd.pinned.checked.prog.unfollowed 3 = Rows.fnExactWorkersForRow.unfollowed := by kernel_rfl
theorem rowC3 : Tryd.pinned.checked.prog.recurses 3 = Rows.fnExactWorkersForRow.recurses := by kernel_rfl
theorem rowC4 : Tryd.pinned.checked.prog.varsNamed 3 = Rows.fnExactWorkersForRow.named := by kernel_rfl
theorem rowClosed : joinedFacts Tryd.pinned.checked.prog 3 Tryd.f3 Rows.fnExactWorkersForSpec Rows.fnExactWorkersForRow = true := by
 unfold joinedFacts
 rw [rowC1, rowC2, rowC3, rowC4, seatMay, seatLifts, seatHeard, seatMake, seatKeys, seatLaid, seatMaps]
 kernel_rfl
theorem rowG1 : false = Rows.fnExactWorkersForRow.goesBy Tryd.pinned.checked.prog := by kernel_rfl
theorem rowG2 : Rows.fnExactWorkersForRow.wfByText (OpenSpec.ofChange Rows.fnExactWorkersForSpec) = true := by kernel_rfl
theorem rowG5 : Tryd.prog.funcNamed "loop.example/buildscheduler/laws.FnExactWorkersFor" = some 3 := by kernel_rfl
end Go.Proofs.YtdjdfbfcjajlkaaDoor.fnExactWorkersFor
