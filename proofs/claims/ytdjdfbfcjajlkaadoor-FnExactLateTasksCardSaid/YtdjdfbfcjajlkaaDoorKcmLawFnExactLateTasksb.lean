/- Parts of the proof, laid as one text by a program of mine. -/
import Derived.Test.YtdjdfbfcjajlkaaDoorKcc16
import Derived.Test.YtdjdfbfcjajlkaaDoorCards
namespace Go.Proofs.YtdjdfbfcjajlkaaDoor.fnExactLateTasks
open Go.RowKit
theorem rowC1 : Tryd.pinned.checked.prog.inPlace 11 = Rows.fnExactLateTasksRow.inPlace := by kernel_rfl
theorem rowC2 : Tryd.pinned.checked.prog.unfollowed 11 = Rows.fnExactLateTasksRow.unfollowed := by kernel_rfl
theorem rowC3 : Tryd.pinned.checked.prog.recurses 11 = Rows.fnExactLateTasksRow.recurses := by kernel_rfl
theorem rowC4 : Tryd.pinned.checked.prog.varsNamed 11 = Rows.fnExactLateTasksRow.named := by kernel_rfl
theorem rowClosed : joinedFacts Tryd.pinned.checked.prog 11 Tryd.f11 Rows.fnExactLateTasksSpec Rows.fnExactLateTasksRow = true := by
 unfold joinedFacts
 rw [rowC1, rowC2, rowC3, rowC4, seatMay, seatLifts, seatHeard, seatMake, seatKeys, seatLaid, seatMaps]
 kernel_rfl
theorem rowG1 : false = Rows.fnExactLateTasksRow.goesBy Tryd.pinned.checked.prog := by kernel_rfl
theorem rowG2 : Rows.fnExactLateTasksRow.wfByText (OpenSpec.ofChange Rows.fnExactLateTasksSpec) = true := by kernel_rfl
theorem rowG5 : Tryd.prog.funcNamed "loop.example/buildscheduler/laws.FnExactLateTasks" = some 11 := by kernel_rfl
end Go.Proofs.YtdjdfbfcjajlkaaDoor.fnExactLateTasks
