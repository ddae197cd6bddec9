/- Parts of the proof, laid as one text by a program of mine. -/
import Derived.Test.YtifbjnhicnfdoaaDoorKac22
import Derived.Test.YtifbjnhicnfdoaaDoorCards
namespace Go.Proofs.YtifbjnhicnfdoaaDoor.fnLateTasks
open Go.RowKit
theorem rowC1 : Tryd.pinned.checked.prog.inPlace 6 = Rows.fnLateTasksRow.inPlace := by kernel_rfl
theorem rowC2 : Tryd.pinned.checked.prog.unfollowed 6 = Rows.fnLateTasksRow.unfollowed := by kernel_rfl
theorem rowC3 : Tryd.pinned.checked.prog.recurses 6 = Rows.fnLateTasksRow.recurses := by kernel_rfl
theorem rowC4 : Tryd.pinned.checked.prog.varsNamed 6 = Rows.fnLateTasksRow.named := by kernel_rfl
theorem rowClosed : joinedFacts Tryd.pinned.checked.prog 6 Tryd.f6 Rows.fnLateTasksSpec Rows.fnLateTasksRow = true := by
 unfold joinedFacts
 rw [rowC1, rowC2, rowC3, rowC4, seatMay, seatLifts, seatHeard, seatMake, seatKeys, seatLaid, seatMaps]
 kernel_rfl
theorem rowG1 : false = Rows.fnLateTasksRow.goesBy Tryd.pinned.checked.prog := by kernel_rfl
theorem rowG2 : Rows.fnLateTasksRow.wfByText (OpenSpec.ofChange Rows.fnLateTasksSpec) = true := by kernel_rfl
theorem rowG5 : Tryd.prog.funcNamed "loop.example/buildscheduler/laws.FnLateTasks" = some 6 := by kernel_rfl
end Go.Proofs.YtifbjnhicnfdoaaDoor.fnLateTasks
