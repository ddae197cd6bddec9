/- Parts of the proof, laid as one text by a program of mine. -/
import Derived.Test.YtifbjnhicnfdoaaDoorKac22
import Derived.Test.YtifbjnhicnfdoaaDoorCards
namespace Go.Proofs.YtifbjnhicnfdoaaDoor.fnLateTasksUsers
open Go.RowKit
theorem rowC1 : Tryd.pinned.checked.prog.inPlace 5 = Rows.fnLateTasksUsersRow.inPlace := by kernel_rfl
theorem rowC2 : Tryd.pinned.checked.prog.unfollowed 5 = Rows.fnLateTasksUsersRow.unfollowed := by kernel_rfl
theorem rowC3 : Tryd.pinned.checked.prog.recurses 5 = Rows.fnLateTasksUsersRow.recurses := by kernel_rfl
theorem rowC4 : Tryd.pinned.checked.prog.varsNamed 5 = Rows.fnLateTasksUsersRow.named := by kernel_rfl
theorem rowClosed : joinedFacts Tryd.pinned.checked.prog 5 Tryd.f5 Rows.fnLateTasksUsersSpec Rows.fnLateTasksUsersRow = true := by
 unfold joinedFacts
 rw [rowC1, rowC2, rowC3, rowC4, seatMay, seatLifts, seatHeard, seatMake, seatKeys, seatLaid, seatMaps]
 kernel_rfl
theorem rowG1 : false = Rows.fnLateTasksUsersRow.goesBy Tryd.pinned.checked.prog := by kernel_rfl
theorem rowG2 : Rows.fnLateTasksUsersRow.wfByText (OpenSpec.ofChange Rows.fnLateTasksUsersSpec) = true := by kernel_rfl
theorem rowG5 : Tryd.prog.funcNamed "loop.example/buildscheduler/laws.FnLateTasksUsers" = some 5 := by kernel_rfl
end Go.Proofs.YtifbjnhicnfdoaaDoor.fnLateTasksUsers
