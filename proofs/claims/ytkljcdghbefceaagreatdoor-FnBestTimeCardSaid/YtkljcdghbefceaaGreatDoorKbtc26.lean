/- Parts of the proof, laid as one text by a program of mine. -/
import Derived.Test.YtkljcdghbefceaaGreatDoorKbtc25
import Derived.Test.YtkljcdghbefceaaGreatDoorCards
namespace Go.Proofs.YtkljcdghbefceaaGreatDoor.fnBestTime
open Go.RowKit
theorem rowC1 : Tryz.pinned.checked.prog.inPlace 3 = Rows.fnBestTimeRow.inPlace := by kernel_rfl
theorem rowC2 : Tryz.pinned.checked.prog.unfollowed 3 = Rows.fnBestTimeRow.unfollowed := by kernel_rfl
theorem rowC3 : Tryz.pinned.checked.prog.recurses 3 = Rows.fnBestTimeRow.recurses := by kernel_rfl
theorem rowC4 : Tryz.pinned.checked.prog.varsNamed 3 = Rows.fnBestTimeRow.named := by kernel_rfl
theorem rowClosed : joinedFacts Tryz.pinned.checked.prog 3 Tryz.f3 Rows.fnBestTimeSpec Rows.fnBestTimeRow = true := by
 unfold joinedFacts
 rw [rowC1, rowC2, rowC3, rowC4, seatMay, seatLifts, seatHeard, seatMake, seatKeys, seatLaid, seatMaps]
 kernel_rfl
theorem rowG1 : false = Rows.fnBestTimeRow.goesBy Tryz.pinned.checked.prog := by kernel_rfl
theorem rowG2 : Rows.fnBestTimeRow.wfByText (OpenSpec.ofChange Rows.fnBestTimeSpec) = true := by kernel_rfl
theorem rowG5 : Tryz.prog.funcNamed "loop.example/buildscheduler/laws.FnBestTime" = some 3 := by kernel_rfl
end Go.Proofs.YtkljcdghbefceaaGreatDoor.fnBestTime
