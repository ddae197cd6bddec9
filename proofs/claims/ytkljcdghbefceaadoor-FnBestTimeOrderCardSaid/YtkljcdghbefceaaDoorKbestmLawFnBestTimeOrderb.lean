/- Parts of the proof, laid as one text by a program of mine. -/
import Derived.Test.YtkljcdghbefceaaDoorKbestc25
import Derived.Test.YtkljcdghbefceaaDoorCards
namespace Go.Proofs.YtkljcdghbefceaaDoor.fnBestTimeOrder
open Go.RowKit
theorem rowC1 : Tryd.pinned.checked.prog.inPlace 6 = Rows.fnBestTimeOrderRow.inPlace := by kernel_rfl
theorem rowC2 : Tryd.pinned.checked.prog.unfollowed 6 = Rows.fnBestTimeOrderRow.unfollowed := by kernel_rfl
theorem rowC3 : Tryd.pinned.checked.prog.recurses 6 = Rows.fnBestTimeOrderRow.recurses := by kernel_rfl
theorem rowC4 : Tryd.pinned.checked.prog.varsNamed 6 = Rows.fnBestTimeOrderRow.named := by kernel_rfl
theorem rowClosed : joinedFacts Tryd.pinned.checked.prog 6 Tryd.f6 Rows.fnBestTimeOrderSpec Rows.fnBestTimeOrderRow = true := by
 unfold joinedFacts
 rw [rowC1, rowC2, rowC3, rowC4, seatMay, seatLifts, seatHeard, seatMake, seatKeys, seatLaid, seatMaps]
 kernel_rfl
theorem rowG1 : false = Rows.fnBestTimeOrderRow.goesBy Tryd.pinned.checked.prog := by kernel_rfl
theorem rowG2 : Rows.fnBestTimeOrderRow.wfByText (OpenSpec.ofChange Rows.fnBestTimeOrderSpec) = true := by kernel_rfl
theorem rowG5 : Tryd.prog.funcNamed "loop.example/buildscheduler/laws.FnBestTimeOrder" = some 6 := by kernel_rfl
end Go.Proofs.YtkljcdghbefceaaDoor.fnBestTimeOrder
