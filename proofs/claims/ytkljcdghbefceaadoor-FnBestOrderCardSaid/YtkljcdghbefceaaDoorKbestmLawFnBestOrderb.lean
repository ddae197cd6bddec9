/- Parts of the proof, laid as one text by a program of mine. -/
import Derived.Test.YtkljcdghbefceaaDoorKbestc25
import Derived.Test.YtkljcdghbefceaaDoorCards
namespace Go.Proofs.YtkljcdghbefceaaDoor.fnBestOrder
open Go.RowKit
theorem rowC1 : Tryd.pinned.checked.prog.inPlace 7 = Rows.fnBestOrderRow.inPlace := by kernel_rfl
theorem rowC2 : Tryd.pinned.checked.prog.unfollowed 7 = Rows.fnBestOrderRow.unfollowed := by kernel_rfl
theorem rowC3 : Tryd.pinned.checked.prog.recurses 7 = Rows.fnBestOrderRow.recurses := by kernel_rfl
theorem rowC4 : Tryd.pinned.checked.prog.varsNamed 7 = Rows.fnBestOrderRow.named := by kernel_rfl
theorem rowClosed : joinedFacts Tryd.pinned.checked.prog 7 Tryd.f7 Rows.fnBestOrderSpec Rows.fnBestOrderRow = true := by
 unfold joinedFacts
 rw [rowC1, rowC2, rowC3, rowC4, seatMay, seatLifts, seatHeard, seatMake, seatKeys, seatLaid, seatMaps]
 kernel_rfl
theorem rowG1 : false = Rows.fnBestOrderRow.goesBy Tryd.pinned.checked.prog := by kernel_rfl
theorem rowG2 : Rows.fnBestOrderRow.wfByText (OpenSpec.ofChange Rows.fnBestOrderSpec) = true := by kernel_rfl
theorem rowG5 : Tryd.prog.funcNamed "loop.example/buildscheduler/laws.FnBestOrder" = some 7 := by kernel_rfl
end Go.Proofs.YtkljcdghbefceaaDoor.fnBestOrder
