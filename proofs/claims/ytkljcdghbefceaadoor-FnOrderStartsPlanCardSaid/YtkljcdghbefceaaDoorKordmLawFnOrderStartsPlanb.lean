/- Parts of the proof, laid as one text by a program of mine. -/
import Derived.Test.YtkljcdghbefceaaDoorKordc22
import Derived.Test.YtkljcdghbefceaaDoorCards
namespace Go.Proofs.YtkljcdghbefceaaDoor.fnOrderStartsPlan
open Go.RowKit
theorem rowC1 : Tryd.pinned.checked.prog.inPlace 3 = Rows.fnOrderStartsPlanRow.inPlace := by kernel_rfl
theorem rowC2 : Tryd.pinned.checked.prog.unfollowed 3 = Rows.fnOrderStartsPlanRow.unfollowed := by kernel_rfl
theorem rowC3 : Tryd.pinned.checked.prog.recurses 3 = Rows.fnOrderStartsPlanRow.recurses := by kernel_rfl
theorem rowC4 : Tryd.pinned.checked.prog.varsNamed 3 = Rows.fnOrderStartsPlanRow.named := by kernel_rfl
theorem rowClosed : joinedFacts Tryd.pinned.checked.prog 3 Tryd.f3 Rows.fnOrderStartsPlanSpec Rows.fnOrderStartsPlanRow = true := by
 unfold joinedFacts
 rw [rowC1, rowC2, rowC3, rowC4, seatMay, seatLifts, seatHeard, seatMake, seatKeys, seatLaid, seatMaps]
 kernel_rfl
theorem rowG1 : false = Rows.fnOrderStartsPlanRow.goesBy Tryd.pinned.checked.prog := by kernel_rfl
theorem rowG2 : Rows.fnOrderStartsPlanRow.wfByText (OpenSpec.ofChange Rows.fnOrderStartsPlanSpec) = true := by kernel_rfl
theorem rowG5 : Tryd.prog.funcNamed "loop.example/buildscheduler/laws.FnOrderStartsPlan" = some 3 := by kernel_rfl
end Go.Proofs.YtkljcdghbefceaaDoor.fnOrderStartsPlan
