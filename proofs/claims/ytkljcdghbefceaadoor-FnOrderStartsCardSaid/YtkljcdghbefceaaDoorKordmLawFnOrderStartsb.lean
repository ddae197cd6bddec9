/- Parts of the proof, laid as one text by a program of mine. -/
import Derived.Test.YtkljcdghbefceaaDoorKordc22
import Derived.Test.YtkljcdghbefceaaDoorCards
namespace Go.Proofs.YtkljcdghbefceaaDoor.fnOrderStarts
open Go.RowKit
theorem rowC1 : Tryd.pinned.checked.prog.inPlace 5 = Rows.fnOrderStartsRow.inPlace := by kernel_rfl
theorem rowC2 : Tryd.pinned.checked.prog.unfollowed 5 = Rows.fnOrderStartsRow.unfollowed := by kernel_rfl
theorem rowC3 : Tryd.pinned.checked.prog.recurses 5 = Rows.fnOrderStartsRow.recurses := by kernel_rfl
theorem rowC4 : Tryd.pinned.checked.prog.varsNamed 5 = Rows.fnOrderStartsRow.named := by kernel_rfl
theorem rowClosed : joinedFacts Tryd.pinned.checked.prog 5 Tryd.f5 Rows.fnOrderStartsSpec Rows.fnOrderStartsRow = true := by
 unfold joinedFacts
 rw [rowC1, rowC2, rowC3, rowC4, seatMay, seatLifts, seatHeard, seatMake, seatKeys, seatLaid, seatMaps]
 kernel_rfl
theorem rowG1 : false = Rows.fnOrderStartsRow.goesBy Tryd.pinned.checked.prog := by kernel_rfl
theorem rowG2 : Rows.fnOrderStartsRow.wfByText (OpenSpec.ofChange Rows.fnOrderStartsSpec) = true := by kernel_rfl
theorem rowG5 : Tryd.prog.funcNamed "loop.example/buildscheduler/laws.FnOrderStarts" = some 5 := by kernel_rfl
end Go.Proofs.YtkljcdghbefceaaDoor.fnOrderStarts
