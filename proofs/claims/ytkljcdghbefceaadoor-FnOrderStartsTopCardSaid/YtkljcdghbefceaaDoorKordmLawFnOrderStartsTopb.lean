/- Parts of the proof, laid as one text by a program of mine. -/
import Derived.Test.YtkljcdghbefceaaDoorKordc22
import Derived.Test.YtkljcdghbefceaaDoorCards
namespace Go.Proofs.YtkljcdghbefceaaDoor.fnOrderStartsTop
open Go.RowKit
theorem rowC1 : Tryd.pinned.checked.prog.inPlace 4 = Rows.fnOrderStartsTopRow.inPlace := by kernel_rfl
theorem rowC2 : Tryd.pinned.checked.prog.unfollowed 4 = Rows.fnOrderStartsTopRow.unfollowed := by kernel_rfl
theorem rowC3 : Tryd.pinned.checked.prog.recurses 4 = Rows.fnOrderStartsTopRow.recurses := by kernel_rfl
theorem rowC4 : Tryd.pinned.checked.prog.varsNamed 4 = Rows.fnOrderStartsTopRow.named := by kernel_rfl
theorem rowClosed : joinedFacts Tryd.pinned.checked.prog 4 Tryd.f4 Rows.fnOrderStartsTopSpec Rows.fnOrderStartsTopRow = true := by
 unfold joinedFacts
 rw [rowC1, rowC2, rowC3, rowC4, seatMay, seatLifts, seatHeard, seatMake, seatKeys, seatLaid, seatMaps]
 kernel_rfl
theorem rowG1 : false = Rows.fnOrderStartsTopRow.goesBy Tryd.pinned.checked.prog := by kernel_rfl
theorem rowG2 : Rows.fnOrderStartsTopRow.wfByText (OpenSpec.ofChange Rows.fnOrderStartsTopSpec) = true := by kernel_rfl
theorem rowG5 : Tryd.prog.funcNamed "loop.example/buildscheduler/laws.FnOrderStartsTop" = some 4 := by kernel_rfl
end Go.Proofs.YtkljcdghbefceaaDoor.fnOrderStartsTop
