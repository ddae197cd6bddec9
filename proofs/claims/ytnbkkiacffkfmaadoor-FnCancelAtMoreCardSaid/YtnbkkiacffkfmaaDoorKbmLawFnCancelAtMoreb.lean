/- Parts of the proof, laid as one text by a program of mine. -/
import Derived.Test.YtnbkkiacffkfmaaDoorKbc18
import Derived.Test.YtnbkkiacffkfmaaDoorCards
namespace Go.Proofs.YtnbkkiacffkfmaaDoor.fnCancelAtMore
open Go.RowKit
theorem rowC1 : Tryd.pinned.checked.prog.inPlace 12 = Rows.fnCancelAtMoreRow.inPlace := by kernel_rfl
theorem rowC2 : Tryd.pinned.checked.prog.unfollowed 12 = Rows.fnCancelAtMoreRow.unfollowed := by kernel_rfl
theorem rowC3 : Tryd.pinned.checked.prog.recurses 12 = Rows.fnCancelAtMoreRow.recurses := by kernel_rfl
theorem rowC4 : Tryd.pinned.checked.prog.varsNamed 12 = Rows.fnCancelAtMoreRow.named := by kernel_rfl
theorem rowClosed : joinedFacts Tryd.pinned.checked.prog 12 Tryd.f12 Rows.fnCancelAtMoreSpec Rows.fnCancelAtMoreRow = true := by
 unfold joinedFacts
 rw [rowC1, rowC2, rowC3, rowC4, seatMay, seatLifts, seatHeard, seatMake, seatKeys, seatLaid, seatMaps]
 kernel_rfl
theorem rowG1 : false = Rows.fnCancelAtMoreRow.goesBy Tryd.pinned.checked.prog := by kernel_rfl
theorem rowG2 : Rows.fnCancelAtMoreRow.wfByText (OpenSpec.ofChange Rows.fnCancelAtMoreSpec) = true := by kernel_rfl
theorem rowG5 : Tryd.prog.funcNamed "loop.example/buildscheduler/laws.FnCancelAtMore" = some 12 := by kernel_rfl
end Go.Proofs.YtnbkkiacffkfmaaDoor.fnCancelAtMore
