/- Parts of the proof, laid as one text by a program of mine. -/
import Derived.Test.YtlapphhcficbjaaGreatDoorKic25
import Derived.Test.YtlapphhcficbjaaGreatDoorCards
namespace Go.Proofs.YtlapphhcficbjaaGreatDoor.fnMostTogetherOne
open Go.RowKit
theorem rowC1 : Tryz.pinned.checked.prog.inPlace 5 = Rows.fnMostTogetherOneRow.inPlace := by kernel_rfl
theorem rowC2 : Tryz.pinned.checked.prog.unfollowed 5 = Rows.fnMostTogetherOneRow.unfollowed := by kernel_rfl
theorem rowC3 : Tryz.pinned.checked.prog.recurses 5 = Rows.fnMostTogetherOneRow.recurses := by kernel_rfl
theorem rowC4 : Tryz.pinned.checked.prog.varsNamed 5 = Rows.fnMostTogetherOneRow.named := by kernel_rfl
theorem rowClosed : joinedFacts Tryz.pinned.checked.prog 5 Tryz.f5 Rows.fnMostTogetherOneSpec Rows.fnMostTogetherOneRow = true := by
 unfold joinedFacts
 rw [rowC1, rowC2, rowC3, rowC4, seatMay, seatLifts, seatHeard, seatMake, seatKeys, seatLaid, seatMaps]
 kernel_rfl
theorem rowG1 : false = Rows.fnMostTogetherOneRow.goesBy Tryz.pinned.checked.prog := by kernel_rfl
theorem rowG2 : Rows.fnMostTogetherOneRow.wfByText (OpenSpec.ofChange Rows.fnMostTogetherOneSpec) = true := by kernel_rfl
theorem rowG5 : Tryz.prog.funcNamed "loop.example/buildscheduler/laws.FnMostTogetherOne" = some 5 := by kernel_rfl
end Go.Proofs.YtlapphhcficbjaaGreatDoor.fnMostTogetherOne
