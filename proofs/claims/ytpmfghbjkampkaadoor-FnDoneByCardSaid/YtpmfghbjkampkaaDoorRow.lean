/- What the rows of these laws share: the table that the program lays, a world that bears it, bytes as they come in. -/
import Derived.Test.YtpmfghbjkampkaaDoorRows
import Derived.Test.YtpmfghbjkampkaaDoorIter
import Derived.ChangeSame
import Derived.ChangeVars
import Derived.JoinedOf
import Derived.RowKit
import Derived.RowKitTokens
import Derived.LaidLaws
import Derived.ProofKit
import Derived.OpenShut
import Derived.ChangeOld
import Derived.Below
import Derived.Lib.LaidTab
import Derived.Lib.LaidIn
import Derived.SevenTiedAt
namespace Go.Proofs.YtpmfghbjkampkaaDoor
set_option linter.unusedVariables false
set_option linter.unusedSimpArgs false
open Go.ChangeShapes Go.WideShapes Go.ChangeAt Go.RowKit Go.Shelf
theorem own : ownKnob Tryd.prog.godebug = none := by kernel_rfl
theorem laidOut : laidOutB Tryd.prog = true := by kernel_rfl
theorem gT : Tryd.prog.globalNamed "math/bits.deBruijn32tab" = some 0 := by kernel_rfl
theorem gTType : (Tryd.prog.globals[0]?).map (·.type) = some 137 := by kernel_rfl
def laid1 : List (String × DataW Unit) := [("math/bits.deBruijn32tab", Lib.tabData .u8 (Lib.deBruijn32tab.map Int.ofNat))]
noncomputable def laidWorld (os : Os) : World :=
 let w0 := World.holding Tryd.prog os ⟨#[], #[], []⟩
 { w0 with heap := w0.heap.modify 0 fun
   | .cells _ t frozen => .cells ((Lib.deBruijn32tab.map Int.ofNat).map fun z => Value.int .u8 z).toArray t frozen
   | o => o }
theorem laid_met (os : Os) (args : Array Value) : laidMet Tryd.prog laid1 ((laidWorld os).forCall (fun _ _ => 0) ⟨#[], args, []⟩).memory :=
 (LaidIn.of_run [0] 8 (by kernel_rfl) (by kernel_rfl) (by kernel_rfl) (by kernel_rfl)).met
theorem tab_of_laid {W : World} (h : laidMet Tryd.prog laid1 W) : Tab W := by
 have h2 : Lib.TabIs Tryd.prog W "math/bits.deBruijn32tab" .u8 (Lib.deBruijn32tab.map Int.ofNat) := Lib.tabIs_of_head gT gTType Tryd.underlying137 Tryd.underlying5 (by kernel_rfl) (by kernel_rfl) h
 intro j hj
 have h3 := World.var?_cell gT h2 j
 rw [h3]
 simp [hj]
end Go.Proofs.YtpmfghbjkampkaaDoor
