/-
  NARROWER THAN 'FOR EVERY INPUT', by the rows' own cells (each row's printed sentence says how): FnExactWorkersFor: laid · FnExactPlanStarts: laid · FnWorkersForLater: laid · FnDoneBy: laid · FnPlanStartsFirst: laid · FnOrderStartsPlan: laid · FnWorkersForOne: laid.
  DERIVED. THE GIVEN ROWS OF THIS SEAT. 7 by the template 'for every input the law returns true; each argument reads behind the call as it read before'; 0 by the template 'total and deterministic' (their statements: YtpmfghbjkampkaaDoorTotals.lean).
  GIVEN WITH THE SEED: the statements are not yours to turn. If you find one false, say at which input.
  Laid BY PROGRAM, IN A SANDBOX (cutbox-rows.mjs): the forced cells as the released guide's own fill.sh prints them over the translation 0f7c77b0fc082d34… (all of the seat's roots in one cut). By AI agents, Wed Nov 11 2026. No macro, syntax, notation, axiom, sorry.
-/
import Derived.Test.YtpmfghbjkampkaaDoorChecked
import GoSem.Claim
import GoSem.ClaimJoined
import GoSem.ClaimMapViews
import Derived.JoinedTies
import Derived.KernelRfl
namespace Go.Proofs.YtpmfghbjkampkaaDoor
/- THE CELL 'sum', in the pinned program and in every row, IS THE sha256 OF THE DUMP (.gsa) THAT YtpmfghbjkampkaaDoorProg.lean LOADS. Nothing in Lean hashes anything: it is a label: what it is worth is what the hold of that sum in a sandbox is worth. -/
noncomputable def Tryd.pinned : Pinned := { name := "ytpmfghbjkampkaadoor", sum := "0f7c77b0fc082d34832e0bb2e0e1a5c1c4a748d71dc6d6ca3849b001f1ba16fb", checked := Tryd.checked }
namespace Rows
def none {H : Type} : Left H := { results := [], args := [] }

/- WHAT THE LISTED PACKAGE-LEVEL VARIABLES READ AS WHEN THE CALL BEGINS. Each datum BY PROGRAM (the guide's laid-datum.mjs) off the statement by which the dump's own 'gosem.cut.vars' lays the variable. In a bare row this is a premise. The card (YtpmfghbjkampkaaDoorCards.lean) ties it to the program's text. -/
def laid_math_bits_deBruijn32tab {H : Type} : DataW H := .agg [.lit (.int .u8 0), .lit (.int .u8 1), .lit (.int .u8 28), .lit (.int .u8 2), .lit (.int .u8 29), .lit (.int .u8 14), .lit (.int .u8 24), .lit (.int .u8 3), .lit (.int .u8 30), .lit (.int .u8 22), .lit (.int .u8 20), .lit (.int .u8 15), .lit (.int .u8 25), .lit (.int .u8 17), .lit (.int .u8 4), .lit (.int .u8 8), .lit (.int .u8 31), .lit (.int .u8 27), .lit (.int .u8 13), .lit (.int .u8 23), .lit (.int .u8 21), .lit (.int .u8 19), .lit (.int .u8 16), .lit (.int .u8 7), .lit (.int .u8 26), .lit (.int .u8 12), .lit (.int .u8 18), .lit (.int .u8 6), .lit (.int .u8 11), .lit (.int .u8 5), .lit (.int .u8 10), .lit (.int .u8 9)]

/-- 'laws.FnExactWorkersFor': WHATEVER THE INPUT: true; the input reads as it did. -/
def fnExactWorkersForSpec : ChangeSpec := { name := "fnExactWorkersFor", fn := fun _ => fun
  | [d1, d2, d3] => { results := [.lit (.bool true)], args := [d1, d2, d3] }
  | _ => none }
def fnExactWorkersForRow : OpenClaim := { program := "ytpmfghbjkampkaadoor", sum := "0f7c77b0fc082d34832e0bb2e0e1a5c1c4a748d71dc6d6ca3849b001f1ba16fb", func := "loop.example/buildscheduler/laws.FnExactWorkersFor", spec := "fnExactWorkersFor", unfollowed := true, recurses := true, named := ["math/bits.deBruijn32tab"], apart := false, laid := [("math/bits.deBruijn32tab", laid_math_bits_deBruijn32tab)] }
def FnExactWorkersForSaid : Prop := fnExactWorkersForRow.holds Tryd.pinned (OpenSpec.ofChange fnExactWorkersForSpec)

/-- ITS FALSE NEIGHBOUR: 'it returns false'. Refute it at one input. -/
def fnExactWorkersForWrong : ChangeSpec := { name := "fnExactWorkersFor", fn := fun _ => fun
  | [d1, d2, d3] => { results := [.lit (.bool false)], args := [d1, d2, d3] }
  | _ => none }
def FnExactWorkersForWrongFalsely : Prop := fnExactWorkersForRow.holds Tryd.pinned (OpenSpec.ofChange fnExactWorkersForWrong)

/-- 'laws.FnExactPlanStarts': WHATEVER THE INPUT: true; the input reads as it did. -/
def fnExactPlanStartsSpec : ChangeSpec := { name := "fnExactPlanStarts", fn := fun _ => fun
  | [d1, d2, d3] => { results := [.lit (.bool true)], args := [d1, d2, d3] }
  | _ => none }
def fnExactPlanStartsRow : OpenClaim := { program := "ytpmfghbjkampkaadoor", sum := "0f7c77b0fc082d34832e0bb2e0e1a5c1c4a748d71dc6d6ca3849b001f1ba16fb", func := "loop.example/buildscheduler/laws.FnExactPlanStarts", spec := "fnExactPlanStarts", unfollowed := true, recurses := true, named := ["math/bits.deBruijn32tab"], apart := false, laid := [("math/bits.deBruijn32tab", laid_math_bits_deBruijn32tab)] }
def FnExactPlanStartsSaid : Prop := fnExactPlanStartsRow.holds Tryd.pinned (OpenSpec.ofChange fnExactPlanStartsSpec)

/-- ITS FALSE NEIGHBOUR: 'it returns false'. Refute it at one input. -/
def fnExactPlanStartsWrong : ChangeSpec := { name := "fnExactPlanStarts", fn := fun _ => fun
  | [d1, d2, d3] => { results := [.lit (.bool false)], args := [d1, d2, d3] }
  | _ => none }
def FnExactPlanStartsWrongFalsely : Prop := fnExactPlanStartsRow.holds Tryd.pinned (OpenSpec.ofChange fnExactPlanStartsWrong)

/-- 'laws.FnWorkersForLater': WHATEVER THE INPUT: true; the input reads as it did. -/
def fnWorkersForLaterSpec : ChangeSpec := { name := "fnWorkersForLater", fn := fun _ => fun
  | [d] => { results := [.lit (.bool true)], args := [d] }
  | _ => none }
def fnWorkersForLaterRow : OpenClaim := { program := "ytpmfghbjkampkaadoor", sum := "0f7c77b0fc082d34832e0bb2e0e1a5c1c4a748d71dc6d6ca3849b001f1ba16fb", func := "loop.example/buildscheduler/laws.FnWorkersForLater", spec := "fnWorkersForLater", unfollowed := true, recurses := true, named := ["math/bits.deBruijn32tab"], apart := false, laid := [("math/bits.deBruijn32tab", laid_math_bits_deBruijn32tab)] }
def FnWorkersForLaterSaid : Prop := fnWorkersForLaterRow.holds Tryd.pinned (OpenSpec.ofChange fnWorkersForLaterSpec)

/-- ITS FALSE NEIGHBOUR: 'it returns false'. Refute it at one input. -/
def fnWorkersForLaterWrong : ChangeSpec := { name := "fnWorkersForLater", fn := fun _ => fun
  | [d] => { results := [.lit (.bool false)], args := [d] }
  | _ => none }
def FnWorkersForLaterWrongFalsely : Prop := fnWorkersForLaterRow.holds Tryd.pinned (OpenSpec.ofChange fnWorkersForLaterWrong)

/-- 'laws.FnDoneBy': WHATEVER THE INPUT: true; the input reads as it did. -/
def fnDoneBySpec : ChangeSpec := { name := "fnDoneBy", fn := fun _ => fun
  | [d] => { results := [.lit (.bool true)], args := [d] }
  | _ => none }
def fnDoneByRow : OpenClaim := { program := "ytpmfghbjkampkaadoor", sum := "0f7c77b0fc082d34832e0bb2e0e1a5c1c4a748d71dc6d6ca3849b001f1ba16fb", func := "loop.example/buildscheduler/laws.FnDoneBy", spec := "fnDoneBy", unfollowed := true, recurses := true, named := ["math/bits.deBruijn32tab"], apart := false, laid := [("math/bits.deBruijn32tab", laid_math_bits_deBruijn32tab)] }
def FnDoneBySaid : Prop := fnDoneByRow.holds Tryd.pinned (OpenSpec.ofChange fnDoneBySpec)

/-- ITS FALSE NEIGHBOUR: 'it returns false'. Refute it at one input. -/
def fnDoneByWrong : ChangeSpec := { name := "fnDoneBy", fn := fun _ => fun
  | [d] => { results := [.lit (.bool false)], args := [d] }
  | _ => none }
def FnDoneByWrongFalsely : Prop := fnDoneByRow.holds Tryd.pinned (OpenSpec.ofChange fnDoneByWrong)

/-- 'laws.FnPlanStartsFirst': WHATEVER THE INPUT: true; the input reads as it did. -/
def fnPlanStartsFirstSpec : ChangeSpec := { name := "fnPlanStartsFirst", fn := fun _ => fun
  | [d] => { results := [.lit (.bool true)], args := [d] }
  | _ => none }
def fnPlanStartsFirstRow : OpenClaim := { program := "ytpmfghbjkampkaadoor", sum := "0f7c77b0fc082d34832e0bb2e0e1a5c1c4a748d71dc6d6ca3849b001f1ba16fb", func := "loop.example/buildscheduler/laws.FnPlanStartsFirst", spec := "fnPlanStartsFirst", unfollowed := true, recurses := true, named := ["math/bits.deBruijn32tab"], apart := false, laid := [("math/bits.deBruijn32tab", laid_math_bits_deBruijn32tab)] }
def FnPlanStartsFirstSaid : Prop := fnPlanStartsFirstRow.holds Tryd.pinned (OpenSpec.ofChange fnPlanStartsFirstSpec)

/-- ITS FALSE NEIGHBOUR: 'it returns false'. Refute it at one input. -/
def fnPlanStartsFirstWrong : ChangeSpec := { name := "fnPlanStartsFirst", fn := fun _ => fun
  | [d] => { results := [.lit (.bool false)], args := [d] }
  | _ => none }
def FnPlanStartsFirstWrongFalsely : Prop := fnPlanStartsFirstRow.holds Tryd.pinned (OpenSpec.ofChange fnPlanStartsFirstWrong)

/-- 'laws.FnOrderStartsPlan': WHATEVER THE INPUT: true; the input reads as it did. -/
def fnOrderStartsPlanSpec : ChangeSpec := { name := "fnOrderStartsPlan", fn := fun _ => fun
  | [d] => { results := [.lit (.bool true)], args := [d] }
  | _ => none }
def fnOrderStartsPlanRow : OpenClaim := { program := "ytpmfghbjkampkaadoor", sum := "0f7c77b0fc082d34832e0bb2e0e1a5c1c4a748d71dc6d6ca3849b001f1ba16fb", func := "loop.example/buildscheduler/laws.FnOrderStartsPlan", spec := "fnOrderStartsPlan", unfollowed := true, recurses := true, named := ["math/bits.deBruijn32tab"], apart := false, laid := [("math/bits.deBruijn32tab", laid_math_bits_deBruijn32tab)] }
def FnOrderStartsPlanSaid : Prop := fnOrderStartsPlanRow.holds Tryd.pinned (OpenSpec.ofChange fnOrderStartsPlanSpec)

/-- ITS FALSE NEIGHBOUR: 'it returns false'. Refute it at one input. -/
def fnOrderStartsPlanWrong : ChangeSpec := { name := "fnOrderStartsPlan", fn := fun _ => fun
  | [d] => { results := [.lit (.bool false)], args := [d] }
  | _ => none }
def FnOrderStartsPlanWrongFalsely : Prop := fnOrderStartsPlanRow.holds Tryd.pinned (OpenSpec.ofChange fnOrderStartsPlanWrong)

/-- 'laws.FnWorkersForOne': WHATEVER THE INPUT: true; the input reads as it did. -/
def fnWorkersForOneSpec : ChangeSpec := { name := "fnWorkersForOne", fn := fun _ => fun
  | [d] => { results := [.lit (.bool true)], args := [d] }
  | _ => none }
def fnWorkersForOneRow : OpenClaim := { program := "ytpmfghbjkampkaadoor", sum := "0f7c77b0fc082d34832e0bb2e0e1a5c1c4a748d71dc6d6ca3849b001f1ba16fb", func := "loop.example/buildscheduler/laws.FnWorkersForOne", spec := "fnWorkersForOne", unfollowed := true, recurses := true, named := ["math/bits.deBruijn32tab"], apart := false, laid := [("math/bits.deBruijn32tab", laid_math_bits_deBruijn32tab)] }
def FnWorkersForOneSaid : Prop := fnWorkersForOneRow.holds Tryd.pinned (OpenSpec.ofChange fnWorkersForOneSpec)

/-- ITS FALSE NEIGHBOUR: 'it returns false'. Refute it at one input. -/
def fnWorkersForOneWrong : ChangeSpec := { name := "fnWorkersForOne", fn := fun _ => fun
  | [d] => { results := [.lit (.bool false)], args := [d] }
  | _ => none }
def FnWorkersForOneWrongFalsely : Prop := fnWorkersForOneRow.holds Tryd.pinned (OpenSpec.ofChange fnWorkersForOneWrong)

/- THE SECOND FORM. 'bulk': how many values and letters a reading holds, each counted each time it is reached (what is shared counts as often as it is met; a slice's spare places count too). A statement '..UptoSaid' is the law's where the arguments, and the package variables that the reading takes, are together of bulk at most 1048576: NARROWER than '..Said'. Prove '..Said' where nothing that the law and all that it calls make is longer than what came in: it says more and counts as full. Else prove '..UptoSaid'. A law counts once. -/
mutual
def uptoBulk {H : Type} : DataW H → Nat
  | .lit (.string bytes) => bytes.length + 1
  | .lit _ => 1
  | .nil => 1
  | .ptr d => uptoBulk d + 1
  | .slice elems spare => uptoBulkAll elems + uptoBulkAll spare + 1
  | .agg parts => uptoBulkAll parts + 1
  | .iface _ d => uptoBulk d + 1
  | .map entries => uptoBulkEntries entries + 1
  | .held _ => 1
def uptoBulkAll {H : Type} : List (DataW H) → Nat
  | [] => 0
  | d :: r => uptoBulk d + uptoBulkAll r
def uptoBulkEntries {H : Type} : List (Lit × DataW H) → Nat
  | [] => 0
  | x :: r => uptoBulkEntry x + uptoBulkEntries r
def uptoBulkEntry {H : Type} : Lit × DataW H → Nat
  | (.string bytes, d) => bytes.length + uptoBulk d + 1
  | (_, d) => uptoBulk d + 1
 end
def uptoSmall : (H : Type) → List (DataW H) → Bool := fun _ ds => decide (uptoBulkAll ds ≤ 1048576)
def OpenSpec.upto (s : _root_.Go.ChangeSpec) : _root_.Go.OpenSpec := { _root_.Go.OpenSpec.ofChange s with cond := some uptoSmall }

/-- 'laws.FnExactWorkersFor', WHERE WHAT IT READS IS OF BULK AT MOST 1048576: true; the input reads as it did. -/
def fnExactWorkersForUptoRow : OpenClaim := { program := "ytpmfghbjkampkaadoor", sum := "0f7c77b0fc082d34832e0bb2e0e1a5c1c4a748d71dc6d6ca3849b001f1ba16fb", func := "loop.example/buildscheduler/laws.FnExactWorkersFor", spec := "fnExactWorkersFor", unfollowed := true, recurses := true, named := ["math/bits.deBruijn32tab"], apart := false, laid := [("math/bits.deBruijn32tab", laid_math_bits_deBruijn32tab)], narrowed := true }
def FnExactWorkersForUptoSaid : Prop := fnExactWorkersForUptoRow.holds Tryd.pinned (OpenSpec.upto fnExactWorkersForSpec)

/-- 'laws.FnExactPlanStarts', WHERE WHAT IT READS IS OF BULK AT MOST 1048576: true; the input reads as it did. -/
def fnExactPlanStartsUptoRow : OpenClaim := { program := "ytpmfghbjkampkaadoor", sum := "0f7c77b0fc082d34832e0bb2e0e1a5c1c4a748d71dc6d6ca3849b001f1ba16fb", func := "loop.example/buildscheduler/laws.FnExactPlanStarts", spec := "fnExactPlanStarts", unfollowed := true, recurses := true, named := ["math/bits.deBruijn32tab"], apart := false, laid := [("math/bits.deBruijn32tab", laid_math_bits_deBruijn32tab)], narrowed := true }
def FnExactPlanStartsUptoSaid : Prop := fnExactPlanStartsUptoRow.holds Tryd.pinned (OpenSpec.upto fnExactPlanStartsSpec)

/-- 'laws.FnWorkersForLater', WHERE WHAT IT READS IS OF BULK AT MOST 1048576: true; the input reads as it did. -/
def fnWorkersForLaterUptoRow : OpenClaim := { program := "ytpmfghbjkampkaadoor", sum := "0f7c77b0fc082d34832e0bb2e0e1a5c1c4a748d71dc6d6ca3849b001f1ba16fb", func := "loop.example/buildscheduler/laws.FnWorkersForLater", spec := "fnWorkersForLater", unfollowed := true, recurses := true, named := ["math/bits.deBruijn32tab"], apart := false, laid := [("math/bits.deBruijn32tab", laid_math_bits_deBruijn32tab)], narrowed := true }
def FnWorkersForLaterUptoSaid : Prop := fnWorkersForLaterUptoRow.holds Tryd.pinned (OpenSpec.upto fnWorkersForLaterSpec)

/-- 'laws.FnDoneBy', WHERE WHAT IT READS IS OF BULK AT MOST 1048576: true; the input reads as it did. -/
def fnDoneByUptoRow : OpenClaim := { program := "ytpmfghbjkampkaadoor", sum := "0f7c77b0fc082d34832e0bb2e0e1a5c1c4a748d71dc6d6ca3849b001f1ba16fb", func := "loop.example/buildscheduler/laws.FnDoneBy", spec := "fnDoneBy", unfollowed := true, recurses := true, named := ["math/bits.deBruijn32tab"], apart := false, laid := [("math/bits.deBruijn32tab", laid_math_bits_deBruijn32tab)], narrowed := true }
def FnDoneByUptoSaid : Prop := fnDoneByUptoRow.holds Tryd.pinned (OpenSpec.upto fnDoneBySpec)

/-- 'laws.FnPlanStartsFirst', WHERE WHAT IT READS IS OF BULK AT MOST 1048576: true; the input reads as it did. -/
def fnPlanStartsFirstUptoRow : OpenClaim := { program := "ytpmfghbjkampkaadoor", sum := "0f7c77b0fc082d34832e0bb2e0e1a5c1c4a748d71dc6d6ca3849b001f1ba16fb", func := "loop.example/buildscheduler/laws.FnPlanStartsFirst", spec := "fnPlanStartsFirst", unfollowed := true, recurses := true, named := ["math/bits.deBruijn32tab"], apart := false, laid := [("math/bits.deBruijn32tab", laid_math_bits_deBruijn32tab)], narrowed := true }
def FnPlanStartsFirstUptoSaid : Prop := fnPlanStartsFirstUptoRow.holds Tryd.pinned (OpenSpec.upto fnPlanStartsFirstSpec)

/-- 'laws.FnOrderStartsPlan', WHERE WHAT IT READS IS OF BULK AT MOST 1048576: true; the input reads as it did. -/
def fnOrderStartsPlanUptoRow : OpenClaim := { program := "ytpmfghbjkampkaadoor", sum := "0f7c77b0fc082d34832e0bb2e0e1a5c1c4a748d71dc6d6ca3849b001f1ba16fb", func := "loop.example/buildscheduler/laws.FnOrderStartsPlan", spec := "fnOrderStartsPlan", unfollowed := true, recurses := true, named := ["math/bits.deBruijn32tab"], apart := false, laid := [("math/bits.deBruijn32tab", laid_math_bits_deBruijn32tab)], narrowed := true }
def FnOrderStartsPlanUptoSaid : Prop := fnOrderStartsPlanUptoRow.holds Tryd.pinned (OpenSpec.upto fnOrderStartsPlanSpec)

/-- 'laws.FnWorkersForOne', WHERE WHAT IT READS IS OF BULK AT MOST 1048576: true; the input reads as it did. -/
def fnWorkersForOneUptoRow : OpenClaim := { program := "ytpmfghbjkampkaadoor", sum := "0f7c77b0fc082d34832e0bb2e0e1a5c1c4a748d71dc6d6ca3849b001f1ba16fb", func := "loop.example/buildscheduler/laws.FnWorkersForOne", spec := "fnWorkersForOne", unfollowed := true, recurses := true, named := ["math/bits.deBruijn32tab"], apart := false, laid := [("math/bits.deBruijn32tab", laid_math_bits_deBruijn32tab)], narrowed := true }
def FnWorkersForOneUptoSaid : Prop := fnWorkersForOneUptoRow.holds Tryd.pinned (OpenSpec.upto fnWorkersForOneSpec)

end Rows
end Go.Proofs.YtpmfghbjkampkaaDoor
