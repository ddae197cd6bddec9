/-
  NARROWER THAN 'FOR EVERY INPUT', by the rows' own cells (each row's printed sentence says how): FnValidStarts: laid · FnValidStartsMore: laid · FnValidStartsRow: laid · FnValidStartsHead: laid · FnEndTime: laid · FnEndTimeLater: laid · FnMeetsDeadlineNever: laid · FnMeetsDeadline: laid · FnCancelAt: laid · FnCancelAtMore: laid · FnRunningAtEnd: laid · FnRunningAtTime: laid · FnCancelAtEnd: laid · FnRunningAt: laid.
  DERIVED. THE GIVEN ROWS OF THIS SEAT. 14 by the template 'for every input the law returns true; each argument reads behind the call as it read before'; 0 by the template 'total and deterministic' (their statements: YtnbkkiacffkfmaaDoorTotals.lean).
  GIVEN WITH THE SEED: the statements are not yours to turn. If you find one false, say at which input.
  Laid BY PROGRAM, IN A SANDBOX (cutbox-rows.mjs): the forced cells as the released guide's own fill.sh prints them over the translation 79aeaa540b4e257c… (all of the seat's roots in one cut). By AI agents, Wed Nov 11 2026. No macro, syntax, notation, axiom, sorry.
-/
import Derived.Test.YtnbkkiacffkfmaaDoorChecked
import GoSem.Claim
import GoSem.ClaimJoined
import GoSem.ClaimMapViews
import Derived.JoinedTies
import Derived.KernelRfl
namespace Go.Proofs.YtnbkkiacffkfmaaDoor
/- THE CELL 'sum', in the pinned program and in every row, IS THE sha256 OF THE DUMP (.gsa) THAT YtnbkkiacffkfmaaDoorProg.lean LOADS. Nothing in Lean hashes anything: it is a label: what it is worth is what the hold of that sum in a sandbox is worth. -/
noncomputable def Tryd.pinned : Pinned := { name := "ytnbkkiacffkfmaadoor", sum := "79aeaa540b4e257cf3bc3d004c2f9b9ae76a75c7dfbbae3f100081c665465929", checked := Tryd.checked }
namespace Rows
def none {H : Type} : Left H := { results := [], args := [] }

/- WHAT THE LISTED PACKAGE-LEVEL VARIABLES READ AS WHEN THE CALL BEGINS. Each datum BY PROGRAM (the guide's laid-datum.mjs) off the statement by which the dump's own 'gosem.cut.vars' lays the variable. In a bare row this is a premise. The card (YtnbkkiacffkfmaaDoorCards.lean) ties it to the program's text. -/
def laid_math_bits_deBruijn32tab {H : Type} : DataW H := .agg [.lit (.int .u8 0), .lit (.int .u8 1), .lit (.int .u8 28), .lit (.int .u8 2), .lit (.int .u8 29), .lit (.int .u8 14), .lit (.int .u8 24), .lit (.int .u8 3), .lit (.int .u8 30), .lit (.int .u8 22), .lit (.int .u8 20), .lit (.int .u8 15), .lit (.int .u8 25), .lit (.int .u8 17), .lit (.int .u8 4), .lit (.int .u8 8), .lit (.int .u8 31), .lit (.int .u8 27), .lit (.int .u8 13), .lit (.int .u8 23), .lit (.int .u8 21), .lit (.int .u8 19), .lit (.int .u8 16), .lit (.int .u8 7), .lit (.int .u8 26), .lit (.int .u8 12), .lit (.int .u8 18), .lit (.int .u8 6), .lit (.int .u8 11), .lit (.int .u8 5), .lit (.int .u8 10), .lit (.int .u8 9)]

/-- 'laws.FnValidStarts': WHATEVER THE INPUT: true; the input reads as it did. -/
def fnValidStartsSpec : ChangeSpec := { name := "fnValidStarts", fn := fun _ => fun
  | [d] => { results := [.lit (.bool true)], args := [d] }
  | _ => none }
def fnValidStartsRow : OpenClaim := { program := "ytnbkkiacffkfmaadoor", sum := "79aeaa540b4e257cf3bc3d004c2f9b9ae76a75c7dfbbae3f100081c665465929", func := "loop.example/buildscheduler/laws.FnValidStarts", spec := "fnValidStarts", unfollowed := true, recurses := true, named := ["math/bits.deBruijn32tab"], apart := false, laid := [("math/bits.deBruijn32tab", laid_math_bits_deBruijn32tab)] }
def FnValidStartsSaid : Prop := fnValidStartsRow.holds Tryd.pinned (OpenSpec.ofChange fnValidStartsSpec)

/-- ITS FALSE NEIGHBOUR: 'it returns false'. Refute it at one input. -/
def fnValidStartsWrong : ChangeSpec := { name := "fnValidStarts", fn := fun _ => fun
  | [d] => { results := [.lit (.bool false)], args := [d] }
  | _ => none }
def FnValidStartsWrongFalsely : Prop := fnValidStartsRow.holds Tryd.pinned (OpenSpec.ofChange fnValidStartsWrong)

/-- 'laws.FnValidStartsMore': WHATEVER THE INPUT: true; the input reads as it did. -/
def fnValidStartsMoreSpec : ChangeSpec := { name := "fnValidStartsMore", fn := fun _ => fun
  | [d] => { results := [.lit (.bool true)], args := [d] }
  | _ => none }
def fnValidStartsMoreRow : OpenClaim := { program := "ytnbkkiacffkfmaadoor", sum := "79aeaa540b4e257cf3bc3d004c2f9b9ae76a75c7dfbbae3f100081c665465929", func := "loop.example/buildscheduler/laws.FnValidStartsMore", spec := "fnValidStartsMore", unfollowed := true, recurses := true, named := ["math/bits.deBruijn32tab"], apart := false, laid := [("math/bits.deBruijn32tab", laid_math_bits_deBruijn32tab)] }
def FnValidStartsMoreSaid : Prop := fnValidStartsMoreRow.holds Tryd.pinned (OpenSpec.ofChange fnValidStartsMoreSpec)

/-- ITS FALSE NEIGHBOUR: 'it returns false'. Refute it at one input. -/
def fnValidStartsMoreWrong : ChangeSpec := { name := "fnValidStartsMore", fn := fun _ => fun
  | [d] => { results := [.lit (.bool false)], args := [d] }
  | _ => none }
def FnValidStartsMoreWrongFalsely : Prop := fnValidStartsMoreRow.holds Tryd.pinned (OpenSpec.ofChange fnValidStartsMoreWrong)

/-- 'laws.FnValidStartsRow': WHATEVER THE INPUT: true; the input reads as it did. -/
def fnValidStartsRowSpec : ChangeSpec := { name := "fnValidStartsRow", fn := fun _ => fun
  | [d] => { results := [.lit (.bool true)], args := [d] }
  | _ => none }
def fnValidStartsRowRow : OpenClaim := { program := "ytnbkkiacffkfmaadoor", sum := "79aeaa540b4e257cf3bc3d004c2f9b9ae76a75c7dfbbae3f100081c665465929", func := "loop.example/buildscheduler/laws.FnValidStartsRow", spec := "fnValidStartsRow", unfollowed := true, recurses := true, named := ["math/bits.deBruijn32tab"], apart := false, laid := [("math/bits.deBruijn32tab", laid_math_bits_deBruijn32tab)] }
def FnValidStartsRowSaid : Prop := fnValidStartsRowRow.holds Tryd.pinned (OpenSpec.ofChange fnValidStartsRowSpec)

/-- ITS FALSE NEIGHBOUR: 'it returns false'. Refute it at one input. -/
def fnValidStartsRowWrong : ChangeSpec := { name := "fnValidStartsRow", fn := fun _ => fun
  | [d] => { results := [.lit (.bool false)], args := [d] }
  | _ => none }
def FnValidStartsRowWrongFalsely : Prop := fnValidStartsRowRow.holds Tryd.pinned (OpenSpec.ofChange fnValidStartsRowWrong)

/-- 'laws.FnValidStartsHead': WHATEVER THE INPUT: true; the input reads as it did. -/
def fnValidStartsHeadSpec : ChangeSpec := { name := "fnValidStartsHead", fn := fun _ => fun
  | [d] => { results := [.lit (.bool true)], args := [d] }
  | _ => none }
def fnValidStartsHeadRow : OpenClaim := { program := "ytnbkkiacffkfmaadoor", sum := "79aeaa540b4e257cf3bc3d004c2f9b9ae76a75c7dfbbae3f100081c665465929", func := "loop.example/buildscheduler/laws.FnValidStartsHead", spec := "fnValidStartsHead", unfollowed := true, recurses := true, named := ["math/bits.deBruijn32tab"], apart := false, laid := [("math/bits.deBruijn32tab", laid_math_bits_deBruijn32tab)] }
def FnValidStartsHeadSaid : Prop := fnValidStartsHeadRow.holds Tryd.pinned (OpenSpec.ofChange fnValidStartsHeadSpec)

/-- ITS FALSE NEIGHBOUR: 'it returns false'. Refute it at one input. -/
def fnValidStartsHeadWrong : ChangeSpec := { name := "fnValidStartsHead", fn := fun _ => fun
  | [d] => { results := [.lit (.bool false)], args := [d] }
  | _ => none }
def FnValidStartsHeadWrongFalsely : Prop := fnValidStartsHeadRow.holds Tryd.pinned (OpenSpec.ofChange fnValidStartsHeadWrong)

/-- 'laws.FnEndTime': WHATEVER THE INPUT: true; the input reads as it did. -/
def fnEndTimeSpec : ChangeSpec := { name := "fnEndTime", fn := fun _ => fun
  | [d] => { results := [.lit (.bool true)], args := [d] }
  | _ => none }
def fnEndTimeRow : OpenClaim := { program := "ytnbkkiacffkfmaadoor", sum := "79aeaa540b4e257cf3bc3d004c2f9b9ae76a75c7dfbbae3f100081c665465929", func := "loop.example/buildscheduler/laws.FnEndTime", spec := "fnEndTime", unfollowed := true, recurses := true, named := ["math/bits.deBruijn32tab"], apart := false, laid := [("math/bits.deBruijn32tab", laid_math_bits_deBruijn32tab)] }
def FnEndTimeSaid : Prop := fnEndTimeRow.holds Tryd.pinned (OpenSpec.ofChange fnEndTimeSpec)

/-- ITS FALSE NEIGHBOUR: 'it returns false'. Refute it at one input. -/
def fnEndTimeWrong : ChangeSpec := { name := "fnEndTime", fn := fun _ => fun
  | [d] => { results := [.lit (.bool false)], args := [d] }
  | _ => none }
def FnEndTimeWrongFalsely : Prop := fnEndTimeRow.holds Tryd.pinned (OpenSpec.ofChange fnEndTimeWrong)

/-- 'laws.FnEndTimeLater': WHATEVER THE INPUT: true; the input reads as it did. -/
def fnEndTimeLaterSpec : ChangeSpec := { name := "fnEndTimeLater", fn := fun _ => fun
  | [d] => { results := [.lit (.bool true)], args := [d] }
  | _ => none }
def fnEndTimeLaterRow : OpenClaim := { program := "ytnbkkiacffkfmaadoor", sum := "79aeaa540b4e257cf3bc3d004c2f9b9ae76a75c7dfbbae3f100081c665465929", func := "loop.example/buildscheduler/laws.FnEndTimeLater", spec := "fnEndTimeLater", unfollowed := true, recurses := true, named := ["math/bits.deBruijn32tab"], apart := false, laid := [("math/bits.deBruijn32tab", laid_math_bits_deBruijn32tab)] }
def FnEndTimeLaterSaid : Prop := fnEndTimeLaterRow.holds Tryd.pinned (OpenSpec.ofChange fnEndTimeLaterSpec)

/-- ITS FALSE NEIGHBOUR: 'it returns false'. Refute it at one input. -/
def fnEndTimeLaterWrong : ChangeSpec := { name := "fnEndTimeLater", fn := fun _ => fun
  | [d] => { results := [.lit (.bool false)], args := [d] }
  | _ => none }
def FnEndTimeLaterWrongFalsely : Prop := fnEndTimeLaterRow.holds Tryd.pinned (OpenSpec.ofChange fnEndTimeLaterWrong)

/-- 'laws.FnMeetsDeadlineNever': WHATEVER THE INPUT: true; the input reads as it did. -/
def fnMeetsDeadlineNeverSpec : ChangeSpec := { name := "fnMeetsDeadlineNever", fn := fun _ => fun
  | [d] => { results := [.lit (.bool true)], args := [d] }
  | _ => none }
def fnMeetsDeadlineNeverRow : OpenClaim := { program := "ytnbkkiacffkfmaadoor", sum := "79aeaa540b4e257cf3bc3d004c2f9b9ae76a75c7dfbbae3f100081c665465929", func := "loop.example/buildscheduler/laws.FnMeetsDeadlineNever", spec := "fnMeetsDeadlineNever", unfollowed := true, recurses := true, named := ["math/bits.deBruijn32tab"], apart := false, laid := [("math/bits.deBruijn32tab", laid_math_bits_deBruijn32tab)] }
def FnMeetsDeadlineNeverSaid : Prop := fnMeetsDeadlineNeverRow.holds Tryd.pinned (OpenSpec.ofChange fnMeetsDeadlineNeverSpec)

/-- ITS FALSE NEIGHBOUR: 'it returns false'. Refute it at one input. -/
def fnMeetsDeadlineNeverWrong : ChangeSpec := { name := "fnMeetsDeadlineNever", fn := fun _ => fun
  | [d] => { results := [.lit (.bool false)], args := [d] }
  | _ => none }
def FnMeetsDeadlineNeverWrongFalsely : Prop := fnMeetsDeadlineNeverRow.holds Tryd.pinned (OpenSpec.ofChange fnMeetsDeadlineNeverWrong)

/-- 'laws.FnMeetsDeadline': WHATEVER THE INPUT: true; the input reads as it did. -/
def fnMeetsDeadlineSpec : ChangeSpec := { name := "fnMeetsDeadline", fn := fun _ => fun
  | [d] => { results := [.lit (.bool true)], args := [d] }
  | _ => none }
def fnMeetsDeadlineRow : OpenClaim := { program := "ytnbkkiacffkfmaadoor", sum := "79aeaa540b4e257cf3bc3d004c2f9b9ae76a75c7dfbbae3f100081c665465929", func := "loop.example/buildscheduler/laws.FnMeetsDeadline", spec := "fnMeetsDeadline", unfollowed := true, recurses := true, named := ["math/bits.deBruijn32tab"], apart := false, laid := [("math/bits.deBruijn32tab", laid_math_bits_deBruijn32tab)] }
def FnMeetsDeadlineSaid : Prop := fnMeetsDeadlineRow.holds Tryd.pinned (OpenSpec.ofChange fnMeetsDeadlineSpec)

/-- ITS FALSE NEIGHBOUR: 'it returns false'. Refute it at one input. -/
def fnMeetsDeadlineWrong : ChangeSpec := { name := "fnMeetsDeadline", fn := fun _ => fun
  | [d] => { results := [.lit (.bool false)], args := [d] }
  | _ => none }
def FnMeetsDeadlineWrongFalsely : Prop := fnMeetsDeadlineRow.holds Tryd.pinned (OpenSpec.ofChange fnMeetsDeadlineWrong)

/-- 'laws.FnCancelAt': WHATEVER THE INPUT: true; the input reads as it did. -/
def fnCancelAtSpec : ChangeSpec := { name := "fnCancelAt", fn := fun _ => fun
  | [d] => { results := [.lit (.bool true)], args := [d] }
  | _ => none }
def fnCancelAtRow : OpenClaim := { program := "ytnbkkiacffkfmaadoor", sum := "79aeaa540b4e257cf3bc3d004c2f9b9ae76a75c7dfbbae3f100081c665465929", func := "loop.example/buildscheduler/laws.FnCancelAt", spec := "fnCancelAt", unfollowed := true, recurses := true, named := ["math/bits.deBruijn32tab"], apart := false, laid := [("math/bits.deBruijn32tab", laid_math_bits_deBruijn32tab)] }
def FnCancelAtSaid : Prop := fnCancelAtRow.holds Tryd.pinned (OpenSpec.ofChange fnCancelAtSpec)

/-- ITS FALSE NEIGHBOUR: 'it returns false'. Refute it at one input. -/
def fnCancelAtWrong : ChangeSpec := { name := "fnCancelAt", fn := fun _ => fun
  | [d] => { results := [.lit (.bool false)], args := [d] }
  | _ => none }
def FnCancelAtWrongFalsely : Prop := fnCancelAtRow.holds Tryd.pinned (OpenSpec.ofChange fnCancelAtWrong)

/-- 'laws.FnCancelAtMore': WHATEVER THE INPUT: true; the input reads as it did. -/
def fnCancelAtMoreSpec : ChangeSpec := { name := "fnCancelAtMore", fn := fun _ => fun
  | [d] => { results := [.lit (.bool true)], args := [d] }
  | _ => none }
def fnCancelAtMoreRow : OpenClaim := { program := "ytnbkkiacffkfmaadoor", sum := "79aeaa540b4e257cf3bc3d004c2f9b9ae76a75c7dfbbae3f100081c665465929", func := "loop.example/buildscheduler/laws.FnCancelAtMore", spec := "fnCancelAtMore", unfollowed := true, recurses := true, named := ["math/bits.deBruijn32tab"], apart := false, laid := [("math/bits.deBruijn32tab", laid_math_bits_deBruijn32tab)] }
def FnCancelAtMoreSaid : Prop := fnCancelAtMoreRow.holds Tryd.pinned (OpenSpec.ofChange fnCancelAtMoreSpec)

/-- ITS FALSE NEIGHBOUR: 'it returns false'. Refute it at one input. -/
def fnCancelAtMoreWrong : ChangeSpec := { name := "fnCancelAtMore", fn := fun _ => fun
  | [d] => { results := [.lit (.bool false)], args := [d] }
  | _ => none }
def FnCancelAtMoreWrongFalsely : Prop := fnCancelAtMoreRow.holds Tryd.pinned (OpenSpec.ofChange fnCancelAtMoreWrong)

/-- 'laws.FnRunningAtEnd': WHATEVER THE INPUT: true; the input reads as it did. -/
def fnRunningAtEndSpec : ChangeSpec := { name := "fnRunningAtEnd", fn := fun _ => fun
  | [d] => { results := [.lit (.bool true)], args := [d] }
  | _ => none }
def fnRunningAtEndRow : OpenClaim := { program := "ytnbkkiacffkfmaadoor", sum := "79aeaa540b4e257cf3bc3d004c2f9b9ae76a75c7dfbbae3f100081c665465929", func := "loop.example/buildscheduler/laws.FnRunningAtEnd", spec := "fnRunningAtEnd", unfollowed := true, recurses := true, named := ["math/bits.deBruijn32tab"], apart := false, laid := [("math/bits.deBruijn32tab", laid_math_bits_deBruijn32tab)] }
def FnRunningAtEndSaid : Prop := fnRunningAtEndRow.holds Tryd.pinned (OpenSpec.ofChange fnRunningAtEndSpec)

/-- ITS FALSE NEIGHBOUR: 'it returns false'. Refute it at one input. -/
def fnRunningAtEndWrong : ChangeSpec := { name := "fnRunningAtEnd", fn := fun _ => fun
  | [d] => { results := [.lit (.bool false)], args := [d] }
  | _ => none }
def FnRunningAtEndWrongFalsely : Prop := fnRunningAtEndRow.holds Tryd.pinned (OpenSpec.ofChange fnRunningAtEndWrong)

/-- 'laws.FnRunningAtTime': WHATEVER THE INPUT: true; the input reads as it did. -/
def fnRunningAtTimeSpec : ChangeSpec := { name := "fnRunningAtTime", fn := fun _ => fun
  | [d] => { results := [.lit (.bool true)], args := [d] }
  | _ => none }
def fnRunningAtTimeRow : OpenClaim := { program := "ytnbkkiacffkfmaadoor", sum := "79aeaa540b4e257cf3bc3d004c2f9b9ae76a75c7dfbbae3f100081c665465929", func := "loop.example/buildscheduler/laws.FnRunningAtTime", spec := "fnRunningAtTime", unfollowed := true, recurses := true, named := ["math/bits.deBruijn32tab"], apart := false, laid := [("math/bits.deBruijn32tab", laid_math_bits_deBruijn32tab)] }
def FnRunningAtTimeSaid : Prop := fnRunningAtTimeRow.holds Tryd.pinned (OpenSpec.ofChange fnRunningAtTimeSpec)

/-- ITS FALSE NEIGHBOUR: 'it returns false'. Refute it at one input. -/
def fnRunningAtTimeWrong : ChangeSpec := { name := "fnRunningAtTime", fn := fun _ => fun
  | [d] => { results := [.lit (.bool false)], args := [d] }
  | _ => none }
def FnRunningAtTimeWrongFalsely : Prop := fnRunningAtTimeRow.holds Tryd.pinned (OpenSpec.ofChange fnRunningAtTimeWrong)

/-- 'laws.FnCancelAtEnd': WHATEVER THE INPUT: true; the input reads as it did. -/
def fnCancelAtEndSpec : ChangeSpec := { name := "fnCancelAtEnd", fn := fun _ => fun
  | [d] => { results := [.lit (.bool true)], args := [d] }
  | _ => none }
def fnCancelAtEndRow : OpenClaim := { program := "ytnbkkiacffkfmaadoor", sum := "79aeaa540b4e257cf3bc3d004c2f9b9ae76a75c7dfbbae3f100081c665465929", func := "loop.example/buildscheduler/laws.FnCancelAtEnd", spec := "fnCancelAtEnd", unfollowed := true, recurses := true, named := ["math/bits.deBruijn32tab"], apart := false, laid := [("math/bits.deBruijn32tab", laid_math_bits_deBruijn32tab)] }
def FnCancelAtEndSaid : Prop := fnCancelAtEndRow.holds Tryd.pinned (OpenSpec.ofChange fnCancelAtEndSpec)

/-- ITS FALSE NEIGHBOUR: 'it returns false'. Refute it at one input. -/
def fnCancelAtEndWrong : ChangeSpec := { name := "fnCancelAtEnd", fn := fun _ => fun
  | [d] => { results := [.lit (.bool false)], args := [d] }
  | _ => none }
def FnCancelAtEndWrongFalsely : Prop := fnCancelAtEndRow.holds Tryd.pinned (OpenSpec.ofChange fnCancelAtEndWrong)

/-- 'laws.FnRunningAt': WHATEVER THE INPUT: true; the input reads as it did. -/
def fnRunningAtSpec : ChangeSpec := { name := "fnRunningAt", fn := fun _ => fun
  | [d] => { results := [.lit (.bool true)], args := [d] }
  | _ => none }
def fnRunningAtRow : OpenClaim := { program := "ytnbkkiacffkfmaadoor", sum := "79aeaa540b4e257cf3bc3d004c2f9b9ae76a75c7dfbbae3f100081c665465929", func := "loop.example/buildscheduler/laws.FnRunningAt", spec := "fnRunningAt", unfollowed := true, recurses := true, named := ["math/bits.deBruijn32tab"], apart := false, laid := [("math/bits.deBruijn32tab", laid_math_bits_deBruijn32tab)] }
def FnRunningAtSaid : Prop := fnRunningAtRow.holds Tryd.pinned (OpenSpec.ofChange fnRunningAtSpec)

/-- ITS FALSE NEIGHBOUR: 'it returns false'. Refute it at one input. -/
def fnRunningAtWrong : ChangeSpec := { name := "fnRunningAt", fn := fun _ => fun
  | [d] => { results := [.lit (.bool false)], args := [d] }
  | _ => none }
def FnRunningAtWrongFalsely : Prop := fnRunningAtRow.holds Tryd.pinned (OpenSpec.ofChange fnRunningAtWrong)

/- THE SECOND FORM. 'bulk': how many values and letters a reading holds, each counted each time it is reached (what is shared counts as often as it is met; a slice's spare places count too). A statement '..UptoSaid' is the law's where the arguments, and the package variables that the reading takes, are together of bulk at most 1048576: NARROWER than '..Said'. Prove '..Said' where nothing that the law and all that it calls make is longer than what came in: it says more and counts as full. Else prove '..UptoSaid'. A law counts once. -/
mutual
def uptoBulk {H : Type} : DataW H → Nat
  | .lit (.string bytes) => bytes.length + 1
  | .lit _ => 1
  | .nil => 1
  | .ptr d => uptoBulk d + 1
  | .slice elems spare => uptoBulkAll elems + uptoBulkAll spare + 1
  | .agg parts => uptoBulkAll parts + 1
  | .iface _ d => uptoBulk d + 1
  | .map entries => uptoBulkEntries entries + 1
  | .held _ => 1
def uptoBulkAll {H : Type} : List (DataW H) → Nat
  | [] => 0
  | d :: r => uptoBulk d + uptoBulkAll r
def uptoBulkEntries {H : Type} : List (Lit × DataW H) → Nat
  | [] => 0
  | x :: r => uptoBulkEntry x + uptoBulkEntries r
def uptoBulkEntry {H : Type} : Lit × DataW H → Nat
  | (.string bytes, d) => bytes.length + uptoBulk d + 1
  | (_, d) => uptoBulk d + 1
 end
def uptoSmall : (H : Type) → List (DataW H) → Bool := fun _ ds => decide (uptoBulkAll ds ≤ 1048576)
def OpenSpec.upto (s : _root_.Go.ChangeSpec) : _root_.Go.OpenSpec := { _root_.Go.OpenSpec.ofChange s with cond := some uptoSmall }

/-- 'laws.FnValidStarts', WHERE WHAT IT READS IS OF BULK AT MOST 1048576: true; the input reads as it did. -/
def fnValidStartsUptoRow : OpenClaim := { program := "ytnbkkiacffkfmaadoor", sum := "79aeaa540b4e257cf3bc3d004c2f9b9ae76a75c7dfbbae3f100081c665465929", func := "loop.example/buildscheduler/laws.FnValidStarts", spec := "fnValidStarts", unfollowed := true, recurses := true, named := ["math/bits.deBruijn32tab"], apart := false, laid := [("math/bits.deBruijn32tab", laid_math_bits_deBruijn32tab)], narrowed := true }
def FnValidStartsUptoSaid : Prop := fnValidStartsUptoRow.holds Tryd.pinned (OpenSpec.upto fnValidStartsSpec)

/-- 'laws.FnValidStartsMore', WHERE WHAT IT READS IS OF BULK AT MOST 1048576: true; the input reads as it did. -/
def fnValidStartsMoreUptoRow : OpenClaim := { program := "ytnbkkiacffkfmaadoor", sum := "79aeaa540b4e257cf3bc3d004c2f9b9ae76a75c7dfbbae3f100081c665465929", func := "loop.example/buildscheduler/laws.FnValidStartsMore", spec := "fnValidStartsMore", unfollowed := true, recurses := true, named := ["math/bits.deBruijn32tab"], apart := false, laid := [("math/bits.deBruijn32tab", laid_math_bits_deBruijn32tab)], narrowed := true }
def FnValidStartsMoreUptoSaid : Prop := fnValidStartsMoreUptoRow.holds Tryd.pinned (OpenSpec.upto fnValidStartsMoreSpec)

/-- 'laws.FnValidStartsRow', WHERE WHAT IT READS IS OF BULK AT MOST 1048576: true; the input reads as it did. -/
def fnValidStartsRowUptoRow : OpenClaim := { program := "ytnbkkiacffkfmaadoor", sum := "79aeaa540b4e257cf3bc3d004c2f9b9ae76a75c7dfbbae3f100081c665465929", func := "loop.example/buildscheduler/laws.FnValidStartsRow", spec := "fnValidStartsRow", unfollowed := true, recurses := true, named := ["math/bits.deBruijn32tab"], apart := false, laid := [("math/bits.deBruijn32tab", laid_math_bits_deBruijn32tab)], narrowed := true }
def FnValidStartsRowUptoSaid : Prop := fnValidStartsRowUptoRow.holds Tryd.pinned (OpenSpec.upto fnValidStartsRowSpec)

/-- 'laws.FnValidStartsHead', WHERE WHAT IT READS IS OF BULK AT MOST 1048576: true; the input reads as it did. -/
def fnValidStartsHeadUptoRow : OpenClaim := { program := "ytnbkkiacffkfmaadoor", sum := "79aeaa540b4e257cf3bc3d004c2f9b9ae76a75c7dfbbae3f100081c665465929", func := "loop.example/buildscheduler/laws.FnValidStartsHead", spec := "fnValidStartsHead", unfollowed := true, recurses := true, named := ["math/bits.deBruijn32tab"], apart := false, laid := [("math/bits.deBruijn32tab", laid_math_bits_deBruijn32tab)], narrowed := true }
def FnValidStartsHeadUptoSaid : Prop := fnValidStartsHeadUptoRow.holds Tryd.pinned (OpenSpec.upto fnValidStartsHeadSpec)

/-- 'laws.FnEndTime', WHERE WHAT IT READS IS OF BULK AT MOST 1048576: true; the input reads as it did. -/
def fnEndTimeUptoRow : OpenClaim := { program := "ytnbkkiacffkfmaadoor", sum := "79aeaa540b4e257cf3bc3d004c2f9b9ae76a75c7dfbbae3f100081c665465929", func := "loop.example/buildscheduler/laws.FnEndTime", spec := "fnEndTime", unfollowed := true, recurses := true, named := ["math/bits.deBruijn32tab"], apart := false, laid := [("math/bits.deBruijn32tab", laid_math_bits_deBruijn32tab)], narrowed := true }
def FnEndTimeUptoSaid : Prop := fnEndTimeUptoRow.holds Tryd.pinned (OpenSpec.upto fnEndTimeSpec)

/-- 'laws.FnEndTimeLater', WHERE WHAT IT READS IS OF BULK AT MOST 1048576: true; the input reads as it did. -/
def fnEndTimeLaterUptoRow : OpenClaim := { program := "ytnbkkiacffkfmaadoor", sum := "79aeaa540b4e257cf3bc3d004c2f9b9ae76a75c7dfbbae3f100081c665465929", func := "loop.example/buildscheduler/laws.FnEndTimeLater", spec := "fnEndTimeLater", unfollowed := true, recurses := true, named := ["math/bits.deBruijn32tab"], apart := false, laid := [("math/bits.deBruijn32tab", laid_math_bits_deBruijn32tab)], narrowed := true }
def FnEndTimeLaterUptoSaid : Prop := fnEndTimeLaterUptoRow.holds Tryd.pinned (OpenSpec.upto fnEndTimeLaterSpec)

/-- 'laws.FnMeetsDeadlineNever', WHERE WHAT IT READS IS OF BULK AT MOST 1048576: true; the input reads as it did. -/
def fnMeetsDeadlineNeverUptoRow : OpenClaim := { program := "ytnbkkiacffkfmaadoor", sum := "79aeaa540b4e257cf3bc3d004c2f9b9ae76a75c7dfbbae3f100081c665465929", func := "loop.example/buildscheduler/laws.FnMeetsDeadlineNever", spec := "fnMeetsDeadlineNever", unfollowed := true, recurses := true, named := ["math/bits.deBruijn32tab"], apart := false, laid := [("math/bits.deBruijn32tab", laid_math_bits_deBruijn32tab)], narrowed := true }
def FnMeetsDeadlineNeverUptoSaid : Prop := fnMeetsDeadlineNeverUptoRow.holds Tryd.pinned (OpenSpec.upto fnMeetsDeadlineNeverSpec)

/-- 'laws.FnMeetsDeadline', WHERE WHAT IT READS IS OF BULK AT MOST 1048576: true; the input reads as it did. -/
def fnMeetsDeadlineUptoRow : OpenClaim := { program := "ytnbkkiacffkfmaadoor", sum := "79aeaa540b4e257cf3bc3d004c2f9b9ae76a75c7dfbbae3f100081c665465929", func := "loop.example/buildscheduler/laws.FnMeetsDeadline", spec := "fnMeetsDeadline", unfollowed := true, recurses := true, named := ["math/bits.deBruijn32tab"], apart := false, laid := [("math/bits.deBruijn32tab", laid_math_bits_deBruijn32tab)], narrowed := true }
def FnMeetsDeadlineUptoSaid : Prop := fnMeetsDeadlineUptoRow.holds Tryd.pinned (OpenSpec.upto fnMeetsDeadlineSpec)

/-- 'laws.FnCancelAt', WHERE WHAT IT READS IS OF BULK AT MOST 1048576: true; the input reads as it did. -/
def fnCancelAtUptoRow : OpenClaim := { program := "ytnbkkiacffkfmaadoor", sum := "79aeaa540b4e257cf3bc3d004c2f9b9ae76a75c7dfbbae3f100081c665465929", func := "loop.example/buildscheduler/laws.FnCancelAt", spec := "fnCancelAt", unfollowed := true, recurses := true, named := ["math/bits.deBruijn32tab"], apart := false, laid := [("math/bits.deBruijn32tab", laid_math_bits_deBruijn32tab)], narrowed := true }
def FnCancelAtUptoSaid : Prop := fnCancelAtUptoRow.holds Tryd.pinned (OpenSpec.upto fnCancelAtSpec)

/-- 'laws.FnCancelAtMore', WHERE WHAT IT READS IS OF BULK AT MOST 1048576: true; the input reads as it did. -/
def fnCancelAtMoreUptoRow : OpenClaim := { program := "ytnbkkiacffkfmaadoor", sum := "79aeaa540b4e257cf3bc3d004c2f9b9ae76a75c7dfbbae3f100081c665465929", func := "loop.example/buildscheduler/laws.FnCancelAtMore", spec := "fnCancelAtMore", unfollowed := true, recurses := true, named := ["math/bits.deBruijn32tab"], apart := false, laid := [("math/bits.deBruijn32tab", laid_math_bits_deBruijn32tab)], narrowed := true }
def FnCancelAtMoreUptoSaid : Prop := fnCancelAtMoreUptoRow.holds Tryd.pinned (OpenSpec.upto fnCancelAtMoreSpec)

/-- 'laws.FnRunningAtEnd', WHERE WHAT IT READS IS OF BULK AT MOST 1048576: true; the input reads as it did. -/
def fnRunningAtEndUptoRow : OpenClaim := { program := "ytnbkkiacffkfmaadoor", sum := "79aeaa540b4e257cf3bc3d004c2f9b9ae76a75c7dfbbae3f100081c665465929", func := "loop.example/buildscheduler/laws.FnRunningAtEnd", spec := "fnRunningAtEnd", unfollowed := true, recurses := true, named := ["math/bits.deBruijn32tab"], apart := false, laid := [("math/bits.deBruijn32tab", laid_math_bits_deBruijn32tab)], narrowed := true }
def FnRunningAtEndUptoSaid : Prop := fnRunningAtEndUptoRow.holds Tryd.pinned (OpenSpec.upto fnRunningAtEndSpec)

/-- 'laws.FnRunningAtTime', WHERE WHAT IT READS IS OF BULK AT MOST 1048576: true; the input reads as it did. -/
def fnRunningAtTimeUptoRow : OpenClaim := { program := "ytnbkkiacffkfmaadoor", sum := "79aeaa540b4e257cf3bc3d004c2f9b9ae76a75c7dfbbae3f100081c665465929", func := "loop.example/buildscheduler/laws.FnRunningAtTime", spec := "fnRunningAtTime", unfollowed := true, recurses := true, named := ["math/bits.deBruijn32tab"], apart := false, laid := [("math/bits.deBruijn32tab", laid_math_bits_deBruijn32tab)], narrowed := true }
def FnRunningAtTimeUptoSaid : Prop := fnRunningAtTimeUptoRow.holds Tryd.pinned (OpenSpec.upto fnRunningAtTimeSpec)

/-- 'laws.FnCancelAtEnd', WHERE WHAT IT READS IS OF BULK AT MOST 1048576: true; the input reads as it did. -/
def fnCancelAtEndUptoRow : OpenClaim := { program := "ytnbkkiacffkfmaadoor", sum := "79aeaa540b4e257cf3bc3d004c2f9b9ae76a75c7dfbbae3f100081c665465929", func := "loop.example/buildscheduler/laws.FnCancelAtEnd", spec := "fnCancelAtEnd", unfollowed := true, recurses := true, named := ["math/bits.deBruijn32tab"], apart := false, laid := [("math/bits.deBruijn32tab", laid_math_bits_deBruijn32tab)], narrowed := true }
def FnCancelAtEndUptoSaid : Prop := fnCancelAtEndUptoRow.holds Tryd.pinned (OpenSpec.upto fnCancelAtEndSpec)

/-- 'laws.FnRunningAt', WHERE WHAT IT READS IS OF BULK AT MOST 1048576: true; the input reads as it did. -/
def fnRunningAtUptoRow : OpenClaim := { program := "ytnbkkiacffkfmaadoor", sum := "79aeaa540b4e257cf3bc3d004c2f9b9ae76a75c7dfbbae3f100081c665465929", func := "loop.example/buildscheduler/laws.FnRunningAt", spec := "fnRunningAt", unfollowed := true, recurses := true, named := ["math/bits.deBruijn32tab"], apart := false, laid := [("math/bits.deBruijn32tab", laid_math_bits_deBruijn32tab)], narrowed := true }
def FnRunningAtUptoSaid : Prop := fnRunningAtUptoRow.holds Tryd.pinned (OpenSpec.upto fnRunningAtSpec)

end Rows
end Go.Proofs.YtnbkkiacffkfmaaDoor
