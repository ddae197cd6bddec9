/-
  NARROWER THAN 'FOR EVERY INPUT', by the rows' own cells (each row's printed sentence says how): FnLogOfTimes: laid · FnLogOf: laid · FnLateTasksUsers: laid · FnLateTasks: laid · FnLateTasksLast: laid · FnMostTogetherWorkers: laid · FnDoneByLog: laid · FnPlanStarts: laid · FnDoneByEnd: laid · FnPlanStartsOne: laid · FnWorkersFor: laid · FnPlanStartsTwice: laid · FnPlanStartsBusy: laid.
  DERIVED. THE GIVEN ROWS OF THIS SEAT. 13 by the template 'for every input the law returns true; each argument reads behind the call as it read before'; 0 by the template 'total and deterministic' (their statements: YtifbjnhicnfdoaaDoorTotals.lean).
  GIVEN WITH THE SEED: the statements are not yours to turn. If you find one false, say at which input.
  Laid BY PROGRAM, IN A SANDBOX (cutbox-rows.mjs): the forced cells as the released guide's own fill.sh prints them over the translation 6fbfeb06aa958d5a… (all of the seat's roots in one cut). By AI agents, Wed Nov 11 2026. No macro, syntax, notation, axiom, sorry.
-/
import Derived.Test.YtifbjnhicnfdoaaDoorChecked
import GoSem.Claim
import GoSem.ClaimJoined
import GoSem.ClaimMapViews
import Derived.JoinedTies
import Derived.KernelRfl
namespace Go.Proofs.YtifbjnhicnfdoaaDoor
/- THE CELL 'sum', in the pinned program and in every row, IS THE sha256 OF THE DUMP (.gsa) THAT YtifbjnhicnfdoaaDoorProg.lean LOADS. Nothing in Lean hashes anything: it is a label: what it is worth is what the hold of that sum in a sandbox is worth. -/
noncomputable def Tryd.pinned : Pinned := { name := "ytifbjnhicnfdoaadoor", sum := "6fbfeb06aa958d5a542bca7ce25338360ad289d25851060f8d4a70eb6fc7675a", checked := Tryd.checked }
namespace Rows
def none {H : Type} : Left H := { results := [], args := [] }

/- WHAT THE LISTED PACKAGE-LEVEL VARIABLES READ AS WHEN THE CALL BEGINS. Each datum BY PROGRAM (the guide's laid-datum.mjs) off the statement by which the dump's own 'gosem.cut.vars' lays the variable. In a bare row this is a premise. The card (YtifbjnhicnfdoaaDoorCards.lean) ties it to the program's text. -/
def laid_math_bits_deBruijn32tab {H : Type} : DataW H := .agg [.lit (.int .u8 0), .lit (.int .u8 1), .lit (.int .u8 28), .lit (.int .u8 2), .lit (.int .u8 29), .lit (.int .u8 14), .lit (.int .u8 24), .lit (.int .u8 3), .lit (.int .u8 30), .lit (.int .u8 22), .lit (.int .u8 20), .lit (.int .u8 15), .lit (.int .u8 25), .lit (.int .u8 17), .lit (.int .u8 4), .lit (.int .u8 8), .lit (.int .u8 31), .lit (.int .u8 27), .lit (.int .u8 13), .lit (.int .u8 23), .lit (.int .u8 21), .lit (.int .u8 19), .lit (.int .u8 16), .lit (.int .u8 7), .lit (.int .u8 26), .lit (.int .u8 12), .lit (.int .u8 18), .lit (.int .u8 6), .lit (.int .u8 11), .lit (.int .u8 5), .lit (.int .u8 10), .lit (.int .u8 9)]

/-- 'laws.FnLogOfTimes': WHATEVER THE INPUT: true; the input reads as it did. -/
def fnLogOfTimesSpec : ChangeSpec := { name := "fnLogOfTimes", fn := fun _ => fun
  | [d] => { results := [.lit (.bool true)], args := [d] }
  | _ => none }
def fnLogOfTimesRow : OpenClaim := { program := "ytifbjnhicnfdoaadoor", sum := "6fbfeb06aa958d5a542bca7ce25338360ad289d25851060f8d4a70eb6fc7675a", func := "loop.example/buildscheduler/laws.FnLogOfTimes", spec := "fnLogOfTimes", unfollowed := true, recurses := true, named := ["math/bits.deBruijn32tab"], apart := false, laid := [("math/bits.deBruijn32tab", laid_math_bits_deBruijn32tab)] }
def FnLogOfTimesSaid : Prop := fnLogOfTimesRow.holds Tryd.pinned (OpenSpec.ofChange fnLogOfTimesSpec)

/-- ITS FALSE NEIGHBOUR: 'it returns false'. Refute it at one input. -/
def fnLogOfTimesWrong : ChangeSpec := { name := "fnLogOfTimes", fn := fun _ => fun
  | [d] => { results := [.lit (.bool false)], args := [d] }
  | _ => none }
def FnLogOfTimesWrongFalsely : Prop := fnLogOfTimesRow.holds Tryd.pinned (OpenSpec.ofChange fnLogOfTimesWrong)

/-- 'laws.FnLogOf': WHATEVER THE INPUT: true; the input reads as it did. -/
def fnLogOfSpec : ChangeSpec := { name := "fnLogOf", fn := fun _ => fun
  | [d] => { results := [.lit (.bool true)], args := [d] }
  | _ => none }
def fnLogOfRow : OpenClaim := { program := "ytifbjnhicnfdoaadoor", sum := "6fbfeb06aa958d5a542bca7ce25338360ad289d25851060f8d4a70eb6fc7675a", func := "loop.example/buildscheduler/laws.FnLogOf", spec := "fnLogOf", unfollowed := true, recurses := true, named := ["math/bits.deBruijn32tab"], apart := false, laid := [("math/bits.deBruijn32tab", laid_math_bits_deBruijn32tab)] }
def FnLogOfSaid : Prop := fnLogOfRow.holds Tryd.pinned (OpenSpec.ofChange fnLogOfSpec)

/-- ITS FALSE NEIGHBOUR: 'it returns false'. Refute it at one input. -/
def fnLogOfWrong : ChangeSpec := { name := "fnLogOf", fn := fun _ => fun
  | [d] => { results := [.lit (.bool false)], args := [d] }
  | _ => none }
def FnLogOfWrongFalsely : Prop := fnLogOfRow.holds Tryd.pinned (OpenSpec.ofChange fnLogOfWrong)

/-- 'laws.FnLateTasksUsers': WHATEVER THE INPUT: true; the input reads as it did. -/
def fnLateTasksUsersSpec : ChangeSpec := { name := "fnLateTasksUsers", fn := fun _ => fun
  | [d] => { results := [.lit (.bool true)], args := [d] }
  | _ => none }
def fnLateTasksUsersRow : OpenClaim := { program := "ytifbjnhicnfdoaadoor", sum := "6fbfeb06aa958d5a542bca7ce25338360ad289d25851060f8d4a70eb6fc7675a", func := "loop.example/buildscheduler/laws.FnLateTasksUsers", spec := "fnLateTasksUsers", unfollowed := true, recurses := true, named := ["math/bits.deBruijn32tab"], apart := false, laid := [("math/bits.deBruijn32tab", laid_math_bits_deBruijn32tab)] }
def FnLateTasksUsersSaid : Prop := fnLateTasksUsersRow.holds Tryd.pinned (OpenSpec.ofChange fnLateTasksUsersSpec)

/-- ITS FALSE NEIGHBOUR: 'it returns false'. Refute it at one input. -/
def fnLateTasksUsersWrong : ChangeSpec := { name := "fnLateTasksUsers", fn := fun _ => fun
  | [d] => { results := [.lit (.bool false)], args := [d] }
  | _ => none }
def FnLateTasksUsersWrongFalsely : Prop := fnLateTasksUsersRow.holds Tryd.pinned (OpenSpec.ofChange fnLateTasksUsersWrong)

/-- 'laws.FnLateTasks': WHATEVER THE INPUT: true; the input reads as it did. -/
def fnLateTasksSpec : ChangeSpec := { name := "fnLateTasks", fn := fun _ => fun
  | [d] => { results := [.lit (.bool true)], args := [d] }
  | _ => none }
def fnLateTasksRow : OpenClaim := { program := "ytifbjnhicnfdoaadoor", sum := "6fbfeb06aa958d5a542bca7ce25338360ad289d25851060f8d4a70eb6fc7675a", func := "loop.example/buildscheduler/laws.FnLateTasks", spec := "fnLateTasks", unfollowed := true, recurses := true, named := ["math/bits.deBruijn32tab"], apart := false, laid := [("math/bits.deBruijn32tab", laid_math_bits_deBruijn32tab)] }
def FnLateTasksSaid : Prop := fnLateTasksRow.holds Tryd.pinned (OpenSpec.ofChange fnLateTasksSpec)

/-- ITS FALSE NEIGHBOUR: 'it returns false'. Refute it at one input. -/
def fnLateTasksWrong : ChangeSpec := { name := "fnLateTasks", fn := fun _ => fun
  | [d] => { results := [.lit (.bool false)], args := [d] }
  | _ => none }
def FnLateTasksWrongFalsely : Prop := fnLateTasksRow.holds Tryd.pinned (OpenSpec.ofChange fnLateTasksWrong)

/-- 'laws.FnLateTasksLast': WHATEVER THE INPUT: true; the input reads as it did. -/
def fnLateTasksLastSpec : ChangeSpec := { name := "fnLateTasksLast", fn := fun _ => fun
  | [d] => { results := [.lit (.bool true)], args := [d] }
  | _ => none }
def fnLateTasksLastRow : OpenClaim := { program := "ytifbjnhicnfdoaadoor", sum := "6fbfeb06aa958d5a542bca7ce25338360ad289d25851060f8d4a70eb6fc7675a", func := "loop.example/buildscheduler/laws.FnLateTasksLast", spec := "fnLateTasksLast", unfollowed := true, recurses := true, named := ["math/bits.deBruijn32tab"], apart := false, laid := [("math/bits.deBruijn32tab", laid_math_bits_deBruijn32tab)] }
def FnLateTasksLastSaid : Prop := fnLateTasksLastRow.holds Tryd.pinned (OpenSpec.ofChange fnLateTasksLastSpec)

/-- ITS FALSE NEIGHBOUR: 'it returns false'. Refute it at one input. -/
def fnLateTasksLastWrong : ChangeSpec := { name := "fnLateTasksLast", fn := fun _ => fun
  | [d] => { results := [.lit (.bool false)], args := [d] }
  | _ => none }
def FnLateTasksLastWrongFalsely : Prop := fnLateTasksLastRow.holds Tryd.pinned (OpenSpec.ofChange fnLateTasksLastWrong)

/-- 'laws.FnMostTogetherWorkers': WHATEVER THE INPUT: true; the input reads as it did. -/
def fnMostTogetherWorkersSpec : ChangeSpec := { name := "fnMostTogetherWorkers", fn := fun _ => fun
  | [d] => { results := [.lit (.bool true)], args := [d] }
  | _ => none }
def fnMostTogetherWorkersRow : OpenClaim := { program := "ytifbjnhicnfdoaadoor", sum := "6fbfeb06aa958d5a542bca7ce25338360ad289d25851060f8d4a70eb6fc7675a", func := "loop.example/buildscheduler/laws.FnMostTogetherWorkers", spec := "fnMostTogetherWorkers", unfollowed := true, recurses := true, named := ["math/bits.deBruijn32tab"], apart := false, laid := [("math/bits.deBruijn32tab", laid_math_bits_deBruijn32tab)] }
def FnMostTogetherWorkersSaid : Prop := fnMostTogetherWorkersRow.holds Tryd.pinned (OpenSpec.ofChange fnMostTogetherWorkersSpec)

/-- ITS FALSE NEIGHBOUR: 'it returns false'. Refute it at one input. -/
def fnMostTogetherWorkersWrong : ChangeSpec := { name := "fnMostTogetherWorkers", fn := fun _ => fun
  | [d] => { results := [.lit (.bool false)], args := [d] }
  | _ => none }
def FnMostTogetherWorkersWrongFalsely : Prop := fnMostTogetherWorkersRow.holds Tryd.pinned (OpenSpec.ofChange fnMostTogetherWorkersWrong)

/-- 'laws.FnDoneByLog': WHATEVER THE INPUT: true; the input reads as it did. -/
def fnDoneByLogSpec : ChangeSpec := { name := "fnDoneByLog", fn := fun _ => fun
  | [d] => { results := [.lit (.bool true)], args := [d] }
  | _ => none }
def fnDoneByLogRow : OpenClaim := { program := "ytifbjnhicnfdoaadoor", sum := "6fbfeb06aa958d5a542bca7ce25338360ad289d25851060f8d4a70eb6fc7675a", func := "loop.example/buildscheduler/laws.FnDoneByLog", spec := "fnDoneByLog", unfollowed := true, recurses := true, named := ["math/bits.deBruijn32tab"], apart := false, laid := [("math/bits.deBruijn32tab", laid_math_bits_deBruijn32tab)] }
def FnDoneByLogSaid : Prop := fnDoneByLogRow.holds Tryd.pinned (OpenSpec.ofChange fnDoneByLogSpec)

/-- ITS FALSE NEIGHBOUR: 'it returns false'. Refute it at one input. -/
def fnDoneByLogWrong : ChangeSpec := { name := "fnDoneByLog", fn := fun _ => fun
  | [d] => { results := [.lit (.bool false)], args := [d] }
  | _ => none }
def FnDoneByLogWrongFalsely : Prop := fnDoneByLogRow.holds Tryd.pinned (OpenSpec.ofChange fnDoneByLogWrong)

/-- 'laws.FnPlanStarts': WHATEVER THE INPUT: true; the input reads as it did. -/
def fnPlanStartsSpec : ChangeSpec := { name := "fnPlanStarts", fn := fun _ => fun
  | [d] => { results := [.lit (.bool true)], args := [d] }
  | _ => none }
def fnPlanStartsRow : OpenClaim := { program := "ytifbjnhicnfdoaadoor", sum := "6fbfeb06aa958d5a542bca7ce25338360ad289d25851060f8d4a70eb6fc7675a", func := "loop.example/buildscheduler/laws.FnPlanStarts", spec := "fnPlanStarts", unfollowed := true, recurses := true, named := ["math/bits.deBruijn32tab"], apart := false, laid := [("math/bits.deBruijn32tab", laid_math_bits_deBruijn32tab)] }
def FnPlanStartsSaid : Prop := fnPlanStartsRow.holds Tryd.pinned (OpenSpec.ofChange fnPlanStartsSpec)

/-- ITS FALSE NEIGHBOUR: 'it returns false'. Refute it at one input. -/
def fnPlanStartsWrong : ChangeSpec := { name := "fnPlanStarts", fn := fun _ => fun
  | [d] => { results := [.lit (.bool false)], args := [d] }
  | _ => none }
def FnPlanStartsWrongFalsely : Prop := fnPlanStartsRow.holds Tryd.pinned (OpenSpec.ofChange fnPlanStartsWrong)

/-- 'laws.FnDoneByEnd': WHATEVER THE INPUT: true; the input reads as it did. -/
def fnDoneByEndSpec : ChangeSpec := { name := "fnDoneByEnd", fn := fun _ => fun
  | [d] => { results := [.lit (.bool true)], args := [d] }
  | _ => none }
def fnDoneByEndRow : OpenClaim := { program := "ytifbjnhicnfdoaadoor", sum := "6fbfeb06aa958d5a542bca7ce25338360ad289d25851060f8d4a70eb6fc7675a", func := "loop.example/buildscheduler/laws.FnDoneByEnd", spec := "fnDoneByEnd", unfollowed := true, recurses := true, named := ["math/bits.deBruijn32tab"], apart := false, laid := [("math/bits.deBruijn32tab", laid_math_bits_deBruijn32tab)] }
def FnDoneByEndSaid : Prop := fnDoneByEndRow.holds Tryd.pinned (OpenSpec.ofChange fnDoneByEndSpec)

/-- ITS FALSE NEIGHBOUR: 'it returns false'. Refute it at one input. -/
def fnDoneByEndWrong : ChangeSpec := { name := "fnDoneByEnd", fn := fun _ => fun
  | [d] => { results := [.lit (.bool false)], args := [d] }
  | _ => none }
def FnDoneByEndWrongFalsely : Prop := fnDoneByEndRow.holds Tryd.pinned (OpenSpec.ofChange fnDoneByEndWrong)

/-- 'laws.FnPlanStartsOne': WHATEVER THE INPUT: true; the input reads as it did. -/
def fnPlanStartsOneSpec : ChangeSpec := { name := "fnPlanStartsOne", fn := fun _ => fun
  | [d] => { results := [.lit (.bool true)], args := [d] }
  | _ => none }
def fnPlanStartsOneRow : OpenClaim := { program := "ytifbjnhicnfdoaadoor", sum := "6fbfeb06aa958d5a542bca7ce25338360ad289d25851060f8d4a70eb6fc7675a", func := "loop.example/buildscheduler/laws.FnPlanStartsOne", spec := "fnPlanStartsOne", unfollowed := true, recurses := true, named := ["math/bits.deBruijn32tab"], apart := false, laid := [("math/bits.deBruijn32tab", laid_math_bits_deBruijn32tab)] }
def FnPlanStartsOneSaid : Prop := fnPlanStartsOneRow.holds Tryd.pinned (OpenSpec.ofChange fnPlanStartsOneSpec)

/-- ITS FALSE NEIGHBOUR: 'it returns false'. Refute it at one input. -/
def fnPlanStartsOneWrong : ChangeSpec := { name := "fnPlanStartsOne", fn := fun _ => fun
  | [d] => { results := [.lit (.bool false)], args := [d] }
  | _ => none }
def FnPlanStartsOneWrongFalsely : Prop := fnPlanStartsOneRow.holds Tryd.pinned (OpenSpec.ofChange fnPlanStartsOneWrong)

/-- 'laws.FnWorkersFor': WHATEVER THE INPUT: true; the input reads as it did. -/
def fnWorkersForSpec : ChangeSpec := { name := "fnWorkersFor", fn := fun _ => fun
  | [d] => { results := [.lit (.bool true)], args := [d] }
  | _ => none }
def fnWorkersForRow : OpenClaim := { program := "ytifbjnhicnfdoaadoor", sum := "6fbfeb06aa958d5a542bca7ce25338360ad289d25851060f8d4a70eb6fc7675a", func := "loop.example/buildscheduler/laws.FnWorkersFor", spec := "fnWorkersFor", unfollowed := true, recurses := true, named := ["math/bits.deBruijn32tab"], apart := false, laid := [("math/bits.deBruijn32tab", laid_math_bits_deBruijn32tab)] }
def FnWorkersForSaid : Prop := fnWorkersForRow.holds Tryd.pinned (OpenSpec.ofChange fnWorkersForSpec)

/-- ITS FALSE NEIGHBOUR: 'it returns false'. Refute it at one input. -/
def fnWorkersForWrong : ChangeSpec := { name := "fnWorkersFor", fn := fun _ => fun
  | [d] => { results := [.lit (.bool false)], args := [d] }
  | _ => none }
def FnWorkersForWrongFalsely : Prop := fnWorkersForRow.holds Tryd.pinned (OpenSpec.ofChange fnWorkersForWrong)

/-- 'laws.FnPlanStartsTwice': WHATEVER THE INPUT: true; the input reads as it did. -/
def fnPlanStartsTwiceSpec : ChangeSpec := { name := "fnPlanStartsTwice", fn := fun _ => fun
  | [d] => { results := [.lit (.bool true)], args := [d] }
  | _ => none }
def fnPlanStartsTwiceRow : OpenClaim := { program := "ytifbjnhicnfdoaadoor", sum := "6fbfeb06aa958d5a542bca7ce25338360ad289d25851060f8d4a70eb6fc7675a", func := "loop.example/buildscheduler/laws.FnPlanStartsTwice", spec := "fnPlanStartsTwice", unfollowed := true, recurses := true, named := ["math/bits.deBruijn32tab"], apart := false, laid := [("math/bits.deBruijn32tab", laid_math_bits_deBruijn32tab)] }
def FnPlanStartsTwiceSaid : Prop := fnPlanStartsTwiceRow.holds Tryd.pinned (OpenSpec.ofChange fnPlanStartsTwiceSpec)

/-- ITS FALSE NEIGHBOUR: 'it returns false'. Refute it at one input. -/
def fnPlanStartsTwiceWrong : ChangeSpec := { name := "fnPlanStartsTwice", fn := fun _ => fun
  | [d] => { results := [.lit (.bool false)], args := [d] }
  | _ => none }
def FnPlanStartsTwiceWrongFalsely : Prop := fnPlanStartsTwiceRow.holds Tryd.pinned (OpenSpec.ofChange fnPlanStartsTwiceWrong)

/-- 'laws.FnPlanStartsBusy': WHATEVER THE INPUT: true; the input reads as it did. -/
def fnPlanStartsBusySpec : ChangeSpec := { name := "fnPlanStartsBusy", fn := fun _ => fun
  | [d] => { results := [.lit (.bool true)], args := [d] }
  | _ => none }
def fnPlanStartsBusyRow : OpenClaim := { program := "ytifbjnhicnfdoaadoor", sum := "6fbfeb06aa958d5a542bca7ce25338360ad289d25851060f8d4a70eb6fc7675a", func := "loop.example/buildscheduler/laws.FnPlanStartsBusy", spec := "fnPlanStartsBusy", unfollowed := true, recurses := true, named := ["math/bits.deBruijn32tab"], apart := false, laid := [("math/bits.deBruijn32tab", laid_math_bits_deBruijn32tab)] }
def FnPlanStartsBusySaid : Prop := fnPlanStartsBusyRow.holds Tryd.pinned (OpenSpec.ofChange fnPlanStartsBusySpec)

/-- ITS FALSE NEIGHBOUR: 'it returns false'. Refute it at one input. -/
def fnPlanStartsBusyWrong : ChangeSpec := { name := "fnPlanStartsBusy", fn := fun _ => fun
  | [d] => { results := [.lit (.bool false)], args := [d] }
  | _ => none }
def FnPlanStartsBusyWrongFalsely : Prop := fnPlanStartsBusyRow.holds Tryd.pinned (OpenSpec.ofChange fnPlanStartsBusyWrong)

/- THE SECOND FORM. 'bulk': how many values and letters a reading holds, each counted each time it is reached (what is shared counts as often as it is met; a slice's spare places count too). A statement '..UptoSaid' is the law's where the arguments, and the package variables that the reading takes, are together of bulk at most 1048576: NARROWER than '..Said'. Prove '..Said' where nothing that the law and all that it calls make is longer than what came in: it says more and counts as full. Else prove '..UptoSaid'. A law counts once. -/
mutual
def uptoBulk {H : Type} : DataW H → Nat
  | .lit (.string bytes) => bytes.length + 1
  | .lit _ => 1
  | .nil => 1
  | .ptr d => uptoBulk d + 1
  | .slice elems spare => uptoBulkAll elems + uptoBulkAll spare + 1
  | .agg parts => uptoBulkAll parts + 1
  | .iface _ d => uptoBulk d + 1
  | .map entries => uptoBulkEntries entries + 1
  | .held _ => 1
def uptoBulkAll {H : Type} : List (DataW H) → Nat
  | [] => 0
  | d :: r => uptoBulk d + uptoBulkAll r
def uptoBulkEntries {H : Type} : List (Lit × DataW H) → Nat
  | [] => 0
  | x :: r => uptoBulkEntry x + uptoBulkEntries r
def uptoBulkEntry {H : Type} : Lit × DataW H → Nat
  | (.string bytes, d) => bytes.length + uptoBulk d + 1
  | (_, d) => uptoBulk d + 1
 end
def uptoSmall : (H : Type) → List (DataW H) → Bool := fun _ ds => decide (uptoBulkAll ds ≤ 1048576)
def OpenSpec.upto (s : _root_.Go.ChangeSpec) : _root_.Go.OpenSpec := { _root_.Go.OpenSpec.ofChange s with cond := some uptoSmall }

/-- 'laws.FnLogOfTimes', WHERE WHAT IT READS IS OF BULK AT MOST 1048576: true; the input reads as it did. -/
def fnLogOfTimesUptoRow : OpenClaim := { program := "ytifbjnhicnfdoaadoor", sum := "6fbfeb06aa958d5a542bca7ce25338360ad289d25851060f8d4a70eb6fc7675a", func := "loop.example/buildscheduler/laws.FnLogOfTimes", spec := "fnLogOfTimes", unfollowed := true, recurses := true, named := ["math/bits.deBruijn32tab"], apart := false, laid := [("math/bits.deBruijn32tab", laid_math_bits_deBruijn32tab)], narrowed := true }
def FnLogOfTimesUptoSaid : Prop := fnLogOfTimesUptoRow.holds Tryd.pinned (OpenSpec.upto fnLogOfTimesSpec)

/-- 'laws.FnLogOf', WHERE WHAT IT READS IS OF BULK AT MOST 1048576: true; the input reads as it did. -/
def fnLogOfUptoRow : OpenClaim := { program := "ytifbjnhicnfdoaadoor", sum := "6fbfeb06aa958d5a542bca7ce25338360ad289d25851060f8d4a70eb6fc7675a", func := "loop.example/buildscheduler/laws.FnLogOf", spec := "fnLogOf", unfollowed := true, recurses := true, named := ["math/bits.deBruijn32tab"], apart := false, laid := [("math/bits.deBruijn32tab", laid_math_bits_deBruijn32tab)], narrowed := true }
def FnLogOfUptoSaid : Prop := fnLogOfUptoRow.holds Tryd.pinned (OpenSpec.upto fnLogOfSpec)

/-- 'laws.FnLateTasksUsers', WHERE WHAT IT READS IS OF BULK AT MOST 1048576: true; the input reads as it did. -/
def fnLateTasksUsersUptoRow : OpenClaim := { program := "ytifbjnhicnfdoaadoor", sum := "6fbfeb06aa958d5a542bca7ce25338360ad289d25851060f8d4a70eb6fc7675a", func := "loop.example/buildscheduler/laws.FnLateTasksUsers", spec := "fnLateTasksUsers", unfollowed := true, recurses := true, named := ["math/bits.deBruijn32tab"], apart := false, laid := [("math/bits.deBruijn32tab", laid_math_bits_deBruijn32tab)], narrowed := true }
def FnLateTasksUsersUptoSaid : Prop := fnLateTasksUsersUptoRow.holds Tryd.pinned (OpenSpec.upto fnLateTasksUsersSpec)

/-- 'laws.FnLateTasks', WHERE WHAT IT READS IS OF BULK AT MOST 1048576: true; the input reads as it did. -/
def fnLateTasksUptoRow : OpenClaim := { program := "ytifbjnhicnfdoaadoor", sum := "6fbfeb06aa958d5a542bca7ce25338360ad289d25851060f8d4a70eb6fc7675a", func := "loop.example/buildscheduler/laws.FnLateTasks", spec := "fnLateTasks", unfollowed := true, recurses := true, named := ["math/bits.deBruijn32tab"], apart := false, laid := [("math/bits.deBruijn32tab", laid_math_bits_deBruijn32tab)], narrowed := true }
def FnLateTasksUptoSaid : Prop := fnLateTasksUptoRow.holds Tryd.pinned (OpenSpec.upto fnLateTasksSpec)

/-- 'laws.FnLateTasksLast', WHERE WHAT IT READS IS OF BULK AT MOST 1048576: true; the input reads as it did. -/
def fnLateTasksLastUptoRow : OpenClaim := { program := "ytifbjnhicnfdoaadoor", sum := "6fbfeb06aa958d5a542bca7ce25338360ad289d25851060f8d4a70eb6fc7675a", func := "loop.example/buildscheduler/laws.FnLateTasksLast", spec := "fnLateTasksLast", unfollowed := true, recurses := true, named := ["math/bits.deBruijn32tab"], apart := false, laid := [("math/bits.deBruijn32tab", laid_math_bits_deBruijn32tab)], narrowed := true }
def FnLateTasksLastUptoSaid : Prop := fnLateTasksLastUptoRow.holds Tryd.pinned (OpenSpec.upto fnLateTasksLastSpec)

/-- 'laws.FnMostTogetherWorkers', WHERE WHAT IT READS IS OF BULK AT MOST 1048576: true; the input reads as it did. -/
def fnMostTogetherWorkersUptoRow : OpenClaim := { program := "ytifbjnhicnfdoaadoor", sum := "6fbfeb06aa958d5a542bca7ce25338360ad289d25851060f8d4a70eb6fc7675a", func := "loop.example/buildscheduler/laws.FnMostTogetherWorkers", spec := "fnMostTogetherWorkers", unfollowed := true, recurses := true, named := ["math/bits.deBruijn32tab"], apart := false, laid := [("math/bits.deBruijn32tab", laid_math_bits_deBruijn32tab)], narrowed := true }
def FnMostTogetherWorkersUptoSaid : Prop := fnMostTogetherWorkersUptoRow.holds Tryd.pinned (OpenSpec.upto fnMostTogetherWorkersSpec)

/-- 'laws.FnDoneByLog', WHERE WHAT IT READS IS OF BULK AT MOST 1048576: true; the input reads as it did. -/
def fnDoneByLogUptoRow : OpenClaim := { program := "ytifbjnhicnfdoaadoor", sum := "6fbfeb06aa958d5a542bca7ce25338360ad289d25851060f8d4a70eb6fc7675a", func := "loop.example/buildscheduler/laws.FnDoneByLog", spec := "fnDoneByLog", unfollowed := true, recurses := true, named := ["math/bits.deBruijn32tab"], apart := false, laid := [("math/bits.deBruijn32tab", laid_math_bits_deBruijn32tab)], narrowed := true }
def FnDoneByLogUptoSaid : Prop := fnDoneByLogUptoRow.holds Tryd.pinned (OpenSpec.upto fnDoneByLogSpec)

/-- 'laws.FnPlanStarts', WHERE WHAT IT READS IS OF BULK AT MOST 1048576: true; the input reads as it did. -/
def fnPlanStartsUptoRow : OpenClaim := { program := "ytifbjnhicnfdoaadoor", sum := "6fbfeb06aa958d5a542bca7ce25338360ad289d25851060f8d4a70eb6fc7675a", func := "loop.example/buildscheduler/laws.FnPlanStarts", spec := "fnPlanStarts", unfollowed := true, recurses := true, named := ["math/bits.deBruijn32tab"], apart := false, laid := [("math/bits.deBruijn32tab", laid_math_bits_deBruijn32tab)], narrowed := true }
def FnPlanStartsUptoSaid : Prop := fnPlanStartsUptoRow.holds Tryd.pinned (OpenSpec.upto fnPlanStartsSpec)

/-- 'laws.FnDoneByEnd', WHERE WHAT IT READS IS OF BULK AT MOST 1048576: true; the input reads as it did. -/
def fnDoneByEndUptoRow : OpenClaim := { program := "ytifbjnhicnfdoaadoor", sum := "6fbfeb06aa958d5a542bca7ce25338360ad289d25851060f8d4a70eb6fc7675a", func := "loop.example/buildscheduler/laws.FnDoneByEnd", spec := "fnDoneByEnd", unfollowed := true, recurses := true, named := ["math/bits.deBruijn32tab"], apart := false, laid := [("math/bits.deBruijn32tab", laid_math_bits_deBruijn32tab)], narrowed := true }
def FnDoneByEndUptoSaid : Prop := fnDoneByEndUptoRow.holds Tryd.pinned (OpenSpec.upto fnDoneByEndSpec)

/-- 'laws.FnPlanStartsOne', WHERE WHAT IT READS IS OF BULK AT MOST 1048576: true; the input reads as it did. -/
def fnPlanStartsOneUptoRow : OpenClaim := { program := "ytifbjnhicnfdoaadoor", sum := "6fbfeb06aa958d5a542bca7ce25338360ad289d25851060f8d4a70eb6fc7675a", func := "loop.example/buildscheduler/laws.FnPlanStartsOne", spec := "fnPlanStartsOne", unfollowed := true, recurses := true, named := ["math/bits.deBruijn32tab"], apart := false, laid := [("math/bits.deBruijn32tab", laid_math_bits_deBruijn32tab)], narrowed := true }
def FnPlanStartsOneUptoSaid : Prop := fnPlanStartsOneUptoRow.holds Tryd.pinned (OpenSpec.upto fnPlanStartsOneSpec)

/-- 'laws.FnWorkersFor', WHERE WHAT IT READS IS OF BULK AT MOST 1048576: true; the input reads as it did. -/
def fnWorkersForUptoRow : OpenClaim := { program := "ytifbjnhicnfdoaadoor", sum := "6fbfeb06aa958d5a542bca7ce25338360ad289d25851060f8d4a70eb6fc7675a", func := "loop.example/buildscheduler/laws.FnWorkersFor", spec := "fnWorkersFor", unfollowed := true, recurses := true, named := ["math/bits.deBruijn32tab"], apart := false, laid := [("math/bits.deBruijn32tab", laid_math_bits_deBruijn32tab)], narrowed := true }
def FnWorkersForUptoSaid : Prop := fnWorkersForUptoRow.holds Tryd.pinned (OpenSpec.upto fnWorkersForSpec)

/-- 'laws.FnPlanStartsTwice', WHERE WHAT IT READS IS OF BULK AT MOST 1048576: true; the input reads as it did. -/
def fnPlanStartsTwiceUptoRow : OpenClaim := { program := "ytifbjnhicnfdoaadoor", sum := "6fbfeb06aa958d5a542bca7ce25338360ad289d25851060f8d4a70eb6fc7675a", func := "loop.example/buildscheduler/laws.FnPlanStartsTwice", spec := "fnPlanStartsTwice", unfollowed := true, recurses := true, named := ["math/bits.deBruijn32tab"], apart := false, laid := [("math/bits.deBruijn32tab", laid_math_bits_deBruijn32tab)], narrowed := true }
def FnPlanStartsTwiceUptoSaid : Prop := fnPlanStartsTwiceUptoRow.holds Tryd.pinned (OpenSpec.upto fnPlanStartsTwiceSpec)

/-- 'laws.FnPlanStartsBusy', WHERE WHAT IT READS IS OF BULK AT MOST 1048576: true; the input reads as it did. -/
def fnPlanStartsBusyUptoRow : OpenClaim := { program := "ytifbjnhicnfdoaadoor", sum := "6fbfeb06aa958d5a542bca7ce25338360ad289d25851060f8d4a70eb6fc7675a", func := "loop.example/buildscheduler/laws.FnPlanStartsBusy", spec := "fnPlanStartsBusy", unfollowed := true, recurses := true, named := ["math/bits.deBruijn32tab"], apart := false, laid := [("math/bits.deBruijn32tab", laid_math_bits_deBruijn32tab)], narrowed := true }
def FnPlanStartsBusyUptoSaid : Prop := fnPlanStartsBusyUptoRow.holds Tryd.pinned (OpenSpec.upto fnPlanStartsBusySpec)

end Rows
end Go.Proofs.YtifbjnhicnfdoaaDoor
