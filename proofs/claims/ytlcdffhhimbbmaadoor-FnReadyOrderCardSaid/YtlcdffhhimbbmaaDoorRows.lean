/-
  NARROWER THAN 'FOR EVERY INPUT', by the rows' own cells (each row's printed sentence says how): FnValidLog: laid · FnValidLogTwice: laid · FnReadyOrder: laid · FnBusyTimeLess: laid · FnMostTogether: laid · FnBusyTime: laid.
  DERIVED. THE GIVEN ROWS OF THIS SEAT. 6 by the template 'for every input the law returns true; each argument reads behind the call as it read before'; 0 by the template 'total and deterministic' (their statements: YtlcdffhhimbbmaaDoorTotals.lean).
  GIVEN WITH THE SEED: the statements are not yours to turn. If you find one false, say at which input.
  Laid BY PROGRAM, IN A SANDBOX (cutbox-rows.mjs): the forced cells as the released guide's own fill.sh prints them over the translation 263516b9fa5115c5… (all of the seat's roots in one cut). By AI agents, Wed Nov 11 2026. No macro, syntax, notation, axiom, sorry.
-/
import Derived.Test.YtlcdffhhimbbmaaDoorChecked
import GoSem.Claim
import GoSem.ClaimJoined
import GoSem.ClaimMapViews
import Derived.JoinedTies
import Derived.KernelRfl
namespace Go.Proofs.YtlcdffhhimbbmaaDoor
/- THE CELL 'sum', in the pinned program and in every row, IS THE sha256 OF THE DUMP (.gsa) THAT YtlcdffhhimbbmaaDoorProg.lean LOADS. Nothing in Lean hashes anything: it is a label: what it is worth is what the hold of that sum in a sandbox is worth. -/
noncomputable def Tryd.pinned : Pinned := { name := "ytlcdffhhimbbmaadoor", sum := "263516b9fa5115c51bbd88bc6b13a638fa51b50f1b2861ce55724a7991d2deac", checked := Tryd.checked }
namespace Rows
def none {H : Type} : Left H := { results := [], args := [] }

/- WHAT THE LISTED PACKAGE-LEVEL VARIABLES READ AS WHEN THE CALL BEGINS. Each datum BY PROGRAM (the guide's laid-datum.mjs) off the statement by which the dump's own 'gosem.cut.vars' lays the variable. In a bare row this is a premise. The card (YtlcdffhhimbbmaaDoorCards.lean) ties it to the program's text. -/
def laid_math_bits_deBruijn32tab {H : Type} : DataW H := .agg [.lit (.int .u8 0), .lit (.int .u8 1), .lit (.int .u8 28), .lit (.int .u8 2), .lit (.int .u8 29), .lit (.int .u8 14), .lit (.int .u8 24), .lit (.int .u8 3), .lit (.int .u8 30), .lit (.int .u8 22), .lit (.int .u8 20), .lit (.int .u8 15), .lit (.int .u8 25), .lit (.int .u8 17), .lit (.int .u8 4), .lit (.int .u8 8), .lit (.int .u8 31), .lit (.int .u8 27), .lit (.int .u8 13), .lit (.int .u8 23), .lit (.int .u8 21), .lit (.int .u8 19), .lit (.int .u8 16), .lit (.int .u8 7), .lit (.int .u8 26), .lit (.int .u8 12), .lit (.int .u8 18), .lit (.int .u8 6), .lit (.int .u8 11), .lit (.int .u8 5), .lit (.int .u8 10), .lit (.int .u8 9)]

/-- 'laws.FnValidLog': WHATEVER THE INPUT: true; the input reads as it did. -/
def fnValidLogSpec : ChangeSpec := { name := "fnValidLog", fn := fun _ => fun
  | [d] => { results := [.lit (.bool true)], args := [d] }
  | _ => none }
def fnValidLogRow : OpenClaim := { program := "ytlcdffhhimbbmaadoor", sum := "263516b9fa5115c51bbd88bc6b13a638fa51b50f1b2861ce55724a7991d2deac", func := "loop.example/buildscheduler/laws.FnValidLog", spec := "fnValidLog", unfollowed := true, recurses := true, named := ["math/bits.deBruijn32tab"], apart := false, laid := [("math/bits.deBruijn32tab", laid_math_bits_deBruijn32tab)] }
def FnValidLogSaid : Prop := fnValidLogRow.holds Tryd.pinned (OpenSpec.ofChange fnValidLogSpec)

/-- ITS FALSE NEIGHBOUR: 'it returns false'. Refute it at one input. -/
def fnValidLogWrong : ChangeSpec := { name := "fnValidLog", fn := fun _ => fun
  | [d] => { results := [.lit (.bool false)], args := [d] }
  | _ => none }
def FnValidLogWrongFalsely : Prop := fnValidLogRow.holds Tryd.pinned (OpenSpec.ofChange fnValidLogWrong)

/-- 'laws.FnValidLogTwice': WHATEVER THE INPUT: true; the input reads as it did. -/
def fnValidLogTwiceSpec : ChangeSpec := { name := "fnValidLogTwice", fn := fun _ => fun
  | [d] => { results := [.lit (.bool true)], args := [d] }
  | _ => none }
def fnValidLogTwiceRow : OpenClaim := { program := "ytlcdffhhimbbmaadoor", sum := "263516b9fa5115c51bbd88bc6b13a638fa51b50f1b2861ce55724a7991d2deac", func := "loop.example/buildscheduler/laws.FnValidLogTwice", spec := "fnValidLogTwice", unfollowed := true, recurses := true, named := ["math/bits.deBruijn32tab"], apart := false, laid := [("math/bits.deBruijn32tab", laid_math_bits_deBruijn32tab)] }
def FnValidLogTwiceSaid : Prop := fnValidLogTwiceRow.holds Tryd.pinned (OpenSpec.ofChange fnValidLogTwiceSpec)

/-- ITS FALSE NEIGHBOUR: 'it returns false'. Refute it at one input. -/
def fnValidLogTwiceWrong : ChangeSpec := { name := "fnValidLogTwice", fn := fun _ => fun
  | [d] => { results := [.lit (.bool false)], args := [d] }
  | _ => none }
def FnValidLogTwiceWrongFalsely : Prop := fnValidLogTwiceRow.holds Tryd.pinned (OpenSpec.ofChange fnValidLogTwiceWrong)

/-- 'laws.FnReadyOrder': WHATEVER THE INPUT: true; the input reads as it did. -/
def fnReadyOrderSpec : ChangeSpec := { name := "fnReadyOrder", fn := fun _ => fun
  | [d] => { results := [.lit (.bool true)], args := [d] }
  | _ => none }
def fnReadyOrderRow : OpenClaim := { program := "ytlcdffhhimbbmaadoor", sum := "263516b9fa5115c51bbd88bc6b13a638fa51b50f1b2861ce55724a7991d2deac", func := "loop.example/buildscheduler/laws.FnReadyOrder", spec := "fnReadyOrder", unfollowed := true, recurses := true, named := ["math/bits.deBruijn32tab"], apart := false, laid := [("math/bits.deBruijn32tab", laid_math_bits_deBruijn32tab)] }
def FnReadyOrderSaid : Prop := fnReadyOrderRow.holds Tryd.pinned (OpenSpec.ofChange fnReadyOrderSpec)

/-- ITS FALSE NEIGHBOUR: 'it returns false'. Refute it at one input. -/
def fnReadyOrderWrong : ChangeSpec := { name := "fnReadyOrder", fn := fun _ => fun
  | [d] => { results := [.lit (.bool false)], args := [d] }
  | _ => none }
def FnReadyOrderWrongFalsely : Prop := fnReadyOrderRow.holds Tryd.pinned (OpenSpec.ofChange fnReadyOrderWrong)

/-- 'laws.FnBusyTimeLess': WHATEVER THE INPUT: true; the input reads as it did. -/
def fnBusyTimeLessSpec : ChangeSpec := { name := "fnBusyTimeLess", fn := fun _ => fun
  | [d] => { results := [.lit (.bool true)], args := [d] }
  | _ => none }
def fnBusyTimeLessRow : OpenClaim := { program := "ytlcdffhhimbbmaadoor", sum := "263516b9fa5115c51bbd88bc6b13a638fa51b50f1b2861ce55724a7991d2deac", func := "loop.example/buildscheduler/laws.FnBusyTimeLess", spec := "fnBusyTimeLess", unfollowed := true, recurses := true, named := ["math/bits.deBruijn32tab"], apart := false, laid := [("math/bits.deBruijn32tab", laid_math_bits_deBruijn32tab)] }
def FnBusyTimeLessSaid : Prop := fnBusyTimeLessRow.holds Tryd.pinned (OpenSpec.ofChange fnBusyTimeLessSpec)

/-- ITS FALSE NEIGHBOUR: 'it returns false'. Refute it at one input. -/
def fnBusyTimeLessWrong : ChangeSpec := { name := "fnBusyTimeLess", fn := fun _ => fun
  | [d] => { results := [.lit (.bool false)], args := [d] }
  | _ => none }
def FnBusyTimeLessWrongFalsely : Prop := fnBusyTimeLessRow.holds Tryd.pinned (OpenSpec.ofChange fnBusyTimeLessWrong)

/-- 'laws.FnMostTogether': WHATEVER THE INPUT: true; the input reads as it did. -/
def fnMostTogetherSpec : ChangeSpec := { name := "fnMostTogether", fn := fun _ => fun
  | [d] => { results := [.lit (.bool true)], args := [d] }
  | _ => none }
def fnMostTogetherRow : OpenClaim := { program := "ytlcdffhhimbbmaadoor", sum := "263516b9fa5115c51bbd88bc6b13a638fa51b50f1b2861ce55724a7991d2deac", func := "loop.example/buildscheduler/laws.FnMostTogether", spec := "fnMostTogether", unfollowed := true, recurses := true, named := ["math/bits.deBruijn32tab"], apart := false, laid := [("math/bits.deBruijn32tab", laid_math_bits_deBruijn32tab)] }
def FnMostTogetherSaid : Prop := fnMostTogetherRow.holds Tryd.pinned (OpenSpec.ofChange fnMostTogetherSpec)

/-- ITS FALSE NEIGHBOUR: 'it returns false'. Refute it at one input. -/
def fnMostTogetherWrong : ChangeSpec := { name := "fnMostTogether", fn := fun _ => fun
  | [d] => { results := [.lit (.bool false)], args := [d] }
  | _ => none }
def FnMostTogetherWrongFalsely : Prop := fnMostTogetherRow.holds Tryd.pinned (OpenSpec.ofChange fnMostTogetherWrong)

/-- 'laws.FnBusyTime': WHATEVER THE INPUT: true; the input reads as it did. -/
def fnBusyTimeSpec : ChangeSpec := { name := "fnBusyTime", fn := fun _ => fun
  | [d] => { results := [.lit (.bool true)], args := [d] }
  | _ => none }
def fnBusyTimeRow : OpenClaim := { program := "ytlcdffhhimbbmaadoor", sum := "263516b9fa5115c51bbd88bc6b13a638fa51b50f1b2861ce55724a7991d2deac", func := "loop.example/buildscheduler/laws.FnBusyTime", spec := "fnBusyTime", unfollowed := true, recurses := true, named := ["math/bits.deBruijn32tab"], apart := false, laid := [("math/bits.deBruijn32tab", laid_math_bits_deBruijn32tab)] }
def FnBusyTimeSaid : Prop := fnBusyTimeRow.holds Tryd.pinned (OpenSpec.ofChange fnBusyTimeSpec)

/-- ITS FALSE NEIGHBOUR: 'it returns false'. Refute it at one input. -/
def fnBusyTimeWrong : ChangeSpec := { name := "fnBusyTime", fn := fun _ => fun
  | [d] => { results := [.lit (.bool false)], args := [d] }
  | _ => none }
def FnBusyTimeWrongFalsely : Prop := fnBusyTimeRow.holds Tryd.pinned (OpenSpec.ofChange fnBusyTimeWrong)

/- THE SECOND FORM. 'bulk': how many values and letters a reading holds, each counted each time it is reached (what is shared counts as often as it is met; a slice's spare places count too). A statement '..UptoSaid' is the law's where the arguments, and the package variables that the reading takes, are together of bulk at most 1048576: NARROWER than '..Said'. Prove '..Said' where nothing that the law and all that it calls make is longer than what came in: it says more and counts as full. Else prove '..UptoSaid'. A law counts once. -/
mutual
def uptoBulk {H : Type} : DataW H → Nat
  | .lit (.string bytes) => bytes.length + 1
  | .lit _ => 1
  | .nil => 1
  | .ptr d => uptoBulk d + 1
  | .slice elems spare => uptoBulkAll elems + uptoBulkAll spare + 1
  | .agg parts => uptoBulkAll parts + 1
  | .iface _ d => uptoBulk d + 1
  | .map entries => uptoBulkEntries entries + 1
  | .held _ => 1
def uptoBulkAll {H : Type} : List (DataW H) → Nat
  | [] => 0
  | d :: r => uptoBulk d + uptoBulkAll r
def uptoBulkEntries {H : Type} : List (Lit × DataW H) → Nat
  | [] => 0
  | x :: r => uptoBulkEntry x + uptoBulkEntries r
def uptoBulkEntry {H : Type} : Lit × DataW H → Nat
  | (.string bytes, d) => bytes.length + uptoBulk d + 1
  | (_, d) => uptoBulk d + 1
 end
def uptoSmall : (H : Type) → List (DataW H) → Bool := fun _ ds => decide (uptoBulkAll ds ≤ 1048576)
def OpenSpec.upto (s : _root_.Go.ChangeSpec) : _root_.Go.OpenSpec := { _root_.Go.OpenSpec.ofChange s with cond := some uptoSmall }

/-- 'laws.FnValidLog', WHERE WHAT IT READS IS OF BULK AT MOST 1048576: true; the input reads as it did. -/
def fnValidLogUptoRow : OpenClaim := { program := "ytlcdffhhimbbmaadoor", sum := "263516b9fa5115c51bbd88bc6b13a638fa51b50f1b2861ce55724a7991d2deac", func := "loop.example/buildscheduler/laws.FnValidLog", spec := "fnValidLog", unfollowed := true, recurses := true, named := ["math/bits.deBruijn32tab"], apart := false, laid := [("math/bits.deBruijn32tab", laid_math_bits_deBruijn32tab)], narrowed := true }
def FnValidLogUptoSaid : Prop := fnValidLogUptoRow.holds Tryd.pinned (OpenSpec.upto fnValidLogSpec)

/-- 'laws.FnValidLogTwice', WHERE WHAT IT READS IS OF BULK AT MOST 1048576: true; the input reads as it did. -/
def fnValidLogTwiceUptoRow : OpenClaim := { program := "ytlcdffhhimbbmaadoor", sum := "263516b9fa5115c51bbd88bc6b13a638fa51b50f1b2861ce55724a7991d2deac", func := "loop.example/buildscheduler/laws.FnValidLogTwice", spec := "fnValidLogTwice", unfollowed := true, recurses := true, named := ["math/bits.deBruijn32tab"], apart := false, laid := [("math/bits.deBruijn32tab", laid_math_bits_deBruijn32tab)], narrowed := true }
def FnValidLogTwiceUptoSaid : Prop := fnValidLogTwiceUptoRow.holds Tryd.pinned (OpenSpec.upto fnValidLogTwiceSpec)

/-- 'laws.FnReadyOrder', WHERE WHAT IT READS IS OF BULK AT MOST 1048576: true; the input reads as it did. -/
def fnReadyOrderUptoRow : OpenClaim := { program := "ytlcdffhhimbbmaadoor", sum := "263516b9fa5115c51bbd88bc6b13a638fa51b50f1b2861ce55724a7991d2deac", func := "loop.example/buildscheduler/laws.FnReadyOrder", spec := "fnReadyOrder", unfollowed := true, recurses := true, named := ["math/bits.deBruijn32tab"], apart := false, laid := [("math/bits.deBruijn32tab", laid_math_bits_deBruijn32tab)], narrowed := true }
def FnReadyOrderUptoSaid : Prop := fnReadyOrderUptoRow.holds Tryd.pinned (OpenSpec.upto fnReadyOrderSpec)

/-- 'laws.FnBusyTimeLess', WHERE WHAT IT READS IS OF BULK AT MOST 1048576: true; the input reads as it did. -/
def fnBusyTimeLessUptoRow : OpenClaim := { program := "ytlcdffhhimbbmaadoor", sum := "263516b9fa5115c51bbd88bc6b13a638fa51b50f1b2861ce55724a7991d2deac", func := "loop.example/buildscheduler/laws.FnBusyTimeLess", spec := "fnBusyTimeLess", unfollowed := true, recurses := true, named := ["math/bits.deBruijn32tab"], apart := false, laid := [("math/bits.deBruijn32tab", laid_math_bits_deBruijn32tab)], narrowed := true }
def FnBusyTimeLessUptoSaid : Prop := fnBusyTimeLessUptoRow.holds Tryd.pinned (OpenSpec.upto fnBusyTimeLessSpec)

/-- 'laws.FnMostTogether', WHERE WHAT IT READS IS OF BULK AT MOST 1048576: true; the input reads as it did. -/
def fnMostTogetherUptoRow : OpenClaim := { program := "ytlcdffhhimbbmaadoor", sum := "263516b9fa5115c51bbd88bc6b13a638fa51b50f1b2861ce55724a7991d2deac", func := "loop.example/buildscheduler/laws.FnMostTogether", spec := "fnMostTogether", unfollowed := true, recurses := true, named := ["math/bits.deBruijn32tab"], apart := false, laid := [("math/bits.deBruijn32tab", laid_math_bits_deBruijn32tab)], narrowed := true }
def FnMostTogetherUptoSaid : Prop := fnMostTogetherUptoRow.holds Tryd.pinned (OpenSpec.upto fnMostTogetherSpec)

/-- 'laws.FnBusyTime', WHERE WHAT IT READS IS OF BULK AT MOST 1048576: true; the input reads as it did. -/
def fnBusyTimeUptoRow : OpenClaim := { program := "ytlcdffhhimbbmaadoor", sum := "263516b9fa5115c51bbd88bc6b13a638fa51b50f1b2861ce55724a7991d2deac", func := "loop.example/buildscheduler/laws.FnBusyTime", spec := "fnBusyTime", unfollowed := true, recurses := true, named := ["math/bits.deBruijn32tab"], apart := false, laid := [("math/bits.deBruijn32tab", laid_math_bits_deBruijn32tab)], narrowed := true }
def FnBusyTimeUptoSaid : Prop := fnBusyTimeUptoRow.holds Tryd.pinned (OpenSpec.upto fnBusyTimeSpec)

end Rows
end Go.Proofs.YtlcdffhhimbbmaaDoor
