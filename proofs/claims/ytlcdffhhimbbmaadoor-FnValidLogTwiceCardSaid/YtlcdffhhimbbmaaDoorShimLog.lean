/- impl.ValidLog and spec.ValidLog, walked by hand, in the form that the printed law calls them. -/
import Derived.Test.YtlcdffhhimbbmaaDoorTot5
import Derived.Test.YtlcdffhhimbbmaaDoorLaw4
namespace Go.Proofs.YtlcdffhhimbbmaaDoor.PFnValidLog
set_option linter.unusedVariables false
set_option linter.unusedSimpArgs false
open Go.RowKit Go.Shelf
open Go.Proofs.YtlcdffhhimbbmaaDoorW.PrintWords Go.Proofs.YtlcdffhhimbbmaaDoorW.PrintLast Go.Proofs.YtlcdffhhimbbmaaDoorW.PrintMore
def impl_ValidLog.f (k : Nat) (l0 : List S41) (l1 : List S30) : Option Bool := some (replayB l0 l1).isSome
theorem impl_ValidLog.calls (k : Nat) (A0 : Option Addr) (c0 : Nat) (l0 : List S41) (A1 : Option Addr) (c1 : Nat) (l1 : List S30) (r : Bool) (w : World) (hr0 : Kd.C k41 w A0 l0.length l0) (hc0 : l0.length ≤ c0) (hr1 : Kd.C k30 w A1 l1.length l1) (hc1 : l1.length ≤ c1) (hT : Tab w) (h : impl_ValidLog.f k l0 l1 = some r) :
    Calls Tryd.prog 10 #[.slice A0 l0.length c0, .slice A1 l1.length c1] w fun e w' => e = .returned (.bool r) ∧ Below w.heap.size w w' := by
  obtain rfl := Option.some.inj h
  exact ValidLog_impl A0 c0 l0 A1 c1 l1 w hr0 hr1 hT
def spec_ValidLog.f (k : Nat) (l0 : List S41) (l1 : List S30) : Option Bool := some (validLogB l0 l1)
theorem spec_ValidLog.calls (k : Nat) (A0 : Option Addr) (c0 : Nat) (l0 : List S41) (A1 : Option Addr) (c1 : Nat) (l1 : List S30) (r : Bool) (w : World) (hr0 : Kd.C k41 w A0 l0.length l0) (hc0 : l0.length ≤ c0) (hr1 : Kd.C k30 w A1 l1.length l1) (hc1 : l1.length ≤ c1) (h : spec_ValidLog.f k l0 l1 = some r) :
    Calls Tryd.prog 11 #[.slice A0 l0.length c0, .slice A1 l1.length c1] w fun e w' => e = .returned (.bool r) ∧ Below w.heap.size w w' := by
  obtain rfl := Option.some.inj h
  exact ValidLog_spec A0 c0 l0 A1 c1 l1 w hr0 hr1
end Go.Proofs.YtlcdffhhimbbmaaDoor.PFnValidLog
