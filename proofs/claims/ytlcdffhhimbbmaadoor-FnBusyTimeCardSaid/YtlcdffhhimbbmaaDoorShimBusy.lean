/- spec.validLog and impl.BusyTime, walked by hand, in the form that the printed laws call them. -/
import Derived.Test.YtlcdffhhimbbmaaDoorTot5
import Derived.Test.YtlcdffhhimbbmaaDoorLaw4
import Derived.Test.YtlcdffhhimbbmaaDoorBusy
namespace Go.Proofs.YtlcdffhhimbbmaaDoor.PFnValidLog
set_option linter.unusedVariables false
set_option linter.unusedSimpArgs false
open Go.RowKit Go.Shelf
open Go.Proofs.YtlcdffhhimbbmaaDoorW.PrintWords Go.Proofs.YtlcdffhhimbbmaaDoorW.PrintLast Go.Proofs.YtlcdffhhimbbmaaDoorW.PrintMore
def spec_validLog.f (k : Nat) (l0 : List S41) (l1 : List S30) : Option Bool := some (validLogB l0 l1)
theorem spec_validLog.calls (k : Nat) (A0 : Option Addr) (c0 : Nat) (l0 : List S41) (A1 : Option Addr) (c1 : Nat) (l1 : List S30) (r : Bool) (w : World) (hr0 : Kd.C k41 w A0 l0.length l0) (hc0 : l0.length ≤ c0) (hr1 : Kd.C k30 w A1 l1.length l1) (hc1 : l1.length ≤ c1) (h : spec_validLog.f k l0 l1 = some r) :
    Calls Tryd.prog 31 #[.slice A0 l0.length c0, .slice A1 l1.length c1] w fun e w' => e = .returned (.bool r) ∧ Below w.heap.size w w' := by
  obtain rfl := Option.some.inj h
  exact validLog_calls A0 c0 l0 A1 c1 l1 w hr0 hr1
def impl_BusyTime.f (k : Nat) (l0 : List S41) (l1 : List S30) : Option Int := some (busyB l0 l1)
theorem impl_BusyTime.calls (k : Nat) (A0 : Option Addr) (c0 : Nat) (l0 : List S41) (A1 : Option Addr) (c1 : Nat) (l1 : List S30) (r : Int) (w : World) (hr0 : Kd.C k41 w A0 l0.length l0) (hc0 : l0.length ≤ c0) (hr1 : Kd.C k30 w A1 l1.length l1) (hc1 : l1.length ≤ c1) (hT : Tab w) (h : impl_BusyTime.f k l0 l1 = some r) :
    Calls Tryd.prog 20 #[.slice A0 l0.length c0, .slice A1 l1.length c1] w fun e w' => e = .returned (.int .i64 r) ∧ Below w.heap.size w w' := by
  obtain rfl := Option.some.inj h
  exact BusyTime_impl A0 c0 l0 A1 c1 l1 w hr0 hr1 hT
end Go.Proofs.YtlcdffhhimbbmaaDoor.PFnValidLog
