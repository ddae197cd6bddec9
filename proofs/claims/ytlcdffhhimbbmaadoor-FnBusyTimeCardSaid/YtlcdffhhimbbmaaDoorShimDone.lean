/- impl.DoneBy, walked by hand, in the form that the printed law calls it. -/
import Derived.Test.YtlcdffhhimbbmaaDoorShimBusy
import Derived.Test.YtlcdffhhimbbmaaDoorDoneBy
namespace Go.Proofs.YtlcdffhhimbbmaaDoor.PFnValidLog
set_option linter.unusedVariables false
set_option linter.unusedSimpArgs false
open Go.RowKit Go.Shelf
open Go.Proofs.YtlcdffhhimbbmaaDoorW.PrintWords Go.Proofs.YtlcdffhhimbbmaaDoorW.PrintLast Go.Proofs.YtlcdffhhimbbmaaDoorW.PrintMore
def impl_DoneBy.f (k : Nat) (l0 : List S41) (l1 : List S30) (a2 : Int) : Option (List Int) := some (doneB l0 l1 a2)
theorem impl_DoneBy.calls (k : Nat) (A0 : Option Addr) (c0 : Nat) (l0 : List S41) (A1 : Option Addr) (c1 : Nat) (l1 : List S30) (a2 : Int) (r : List Int) (w : World) (hr0 : Kd.C k41 w A0 l0.length l0) (hc0 : l0.length ≤ c0) (hr1 : Kd.C k30 w A1 l1.length l1) (hc1 : l1.length ≤ c1) (hT : Tab w) (h : impl_DoneBy.f k l0 l1 a2 = some r) :
    Calls Tryd.prog 25 #[.slice A0 l0.length c0, .slice A1 l1.length c1, .int .i64 a2] w fun e w' => ∃ v0_ : Value, e = .returned (v0_) ∧ Kd.R (Kd.int .i64) 3 w' w.heap.size (fun _ => True) v0_ r ∧ Below w.heap.size w w' := by
  obtain rfl := Option.some.inj h
  exact DoneBy_impl A0 c0 l0 A1 c1 l1 a2 w hr0 hr1 hT
end Go.Proofs.YtlcdffhhimbbmaaDoor.PFnValidLog
