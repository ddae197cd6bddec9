/- impl.ValidLog and spec.ValidLog, walked by hand, in the form that the printed law calls them. -/
import Derived.Test.YtpmfghbjkampkaaDoorTot5
import Derived.Test.YtpmfghbjkampkaaDoorLaw4
import Derived.Test.YtpmfghbjkampkaaDoorBusy
import Derived.Test.YtpmfghbjkampkaaDoorDoneBy
import Derived.Test.YtpmfghbjkampkaaDoorVDone
namespace Go.Proofs.YtpmfghbjkampkaaDoor.PFnValidLog
set_option linter.unusedVariables false
set_option linter.unusedSimpArgs false
open Go.RowKit Go.Shelf
open Go.Proofs.YtpmfghbjkampkaaDoorW.PrintWords Go.Proofs.YtpmfghbjkampkaaDoorW.PrintLast Go.Proofs.YtpmfghbjkampkaaDoorW.PrintMore
def impl_ValidLog.f (k : Nat) (l0 : List S41) (l1 : List S30) : Option Bool := some (replayB l0 l1).isSome
theorem impl_ValidLog.calls (k : Nat) (A0 : Option Addr) (c0 : Nat) (l0 : List S41) (A1 : Option Addr) (c1 : Nat) (l1 : List S30) (r : Bool) (w : World) (hr0 : Kd.C k41 w A0 l0.length l0) (hc0 : l0.length ≤ c0) (hr1 : Kd.C k30 w A1 l1.length l1) (hc1 : l1.length ≤ c1) (hT : Tab w) (h : impl_ValidLog.f k l0 l1 = some r) :
  Calls Tryd.prog 27 #[.slice A0 l0.length c0, .slice A1 l1.length c1] w fun e w' => e = .returned (.bool r) ∧ Below w.heap.size w w' := by
 obtain rfl := Option.some.inj h
 exact ValidLog_impl A0 c0 l0 A1 c1 l1 w hr0 hr1 hT
end Go.Proofs.YtpmfghbjkampkaaDoor.PFnValidLog
namespace Go.Proofs.YtpmfghbjkampkaaDoor.PFnValidLog
set_option linter.unusedVariables false
set_option linter.unusedSimpArgs false
open Go.RowKit Go.Shelf
open Go.Proofs.YtpmfghbjkampkaaDoorW.PrintWords Go.Proofs.YtpmfghbjkampkaaDoorW.PrintLast Go.Proofs.YtpmfghbjkampkaaDoorW.PrintMore
def spec_validLog.f (k : Nat) (l0 : List S41) (l1 : List S30) : Option Bool := some (validLogB l0 l1)
theorem spec_validLog.calls (k : Nat) (A0 : Option Addr) (c0 : Nat) (l0 : List S41) (A1 : Option Addr) (c1 : Nat) (l1 : List S30) (r : Bool) (w : World) (hr0 : Kd.C k41 w A0 l0.length l0) (hc0 : l0.length ≤ c0) (hr1 : Kd.C k30 w A1 l1.length l1) (hc1 : l1.length ≤ c1) (h : spec_validLog.f k l0 l1 = some r) :
  Calls Tryd.prog 62 #[.slice A0 l0.length c0, .slice A1 l1.length c1] w fun e w' => e = .returned (.bool r) ∧ Below w.heap.size w w' := by
 obtain rfl := Option.some.inj h
 exact validLog_calls A0 c0 l0 A1 c1 l1 w hr0 hr1
end Go.Proofs.YtpmfghbjkampkaaDoor.PFnValidLog
namespace Go.Proofs.YtpmfghbjkampkaaDoor.PFnValidLog
set_option linter.unusedVariables false
set_option linter.unusedSimpArgs false
open Go.RowKit Go.Shelf
open Go.Proofs.YtpmfghbjkampkaaDoorW.PrintWords Go.Proofs.YtpmfghbjkampkaaDoorW.PrintLast Go.Proofs.YtpmfghbjkampkaaDoorW.PrintMore
def impl_DoneBy.f (k : Nat) (l0 : List S41) (l1 : List S30) (a2 : Int) : Option (List Int) := some (doneB l0 l1 a2)
theorem impl_DoneBy.calls (k : Nat) (A0 : Option Addr) (c0 : Nat) (l0 : List S41) (A1 : Option Addr) (c1 : Nat) (l1 : List S30) (a2 : Int) (r : List Int) (w : World) (hr0 : Kd.C k41 w A0 l0.length l0) (hc0 : l0.length ≤ c0) (hr1 : Kd.C k30 w A1 l1.length l1) (hc1 : l1.length ≤ c1) (hT : Tab w) (h : impl_DoneBy.f k l0 l1 a2 = some r) :
  Calls Tryd.prog 24 #[.slice A0 l0.length c0, .slice A1 l1.length c1, .int .i64 a2] w fun e w' => ∃ v0_ : Value, e = .returned (v0_) ∧ Kd.R (Kd.int .i64) 3 w' w.heap.size (fun _ => True) v0_ r ∧ Below w.heap.size w w' := by
 obtain rfl := Option.some.inj h
 exact DoneBy_impl A0 c0 l0 A1 c1 l1 a2 w hr0 hr1 hT
end Go.Proofs.YtpmfghbjkampkaaDoor.PFnValidLog
namespace Go.Proofs.YtpmfghbjkampkaaDoor
set_option linter.unusedVariables false
set_option linter.unusedSimpArgs false
open Go.RowKit Go.Shelf Bits
open Go.Proofs.YtpmfghbjkampkaaDoorW.PrintWords Go.Proofs.YtpmfghbjkampkaaDoorW.PrintLast Go.Proofs.YtpmfghbjkampkaaDoorW.PrintMore
attribute [local go_sem] Oper.semAt_some
set_option maxRecDepth 100000 in
theorem ValidDone_impl (A : Option Addr) (c : Nat) (g : List Tk) (A' : Option Addr) (c' : Nat) (l : List Int) (w : World) (hr : kTk.C w A g.length g) (hr' : (Kd.int .i64).C w A' l.length l) (hT : Tab w) :
  Calls Tryd.prog 29 #[.slice A g.length c, .slice A' l.length c'] w fun e W' => e = .returned (.bool (doneN g l).isSome) ∧ Below w.heap.size w W' := by
 cases hd : doneN g l with
 | none =>
  have HP := Lib.hid (doneIn_no A c g A' c' l w hr hr' hT hd)
  clear hr hr' hT hd
  go_enter Tryd.func29, Tryd.ntmps29
  go_wp2_with (go_at_call 63; refine HP.out.mono ?_; rintro e w1 ⟨rfl, hB1⟩)
  go_ret
  exact ⟨rfl, hB1⟩
 | some p =>
  obtain ⟨ns, s⟩ := p
  have HP := Lib.hid (doneIn_yes A c g A' c' l w hr hr' hT ns s hd)
  clear hr hr' hT hd
  go_enter Tryd.func29, Tryd.ntmps29
  go_wp2_with (go_at_call 63; refine HP.out.mono ?_; rintro e w1 ⟨C, rfl, hG, hB1⟩; clear hG)
  go_ret
  exact ⟨rfl, hB1⟩
end Go.Proofs.YtpmfghbjkampkaaDoor
namespace Go.Proofs.YtpmfghbjkampkaaDoor.PFnValidLog
set_option linter.unusedVariables false
set_option linter.unusedSimpArgs false
open Go.RowKit Go.Shelf
open Go.Proofs.YtpmfghbjkampkaaDoorW.PrintWords Go.Proofs.YtpmfghbjkampkaaDoorW.PrintLast Go.Proofs.YtpmfghbjkampkaaDoorW.PrintMore
def impl_ValidDone.f (k : Nat) (l0 : List S41) (l1 : List Int) : Option Bool := some (doneN l0 l1).isSome
theorem impl_ValidDone.calls (k : Nat) (A0 : Option Addr) (c0 : Nat) (l0 : List S41) (A1 : Option Addr) (c1 : Nat) (l1 : List Int) (r : Bool) (w : World) (hr0 : Kd.C k41 w A0 l0.length l0) (hc0 : l0.length ≤ c0) (hr1 : Kd.C (Kd.int .i64) w A1 l1.length l1) (hc1 : l1.length ≤ c1) (hT : Tab w) (h : impl_ValidDone.f k l0 l1 = some r) :
  Calls Tryd.prog 29 #[.slice A0 l0.length c0, .slice A1 l1.length c1] w fun e w' => e = .returned (.bool r) ∧ Below w.heap.size w w' := by
 obtain rfl := Option.some.inj h
 exact ValidDone_impl A0 c0 l0 A1 c1 l1 w hr0 hr1 hT
end Go.Proofs.YtpmfghbjkampkaaDoor.PFnValidLog
