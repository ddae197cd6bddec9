/- The reference's small functions, walked by hand (Spec1, Spec3), in the form that the printed draws call them. -/
import Derived.Test.YtpmfghbjkampkaaDoorQ0
import Derived.Test.YtpmfghbjkampkaaDoorSpec3
namespace Go.Proofs.YtpmfghbjkampkaaDoor.PFnValidLog
set_option linter.unusedVariables false
set_option linter.unusedSimpArgs false
open Go.RowKit Go.Shelf
open Go.Proofs.YtpmfghbjkampkaaDoorW.PrintWords Go.Proofs.YtpmfghbjkampkaaDoorW.PrintLast Go.Proofs.YtpmfghbjkampkaaDoorW.PrintMore
def spec_inRange.f (a0 a1 a2 : Int) : Option Bool := some (inB a0 a1 a2)
theorem spec_inRange.calls (a0 a1 a2 : Int) (r : Bool) (w : World) (h : spec_inRange.f a0 a1 a2 = some r) :
  Calls Tryd.prog 42 #[.int .i64 a0, .int .i64 a1, .int .i64 a2] w fun e w' => e = .returned (.bool r) ∧ Drawn0 w w' := by
 obtain rfl := Option.some.inj h
 exact (inRange_calls a0 a1 a2 w).mono fun e w' h => ⟨h.1, h.2 ▸ Drawn0.refl w⟩
def spec_allIn.f (k : Nat) (l0 : List Int) (a1 a2 : Int) : Option Bool := some (allInB l0 a1 a2)
theorem spec_allIn.calls (k : Nat) (A0 : Option Addr) (c0 : Nat) (l0 : List Int) (a1 a2 : Int) (r : Bool) (w : World) (hr0 : Kd.C (Kd.int .i64) w A0 l0.length l0) (hc0 : l0.length ≤ c0) (h : spec_allIn.f k l0 a1 a2 = some r) :
  Calls Tryd.prog 85 #[.slice A0 l0.length c0, .int .i64 a1, .int .i64 a2] w fun e w' => e = .returned (.bool r) ∧ Drawn0 w w' := by
 obtain rfl := Option.some.inj h
 exact (allIn_calls A0 c0 l0 a1 a2 w hr0).mono fun e w' h => ⟨h.1, h.2 ▸ Drawn0.refl w⟩
def spec_isIn.f (k : Nat) (l0 : List Int) (a1 : Int) : Option Bool := some (decide (a1 ∈ l0))
theorem spec_isIn.calls (k : Nat) (A0 : Option Addr) (c0 : Nat) (l0 : List Int) (a1 : Int) (r : Bool) (w : World) (hr0 : Kd.C (Kd.int .i64) w A0 l0.length l0) (hc0 : l0.length ≤ c0) (h : spec_isIn.f k l0 a1 = some r) :
  Calls Tryd.prog 68 #[.slice A0 l0.length c0, .int .i64 a1] w fun e w' => e = .returned (.bool r) ∧ Drawn0 w w' := by
 obtain rfl := Option.some.inj h
 exact (isIn_calls A0 c0 l0 a1 w hr0).mono fun e w' h => ⟨h.1, h.2 ▸ Drawn0.refl w⟩
def spec_allDone.f (k : Nat) (l0 l1 : List Int) : Option Bool := some (allDoneB l0 l1)
theorem spec_allDone.calls (k : Nat) (A0 : Option Addr) (c0 : Nat) (l0 : List Int) (A1 : Option Addr) (c1 : Nat) (l1 : List Int) (r : Bool) (w : World) (hr0 : Kd.C (Kd.int .i64) w A0 l0.length l0) (hc0 : l0.length ≤ c0) (hr1 : Kd.C (Kd.int .i64) w A1 l1.length l1) (hc1 : l1.length ≤ c1) (h : spec_allDone.f k l0 l1 = some r) :
  Calls Tryd.prog 69 #[.slice A0 l0.length c0, .slice A1 l1.length c1] w fun e w' => e = .returned (.bool r) ∧ Drawn0 w w' := by
 obtain rfl := Option.some.inj h
 exact (allDone_calls A0 c0 l0 A1 c1 l1 w hr0 hr1).mono fun e w' h => ⟨h.1, h.2 ▸ Drawn0.refl w⟩
def spec_topOrder.f (k : Nat) (l0 : List S41) : Option (List Int) := if l0.length ≤ 8 then some (ints (topL l0)) else none
theorem spec_topOrder.calls (k : Nat) (A0 : Option Addr) (c0 : Nat) (l0 : List S41) (r : List Int) (w : World) (hr0 : Kd.C k41 w A0 l0.length l0) (hc0 : l0.length ≤ c0) (h : spec_topOrder.f k l0 = some r) :
  Calls Tryd.prog 84 #[.slice A0 l0.length c0] w fun e w' => ∃ v0_ : Value, e = .returned (v0_) ∧ Kd.R (Kd.int .i64) 3 w' w.heap.size (fun _ => True) v0_ r ∧ Below w.heap.size w w' := by
 unfold spec_topOrder.f at h
 split at h
 ·
  rename_i hl
  obtain rfl := Option.some.inj h
  exact topOrder_calls A0 c0 l0 hl w hr0
 ·
  cases h
def spec_validGraph.f (k : Nat) (l0 : List S41) : Option Bool := some (specValid l0)
theorem spec_validGraph.calls (k : Nat) (A0 : Option Addr) (c0 : Nat) (l0 : List S41) (r : Bool) (w : World) (hr0 : Kd.C k41 w A0 l0.length l0) (hc0 : l0.length ≤ c0) (h : spec_validGraph.f k l0 = some r) :
  Calls Tryd.prog 40 #[.slice A0 l0.length c0] w fun e w' => e = .returned (.bool r) ∧ Below w.heap.size w w' := by
 obtain rfl := Option.some.inj h
 exact validGraph_calls A0 c0 l0 w hr0
end Go.Proofs.YtpmfghbjkampkaaDoor.PFnValidLog
