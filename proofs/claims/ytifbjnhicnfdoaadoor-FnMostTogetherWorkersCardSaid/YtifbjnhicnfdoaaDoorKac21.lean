/- Parts of the proof, laid as one text by a program of mine. -/
import Derived.Test.YtifbjnhicnfdoaaDoorKac20
import Derived.Test.YtifbjnhicnfdoaaDoorKac13
namespace Go.Proofs.YtifbjnhicnfdoaaDoor
set_option linter.unusedVariables false
set_option linter.unusedSimpArgs false
open Go.RowKit Go.Shelf Bits
open Go.Proofs.YtifbjnhicnfdoaaDoorW.PrintWords Go.Proofs.YtifbjnhicnfdoaaDoorW.PrintLast Go.Proofs.YtifbjnhicnfdoaaDoorW.PrintMore
attribute [local go_sem] Oper.semAt_some
set_option maxRecDepth 100000 in
theorem sRunningAt_calls (A : Option Addr) (c : Nat) (g : List Tk) (A1 : Option Addr) (c1 : Nat) (rm : List Int) (wk : Int) (A2 : Option Addr) (c2 : Nat) (st : List Int) (now : Int) (w : World) (hr : kTk.C w A g.length g) (hr1 : (Kd.int .i64).C w A1 rm.length rm) (hr2 : (Kd.int .i64).C w A2 st.length st) :
  Calls Tryd.prog 33 #[.slice A g.length c, .slice A1 rm.length c1, .int .i64 wk, .slice A2 st.length c2, .int .i64 now] w fun e w' => ∃ v, e = .returned v ∧ Kd.R (Kd.int .i64) 3 w' w.heap.size (fun _ => True) v (ints (raS g rm wk st now)) ∧ Below w.heap.size w w' := by
 cases h : vStB g rm wk st with
 | true =>
  have HF : Hid (raS g rm wk st now = runS g st now) := Lib.hid (by unfold raS; rw [if_pos h])
  have HP := Lib.hid (validStarts_is true A c g A1 c1 rm wk A2 c2 st (Lib.hid h) w hr hr1 hr2)
  have HV := Lib.hid (vSt_valid h)
  have HR := Lib.hid hr
  have HR2 := Lib.hid hr2
  clear hr hr1 hr2 h
  go_enter Tryd.func33, Tryd.ntmps33
  go_wp2_with (first | (go_at_call 48; refine HP.out.mono ?_; rintro e w1 ⟨rfl, hB1⟩; have HB1 := Lib.hid hB1; clear hB1) | (go_at_call 61; refine (runningAt_calls A c g A2 c2 st now HV.out.ok HV.out.sok HV.out.len _ (Kd.C_below HR.out HB1.out) (Kd.C_below HR2.out HB1.out)).mono ?_; rintro e w2 ⟨v, rfl, hR, hB2⟩))
  go_ret
  have hz := HB1.out.size
  exact ⟨_, rfl, by rw [HF.out]; exact Kd.R_lower hR hz, HB1.out.trans (hB2.mono hz)⟩
 | false =>
  have HF : Hid (raS g rm wk st now = []) := Lib.hid (by unfold raS; rw [h]; rfl)
  have HP := Lib.hid (validStarts_is false A c g A1 c1 rm wk A2 c2 st (Lib.hid h) w hr hr1 hr2)
  clear hr hr1 hr2 h
  go_enter Tryd.func33, Tryd.ntmps33
  go_wp2_with (go_at_call 48; refine HP.out.mono ?_; rintro e w1 ⟨rfl, hB1⟩)
  go_ret
  exact ⟨_, rfl, by rw [HF.out]; exact R_nilJ _ _, hB1⟩
theorem map_snoc_range (F : Nat → Int) (j : Nat) : (List.range (j + 1)).map F = (List.range j).map F ++ [F j] := by
 rw [List.range_succ, List.map_append]
 rfl
end Go.Proofs.YtifbjnhicnfdoaaDoor

namespace Go.Proofs.YtifbjnhicnfdoaaDoor
set_option linter.unusedVariables false
set_option linter.unusedSimpArgs false
open Go.RowKit Go.Shelf Bits
open Go.Proofs.YtifbjnhicnfdoaaDoorW.PrintWords Go.Proofs.YtifbjnhicnfdoaaDoorW.PrintLast Go.Proofs.YtifbjnhicnfdoaaDoorW.PrintMore
theorem C_nilI (w : World) : (Kd.int .i64).C w none 0 [] := ⟨rfl, by simp, fun hn => absurd hn (by simp)⟩
set_option maxRecDepth 100000 in
theorem allTime_calls (A : Option Addr) (c : Nat) (g : List Tk) (h16 : g.length ≤ 16) (ht : ∀ i, 0 ≤ (rdTk g i).f0 ∧ (rdTk g i).f0 ≤ 1000) (w : World) (hr : kTk.C w A g.length g) :
  Calls Tryd.prog 39 #[.slice A g.length c] w fun e w' => e = .returned (.int .i64 (timeS g)) ∧ w' = w := by
 have HR := Lib.hid hr
 have HT := Lib.hid ht
 clear hr ht
 go_enter Tryd.func39, Tryd.ntmps39
 go_wp2
 go_loop [3, 4] (fun n i => ∃ (j : Nat), j ≤ g.length ∧ i = .int .i64 j ∧ n = .int .i64 (sumTo (fun i => (rdTk g i).f0) j)) (fun _ i => g.length - (intOf i).toNat)
 case atStart => exact ⟨0, Nat.zero_le _, rfl, rfl⟩
 case round =>
  obtain ⟨j, hj, rfl, rfl⟩ := hrel
  by_cases hjl : j < g.length
  ·
   obtain ⟨ad, A1, c1, rfl, hc0, _⟩ := at_Tk HR.out j hjl
   have hjj : decide ((j : Int) < (g.length : Int)) = true := decide_eq_true (by omega)
   have hji : (j : Int) < (g.length : Int) := by omega
   have HE : Hid (sumTo (fun i => (rdTk g i).f0) (j + 1) = sumTo (fun i => (rdTk g i).f0) j + (rdTk g j).f0) := Lib.hid rfl
   have hb := sumTo_bound (f := fun i => (rdTk g i).f0) (a := 0) (b := 1000) j (fun i _ => HT.out i)
   have htj := HT.out j
   generalize sumTo (fun i => (rdTk g i).f0) j = s at HE hb
   generalize (rdTk g j).f0 = tm at hc0 htj HE
   have hwr : IntKind.i64.wrap (s + tm) = s + tm := IntWalk.i64_in _ (by omega)
   go_wp2
   clear hwr
   go_round
   case rel => exact ⟨j + 1, by omega, by go_num, by rw [HE.out]⟩
   case measure => simp [intOf]; omega
  ·
   obtain rfl : j = g.length := by omega
   have hjj : decide ((g.length : Int) < (g.length : Int)) = false := decide_eq_false (by omega)
   go_wp2
   go_ret
   exact ⟨rfl, rfl⟩
end Go.Proofs.YtifbjnhicnfdoaaDoor
