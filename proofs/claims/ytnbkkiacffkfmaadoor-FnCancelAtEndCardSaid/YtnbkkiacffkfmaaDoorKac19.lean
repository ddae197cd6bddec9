/- Parts of the proof, laid as one text by a program of mine. -/
import Derived.Test.YtnbkkiacffkfmaaDoorKac10
namespace Go.Proofs.YtnbkkiacffkfmaaDoor
set_option linter.unusedVariables false
set_option linter.unusedSimpArgs false
open Go.RowKit Go.Shelf Bits
open Go.Proofs.YtnbkkiacffkfmaaDoorW.PrintWords Go.Proofs.YtnbkkiacffkfmaaDoorW.PrintLast Go.Proofs.YtnbkkiacffkfmaaDoorW.PrintMore
theorem C_nilI (w : World) : (Kd.int .i64).C w none 0 [] := ⟨rfl, by simp, fun hn => absurd hn (by simp)⟩
theorem ValidGraph_is (b : Bool) (A : Option Addr) (c : Nat) (g : List Tk) (h : Hid (specValid g = b)) (w : World) (hr : kTk.C w A g.length g) (hT : Tab w) :
  Calls Tryd.prog 20 #[.slice A g.length c] w fun e w' => e = .returned (.bool b) ∧ Below w.heap.size w w' := by
 have hv := h.out
 rw [specValid_eq] at hv
 cases hg : graphN g with
 | none =>
  rw [hg] at hv
  obtain rfl : b = false := hv.symm
  have HP := Lib.hid (graphOf_no A c g w hr hg)
  clear hr hT hg h hv
  go_enter Tryd.func20, Tryd.ntmps20
  go_wp2_with (go_at_call 46; refine HP.out.mono ?_; rintro e w1 ⟨rfl, hB1⟩)
  go_ret
  exact ⟨rfl, hB1⟩
 | some ns =>
  rw [hg] at hv
  obtain rfl : b = true := hv.symm
  have HP := Lib.hid (graphOf_yes A c g ns w hr hT hg)
  clear hr hT hg h hv
  go_enter Tryd.func20, Tryd.ntmps20
  go_wp2_with (go_at_call 46; refine HP.out.mono ?_; rintro e w1 ⟨C, rfl, hG, hB1⟩)
  go_ret
  exact ⟨rfl, hB1⟩
set_option maxRecDepth 100000 in
theorem allTime_calls (A : Option Addr) (c : Nat) (g : List Tk) (h16 : g.length ≤ 16) (ht : ∀ i, 0 ≤ (rdTk g i).f0 ∧ (rdTk g i).f0 ≤ 1000) (w : World) (hr : kTk.C w A g.length g) :
  Calls Tryd.prog 37 #[.slice A g.length c] w fun e w' => e = .returned (.int .i64 (timeS g)) ∧ w' = w := by
 have HR := Lib.hid hr
 have HT := Lib.hid ht
 clear hr ht
 go_enter Tryd.func37, Tryd.ntmps37
 go_wp2
 go_loop [3, 4] (fun n i => ∃ (j : Nat), j ≤ g.length ∧ i = .int .i64 j ∧ n = .int .i64 (sumTo (fun i => (rdTk g i).f0) j)) (fun _ i => g.length - (intOf i).toNat)
 case atStart => exact ⟨0, Nat.zero_le _, rfl, rfl⟩
 case round =>
  obtain ⟨j, hj, rfl, rfl⟩ := hrel
  by_cases hjl : j < g.length
  ·
   obtain ⟨ad, A1, c1, rfl, hc0, _⟩ := at_Tk HR.out j hjl
   have hjj : decide ((j : Int) < (g.length : Int)) = true := decide_eq_true (by omega)
   have hji : (j : Int) < (g.length : Int) := by omega
   have HE : Hid (sumTo (fun i => (rdTk g i).f0) (j + 1) = sumTo (fun i => (rdTk g i).f0) j + (rdTk g j).f0) := Lib.hid rfl
   have hb := sumTo_bound (f := fun i => (rdTk g i).f0) (a := 0) (b := 1000) j (fun i _ => HT.out i)
   have htj := HT.out j
   generalize sumTo (fun i => (rdTk g i).f0) j = s at HE hb
   generalize (rdTk g j).f0 = tm at hc0 htj HE
   have hwr : IntKind.i64.wrap (s + tm) = s + tm := IntWalk.i64_in _ (by omega)
   go_wp2
   clear hwr
   go_round
   case rel => exact ⟨j + 1, by omega, by go_num, by rw [HE.out]⟩
   case measure => simp [intOf]; omega
  ·
   obtain rfl : j = g.length := by omega
   have hjj : decide ((g.length : Int) < (g.length : Int)) = false := decide_eq_false (by omega)
   go_wp2
   go_ret
   exact ⟨rfl, rfl⟩
end Go.Proofs.YtnbkkiacffkfmaaDoor
