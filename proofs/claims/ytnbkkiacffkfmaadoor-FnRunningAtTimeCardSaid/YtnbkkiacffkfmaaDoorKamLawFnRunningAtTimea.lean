/- Parts of the proof, laid as one text by a program of mine. -/
import Derived.Test.YtnbkkiacffkfmaaDoorKac12
import Derived.Test.YtnbkkiacffkfmaaDoorKac16
import Derived.Test.YtnbkkiacffkfmaaDoorKac17
import Derived.Test.YtnbkkiacffkfmaaDoorKac10
import Derived.Test.YtnbkkiacffkfmaaDoorKac19
namespace Go.Proofs.YtnbkkiacffkfmaaDoor
set_option linter.unusedVariables false
set_option linter.unusedSimpArgs false
open Go.RowKit Go.Shelf Bits
open Go.Proofs.YtnbkkiacffkfmaaDoorW.PrintWords Go.Proofs.YtnbkkiacffkfmaaDoorW.PrintLast Go.Proofs.YtnbkkiacffkfmaaDoorW.PrintMore
def runSum (g : List Tk) (st : List Int) : Nat → Int
 | 0 => 0
 | j + 1 => runSum g st j + ((runS g st (j : Nat)).length : Nat)
theorem runSum_eq (g : List Tk) (st : List Int) : ∀ j, runSum g st j = sumTo (fun t => (((runS g st (t : Nat)).length : Nat) : Int)) j
 | 0 => rfl
 | j + 1 => by
  unfold runSum
  rw [runSum_eq g st j]
  rfl
theorem runSum_all {g : List Tk} {rm : List Int} {wk : Int} {st : List Int} (h : Valid g rm wk st) {m : Nat} (hm : etS g rm wk st = (m : Int)) : runSum g st m = timeS g := by
 rw [runSum_eq]
 exact run_sum h.ok (fun i hi => (h.b i hi).1) (fun i hi => by rw [← hm]; exact etS_ge h hi)
theorem runSum_bound {g : List Tk} (hok : TOk g) {st : List Int} : ∀ k : Nat, 0 ≤ runSum g st k ∧ runSum g st k ≤ 8 * k
 | 0 => by simp [runSum]
 | k + 1 => by
  have ih := runSum_bound hok (st := st) k
  have h1 : (runS g st (k : Nat)).length ≤ g.length := filter_range_le _ _
  have := hok.1
  unfold runSum
  omega
set_option maxRecDepth 1000000 in
set_option maxHeartbeats 8000000 in
theorem FnRunningAtTime_walk (A : Option Addr) (c : Nat) (l : List Int) (hb : ∀ x ∈ l, 0 ≤ x ∧ x < 256) (w : World) (hT : Tab w) (hr : (Kd.int .u8).C w A l.length l) (hc : l.length ≤ c) :
  Calls Tryd.prog 14 #[.slice A l.length c] w fun e w' => e = .returned (.bool true) ∧ Below w.heap.size w w' := by
 have HT := Lib.hid hT
 have hll := (C_len hr).2
 have HD := Lib.hid (DrawRunningAt_any A c l hb w hr hc)
 clear hb hr hc hT
 by_cases hbig : 1048576 < l.length
 ·
  have db : decide ((1048576 : Int) < (l.length : Int)) = true := decide_eq_true (by omega)
  clear hbig
  go_enter Tryd.func14, Tryd.ntmps14
  go_wp2
  go_ret
  exact ⟨rfl, Below.refl _ _⟩
 ·
  have db : decide ((1048576 : Int) < (l.length : Int)) = false := decide_eq_false (by omega)
  clear hbig
  go_enter Tryd.func14, Tryd.ntmps14
  go_upto_region 4 with (go_at_call 34; refine HD.out.mono ?_; rintro e w1 ⟨A1, c1, g, A2, c2, rm, wk, A3, c3, st, now, rfl, h1, h2, h3, hg16, hs8, hwk, hso, hnow, hB1⟩; have H1 := Lib.hid h1; have H2 := Lib.hid h2; have H3 := Lib.hid h3; have HSO := Lib.hid hso; have HB1 := Lib.hid hB1; clear h1 h2 h3 hso hB1)
  have HTW := Lib.hid (fun (W : World) (h : Below w1.heap.size w1 W) => HT.out.keep HT.out.lt (HB1.out.trans (h.mono HB1.out.size)))
  have HW := Lib.hid (Below.refl w1.heap.size w1)
  have HRA := Lib.hid (fun (W : World) (hW : Below w1.heap.size w1 W) => RunningAt_impl A1 c1 g A2 c2 rm wk A3 c3 st now W (Kd.C_below H1.out hW) (Kd.C_below H2.out hW) (Kd.C_below H3.out hW) (HTW.out W hW))
  have HSR := Lib.hid (fun (W : World) (hW : Below w1.heap.size w1 W) => sRunningAt_calls A1 c1 g A2 c2 rm wk A3 c3 st now W (Kd.C_below H1.out hW) (Kd.C_below H2.out hW) (Kd.C_below H3.out hW))
  have HVS := Lib.hid (fun (W : World) (hW : Below w1.heap.size w1 W) => ValidStarts_impl A1 c1 g A2 c2 rm wk A3 c3 st W (Kd.C_below H1.out hW) (Kd.C_below H2.out hW) (Kd.C_below H3.out hW) (HTW.out W hW))
  have HET := Lib.hid (fun (W : World) (hW : Below w1.heap.size w1 W) => EndTime_impl A1 c1 g A2 c2 rm wk A3 c3 st W (Kd.C_below H1.out hW) (Kd.C_below H2.out hW) (Kd.C_below H3.out hW) (HTW.out W hW))
  generalize ints (raS g rm wk st now) = o at HRA HSR
  cases hv : vStB g rm wk st with
  | false =>
   rw [hv] at HVS
   clear hv
   go_wp2_with (first | (go_at_call 35; refine (HRA.out _ HW.out).mono ?_; rintro e wl ⟨vO, rfl, hR, hB⟩; obtain ⟨AO, cO, rfl, hcO, hC⟩ := Kd.R_reads hR; have HW := Lib.hid (HW.out.trans (hB.mono HW.out.size)); (try (have HcO := Lib.hid (Kd.C_below HcO.out hB))); (try (have HcP := Lib.hid (Kd.C_below HcP.out hB))); (try (have HcX := Lib.hid (Kd.C_below HcX.out hB))); (try (have HcY := Lib.hid (Kd.C_below HcY.out hB))); (try (have HcZ := Lib.hid (Kd.C_below HcZ.out hB))); have HcO := Lib.hid hC; clear hR hC hB; clear HRA) | (go_at_call 36; refine (HSR.out _ HW.out).mono ?_; rintro e wl ⟨vP, rfl, hR, hB⟩; obtain ⟨AP, cP, rfl, hcP, hC⟩ := Kd.R_reads hR; have HW := Lib.hid (HW.out.trans (hB.mono HW.out.size)); (try (have HcO := Lib.hid (Kd.C_below HcO.out hB))); (try (have HcP := Lib.hid (Kd.C_below HcP.out hB))); (try (have HcX := Lib.hid (Kd.C_below HcX.out hB))); (try (have HcY := Lib.hid (Kd.C_below HcY.out hB))); (try (have HcZ := Lib.hid (Kd.C_below HcZ.out hB))); have HcP := Lib.hid hC; clear hR hC hB) | (go_at_call 32; refine (equalInts_same _ _ _ _ _ _ HcO.out HcP.out).mono ?_; rintro e wv ⟨rfl, hB⟩; have HW := Lib.hid (HW.out.trans (hB.mono HW.out.size)); (try (have HcO := Lib.hid (Kd.C_below HcO.out hB))); (try (have HcP := Lib.hid (Kd.C_below HcP.out hB))); (try (have HcX := Lib.hid (Kd.C_below HcX.out hB))); (try (have HcY := Lib.hid (Kd.C_below HcY.out hB))); (try (have HcZ := Lib.hid (Kd.C_below HcZ.out hB))); clear hB) | (go_at_call 18; refine (HVS.out _ HW.out).mono ?_; rintro e wv ⟨rfl, hB⟩; have HW := Lib.hid (HW.out.trans (hB.mono HW.out.size)); (try (have HcO := Lib.hid (Kd.C_below HcO.out hB))); (try (have HcP := Lib.hid (Kd.C_below HcP.out hB))); (try (have HcX := Lib.hid (Kd.C_below HcX.out hB))); (try (have HcY := Lib.hid (Kd.C_below HcY.out hB))); (try (have HcZ := Lib.hid (Kd.C_below HcZ.out hB))); clear hB) | (go_at_call 25; refine (HET.out _ HW.out).mono ?_; rintro e wv ⟨rfl, hB⟩; have HW := Lib.hid (HW.out.trans (hB.mono HW.out.size)); (try (have HcO := Lib.hid (Kd.C_below HcO.out hB))); (try (have HcP := Lib.hid (Kd.C_below HcP.out hB))); (try (have HcX := Lib.hid (Kd.C_below HcX.out hB))); (try (have HcY := Lib.hid (Kd.C_below HcY.out hB))); (try (have HcZ := Lib.hid (Kd.C_below HcZ.out hB))); clear hB))
   go_ret
   exact ⟨rfl, HB1.out.trans (HW.out.mono HB1.out.size)⟩
  | true =>
   rw [hv] at HVS
   have hV := vSt_valid hv
   have hok := hV.ok
   have HRS : Hid (∀ t, (ints (raS g rm wk st t)).length = (runS g st t).length) := Lib.hid (fun t => by unfold raS; rw [if_pos hv, ints_length])
   have hen := (etS_bound g rm wk st).2
   have hen0 : 0 ≤ etS g rm wk st := by rw [etS_valid hV]; exact endS_nonneg _ _ _
   have HAT := Lib.hid (fun (W : World) (hW : Below w1.heap.size w1 W) => (allTime_calls A1 c1 g hg16 (fun i => by have := hok.2.1 i; omega) W (Kd.C_below H1.out hW)).mono fun e w' h => (⟨h.1, by rw [h.2]; exact Below.refl _ _⟩ : e = .returned (.int .i64 (timeS g)) ∧ Below W.heap.size W w'))
   obtain ⟨m, hm⟩ : ∃ m : Nat, etS g rm wk st = (m : Int) := ⟨(etS g rm wk st).toNat, by omega⟩
   have HSUM : Hid (runSum g st m = timeS g) := Lib.hid (runSum_all hV hm)
   have HSB : Hid (∀ k, 0 ≤ runSum g st k ∧ runSum g st k ≤ 8 * k) := Lib.hid (runSum_bound hok)
   rw [hm] at HET hen
   clear hv hV hok hen0 hm
   go_upto_region 7 with (first | (go_at_call 35; refine (HRA.out _ HW.out).mono ?_; rintro e wl ⟨vO, rfl, hR, hB⟩; obtain ⟨AO, cO, rfl, hcO, hC⟩ := Kd.R_reads hR; have HW := Lib.hid (HW.out.trans (hB.mono HW.out.size)); (try (have HcO := Lib.hid (Kd.C_below HcO.out hB))); (try (have HcP := Lib.hid (Kd.C_below HcP.out hB))); (try (have HcX := Lib.hid (Kd.C_below HcX.out hB))); (try (have HcY := Lib.hid (Kd.C_below HcY.out hB))); (try (have HcZ := Lib.hid (Kd.C_below HcZ.out hB))); have HcO := Lib.hid hC; clear hR hC hB; clear HRA) | (go_at_call 36; refine (HSR.out _ HW.out).mono ?_; rintro e wl ⟨vP, rfl, hR, hB⟩; obtain ⟨AP, cP, rfl, hcP, hC⟩ := Kd.R_reads hR; have HW := Lib.hid (HW.out.trans (hB.mono HW.out.size)); (try (have HcO := Lib.hid (Kd.C_below HcO.out hB))); (try (have HcP := Lib.hid (Kd.C_below HcP.out hB))); (try (have HcX := Lib.hid (Kd.C_below HcX.out hB))); (try (have HcY := Lib.hid (Kd.C_below HcY.out hB))); (try (have HcZ := Lib.hid (Kd.C_below HcZ.out hB))); have HcP := Lib.hid hC; clear hR hC hB) | (go_at_call 32; refine (equalInts_same _ _ _ _ _ _ HcO.out HcP.out).mono ?_; rintro e wv ⟨rfl, hB⟩; have HW := Lib.hid (HW.out.trans (hB.mono HW.out.size)); (try (have HcO := Lib.hid (Kd.C_below HcO.out hB))); (try (have HcP := Lib.hid (Kd.C_below HcP.out hB))); (try (have HcX := Lib.hid (Kd.C_below HcX.out hB))); (try (have HcY := Lib.hid (Kd.C_below HcY.out hB))); (try (have HcZ := Lib.hid (Kd.C_below HcZ.out hB))); clear hB) | (go_at_call 18; refine (HVS.out _ HW.out).mono ?_; rintro e wv ⟨rfl, hB⟩; have HW := Lib.hid (HW.out.trans (hB.mono HW.out.size)); (try (have HcO := Lib.hid (Kd.C_below HcO.out hB))); (try (have HcP := Lib.hid (Kd.C_below HcP.out hB))); (try (have HcX := Lib.hid (Kd.C_below HcX.out hB))); (try (have HcY := Lib.hid (Kd.C_below HcY.out hB))); (try (have HcZ := Lib.hid (Kd.C_below HcZ.out hB))); clear hB) | (go_at_call 25; refine (HET.out _ HW.out).mono ?_; rintro e wv ⟨rfl, hB⟩; have HW := Lib.hid (HW.out.trans (hB.mono HW.out.size)); (try (have HcO := Lib.hid (Kd.C_below HcO.out hB))); (try (have HcP := Lib.hid (Kd.C_below HcP.out hB))); (try (have HcX := Lib.hid (Kd.C_below HcX.out hB))); (try (have HcY := Lib.hid (Kd.C_below HcY.out hB))); (try (have HcZ := Lib.hid (Kd.C_below HcZ.out hB))); clear hB))
   go_wp2
   go_loopw [9, 10] (fun n t wr => ∃ j : Nat, j ≤ m ∧ t = .int .i64 (j : Nat) ∧ n = .int .i64 (runSum g st j) ∧ Below w1.heap.size w1 wr) (fun _ t _ => m - (intOf t).toNat)
   case atStart => exact ⟨0, Nat.zero_le _, rfl, rfl, HW.out⟩
   case round =>
    clear HW
    obtain ⟨j, hj, rfl, rfl, hB⟩ := hrel
    have HW := Lib.hid hB
    by_cases hjl : j < m
    ·
     have hjj : decide ((j : Int) < (m : Int)) = true := decide_eq_true (by omega)
     have hjj' : decide (j < m) = true := decide_eq_true hjl
     have HS : Hid (runSum g st (j + 1) = runSum g st j + ((runS g st (j : Nat)).length : Nat)) := Lib.hid rfl
     have hsb := HSB.out j
     have hsb2 := HSB.out (j + 1)
     rw [HS.out] at hsb2
     have HRJ := Lib.hid (fun (W : World) (hW : Below w1.heap.size w1 W) => RunningAt_impl A1 c1 g A2 c2 rm wk A3 c3 st (j : Nat) W (Kd.C_below H1.out hW) (Kd.C_below H2.out hW) (Kd.C_below H3.out hW) (HTW.out W hW))
     have HRE := HRS.out (j : Nat)
     rw [← HRE] at HS hsb2
     generalize ints (raS g rm wk st (j : Nat)) = x at HRJ HS hsb2
     generalize runSum g st j = sj at HS hsb hsb2
     have hwr : IntKind.i64.wrap (sj + (x.length : Int)) = sj + (x.length : Int) := IntWalk.i64_in _ (by omega)
     clear HRE hB
     go_wp2_with (first | (go_at_call 25; refine (HET.out _ HW.out).mono ?_; rintro e wv ⟨rfl, hB⟩; have HW := Lib.hid (HW.out.trans (hB.mono HW.out.size)); clear hB) | (go_at_call 35; refine (HRJ.out _ HW.out).mono ?_; rintro e wl ⟨vX, rfl, hR, hB⟩; obtain ⟨AX, cX, rfl, hcX, hC⟩ := Kd.R_reads hR; have HW := Lib.hid (HW.out.trans (hB.mono HW.out.size)); have HcX := Lib.hid hC; clear hR hC hB))
     clear hwr
     go_roundw
     case rel => exact ⟨j + 1, by omega, by go_num, by rw [HS.out], HW.out⟩
     case measure => simp [intOf]; omega
    ·
     obtain rfl : j = m := by omega
     have hjj : decide ((j : Int) < (j : Int)) = false := decide_eq_false (by omega)
     rw [HSUM.out]
     clear hB
     go_wp2_with (first | (go_at_call 25; refine (HET.out _ HW.out).mono ?_; rintro e wv ⟨rfl, hB⟩; have HW := Lib.hid (HW.out.trans (hB.mono HW.out.size)); clear hB) | (go_at_call 37; refine (HAT.out _ HW.out).mono ?_; rintro e wv ⟨rfl, hB⟩; have HW := Lib.hid (HW.out.trans (hB.mono HW.out.size)); clear hB))
     go_ret
     exact ⟨rfl, HB1.out.trans (HW.out.mono HB1.out.size)⟩
end Go.Proofs.YtnbkkiacffkfmaaDoor
