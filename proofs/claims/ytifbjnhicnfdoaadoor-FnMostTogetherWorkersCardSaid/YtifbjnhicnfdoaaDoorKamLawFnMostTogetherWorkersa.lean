/- Parts of the proof, laid as one text by a program of mine. -/
import Derived.Test.YtifbjnhicnfdoaaDoorKac24
import Derived.Test.YtifbjnhicnfdoaaDoorKac25
import Derived.Test.YtifbjnhicnfdoaaDoorKac23
import Derived.Test.YtifbjnhicnfdoaaDoorKac13
import Derived.Test.YtifbjnhicnfdoaaDoorKac12
namespace Go.Proofs.YtifbjnhicnfdoaaDoor
set_option linter.unusedVariables false
set_option linter.unusedSimpArgs false
open Go.RowKit Go.Shelf Bits
open Go.Proofs.YtifbjnhicnfdoaaDoorW.PrintWords Go.Proofs.YtifbjnhicnfdoaaDoorW.PrintLast Go.Proofs.YtifbjnhicnfdoaaDoorW.PrintMore
set_option maxRecDepth 1000000 in
set_option maxHeartbeats 8000000 in
theorem FnMostTogetherWorkers_walk (A : Option Addr) (c : Nat) (l : List Int) (hb : ∀ x ∈ l, 0 ≤ x ∧ x < 256) (w : World) (hT : Tab w) (hr : (Kd.int .u8).C w A l.length l) (hc : l.length ≤ c) :
  Calls Tryd.prog 8 #[.slice A l.length c] w fun e w' => e = .returned (.bool true) ∧ Below w.heap.size w w' := by
 have HT := Lib.hid hT
 have hll := (C_len hr).2
 have HD := Lib.hid (DrawLogOf_any A c l hb w hr hc)
 clear hb hr hc hT
 by_cases hbig : 1048576 < l.length
 ·
  have db : decide ((1048576 : Int) < (l.length : Int)) = true := decide_eq_true (by omega)
  clear hbig
  go_enter Tryd.func8, Tryd.ntmps8
  go_wp2
  go_ret
  exact ⟨rfl, Below.refl _ _⟩
 ·
  have db : decide ((1048576 : Int) < (l.length : Int)) = false := decide_eq_false (by omega)
  clear hbig
  go_enter Tryd.func8, Tryd.ntmps8
  go_upto_region 4 with (go_at_call 16; refine HD.out.mono ?_; rintro e w1 ⟨rb, A1, c1, g, A2, c2, rm, wk, A3, c3, st, rfl, hG, hR, hS, hrb, hg16, hs8, hwk, hso, hB1⟩; have H1 := Lib.hid hG.now; have H2 := Lib.hid hR.now; have H3 := Lib.hid hS.now; have HSO := Lib.hid hso; have HB1 := Lib.hid hB1; clear hG hR hS hrb hso hB1)
  have HTW := Lib.hid (fun (W : World) (h : Below w1.heap.size w1 W) => HT.out.keep HT.out.lt (HB1.out.trans (h.mono HB1.out.size)))
  have HW := Lib.hid (Below.refl w1.heap.size w1)
  have HLG := Lib.hid (fun (W : World) (hW : Below w1.heap.size w1 W) => LogOf_impl A1 c1 g A2 c2 rm wk A3 c3 st W (Kd.C_below H1.out hW) (Kd.C_below H2.out hW) (Kd.C_below H3.out hW) (HTW.out W hW))
  have HSG := Lib.hid (fun (W : World) (hW : Below w1.heap.size w1 W) => sLogOf_calls A1 c1 g A2 c2 rm wk A3 c3 st W (Kd.C_below H1.out hW) (Kd.C_below H2.out hW) (Kd.C_below H3.out hW))
  have HVL := Lib.hid (fun (AO : Option Addr) (cO : Nat) (W : World) (hW : Below w1.heap.size w1 W) hO => ValidLog_impl A1 c1 g AO cO (lgS g rm wk st) W (Kd.C_below H1.out hW) hO (HTW.out W hW))
  by_cases h0 : (lgS g rm wk st).length = 0
  ·
   have dl : (((lgS g rm wk st).length : Int) == 0) = true := by rw [h0]; rfl
   clear h0
   clear HVL
   generalize lgS g rm wk st = o at HLG HSG dl
   go_wp2_with (first | (go_at_call 17; refine (HLG.out _ HW.out).mono ?_; rintro e wl ⟨vO, rfl, hR, hB⟩; obtain ⟨AO, cO, rfl, hcO, hC⟩ := Kd.R_reads hR; have HW := Lib.hid (HW.out.trans (hB.mono HW.out.size)); (try (have HcO := Lib.hid (Kd.C_below HcO.out hB))); (try (have HcP := Lib.hid (Kd.C_below HcP.out hB))); have HcO := Lib.hid hC; clear hR hC hB; clear HLG) | (go_at_call 19; refine (HSG.out _ HW.out).mono ?_; rintro e wl ⟨vP, rfl, hR, hB⟩; obtain ⟨AP, cP, rfl, hcP, hC⟩ := Kd.R_reads hR; have HW := Lib.hid (HW.out.trans (hB.mono HW.out.size)); (try (have HcO := Lib.hid (Kd.C_below HcO.out hB))); (try (have HcP := Lib.hid (Kd.C_below HcP.out hB))); have HcP := Lib.hid hC; clear hR hC hB) | (go_at_call 18; refine (equalEvents_same _ _ _ _ _ _ HcO.out HcP.out).mono ?_; rintro e wv ⟨rfl, hB⟩; have HW := Lib.hid (HW.out.trans (hB.mono HW.out.size)); (try (have HcO := Lib.hid (Kd.C_below HcO.out hB))); (try (have HcP := Lib.hid (Kd.C_below HcP.out hB))); clear hB))
   go_ret
   exact ⟨rfl, HB1.out.trans (HW.out.mono HB1.out.size)⟩
  ·
   have dl : (((lgS g rm wk st).length : Int) == 0) = false := by rw [beq_eq_false_iff_ne]; omega
   obtain ⟨hV, hlen⟩ := lg_yes h0
   have HV := Lib.hid hV
   by_cases hy : (replayB g (lgS g rm wk st)).isSome = true
   ·
    have f1 := lg_most hV hy
    have f2 := mxR_workers hV
    have HMT := Lib.hid (fun (AO : Option Addr) (cO : Nat) (W : World) (hW : Below w1.heap.size w1 W) hO => MostTogether_impl A1 c1 g AO cO (lgS g rm wk st) W (Kd.C_below H1.out hW) hO (HTW.out W hW))
    rw [f1] at HMT
    have HRA := Lib.hid (fun (t : Int) (W : World) (hW : Below w1.heap.size w1 W) => RunningAt_impl A1 c1 g A2 c2 rm wk A3 c3 st t W (Kd.C_below H1.out hW) (Kd.C_below H2.out hW) (Kd.C_below H3.out hW) (HTW.out W hW))
    have HRS : Hid (∀ t, (ints (raS g rm wk st t)).length = (runS g st t).length) := Lib.hid (fun t => by unfold raS; rw [if_pos (valid_vSt hV), ints_length])
    have HLE : Hid (st.length = g.length) := Lib.hid hV.len
    have HMB : Hid (∀ j, 0 ≤ mxR g st j ∧ mxR g st j ≤ 8) := Lib.hid (fun j => ⟨mxR_nonneg _ _ _, mxR_le (by omega) _ (fun i _ => by
     have h1 : (runS g st (st.getD i 0)).length ≤ g.length := filter_range_le _ _
     have := hV.ok.1
     omega)⟩)
    have d2 : decide (mxR g st g.length ≤ wk) = true := decide_eq_true f2
    rw [hy] at HVL
    clear h0 hV hlen hy f1 f2
    generalize lgS g rm wk st = o at HLG HSG dl HVL HMT
    go_upto_region 7 with (first | (go_at_call 17; refine (HLG.out _ HW.out).mono ?_; rintro e wl ⟨vO, rfl, hR, hB⟩; obtain ⟨AO, cO, rfl, hcO, hC⟩ := Kd.R_reads hR; have HW := Lib.hid (HW.out.trans (hB.mono HW.out.size)); (try (have HcO := Lib.hid (Kd.C_below HcO.out hB))); (try (have HcP := Lib.hid (Kd.C_below HcP.out hB))); have HcO := Lib.hid hC; clear hR hC hB; clear HLG) | (go_at_call 19; refine (HSG.out _ HW.out).mono ?_; rintro e wl ⟨vP, rfl, hR, hB⟩; obtain ⟨AP, cP, rfl, hcP, hC⟩ := Kd.R_reads hR; have HW := Lib.hid (HW.out.trans (hB.mono HW.out.size)); (try (have HcO := Lib.hid (Kd.C_below HcO.out hB))); (try (have HcP := Lib.hid (Kd.C_below HcP.out hB))); have HcP := Lib.hid hC; clear hR hC hB) | (go_at_call 18; refine (equalEvents_same _ _ _ _ _ _ HcO.out HcP.out).mono ?_; rintro e wv ⟨rfl, hB⟩; have HW := Lib.hid (HW.out.trans (hB.mono HW.out.size)); (try (have HcO := Lib.hid (Kd.C_below HcO.out hB))); (try (have HcP := Lib.hid (Kd.C_below HcP.out hB))); clear hB) | (go_at_call 20; refine (HVL.out AO cO _ HW.out HcO.out).mono ?_; rintro e wv ⟨rfl, hB⟩; have HW := Lib.hid (HW.out.trans (hB.mono HW.out.size)); (try (have HcO := Lib.hid (Kd.C_below HcO.out hB))); (try (have HcP := Lib.hid (Kd.C_below HcP.out hB))); clear hB))
    go_wp2_with (first | (go_at_call 30; refine (HMT.out AO cO _ HW.out HcO.out).mono ?_; rintro e wv ⟨rfl, hB⟩; have HW := Lib.hid (HW.out.trans (hB.mono HW.out.size)); (try (have HcO := Lib.hid (Kd.C_below HcO.out hB))); (try (have HcP := Lib.hid (Kd.C_below HcP.out hB))); clear hB))
    go_loopw [9, 10] (fun m i wr => ∃ j, j ≤ st.length ∧ i = .int .i64 (j : Nat) ∧ m = .int .i64 (mxR g st j) ∧ Below w1.heap.size w1 wr) (fun _ i _ => st.length - (intOf i).toNat)
    case atStart => exact ⟨0, Nat.zero_le _, rfl, rfl, HW.out⟩
    case round =>
     clear HW
     obtain ⟨j, hj, rfl, rfl, hB⟩ := hrel
     have HW := Lib.hid hB
     by_cases hjl : j < st.length
     ·
      have hjj : decide ((j : Int) < (st.length : Int)) = true := decide_eq_true (by omega)
      have hjsi : (j : Int) < (st.length : Int) := by omega
      obtain ⟨ads, rfl, cs⟩ := at_num (Kd.C_below H3.out hB) j hjl
      have HSJ : Hid (mxR g st (j + 1) = max (mxR g st j) ((runS g st (st.getD j 0)).length : Nat)) := Lib.hid rfl
      have HRJ := Lib.hid (HRA.out (st.getD j 0))
      have HRE := HRS.out (st.getD j 0)
      have hmb := HMB.out j
      rw [← HRE] at HSJ
      generalize ints (raS g rm wk st (st.getD j 0)) = x at HRJ HSJ
      generalize st.getD j 0 = s at cs HRJ HRE
      generalize mxR g st j = m0 at HSJ hmb
      clear HRE hB
      go_wp2_with (first | (go_at_call 31; refine (HRJ.out _ HW.out).mono ?_; rintro e wl ⟨vX, rfl, hR, hB⟩; obtain ⟨AX, cX, rfl, hcX, hC⟩ := Kd.R_reads hR; have HW := Lib.hid (HW.out.trans (hB.mono HW.out.size)); (try (have HcO := Lib.hid (Kd.C_below HcO.out hB))); have HcX := Lib.hid hC; clear hR hC hB))
      go_roundw
      case rel => exact ⟨j + 1, by omega, by go_num, by rw [HSJ.out], HW.out⟩
      case measure => simp [intOf]; omega
     ·
      obtain rfl : j = st.length := by omega
      have hjj : decide ((st.length : Int) < (st.length : Int)) = false := decide_eq_false (by omega)
      rw [HLE.out]
      clear hB
      go_wp2
      go_ret
      exact ⟨rfl, HB1.out.trans (HW.out.mono HB1.out.size)⟩
   ·
    have hy2 : (replayB g (lgS g rm wk st)).isSome = false := by simpa using hy
    rw [hy2] at HVL
    clear h0 hV hlen hy hy2
    generalize lgS g rm wk st = o at HLG HSG dl HVL
    go_wp2_with (first | (go_at_call 17; refine (HLG.out _ HW.out).mono ?_; rintro e wl ⟨vO, rfl, hR, hB⟩; obtain ⟨AO, cO, rfl, hcO, hC⟩ := Kd.R_reads hR; have HW := Lib.hid (HW.out.trans (hB.mono HW.out.size)); (try (have HcO := Lib.hid (Kd.C_below HcO.out hB))); (try (have HcP := Lib.hid (Kd.C_below HcP.out hB))); have HcO := Lib.hid hC; clear hR hC hB; clear HLG) | (go_at_call 19; refine (HSG.out _ HW.out).mono ?_; rintro e wl ⟨vP, rfl, hR, hB⟩; obtain ⟨AP, cP, rfl, hcP, hC⟩ := Kd.R_reads hR; have HW := Lib.hid (HW.out.trans (hB.mono HW.out.size)); (try (have HcO := Lib.hid (Kd.C_below HcO.out hB))); (try (have HcP := Lib.hid (Kd.C_below HcP.out hB))); have HcP := Lib.hid hC; clear hR hC hB) | (go_at_call 18; refine (equalEvents_same _ _ _ _ _ _ HcO.out HcP.out).mono ?_; rintro e wv ⟨rfl, hB⟩; have HW := Lib.hid (HW.out.trans (hB.mono HW.out.size)); (try (have HcO := Lib.hid (Kd.C_below HcO.out hB))); (try (have HcP := Lib.hid (Kd.C_below HcP.out hB))); clear hB) | (go_at_call 20; refine (HVL.out AO cO _ HW.out HcO.out).mono ?_; rintro e wv ⟨rfl, hB⟩; have HW := Lib.hid (HW.out.trans (hB.mono HW.out.size)); (try (have HcO := Lib.hid (Kd.C_below HcO.out hB))); (try (have HcP := Lib.hid (Kd.C_below HcP.out hB))); clear hB))
    go_ret
    exact ⟨rfl, HB1.out.trans (HW.out.mono HB1.out.size)⟩
end Go.Proofs.YtifbjnhicnfdoaaDoor
