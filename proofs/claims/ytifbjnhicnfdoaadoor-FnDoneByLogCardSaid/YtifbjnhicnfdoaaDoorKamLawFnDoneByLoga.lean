/- Parts of the proof, laid as one text by a program of mine. -/
import Derived.Test.YtifbjnhicnfdoaaDoorKac24
import Derived.Test.YtifbjnhicnfdoaaDoorKac25
import Derived.Test.YtifbjnhicnfdoaaDoorKac23
import Derived.Test.YtifbjnhicnfdoaaDoorKac13
import Derived.Test.YtifbjnhicnfdoaaDoorKac12
namespace Go.Proofs.YtifbjnhicnfdoaaDoor
set_option linter.unusedVariables false
set_option linter.unusedSimpArgs false
open Go.RowKit Go.Shelf Bits
open Go.Proofs.YtifbjnhicnfdoaaDoorW.PrintWords Go.Proofs.YtifbjnhicnfdoaaDoorW.PrintLast Go.Proofs.YtifbjnhicnfdoaaDoorW.PrintMore
set_option maxRecDepth 1000000 in
set_option maxHeartbeats 8000000 in
theorem FnDoneByLog_walk (A : Option Addr) (c : Nat) (l : List Int) (hb : ∀ x ∈ l, 0 ≤ x ∧ x < 256) (w : World) (hT : Tab w) (hr : (Kd.int .u8).C w A l.length l) (hc : l.length ≤ c) :
  Calls Tryd.prog 9 #[.slice A l.length c] w fun e w' => e = .returned (.bool true) ∧ Below w.heap.size w w' := by
 have HT := Lib.hid hT
 have hll := (C_len hr).2
 have HD := Lib.hid (DrawRunningAt_any A c l hb w hr hc)
 clear hb hr hc hT
 by_cases hbig : 1048576 < l.length
 ·
  have db : decide ((1048576 : Int) < (l.length : Int)) = true := decide_eq_true (by omega)
  clear hbig
  go_enter Tryd.func9, Tryd.ntmps9
  go_wp2
  go_ret
  exact ⟨rfl, Below.refl _ _⟩
 ·
  have db : decide ((1048576 : Int) < (l.length : Int)) = false := decide_eq_false (by omega)
  clear hbig
  go_enter Tryd.func9, Tryd.ntmps9
  go_upto_region 4 with (go_at_call 32; refine HD.out.mono ?_; rintro e w1 ⟨A1, c1, g, A2, c2, rm, wk, A3, c3, st, now, rfl, h1, h2, h3, hg16, hs8, hwk, hso, hnow, hB1⟩; have H1 := Lib.hid h1; have H2 := Lib.hid h2; have H3 := Lib.hid h3; have HSO := Lib.hid hso; have HB1 := Lib.hid hB1; clear h1 h2 h3 hso hB1)
  have HTW := Lib.hid (fun (W : World) (h : Below w1.heap.size w1 W) => HT.out.keep HT.out.lt (HB1.out.trans (h.mono HB1.out.size)))
  have HW := Lib.hid (Below.refl w1.heap.size w1)
  have HRA := Lib.hid (fun (W : World) (hW : Below w1.heap.size w1 W) => RunningAt_impl A1 c1 g A2 c2 rm wk A3 c3 st now W (Kd.C_below H1.out hW) (Kd.C_below H2.out hW) (Kd.C_below H3.out hW) (HTW.out W hW))
  have HSR := Lib.hid (fun (W : World) (hW : Below w1.heap.size w1 W) => sRunningAt_calls A1 c1 g A2 c2 rm wk A3 c3 st now W (Kd.C_below H1.out hW) (Kd.C_below H2.out hW) (Kd.C_below H3.out hW))
  have HVS := Lib.hid (fun (W : World) (hW : Below w1.heap.size w1 W) => ValidStarts_impl A1 c1 g A2 c2 rm wk A3 c3 st W (Kd.C_below H1.out hW) (Kd.C_below H2.out hW) (Kd.C_below H3.out hW) (HTW.out W hW))
  have HLG := Lib.hid (fun (W : World) (hW : Below w1.heap.size w1 W) => LogOf_impl A1 c1 g A2 c2 rm wk A3 c3 st W (Kd.C_below H1.out hW) (Kd.C_below H2.out hW) (Kd.C_below H3.out hW) (HTW.out W hW))
  have HVL := Lib.hid (fun (AO : Option Addr) (cO : Nat) (W : World) (hW : Below w1.heap.size w1 W) hO => ValidLog_impl A1 c1 g AO cO (lgS g rm wk st) W (Kd.C_below H1.out hW) hO (HTW.out W hW))
  have HWM : Hid (IntKind.i64.wrap (2 * (g.length : Int)) = 2 * (g.length : Int)) := Lib.hid (IntWalk.i64_in _ (by omega))
  generalize ints (raS g rm wk st now) = o at HRA HSR
  cases hy : (replayB g (lgS g rm wk st)).isSome with
  | false =>
   rw [hy] at HVL
   clear hy
   generalize lgS g rm wk st = l2 at HLG HVL
   generalize vStB g rm wk st = b at HVS
   go_wp2_with (first | (go_at_call 31; refine (HRA.out _ HW.out).mono ?_; rintro e wl ⟨vO, rfl, hR, hB⟩; obtain ⟨AO, cO, rfl, hcO, hC⟩ := Kd.R_reads hR; have HW := Lib.hid (HW.out.trans (hB.mono HW.out.size)); (try (have HcO := Lib.hid (Kd.C_below HcO.out hB))); (try (have HcP := Lib.hid (Kd.C_below HcP.out hB))); (try (have HcG := Lib.hid (Kd.C_below HcG.out hB))); have HcO := Lib.hid hC; clear hR hC hB; clear HRA) | (go_at_call 17; refine (HLG.out _ HW.out).mono ?_; rintro e wl ⟨vG, rfl, hR, hB⟩; obtain ⟨AG, cG, rfl, hcG, hC⟩ := Kd.R_reads hR; have HW := Lib.hid (HW.out.trans (hB.mono HW.out.size)); (try (have HcO := Lib.hid (Kd.C_below HcO.out hB))); (try (have HcP := Lib.hid (Kd.C_below HcP.out hB))); (try (have HcG := Lib.hid (Kd.C_below HcG.out hB))); have HcG := Lib.hid hC; clear hR hC hB; clear HLG) | (go_at_call 33; refine (HSR.out _ HW.out).mono ?_; rintro e wl ⟨vP, rfl, hR, hB⟩; obtain ⟨AP, cP, rfl, hcP, hC⟩ := Kd.R_reads hR; have HW := Lib.hid (HW.out.trans (hB.mono HW.out.size)); (try (have HcO := Lib.hid (Kd.C_below HcO.out hB))); (try (have HcP := Lib.hid (Kd.C_below HcP.out hB))); (try (have HcG := Lib.hid (Kd.C_below HcG.out hB))); have HcP := Lib.hid hC; clear hR hC hB) | (go_at_call 23; refine (equalInts_same _ _ _ _ _ _ HcO.out HcP.out).mono ?_; rintro e wv ⟨rfl, hB⟩; have HW := Lib.hid (HW.out.trans (hB.mono HW.out.size)); (try (have HcO := Lib.hid (Kd.C_below HcO.out hB))); (try (have HcP := Lib.hid (Kd.C_below HcP.out hB))); (try (have HcG := Lib.hid (Kd.C_below HcG.out hB))); clear hB) | (go_at_call 20; refine (HVL.out AG cG _ HW.out HcG.out).mono ?_; rintro e wv ⟨rfl, hB⟩; have HW := Lib.hid (HW.out.trans (hB.mono HW.out.size)); (try (have HcO := Lib.hid (Kd.C_below HcO.out hB))); (try (have HcP := Lib.hid (Kd.C_below HcP.out hB))); (try (have HcG := Lib.hid (Kd.C_below HcG.out hB))); clear hB) | (go_at_call 26; refine (HVS.out _ HW.out).mono ?_; rintro e wv ⟨rfl, hB⟩; have HW := Lib.hid (HW.out.trans (hB.mono HW.out.size)); (try (have HcO := Lib.hid (Kd.C_below HcO.out hB))); (try (have HcP := Lib.hid (Kd.C_below HcP.out hB))); (try (have HcG := Lib.hid (Kd.C_below HcG.out hB))); clear hB))
   go_ret
   exact ⟨rfl, HB1.out.trans (HW.out.mono HB1.out.size)⟩
  | true =>
   cases hv : vStB g rm wk st with
   | false =>
    rw [hv] at HVS
    rw [hy] at HVL
    have hwm := HWM.out
    by_cases hd : ((lgS g rm wk st).length : Int) = 2 * (g.length : Int)
    ·
     have dle : (((lgS g rm wk st).length : Int) != 2 * (g.length : Int)) = false := by rw [hd]; exact bne_self_eq_false _
     clear hy hv hd
     generalize lgS g rm wk st = l2 at HLG HVL dle
     go_wp2_with (first | (go_at_call 31; refine (HRA.out _ HW.out).mono ?_; rintro e wl ⟨vO, rfl, hR, hB⟩; obtain ⟨AO, cO, rfl, hcO, hC⟩ := Kd.R_reads hR; have HW := Lib.hid (HW.out.trans (hB.mono HW.out.size)); (try (have HcO := Lib.hid (Kd.C_below HcO.out hB))); (try (have HcP := Lib.hid (Kd.C_below HcP.out hB))); (try (have HcG := Lib.hid (Kd.C_below HcG.out hB))); have HcO := Lib.hid hC; clear hR hC hB; clear HRA) | (go_at_call 17; refine (HLG.out _ HW.out).mono ?_; rintro e wl ⟨vG, rfl, hR, hB⟩; obtain ⟨AG, cG, rfl, hcG, hC⟩ := Kd.R_reads hR; have HW := Lib.hid (HW.out.trans (hB.mono HW.out.size)); (try (have HcO := Lib.hid (Kd.C_below HcO.out hB))); (try (have HcP := Lib.hid (Kd.C_below HcP.out hB))); (try (have HcG := Lib.hid (Kd.C_below HcG.out hB))); have HcG := Lib.hid hC; clear hR hC hB; clear HLG) | (go_at_call 33; refine (HSR.out _ HW.out).mono ?_; rintro e wl ⟨vP, rfl, hR, hB⟩; obtain ⟨AP, cP, rfl, hcP, hC⟩ := Kd.R_reads hR; have HW := Lib.hid (HW.out.trans (hB.mono HW.out.size)); (try (have HcO := Lib.hid (Kd.C_below HcO.out hB))); (try (have HcP := Lib.hid (Kd.C_below HcP.out hB))); (try (have HcG := Lib.hid (Kd.C_below HcG.out hB))); have HcP := Lib.hid hC; clear hR hC hB) | (go_at_call 23; refine (equalInts_same _ _ _ _ _ _ HcO.out HcP.out).mono ?_; rintro e wv ⟨rfl, hB⟩; have HW := Lib.hid (HW.out.trans (hB.mono HW.out.size)); (try (have HcO := Lib.hid (Kd.C_below HcO.out hB))); (try (have HcP := Lib.hid (Kd.C_below HcP.out hB))); (try (have HcG := Lib.hid (Kd.C_below HcG.out hB))); clear hB) | (go_at_call 20; refine (HVL.out AG cG _ HW.out HcG.out).mono ?_; rintro e wv ⟨rfl, hB⟩; have HW := Lib.hid (HW.out.trans (hB.mono HW.out.size)); (try (have HcO := Lib.hid (Kd.C_below HcO.out hB))); (try (have HcP := Lib.hid (Kd.C_below HcP.out hB))); (try (have HcG := Lib.hid (Kd.C_below HcG.out hB))); clear hB) | (go_at_call 26; refine (HVS.out _ HW.out).mono ?_; rintro e wv ⟨rfl, hB⟩; have HW := Lib.hid (HW.out.trans (hB.mono HW.out.size)); (try (have HcO := Lib.hid (Kd.C_below HcO.out hB))); (try (have HcP := Lib.hid (Kd.C_below HcP.out hB))); (try (have HcG := Lib.hid (Kd.C_below HcG.out hB))); clear hB))
     go_ret
     exact ⟨rfl, HB1.out.trans (HW.out.mono HB1.out.size)⟩
    ·
     have dle : (((lgS g rm wk st).length : Int) != 2 * (g.length : Int)) = true := bne_iff_ne.2 hd
     clear hy hv hd
     generalize lgS g rm wk st = l2 at HLG HVL dle
     go_wp2_with (first | (go_at_call 31; refine (HRA.out _ HW.out).mono ?_; rintro e wl ⟨vO, rfl, hR, hB⟩; obtain ⟨AO, cO, rfl, hcO, hC⟩ := Kd.R_reads hR; have HW := Lib.hid (HW.out.trans (hB.mono HW.out.size)); (try (have HcO := Lib.hid (Kd.C_below HcO.out hB))); (try (have HcP := Lib.hid (Kd.C_below HcP.out hB))); (try (have HcG := Lib.hid (Kd.C_below HcG.out hB))); have HcO := Lib.hid hC; clear hR hC hB; clear HRA) | (go_at_call 17; refine (HLG.out _ HW.out).mono ?_; rintro e wl ⟨vG, rfl, hR, hB⟩; obtain ⟨AG, cG, rfl, hcG, hC⟩ := Kd.R_reads hR; have HW := Lib.hid (HW.out.trans (hB.mono HW.out.size)); (try (have HcO := Lib.hid (Kd.C_below HcO.out hB))); (try (have HcP := Lib.hid (Kd.C_below HcP.out hB))); (try (have HcG := Lib.hid (Kd.C_below HcG.out hB))); have HcG := Lib.hid hC; clear hR hC hB; clear HLG) | (go_at_call 33; refine (HSR.out _ HW.out).mono ?_; rintro e wl ⟨vP, rfl, hR, hB⟩; obtain ⟨AP, cP, rfl, hcP, hC⟩ := Kd.R_reads hR; have HW := Lib.hid (HW.out.trans (hB.mono HW.out.size)); (try (have HcO := Lib.hid (Kd.C_below HcO.out hB))); (try (have HcP := Lib.hid (Kd.C_below HcP.out hB))); (try (have HcG := Lib.hid (Kd.C_below HcG.out hB))); have HcP := Lib.hid hC; clear hR hC hB) | (go_at_call 23; refine (equalInts_same _ _ _ _ _ _ HcO.out HcP.out).mono ?_; rintro e wv ⟨rfl, hB⟩; have HW := Lib.hid (HW.out.trans (hB.mono HW.out.size)); (try (have HcO := Lib.hid (Kd.C_below HcO.out hB))); (try (have HcP := Lib.hid (Kd.C_below HcP.out hB))); (try (have HcG := Lib.hid (Kd.C_below HcG.out hB))); clear hB) | (go_at_call 20; refine (HVL.out AG cG _ HW.out HcG.out).mono ?_; rintro e wv ⟨rfl, hB⟩; have HW := Lib.hid (HW.out.trans (hB.mono HW.out.size)); (try (have HcO := Lib.hid (Kd.C_below HcO.out hB))); (try (have HcP := Lib.hid (Kd.C_below HcP.out hB))); (try (have HcG := Lib.hid (Kd.C_below HcG.out hB))); clear hB) | (go_at_call 26; refine (HVS.out _ HW.out).mono ?_; rintro e wv ⟨rfl, hB⟩; have HW := Lib.hid (HW.out.trans (hB.mono HW.out.size)); (try (have HcO := Lib.hid (Kd.C_below HcO.out hB))); (try (have HcP := Lib.hid (Kd.C_below HcP.out hB))); (try (have HcG := Lib.hid (Kd.C_below HcG.out hB))); clear hB))
     go_ret
     exact ⟨rfl, HB1.out.trans (HW.out.mono HB1.out.size)⟩
   | true =>
    have hV := vSt_valid hv
    have HV := Lib.hid hV
    have hdn := lg_doneB hV hy now
    have HDN := Lib.hid (fun (AO : Option Addr) (cO : Nat) (W : World) (hW : Below w1.heap.size w1 W) hO => DoneBy_impl A1 c1 g AO cO (lgS g rm wk st) now W (Kd.C_below H1.out hW) hO (HTW.out W hW))
    rw [hdn] at HDN
    have HMM : Hid (∀ j : Nat, j < g.length → decide ((j : Int) ∈ ints ((List.range g.length).filter fun i => decide (st.getD i 0 + (rdTk g i).f0 ≤ now))) = decide (st.getD j 0 + (rdTk g j).f0 ≤ now)) := Lib.hid (fun j hj => by
     rw [decide_eq_decide, mem_intsN, List.mem_filter, List.mem_range, decide_eq_true_iff]
     exact ⟨fun h => h.2, fun h => ⟨hj, h⟩⟩)
    have dle : (((lgS g rm wk st).length : Int) != 2 * (g.length : Int)) = false := by rw [lg_is hV, chgS_len]; simp
    rw [hv] at HVS
    rw [hy] at HVL
    have hwm := HWM.out
    clear hy hv hV hdn
    generalize ints ((List.range g.length).filter fun i => decide (st.getD i 0 + (rdTk g i).f0 ≤ now)) = x at HDN HMM
    generalize lgS g rm wk st = l2 at HLG HVL HDN dle
    go_upto_region 8 with (first | (go_at_call 31; refine (HRA.out _ HW.out).mono ?_; rintro e wl ⟨vO, rfl, hR, hB⟩; obtain ⟨AO, cO, rfl, hcO, hC⟩ := Kd.R_reads hR; have HW := Lib.hid (HW.out.trans (hB.mono HW.out.size)); (try (have HcO := Lib.hid (Kd.C_below HcO.out hB))); (try (have HcP := Lib.hid (Kd.C_below HcP.out hB))); (try (have HcG := Lib.hid (Kd.C_below HcG.out hB))); have HcO := Lib.hid hC; clear hR hC hB; clear HRA) | (go_at_call 17; refine (HLG.out _ HW.out).mono ?_; rintro e wl ⟨vG, rfl, hR, hB⟩; obtain ⟨AG, cG, rfl, hcG, hC⟩ := Kd.R_reads hR; have HW := Lib.hid (HW.out.trans (hB.mono HW.out.size)); (try (have HcO := Lib.hid (Kd.C_below HcO.out hB))); (try (have HcP := Lib.hid (Kd.C_below HcP.out hB))); (try (have HcG := Lib.hid (Kd.C_below HcG.out hB))); have HcG := Lib.hid hC; clear hR hC hB; clear HLG) | (go_at_call 33; refine (HSR.out _ HW.out).mono ?_; rintro e wl ⟨vP, rfl, hR, hB⟩; obtain ⟨AP, cP, rfl, hcP, hC⟩ := Kd.R_reads hR; have HW := Lib.hid (HW.out.trans (hB.mono HW.out.size)); (try (have HcO := Lib.hid (Kd.C_below HcO.out hB))); (try (have HcP := Lib.hid (Kd.C_below HcP.out hB))); (try (have HcG := Lib.hid (Kd.C_below HcG.out hB))); have HcP := Lib.hid hC; clear hR hC hB) | (go_at_call 23; refine (equalInts_same _ _ _ _ _ _ HcO.out HcP.out).mono ?_; rintro e wv ⟨rfl, hB⟩; have HW := Lib.hid (HW.out.trans (hB.mono HW.out.size)); (try (have HcO := Lib.hid (Kd.C_below HcO.out hB))); (try (have HcP := Lib.hid (Kd.C_below HcP.out hB))); (try (have HcG := Lib.hid (Kd.C_below HcG.out hB))); clear hB) | (go_at_call 20; refine (HVL.out AG cG _ HW.out HcG.out).mono ?_; rintro e wv ⟨rfl, hB⟩; have HW := Lib.hid (HW.out.trans (hB.mono HW.out.size)); (try (have HcO := Lib.hid (Kd.C_below HcO.out hB))); (try (have HcP := Lib.hid (Kd.C_below HcP.out hB))); (try (have HcG := Lib.hid (Kd.C_below HcG.out hB))); clear hB) | (go_at_call 26; refine (HVS.out _ HW.out).mono ?_; rintro e wv ⟨rfl, hB⟩; have HW := Lib.hid (HW.out.trans (hB.mono HW.out.size)); (try (have HcO := Lib.hid (Kd.C_below HcO.out hB))); (try (have HcP := Lib.hid (Kd.C_below HcP.out hB))); (try (have HcG := Lib.hid (Kd.C_below HcG.out hB))); clear hB))
    clear hwm
    go_wp2_with (go_at_call 34; refine (HDN.out AG cG _ HW.out HcG.out).mono ?_; rintro e wl ⟨vX, rfl, hR, hB⟩; obtain ⟨AX, cX, rfl, hcX, hC⟩ := Kd.R_reads hR; have HW := Lib.hid (HW.out.trans (hB.mono HW.out.size)); (try (have HcO := Lib.hid (Kd.C_below HcO.out hB))); (try (have HcP := Lib.hid (Kd.C_below HcP.out hB))); (try (have HcG := Lib.hid (Kd.C_below HcG.out hB))); have HcX := Lib.hid hC; clear hR hC hB)
    obtain ⟨w2, rfl⟩ : ∃ w2 : World, w2 = wl := ⟨_, rfl⟩
    go_loopw [11] (fun i wr => ∃ j, j ≤ g.length ∧ i = .int .i64 (j : Nat) ∧ Below w2.heap.size w2 wr) (fun i _ => g.length - (intOf i).toNat)
    case atStart => exact ⟨0, Nat.zero_le _, rfl, Below.refl _ _⟩
    case round =>
     obtain ⟨j, hj, rfl, hB2⟩ := hrel
     have hB := HW.out.trans (hB2.mono HW.out.size)
     have HCO := Lib.hid (Kd.C_below HcX.out hB2)
     by_cases hjl : j < g.length
     ·
      have hjs : j < st.length := by rw [HV.out.len]; exact hjl
      obtain ⟨ad, A4, c4, rfl, hc0, _⟩ := at_Tk (Kd.C_below H1.out hB) j hjl
      obtain ⟨ads, rfl, cs⟩ := at_num (Kd.C_below H3.out hB) j hjs
      have hjj : decide ((j : Int) < (g.length : Int)) = true := decide_eq_true (by omega)
      have hji : (j : Int) < (g.length : Int) := by omega
      have hjsi : (j : Int) < (st.length : Int) := by omega
      have HM := Lib.hid (HMM.out j hjl)
      have hsj := HSO.out j
      have htj := HV.out.ok.2.1 j
      generalize st.getD j 0 = s at cs hsj HM
      generalize (rdTk g j).f0 = tm at hc0 htj HM
      have hwr : IntKind.i64.wrap (s + tm) = s + tm := IntWalk.i64_in _ (by omega)
      have HB2 := Lib.hid hB2
      clear hB hB2
      by_cases g1 : s + tm ≤ now
      ·
       have d1 : decide (s + tm ≤ now) = true := decide_eq_true g1
       rw [d1] at HM
       clear g1
       go_wp2
       go_quiet ((go_at_call 29; exact Calls.quiet_of_same (lIsIn_is true _ _ _ _ HM _ (Kd.C_drewN HCO.out _))))
       clear hwr
       go_wp2
       go_roundw
       case rel => exact ⟨j + 1, by omega, by go_num, by repeat (first | exact HB2.out | apply pw_below_drewN)⟩
       case measure => simp [intOf]; omega
      ·
       have d1 : decide (s + tm ≤ now) = false := decide_eq_false g1
       rw [d1] at HM
       clear g1
       go_wp2
       go_quiet ((go_at_call 29; exact Calls.quiet_of_same (lIsIn_is false _ _ _ _ HM _ (Kd.C_drewN HCO.out _))))
       clear hwr
       go_wp2
       go_roundw
       case rel => exact ⟨j + 1, by omega, by go_num, by repeat (first | exact HB2.out | apply pw_below_drewN)⟩
       case measure => simp [intOf]; omega
     ·
      obtain rfl : j = g.length := by omega
      have hjj : decide ((g.length : Int) < (g.length : Int)) = false := decide_eq_false (by omega)
      go_wp2
      go_ret
      exact ⟨rfl, HB1.out.trans (hB.mono HB1.out.size)⟩
end Go.Proofs.YtifbjnhicnfdoaaDoor
