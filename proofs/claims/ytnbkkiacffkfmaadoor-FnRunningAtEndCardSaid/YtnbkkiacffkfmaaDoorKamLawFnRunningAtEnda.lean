/- Parts of the proof, laid as one text by a program of mine. -/
import Derived.Test.YtnbkkiacffkfmaaDoorKac12
import Derived.Test.YtnbkkiacffkfmaaDoorKac16
import Derived.Test.YtnbkkiacffkfmaaDoorKac17
import Derived.Test.YtnbkkiacffkfmaaDoorKac10
namespace Go.Proofs.YtnbkkiacffkfmaaDoor
set_option linter.unusedVariables false
set_option linter.unusedSimpArgs false
open Go.RowKit Go.Shelf Bits
open Go.Proofs.YtnbkkiacffkfmaaDoorW.PrintWords Go.Proofs.YtnbkkiacffkfmaaDoorW.PrintLast Go.Proofs.YtnbkkiacffkfmaaDoorW.PrintMore
set_option maxRecDepth 1000000 in
set_option maxHeartbeats 8000000 in
theorem FnRunningAtEnd_walk (A : Option Addr) (c : Nat) (l : List Int) (hb : ∀ x ∈ l, 0 ≤ x ∧ x < 256) (w : World) (hT : Tab w) (hr : (Kd.int .u8).C w A l.length l) (hc : l.length ≤ c) :
  Calls Tryd.prog 13 #[.slice A l.length c] w fun e w' => e = .returned (.bool true) ∧ Below w.heap.size w w' := by
 have HT := Lib.hid hT
 have hll := (C_len hr).2
 have HD := Lib.hid (DrawRunningAt_any A c l hb w hr hc)
 clear hb hr hc hT
 by_cases hbig : 1048576 < l.length
 ·
  have db : decide ((1048576 : Int) < (l.length : Int)) = true := decide_eq_true (by omega)
  clear hbig
  go_enter Tryd.func13, Tryd.ntmps13
  go_wp2
  go_ret
  exact ⟨rfl, Below.refl _ _⟩
 ·
  have db : decide ((1048576 : Int) < (l.length : Int)) = false := decide_eq_false (by omega)
  clear hbig
  go_enter Tryd.func13, Tryd.ntmps13
  go_upto_region 4 with (go_at_call 34; refine HD.out.mono ?_; rintro e w1 ⟨A1, c1, g, A2, c2, rm, wk, A3, c3, st, now, rfl, h1, h2, h3, hg16, hs8, hwk, hso, hnow, hB1⟩; have H1 := Lib.hid h1; have H2 := Lib.hid h2; have H3 := Lib.hid h3; have HSO := Lib.hid hso; have HB1 := Lib.hid hB1; clear h1 h2 h3 hso hB1)
  have HTW := Lib.hid (fun (W : World) (h : Below w1.heap.size w1 W) => HT.out.keep HT.out.lt (HB1.out.trans (h.mono HB1.out.size)))
  have HW := Lib.hid (Below.refl w1.heap.size w1)
  have HRA := Lib.hid (fun (W : World) (hW : Below w1.heap.size w1 W) => RunningAt_impl A1 c1 g A2 c2 rm wk A3 c3 st now W (Kd.C_below H1.out hW) (Kd.C_below H2.out hW) (Kd.C_below H3.out hW) (HTW.out W hW))
  have HSR := Lib.hid (fun (W : World) (hW : Below w1.heap.size w1 W) => sRunningAt_calls A1 c1 g A2 c2 rm wk A3 c3 st now W (Kd.C_below H1.out hW) (Kd.C_below H2.out hW) (Kd.C_below H3.out hW))
  have HVS := Lib.hid (fun (W : World) (hW : Below w1.heap.size w1 W) => ValidStarts_impl A1 c1 g A2 c2 rm wk A3 c3 st W (Kd.C_below H1.out hW) (Kd.C_below H2.out hW) (Kd.C_below H3.out hW) (HTW.out W hW))
  have HET := Lib.hid (fun (W : World) (hW : Below w1.heap.size w1 W) => EndTime_impl A1 c1 g A2 c2 rm wk A3 c3 st W (Kd.C_below H1.out hW) (Kd.C_below H2.out hW) (Kd.C_below H3.out hW) (HTW.out W hW))
  generalize ints (raS g rm wk st now) = o at HRA HSR
  cases hv : vStB g rm wk st with
  | false =>
   rw [hv] at HVS
   clear hv
   go_wp2_with (first | (go_at_call 35; refine (HRA.out _ HW.out).mono ?_; rintro e wl ⟨vO, rfl, hR, hB⟩; obtain ⟨AO, cO, rfl, hcO, hC⟩ := Kd.R_reads hR; have HW := Lib.hid (HW.out.trans (hB.mono HW.out.size)); (try (have HcO := Lib.hid (Kd.C_below HcO.out hB))); (try (have HcP := Lib.hid (Kd.C_below HcP.out hB))); (try (have HcX := Lib.hid (Kd.C_below HcX.out hB))); (try (have HcY := Lib.hid (Kd.C_below HcY.out hB))); (try (have HcZ := Lib.hid (Kd.C_below HcZ.out hB))); have HcO := Lib.hid hC; clear hR hC hB; clear HRA) | (go_at_call 36; refine (HSR.out _ HW.out).mono ?_; rintro e wl ⟨vP, rfl, hR, hB⟩; obtain ⟨AP, cP, rfl, hcP, hC⟩ := Kd.R_reads hR; have HW := Lib.hid (HW.out.trans (hB.mono HW.out.size)); (try (have HcO := Lib.hid (Kd.C_below HcO.out hB))); (try (have HcP := Lib.hid (Kd.C_below HcP.out hB))); (try (have HcX := Lib.hid (Kd.C_below HcX.out hB))); (try (have HcY := Lib.hid (Kd.C_below HcY.out hB))); (try (have HcZ := Lib.hid (Kd.C_below HcZ.out hB))); have HcP := Lib.hid hC; clear hR hC hB) | (go_at_call 32; refine (equalInts_same _ _ _ _ _ _ HcO.out HcP.out).mono ?_; rintro e wv ⟨rfl, hB⟩; have HW := Lib.hid (HW.out.trans (hB.mono HW.out.size)); (try (have HcO := Lib.hid (Kd.C_below HcO.out hB))); (try (have HcP := Lib.hid (Kd.C_below HcP.out hB))); (try (have HcX := Lib.hid (Kd.C_below HcX.out hB))); (try (have HcY := Lib.hid (Kd.C_below HcY.out hB))); (try (have HcZ := Lib.hid (Kd.C_below HcZ.out hB))); clear hB) | (go_at_call 18; refine (HVS.out _ HW.out).mono ?_; rintro e wv ⟨rfl, hB⟩; have HW := Lib.hid (HW.out.trans (hB.mono HW.out.size)); (try (have HcO := Lib.hid (Kd.C_below HcO.out hB))); (try (have HcP := Lib.hid (Kd.C_below HcP.out hB))); (try (have HcX := Lib.hid (Kd.C_below HcX.out hB))); (try (have HcY := Lib.hid (Kd.C_below HcY.out hB))); (try (have HcZ := Lib.hid (Kd.C_below HcZ.out hB))); clear hB) | (go_at_call 25; refine (HET.out _ HW.out).mono ?_; rintro e wv ⟨rfl, hB⟩; have HW := Lib.hid (HW.out.trans (hB.mono HW.out.size)); (try (have HcO := Lib.hid (Kd.C_below HcO.out hB))); (try (have HcP := Lib.hid (Kd.C_below HcP.out hB))); (try (have HcX := Lib.hid (Kd.C_below HcX.out hB))); (try (have HcY := Lib.hid (Kd.C_below HcY.out hB))); (try (have HcZ := Lib.hid (Kd.C_below HcZ.out hB))); clear hB))
   go_ret
   exact ⟨rfl, HB1.out.trans (HW.out.mono HB1.out.size)⟩
  | true =>
   rw [hv] at HVS
   have hV := vSt_valid hv
   have hra : ∀ t, raS g rm wk st t = runS g st t := fun t => by unfold raS; rw [if_pos hv]
   obtain ⟨e1, e2, e3⟩ := hV.run_end
   rw [← etS_valid hV] at e1 e3
   have hen := (etS_bound g rm wk st).2
   have hen0 : 0 ≤ etS g rm wk st := by rw [etS_valid hV]; exact endS_nonneg _ _ _
   rw [← hra] at e1 e2 e3
   generalize etS g rm wk st = en at HET hen hen0 e1 e3
   obtain ⟨d1, hd1⟩ : ∃ d1, d1 = en - 1 := ⟨_, rfl⟩
   rw [← hd1] at e3
   have HR1 := Lib.hid (fun (W : World) (hW : Below w1.heap.size w1 W) => RunningAt_impl A1 c1 g A2 c2 rm wk A3 c3 st en W (Kd.C_below H1.out hW) (Kd.C_below H2.out hW) (Kd.C_below H3.out hW) (HTW.out W hW))
   have HR2 := Lib.hid (fun (W : World) (hW : Below w1.heap.size w1 W) => RunningAt_impl A1 c1 g A2 c2 rm wk A3 c3 st (-1) W (Kd.C_below H1.out hW) (Kd.C_below H2.out hW) (Kd.C_below H3.out hW) (HTW.out W hW))
   have HR3 := Lib.hid (fun (W : World) (hW : Below w1.heap.size w1 W) => RunningAt_impl A1 c1 g A2 c2 rm wk A3 c3 st d1 W (Kd.C_below H1.out hW) (Kd.C_below H2.out hW) (Kd.C_below H3.out hW) (HTW.out W hW))
   rw [e1] at HR1
   rw [e2] at HR2
   have hpos : en ≠ 0 → 0 < (ints (raS g rm wk st d1)).length := fun h => by rw [ints_length]; exact List.length_pos_iff.2 (e3 h)
   generalize ints (raS g rm wk st d1) = z at HR3 hpos
   have dz : (((ints ([] : List Nat)).length : Int) == 0) = true := rfl
   have hwr : IntKind.i64.wrap (en - 1) = d1 := by rw [hd1]; exact IntWalk.i64_in _ (by omega)
   by_cases h0 : en = 0
   ·
    have d0 : (en == 0) = true := beq_iff_eq.2 h0
    clear hv hV hra e1 e2 e3 hen hen0 hpos h0 hd1
    go_wp2_with (first | (go_at_call 35; refine (HRA.out _ HW.out).mono ?_; rintro e wl ⟨vO, rfl, hR, hB⟩; obtain ⟨AO, cO, rfl, hcO, hC⟩ := Kd.R_reads hR; have HW := Lib.hid (HW.out.trans (hB.mono HW.out.size)); (try (have HcO := Lib.hid (Kd.C_below HcO.out hB))); (try (have HcP := Lib.hid (Kd.C_below HcP.out hB))); (try (have HcX := Lib.hid (Kd.C_below HcX.out hB))); (try (have HcY := Lib.hid (Kd.C_below HcY.out hB))); (try (have HcZ := Lib.hid (Kd.C_below HcZ.out hB))); have HcO := Lib.hid hC; clear hR hC hB; clear HRA) | (go_at_call 36; refine (HSR.out _ HW.out).mono ?_; rintro e wl ⟨vP, rfl, hR, hB⟩; obtain ⟨AP, cP, rfl, hcP, hC⟩ := Kd.R_reads hR; have HW := Lib.hid (HW.out.trans (hB.mono HW.out.size)); (try (have HcO := Lib.hid (Kd.C_below HcO.out hB))); (try (have HcP := Lib.hid (Kd.C_below HcP.out hB))); (try (have HcX := Lib.hid (Kd.C_below HcX.out hB))); (try (have HcY := Lib.hid (Kd.C_below HcY.out hB))); (try (have HcZ := Lib.hid (Kd.C_below HcZ.out hB))); have HcP := Lib.hid hC; clear hR hC hB) | (go_at_call 32; refine (equalInts_same _ _ _ _ _ _ HcO.out HcP.out).mono ?_; rintro e wv ⟨rfl, hB⟩; have HW := Lib.hid (HW.out.trans (hB.mono HW.out.size)); (try (have HcO := Lib.hid (Kd.C_below HcO.out hB))); (try (have HcP := Lib.hid (Kd.C_below HcP.out hB))); (try (have HcX := Lib.hid (Kd.C_below HcX.out hB))); (try (have HcY := Lib.hid (Kd.C_below HcY.out hB))); (try (have HcZ := Lib.hid (Kd.C_below HcZ.out hB))); clear hB) | (go_at_call 18; refine (HVS.out _ HW.out).mono ?_; rintro e wv ⟨rfl, hB⟩; have HW := Lib.hid (HW.out.trans (hB.mono HW.out.size)); (try (have HcO := Lib.hid (Kd.C_below HcO.out hB))); (try (have HcP := Lib.hid (Kd.C_below HcP.out hB))); (try (have HcX := Lib.hid (Kd.C_below HcX.out hB))); (try (have HcY := Lib.hid (Kd.C_below HcY.out hB))); (try (have HcZ := Lib.hid (Kd.C_below HcZ.out hB))); clear hB) | (go_at_call 25; refine (HET.out _ HW.out).mono ?_; rintro e wv ⟨rfl, hB⟩; have HW := Lib.hid (HW.out.trans (hB.mono HW.out.size)); (try (have HcO := Lib.hid (Kd.C_below HcO.out hB))); (try (have HcP := Lib.hid (Kd.C_below HcP.out hB))); (try (have HcX := Lib.hid (Kd.C_below HcX.out hB))); (try (have HcY := Lib.hid (Kd.C_below HcY.out hB))); (try (have HcZ := Lib.hid (Kd.C_below HcZ.out hB))); clear hB) | (go_at_call 35; refine (HR1.out _ HW.out).mono ?_; rintro e wl ⟨vX, rfl, hR, hB⟩; obtain ⟨AX, cX, rfl, hcX, hC⟩ := Kd.R_reads hR; have HW := Lib.hid (HW.out.trans (hB.mono HW.out.size)); (try (have HcO := Lib.hid (Kd.C_below HcO.out hB))); (try (have HcP := Lib.hid (Kd.C_below HcP.out hB))); (try (have HcX := Lib.hid (Kd.C_below HcX.out hB))); (try (have HcY := Lib.hid (Kd.C_below HcY.out hB))); (try (have HcZ := Lib.hid (Kd.C_below HcZ.out hB))); have HcX := Lib.hid hC; clear hR hC hB; clear HR1) | (go_at_call 35; refine (HR2.out _ HW.out).mono ?_; rintro e wl ⟨vY, rfl, hR, hB⟩; obtain ⟨AY, cY, rfl, hcY, hC⟩ := Kd.R_reads hR; have HW := Lib.hid (HW.out.trans (hB.mono HW.out.size)); (try (have HcO := Lib.hid (Kd.C_below HcO.out hB))); (try (have HcP := Lib.hid (Kd.C_below HcP.out hB))); (try (have HcX := Lib.hid (Kd.C_below HcX.out hB))); (try (have HcY := Lib.hid (Kd.C_below HcY.out hB))); (try (have HcZ := Lib.hid (Kd.C_below HcZ.out hB))); have HcY := Lib.hid hC; clear hR hC hB; clear HR2) | (go_at_call 35; refine (HR3.out _ HW.out).mono ?_; rintro e wl ⟨vZ, rfl, hR, hB⟩; obtain ⟨AZ, cZ, rfl, hcZ, hC⟩ := Kd.R_reads hR; have HW := Lib.hid (HW.out.trans (hB.mono HW.out.size)); (try (have HcO := Lib.hid (Kd.C_below HcO.out hB))); (try (have HcP := Lib.hid (Kd.C_below HcP.out hB))); (try (have HcX := Lib.hid (Kd.C_below HcX.out hB))); (try (have HcY := Lib.hid (Kd.C_below HcY.out hB))); (try (have HcZ := Lib.hid (Kd.C_below HcZ.out hB))); have HcZ := Lib.hid hC; clear hR hC hB))
    go_ret
    exact ⟨rfl, HB1.out.trans (HW.out.mono HB1.out.size)⟩
   ·
    have d0 : (en == 0) = false := beq_eq_false_iff_ne.2 h0
    have hp := hpos h0
    have d5 : decide ((0 : Int) < (z.length : Int)) = true := decide_eq_true (by omega)
    have d5' : decide (0 < z.length) = true := decide_eq_true hp
    clear hv hV hra e1 e2 e3 hen hen0 hpos h0 hd1 hp
    go_wp2_with (first | (go_at_call 35; refine (HRA.out _ HW.out).mono ?_; rintro e wl ⟨vO, rfl, hR, hB⟩; obtain ⟨AO, cO, rfl, hcO, hC⟩ := Kd.R_reads hR; have HW := Lib.hid (HW.out.trans (hB.mono HW.out.size)); (try (have HcO := Lib.hid (Kd.C_below HcO.out hB))); (try (have HcP := Lib.hid (Kd.C_below HcP.out hB))); (try (have HcX := Lib.hid (Kd.C_below HcX.out hB))); (try (have HcY := Lib.hid (Kd.C_below HcY.out hB))); (try (have HcZ := Lib.hid (Kd.C_below HcZ.out hB))); have HcO := Lib.hid hC; clear hR hC hB; clear HRA) | (go_at_call 36; refine (HSR.out _ HW.out).mono ?_; rintro e wl ⟨vP, rfl, hR, hB⟩; obtain ⟨AP, cP, rfl, hcP, hC⟩ := Kd.R_reads hR; have HW := Lib.hid (HW.out.trans (hB.mono HW.out.size)); (try (have HcO := Lib.hid (Kd.C_below HcO.out hB))); (try (have HcP := Lib.hid (Kd.C_below HcP.out hB))); (try (have HcX := Lib.hid (Kd.C_below HcX.out hB))); (try (have HcY := Lib.hid (Kd.C_below HcY.out hB))); (try (have HcZ := Lib.hid (Kd.C_below HcZ.out hB))); have HcP := Lib.hid hC; clear hR hC hB) | (go_at_call 32; refine (equalInts_same _ _ _ _ _ _ HcO.out HcP.out).mono ?_; rintro e wv ⟨rfl, hB⟩; have HW := Lib.hid (HW.out.trans (hB.mono HW.out.size)); (try (have HcO := Lib.hid (Kd.C_below HcO.out hB))); (try (have HcP := Lib.hid (Kd.C_below HcP.out hB))); (try (have HcX := Lib.hid (Kd.C_below HcX.out hB))); (try (have HcY := Lib.hid (Kd.C_below HcY.out hB))); (try (have HcZ := Lib.hid (Kd.C_below HcZ.out hB))); clear hB) | (go_at_call 18; refine (HVS.out _ HW.out).mono ?_; rintro e wv ⟨rfl, hB⟩; have HW := Lib.hid (HW.out.trans (hB.mono HW.out.size)); (try (have HcO := Lib.hid (Kd.C_below HcO.out hB))); (try (have HcP := Lib.hid (Kd.C_below HcP.out hB))); (try (have HcX := Lib.hid (Kd.C_below HcX.out hB))); (try (have HcY := Lib.hid (Kd.C_below HcY.out hB))); (try (have HcZ := Lib.hid (Kd.C_below HcZ.out hB))); clear hB) | (go_at_call 25; refine (HET.out _ HW.out).mono ?_; rintro e wv ⟨rfl, hB⟩; have HW := Lib.hid (HW.out.trans (hB.mono HW.out.size)); (try (have HcO := Lib.hid (Kd.C_below HcO.out hB))); (try (have HcP := Lib.hid (Kd.C_below HcP.out hB))); (try (have HcX := Lib.hid (Kd.C_below HcX.out hB))); (try (have HcY := Lib.hid (Kd.C_below HcY.out hB))); (try (have HcZ := Lib.hid (Kd.C_below HcZ.out hB))); clear hB) | (go_at_call 35; refine (HR1.out _ HW.out).mono ?_; rintro e wl ⟨vX, rfl, hR, hB⟩; obtain ⟨AX, cX, rfl, hcX, hC⟩ := Kd.R_reads hR; have HW := Lib.hid (HW.out.trans (hB.mono HW.out.size)); (try (have HcO := Lib.hid (Kd.C_below HcO.out hB))); (try (have HcP := Lib.hid (Kd.C_below HcP.out hB))); (try (have HcX := Lib.hid (Kd.C_below HcX.out hB))); (try (have HcY := Lib.hid (Kd.C_below HcY.out hB))); (try (have HcZ := Lib.hid (Kd.C_below HcZ.out hB))); have HcX := Lib.hid hC; clear hR hC hB; clear HR1) | (go_at_call 35; refine (HR2.out _ HW.out).mono ?_; rintro e wl ⟨vY, rfl, hR, hB⟩; obtain ⟨AY, cY, rfl, hcY, hC⟩ := Kd.R_reads hR; have HW := Lib.hid (HW.out.trans (hB.mono HW.out.size)); (try (have HcO := Lib.hid (Kd.C_below HcO.out hB))); (try (have HcP := Lib.hid (Kd.C_below HcP.out hB))); (try (have HcX := Lib.hid (Kd.C_below HcX.out hB))); (try (have HcY := Lib.hid (Kd.C_below HcY.out hB))); (try (have HcZ := Lib.hid (Kd.C_below HcZ.out hB))); have HcY := Lib.hid hC; clear hR hC hB; clear HR2) | (go_at_call 35; refine (HR3.out _ HW.out).mono ?_; rintro e wl ⟨vZ, rfl, hR, hB⟩; obtain ⟨AZ, cZ, rfl, hcZ, hC⟩ := Kd.R_reads hR; have HW := Lib.hid (HW.out.trans (hB.mono HW.out.size)); (try (have HcO := Lib.hid (Kd.C_below HcO.out hB))); (try (have HcP := Lib.hid (Kd.C_below HcP.out hB))); (try (have HcX := Lib.hid (Kd.C_below HcX.out hB))); (try (have HcY := Lib.hid (Kd.C_below HcY.out hB))); (try (have HcZ := Lib.hid (Kd.C_below HcZ.out hB))); have HcZ := Lib.hid hC; clear hR hC hB))
    go_ret
    exact ⟨rfl, HB1.out.trans (HW.out.mono HB1.out.size)⟩
end Go.Proofs.YtnbkkiacffkfmaaDoor
