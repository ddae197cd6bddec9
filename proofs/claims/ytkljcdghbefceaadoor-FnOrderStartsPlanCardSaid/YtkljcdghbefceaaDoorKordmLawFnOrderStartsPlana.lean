/- Parts of the proof, laid as one text by a program of mine. -/
import Derived.Test.YtkljcdghbefceaaDoorKordc17
import Derived.Test.YtkljcdghbefceaaDoorKordc18
import Derived.Test.YtkljcdghbefceaaDoorKordc20
import Derived.Test.YtkljcdghbefceaaDoorKordc21
import Derived.Test.YtkljcdghbefceaaDoorKordc11
import Derived.Test.YtkljcdghbefceaaDoorKordc15
namespace Go.Proofs.YtkljcdghbefceaaDoor
set_option linter.unusedVariables false
set_option linter.unusedSimpArgs false
open Go.RowKit Go.Shelf Bits
open Go.Proofs.YtkljcdghbefceaaDoorW.PrintWords Go.Proofs.YtkljcdghbefceaaDoorW.PrintLast Go.Proofs.YtkljcdghbefceaaDoorW.PrintMore
set_option maxRecDepth 1000000 in
set_option maxHeartbeats 8000000 in
theorem FnOrderStartsPlan_walk (A : Option Addr) (c : Nat) (l : List Int) (hb : ∀ x ∈ l, 0 ≤ x ∧ x < 256) (w : World) (hT : Tab w) (hr : (Kd.int .u8).C w A l.length l) (hc : l.length ≤ c) :
  Calls Tryd.prog 3 #[.slice A l.length c] w fun e w' => e = .returned (.bool true) ∧ Below w.heap.size w w' := by
 have HT := Lib.hid hT
 have hll := (C_len hr).2
 have HD := Lib.hid (DrawOrderStarts_any A c l hb w hr hc)
 clear hb hr hc hT
 by_cases hbig : 1048576 < l.length
 ·
  have db : decide ((1048576 : Int) < (l.length : Int)) = true := decide_eq_true (by omega)
  clear hbig
  go_enter Tryd.func3, Tryd.ntmps3
  go_wp2
  go_ret
  exact ⟨rfl, Below.refl _ _⟩
 ·
  have db : decide ((1048576 : Int) < (l.length : Int)) = false := decide_eq_false (by omega)
  clear hbig
  go_enter Tryd.func3, Tryd.ntmps3
  go_upto_region 4 with (go_at_call 8; refine HD.out.mono ?_; rintro e w1 ⟨A1, c1, g, A2, c2, rm, wk, A3, c3, st, rfl, h1, h2, h3, hst, hg16, hwk, hB1⟩; have H1 := Lib.hid h1; have H2 := Lib.hid h2; have H3 := Lib.hid h3; have HB1 := Lib.hid hB1; clear h1 h2 h3 hB1)
  have HTW := Lib.hid (fun (W : World) (h : Below w1.heap.size w1 W) => HT.out.keep HT.out.lt (HB1.out.trans (h.mono HB1.out.size)))
  have HW := Lib.hid (Below.refl w1.heap.size w1)
  have HOS := Lib.hid (fun (W : World) (hW : Below w1.heap.size w1 W) => OrderStarts_impl A1 c1 g A2 c2 rm wk A3 c3 st W (Kd.C_below H1.out hW) (Kd.C_below H2.out hW) (Kd.C_below H3.out hW) (HTW.out W hW))
  have HSP := Lib.hid (fun (W : World) (hW : Below w1.heap.size w1 W) => sOrderStarts_calls A1 c1 g A2 c2 rm wk A3 c3 st hst W (Kd.C_below H1.out hW) (Kd.C_below H2.out hW) (Kd.C_below H3.out hW))
  have HPS := Lib.hid (fun (W : World) (hW : Below w1.heap.size w1 W) => PlanStarts_impl A1 c1 g A2 c2 rm wk W (Kd.C_below H1.out hW) (Kd.C_below H2.out hW) (HTW.out W hW))
  by_cases ho : osN g rm wk st = []
  ·
   have dl : (((osN g rm wk st).length : Int) == 0) = true := by rw [ho]; rfl
   clear ho
   generalize osN g rm wk st = o at HOS HSP dl
   go_wp2_with (first | (go_at_call 9; refine (HOS.out _ HW.out).mono ?_; rintro e wl ⟨vO, rfl, hR, hB⟩; obtain ⟨AO, cO, rfl, hcO, hC⟩ := Kd.R_reads hR; have HW := Lib.hid (HW.out.trans (hB.mono HW.out.size)); (try (have HcO := Lib.hid (Kd.C_below HcO.out hB))); (try (have HcP := Lib.hid (Kd.C_below HcP.out hB))); have HcO := Lib.hid hC; clear hR hC hB; clear HOS) | (go_at_call 11; refine (HSP.out _ HW.out).mono ?_; rintro e wl ⟨vP, rfl, hR, hB⟩; obtain ⟨AP, cP, rfl, hcP, hC⟩ := Kd.R_reads hR; have HW := Lib.hid (HW.out.trans (hB.mono HW.out.size)); (try (have HcO := Lib.hid (Kd.C_below HcO.out hB))); (try (have HcP := Lib.hid (Kd.C_below HcP.out hB))); have HcP := Lib.hid hC; clear hR hC hB) | (go_at_call 10; refine (equalInts_same _ _ _ _ _ _ HcO.out HcP.out).mono ?_; rintro e wv ⟨rfl, hB⟩; have HW := Lib.hid (HW.out.trans (hB.mono HW.out.size)); (try (have HcO := Lib.hid (Kd.C_below HcO.out hB))); (try (have HcP := Lib.hid (Kd.C_below HcP.out hB))); clear hB))
   go_ret
   exact ⟨rfl, HB1.out.trans (HW.out.mono HB1.out.size)⟩
  ·
   have hpos : 0 < (osN g rm wk st).length := List.length_pos_iff.2 ho
   have dl : (((osN g rm wk st).length : Int) == 0) = false := by rw [beq_eq_false_iff_ne]; omega
   have hs := (osN_yes ho).1
   have hg0 := (osN_yes ho).2.2.2
   have hpe : pS g rm wk = planS g rm wk := pS_is (seaB_facts hs).1 (seaB_facts hs).2.2
   have hV := plan_valid (seaB_facts hs).1 (seaB_facts hs).2.2
   have hplen : (pS g rm wk).length = g.length := by rw [hpe]; exact hV.len
   have hb0 : ∀ i, i < (pS g rm wk).length → 0 ≤ (pS g rm wk).getD i 0 := by rw [hplen, hpe]; exact fun i hi => (hV.b i hi).1
   have h8 : (pS g rm wk).length ≤ 8 := by rw [hplen]; exact hV.ok.1
   have hlaw := planO_law hs hg0
   rw [← hplen] at hlaw
   have HOT := Lib.hid (fun (AT : Option Addr) (cT : Nat) (W : World) (hW : Below w1.heap.size w1 W) hT => OrderStarts_impl A1 c1 g A2 c2 rm wk AT cT (ints (plO (pS g rm wk).length (pS g rm wk) 201)) W (Kd.C_below H1.out hW) (Kd.C_below H2.out hW) hT (HTW.out W hW))
   generalize osN g rm wk (ints (plO (pS g rm wk).length (pS g rm wk) 201)) = x at HOT hlaw
   clear ho hs hg0 hV hplen hpe hpos
   generalize pS g rm wk = pl at HPS HOT hlaw hb0 h8
   generalize osN g rm wk st = o at HOS HSP dl
   have HPL := Lib.hid hlaw
   have HB0 := Lib.hid hb0
   have HPLEN := Lib.hid (fun k => plO_len hb0 k)
   clear hlaw hb0
   go_wp2_with (first | (go_at_call 9; refine (HOS.out _ HW.out).mono ?_; rintro e wl ⟨vO, rfl, hR, hB⟩; obtain ⟨AO, cO, rfl, hcO, hC⟩ := Kd.R_reads hR; have HW := Lib.hid (HW.out.trans (hB.mono HW.out.size)); (try (have HcO := Lib.hid (Kd.C_below HcO.out hB))); (try (have HcP := Lib.hid (Kd.C_below HcP.out hB))); (try (have HcQ := Lib.hid (Kd.C_below HcQ.out hB))); have HcO := Lib.hid hC; clear hR hC hB; clear HOS) | (go_at_call 11; refine (HSP.out _ HW.out).mono ?_; rintro e wl ⟨vP, rfl, hR, hB⟩; obtain ⟨AP, cP, rfl, hcP, hC⟩ := Kd.R_reads hR; have HW := Lib.hid (HW.out.trans (hB.mono HW.out.size)); (try (have HcO := Lib.hid (Kd.C_below HcO.out hB))); (try (have HcP := Lib.hid (Kd.C_below HcP.out hB))); (try (have HcQ := Lib.hid (Kd.C_below HcQ.out hB))); have HcP := Lib.hid hC; clear hR hC hB) | (go_at_call 10; refine (equalInts_same _ _ _ _ _ _ HcO.out HcP.out).mono ?_; rintro e wv ⟨rfl, hB⟩; have HW := Lib.hid (HW.out.trans (hB.mono HW.out.size)); (try (have HcO := Lib.hid (Kd.C_below HcO.out hB))); (try (have HcP := Lib.hid (Kd.C_below HcP.out hB))); (try (have HcQ := Lib.hid (Kd.C_below HcQ.out hB))); clear hB) | (go_at_call 12; refine (HPS.out _ HW.out).mono ?_; rintro e wl ⟨vQ, rfl, hR, hB⟩; obtain ⟨AQ, cQ, rfl, hcQ, hC⟩ := Kd.R_reads hR; have HW := Lib.hid (HW.out.trans (hB.mono HW.out.size)); (try (have HcO := Lib.hid (Kd.C_below HcO.out hB))); (try (have HcP := Lib.hid (Kd.C_below HcP.out hB))); (try (have HcQ := Lib.hid (Kd.C_below HcQ.out hB))); have HcQ := Lib.hid hC; clear hR hC hB))
   have hBa : Below wl.heap.size wl (wl.alloc (.cells #[] 3)) := (Below.refl _ _).alloc (Nat.le_refl _) _
   have hOa : Kd.R (Kd.int .i64) 3 (wl.alloc (.cells #[] 3)) wl.heap.size (fun _ => True) (.slice (some ⟨wl.heap.size, 0, none⟩) 0 0) (ints (plO pl.length pl 0)) := Kd.R_of_own (World.ownsRow_lit (base := wl.heap.size) (size := 1) wl #[] 0 (Nat.le_refl _) (by simp [maxLen]) rfl) (fun _ _ => trivial)
   go_loopw [9, 10] (fun out t wr => ∃ k : Nat, k ≤ 201 ∧ t = .int .i64 (k : Nat) ∧ Kd.R (Kd.int .i64) 3 wr wl.heap.size (fun _ => True) out (ints (plO pl.length pl k)) ∧ Below wl.heap.size wl wr) (fun _ t _ => 201 - (intOf t).toNat)
   case atStart => exact ⟨0, by omega, rfl, hOa, hBa⟩
   case round =>
    clear hOa hBa
    obtain ⟨k, hk, rfl, hO, hB⟩ := hrel
    by_cases hk2 : k < 201
    ·
     have dk : decide ((k : Int) ≤ 200) = true := decide_eq_true (by omega)
     have dk2 : decide (k ≤ 200) = true := decide_eq_true (by omega)
     have hol := HPLEN.out k
     have HSTEP : Hid (plO pl.length pl (k + 1) = plO pl.length pl k ++ plR pl.length pl k pl.length) := Lib.hid rfl
     have e0 : plO pl.length pl k = plO pl.length pl k ++ plR pl.length pl k 0 := by rw [show plR pl.length pl k 0 = [] from rfl, List.append_nil]
     rw [e0] at hO
     clear e0
     generalize plO pl.length pl k = ol at hO HSTEP hol
     have HOB := Lib.hid (And.intro hO hB)
     clear hO hB
     go_wp2
     obtain ⟨hO, hB⟩ := HOB.out
     go_loopw [9, 11] (fun out i wi => ∃ j : Nat, j ≤ pl.length ∧ i = .int .i64 (j : Nat) ∧ Kd.R (Kd.int .i64) 3 wi wl.heap.size (fun _ => True) out (ints (ol ++ plR pl.length pl k j)) ∧ Below wl.heap.size wl wi) (fun _ i _ => pl.length - (intOf i).toNat)
     case atStart => exact ⟨0, Nat.zero_le _, rfl, hO, hB⟩
     case round =>
      clear hO hB HOB
      obtain ⟨j, hj, rfl, hO, hB⟩ := hrel
      by_cases hjl : j < pl.length
      ·
       have djl : decide ((j : Int) < (pl.length : Int)) = true := decide_eq_true (by omega)
       have hji : (j : Int) < (pl.length : Int) := by omega
       obtain ⟨adq, rfl, cq⟩ := at_num (Kd.C_below HcQ.out hB) j hjl
       have HSN := Lib.hid (plR_snoc pl.length pl k j)
       have hrl : (plR pl.length pl k j).length ≤ j := filter_range_le _ j
       generalize pl.getD j 0 = y at cq HSN
       by_cases hy : y = (k : Int)
       ·
        have dy : (y == (k : Int)) = true := beq_iff_eq.2 hy
        have HE : Hid (ints (ol ++ plR pl.length pl k (j + 1)) = ints (ol ++ plR pl.length pl k j) ++ [(j : Int)]) := Lib.hid (by rw [HSN.out, if_pos hy]; simp [ints])
        have hfl8 : (ints (ol ++ plR pl.length pl k j)).length < 1000000 := by rw [ints_length, List.length_append]; omega
        clear hrl hol hy
        generalize ints (ol ++ plR pl.length pl k j) = fl at hO HE hfl8
        go_wp2_with (at_builtin; refine ap_int (w0 := wl) wl.heap.size rfl _ _ rfl u9 fl (j : Int) rfl rfl rfl hO hB hB.size hfl8 ?_; intro v1 w2 hO2 hB2 hg2 hat2; clear hg2 hat2)
        go_roundw
        case rel => exact ⟨j + 1, by omega, by go_num, by rw [HE.out]; exact hO2, hB2⟩
        case measure => simp [intOf]; omega
       ·
        have dy : (y == (k : Int)) = false := beq_eq_false_iff_ne.2 hy
        have HE : Hid (ints (ol ++ plR pl.length pl k (j + 1)) = ints (ol ++ plR pl.length pl k j)) := Lib.hid (by rw [HSN.out, if_neg hy])
        clear hrl hol hy
        go_wp2
        go_roundw
        case rel => exact ⟨j + 1, by omega, by go_num, by rw [HE.out]; exact hO, hB⟩
        case measure => simp [intOf]; omega
      ·
       obtain rfl : j = pl.length := by omega
       have djl : decide ((pl.length : Int) < (pl.length : Int)) = false := decide_eq_false (by omega)
       go_wp2
       go_roundw
       case rel => exact ⟨k + 1, by omega, by go_num, by rw [HSTEP.out]; exact hO, hB⟩
       case measure => simp [intOf]; omega
    ·
     obtain rfl : k = 201 := by omega
     have dk : decide (((201 : Nat) : Int) ≤ 200) = false := rfl
     obtain ⟨AT, cT, rfl, hcT, hCT⟩ := Kd.R_reads hO
     generalize ints (plO pl.length pl 201) = tl at HOT hO hCT hcT
     have HcT := Lib.hid hCT
     have HW : Hid (Below w1.heap.size w1 wr) := Lib.hid (HW.out.trans (hB.mono HW.out.size))
     have HcQ := Lib.hid (Kd.C_below HcQ.out hB)
     clear hO hCT hB HPLEN HB0 hk hk2
     go_wp2_with (go_at_call 9; refine (HOT.out AT cT _ HW.out HcT.out).mono ?_; rintro e wx ⟨vX, rfl, hR, hB⟩; obtain ⟨AX, cX, rfl, hcX, hC⟩ := Kd.R_reads hR; have HW := Lib.hid (HW.out.trans (hB.mono HW.out.size)); have HcQ := Lib.hid (Kd.C_below HcQ.out hB); have HcX := Lib.hid hC; clear hR hC hB)
     go_loopw [13] (fun i wi => ∃ j : Nat, j ≤ pl.length ∧ i = .int .i64 (j : Nat) ∧ Below wx.heap.size wx wi) (fun i _ => pl.length - (intOf i).toNat)
     case atStart => exact ⟨0, Nat.zero_le _, rfl, Below.refl _ _⟩
     case round =>
      obtain ⟨j, hj, rfl, hB⟩ := hrel
      by_cases hjl : j < pl.length
      ·
       have djl : decide ((j : Int) < (pl.length : Int)) = true := decide_eq_true (by omega)
       have hji : (j : Int) < (pl.length : Int) := by omega
       obtain ⟨hxl, hxd⟩ := HPL.out
       obtain ⟨adq, rfl, cq⟩ := at_num (Kd.C_below HcQ.out hB) j hjl
       obtain ⟨adx, rfl, cx⟩ := at_num (Kd.C_below HcX.out hB) j (by omega)
       have hle := hxd j hjl
       generalize pl.getD j 0 = y at cq hle
       generalize x.getD j 0 = z at cx hle
       have dz : decide (y < z) = false := decide_eq_false (by omega)
       have dx : decide ((x.length : Int) ≤ (j : Int)) = false := decide_eq_false (by omega)
       have dx2 : decide (x.length ≤ j) = false := decide_eq_false (by omega)
       have hjx : (j : Int) < (x.length : Int) := by omega
       have HB := Lib.hid hB
       clear hxl hxd hle hB
       go_wp2
       go_quiet (fail)
       go_wp2
       go_roundw
       case rel => exact ⟨j + 1, by omega, by go_num, pw_below_drewN HB.out nq⟩
       case measure => simp [intOf]; omega
      ·
       obtain rfl : j = pl.length := by omega
       have djl : decide ((pl.length : Int) < (pl.length : Int)) = false := decide_eq_false (by omega)
       go_wp2
       go_ret
       exact ⟨rfl, HB1.out.trans ((HW.out.trans (hB.mono HW.out.size)).mono HB1.out.size)⟩
end Go.Proofs.YtkljcdghbefceaaDoor
