/- Parts of the proof, laid as one text by a program of mine. -/
import Derived.Test.YtnbkkiacffkfmaaDoorKbc12
import Derived.Test.YtnbkkiacffkfmaaDoorKbc16
import Derived.Test.YtnbkkiacffkfmaaDoorKbc17
import Derived.Test.YtnbkkiacffkfmaaDoorKbc10
namespace Go.Proofs.YtnbkkiacffkfmaaDoor
set_option linter.unusedVariables false
set_option linter.unusedSimpArgs false
open Go.RowKit Go.Shelf Bits
open Go.Proofs.YtnbkkiacffkfmaaDoorW.PrintWords Go.Proofs.YtnbkkiacffkfmaaDoorW.PrintLast Go.Proofs.YtnbkkiacffkfmaaDoorW.PrintMore
set_option maxRecDepth 1000000 in
set_option maxHeartbeats 8000000 in
theorem FnCancelAt_walk (A : Option Addr) (c : Nat) (l : List Int) (hb : ∀ x ∈ l, 0 ≤ x ∧ x < 256) (w : World) (hT : Tab w) (hr : (Kd.int .u8).C w A l.length l) (hc : l.length ≤ c) :
  Calls Tryd.prog 11 #[.slice A l.length c] w fun e w' => e = .returned (.bool true) ∧ Below w.heap.size w w' := by
 have HT := Lib.hid hT
 have hll := (C_len hr).2
 have HD := Lib.hid (DrawCancelAt_any A c l hb w hr hc)
 clear hb hr hc hT
 by_cases hbig : 1048576 < l.length
 ·
  have db : decide ((1048576 : Int) < (l.length : Int)) = true := decide_eq_true (by omega)
  clear hbig
  go_enter Tryd.func11, Tryd.ntmps11
  go_wp2
  go_ret
  exact ⟨rfl, Below.refl _ _⟩
 ·
  have db : decide ((1048576 : Int) < (l.length : Int)) = false := decide_eq_false (by omega)
  clear hbig
  go_enter Tryd.func11, Tryd.ntmps11
  go_upto_region 4 with (go_at_call 30; refine HD.out.mono ?_; rintro e w1 ⟨A1, c1, g, A2, c2, rm, wk, A3, c3, st, now, rfl, h1, h2, h3, hg16, hs8, hwk, hso, hnow, hB1⟩; have H1 := Lib.hid h1; have H2 := Lib.hid h2; have H3 := Lib.hid h3; have HSO := Lib.hid hso; have HB1 := Lib.hid hB1; clear h1 h2 h3 hso hB1)
  have HTW := Lib.hid (fun (W : World) (h : Below w1.heap.size w1 W) => HT.out.keep HT.out.lt (HB1.out.trans (h.mono HB1.out.size)))
  have HW := Lib.hid (Below.refl w1.heap.size w1)
  have HCA := Lib.hid (fun (W : World) (hW : Below w1.heap.size w1 W) => CancelAt_impl A1 c1 g A2 c2 rm wk A3 c3 st now W (Kd.C_below H1.out hW) (Kd.C_below H2.out hW) (Kd.C_below H3.out hW) (HTW.out W hW))
  have HSC := Lib.hid (fun (W : World) (hW : Below w1.heap.size w1 W) => sCancelAt_calls A1 c1 g A2 c2 rm wk A3 c3 st now W (Kd.C_below H1.out hW) (Kd.C_below H2.out hW) (Kd.C_below H3.out hW))
  have hcase := caS_cases g rm wk st now
  have HCN := Lib.hid (fun (hv : Valid g rm wk st) i hi hc x hx => canc_needs (now := now) hv (i := i) hi hc (x := x) hx)
  have HCG := Lib.hid (fun i (hi : i < g.length) => caS_get (g := g) (st := st) (now := now) hi)
  have HCL := Lib.hid (canc_len (cancF g st now) g.length)
  by_cases hlen : (caS g rm wk st now).length = g.length
  ·
   have dl : (((caS g rm wk st now).length : Int) != (g.length : Int)) = false := by rw [hlen]; exact bne_self_eq_false _
   have HFT : Hid (g.length = 0 ∨ Valid g rm wk st) := Lib.hid (by
    rcases hcase with h | h
    ·
     rw [h] at hlen
     exact .inl hlen.symm
    ·
     exact .inr h.1)
   have HLL := Lib.hid hlen
   have HLG : Hid (∀ i, i < g.length → (caS g rm wk st now).getD i 0 = cancF g st now i) := Lib.hid (fun i hi => by
    rcases hcase with h | h
    ·
     rw [h] at hlen
     have : g.length = 0 := hlen.symm
     omega
    ·
     rw [h.2.2]
     exact HCG.out i hi)
   clear hcase hlen
   generalize caS g rm wk st now = o at HCA HSC dl HLL HLG
   go_upto_region 7 with (first | (go_at_call 31; refine (HCA.out _ HW.out).mono ?_; rintro e wl ⟨vO, rfl, hR, hB⟩; obtain ⟨AO, cO, rfl, hcO, hC⟩ := Kd.R_reads hR; have HW := Lib.hid (HW.out.trans (hB.mono HW.out.size)); (try (have HcO := Lib.hid (Kd.C_below HcO.out hB))); (try (have HcP := Lib.hid (Kd.C_below HcP.out hB))); have HcO := Lib.hid hC; clear hR hC hB) | (go_at_call 33; refine (HSC.out _ HW.out).mono ?_; rintro e wl ⟨vP, rfl, hR, hB⟩; obtain ⟨AP, cP, rfl, hcP, hC⟩ := Kd.R_reads hR; have HW := Lib.hid (HW.out.trans (hB.mono HW.out.size)); (try (have HcO := Lib.hid (Kd.C_below HcO.out hB))); (try (have HcP := Lib.hid (Kd.C_below HcP.out hB))); have HcP := Lib.hid hC; clear hR hC hB) | (go_at_call 32; refine (equalInts_same _ _ _ _ _ _ HcO.out HcP.out).mono ?_; rintro e wv ⟨rfl, hB⟩; have HW := Lib.hid (HW.out.trans (hB.mono HW.out.size)); (try (have HcO := Lib.hid (Kd.C_below HcO.out hB))); (try (have HcP := Lib.hid (Kd.C_below HcP.out hB))); clear hB))
   obtain ⟨w2, rfl⟩ : ∃ w2 : World, w2 = wv := ⟨_, rfl⟩
   go_wp2
   go_loopw [9] (fun i wr => ∃ j, j ≤ g.length ∧ i = .int .i64 (j : Nat) ∧ Below w2.heap.size w2 wr) (fun i _ => g.length - (intOf i).toNat)
   case atStart => exact ⟨0, Nat.zero_le _, rfl, Below.refl _ _⟩
   case round =>
    obtain ⟨j, hj, rfl, hB2⟩ := hrel
    by_cases hjl : j < g.length
    ·
     have HV : Hid (Valid g rm wk st) := Lib.hid (by
      rcases HFT.out with h | h
      ·
       omega
      ·
       exact h)
     have hB := HW.out.trans (hB2.mono HW.out.size)
     have hjs : j < st.length := by rw [HV.out.len]; exact hjl
     have hjo : j < o.length := by rw [HLL.out]; exact hjl
     obtain ⟨ad, A4, c4, rfl, hc0, hc1, _, _, _, hN⟩ := at_Tk (Kd.C_below H1.out hB) j hjl
     obtain ⟨ads, rfl, cs⟩ := at_num (Kd.C_below H3.out hB) j hjs
     obtain ⟨ado, rfl, co⟩ := at_num (Kd.C_below HcO.out hB2) j hjo
     rw [HLG.out j hjl] at co
     have hjj : decide ((j : Int) < (g.length : Int)) = true := decide_eq_true (by omega)
     have hji : (j : Int) < (g.length : Int) := by omega
     have hjsi : (j : Int) < (st.length : Int) := by omega
     have hjoi : (j : Int) < (o.length : Int) := by omega
     have hnl := (C_len hN).2
     have HNN := Lib.hid hN
     have HND := Lib.hid (HCN.out HV.out j hjl)
     have HNI := Lib.hid (spec_needs_in HV.out.v j hjl)
     have hsj := HSO.out j
     have htj := HV.out.ok.2.1 j
     have HD0 := Lib.hid (canc_done (g := g) (st := st) (now := now) (i := j))
     have HD1 := Lib.hid (canc_failed (g := g) (st := st) (now := now) (i := j))
     have HD3 := Lib.hid (canc_left (now := now) (st := st) HV.out.ok hjl)
     generalize st.getD j 0 = s at cs hsj HD0 HD1 HD3
     have htm1 := (HV.out.ok.2.2.2.2 j hjl).1
     generalize (rdTk g j).f0 = tm at hc0 htj HD0 HD1 htm1
     generalize hcj : cancF g st now j = cj at co HND HD0 HD1 HD3
     obtain ⟨nd, hnd⟩ : ∃ nd, nd = (rdTk g j).f1 := ⟨_, rfl⟩
     rw [← hnd] at HND HNI hnl
     have hwr : IntKind.i64.wrap (s + tm) = s + tm := IntWalk.i64_in _ (by omega)
     have HB2 := Lib.hid hB2
     have HHN := Lib.hid hnd
     have HCJ := Lib.hid hcj
     clear hN hB hB2 hcj hnd HNN hc1
     by_cases g0 : s + tm ≤ now
     ·
      have d0 : decide (s + tm ≤ now) = true := decide_eq_true g0
      have d1 : decide (s < now) = true := decide_eq_true (by omega)
      obtain rfl := HD0.out.2 g0
      clear HD0 HD1 HD3 g0
      go_wp2
      (try go_quiet (fail))
      (try go_wp2)
      (try go_quiet (fail))
      (try go_wp2)
      clear hwr
      go_loopw [11] (fun k wi => ∃ q, q ≤ nd.length ∧ k = .int .i64 (q : Nat) ∧ Below w2.heap.size w2 wi) (fun k _ => nd.length - (intOf k).toNat)
      case atStart => exact ⟨0, Nat.zero_le _, rfl, by repeat (first | exact HB2.out | apply pw_below_drewN)⟩
      case round =>
       obtain ⟨q, hq, rfl, hBi⟩ := hrel
       obtain ⟨ad3, A5, c5, e5, hc0', hc1, _, _, _, hN⟩ := at_Tk (Kd.C_below H1.out (HW.out.trans (hBi.mono HW.out.size))) j hjl
       cases e5
       rw [← HHN.out] at hc1 hN
       have HBi := Lib.hid hBi
       have co2 := at_num (Kd.C_below HcO.out hBi) j hjo
       obtain ⟨ad4, e4, co2⟩ := co2
       cases e4
       rw [HLG.out j hjl, HCJ.out] at co2
       by_cases hql : q < nd.length
       ·
        have hqq : decide ((q : Int) < (nd.length : Int)) = true := decide_eq_true (by omega)
        have hqi : (q : Int) < (nd.length : Int) := by omega
        obtain ⟨ad6, rfl, cx⟩ := at_num hN q hql
        have hxm : nd.getD q 0 ∈ nd := mem_getD hql
        have hx0 := HNI.out _ hxm
        have hxc := HND.out (by decide) _ hxm
        obtain ⟨x, hx⟩ : ∃ x : Nat, nd.getD q 0 = (x : Int) := ⟨(nd.getD q 0).toNat, by omega⟩
        rw [hx] at cx hx0 hxc
        rw [Int.toNat_natCast] at hxc
        have hxg : x < g.length := by omega
        have hxo : x < o.length := by rw [HLL.out]; exact hxg
        obtain ⟨ad7, e7, cox⟩ := at_num (Kd.C_below HcO.out hBi) x hxo
        cases e7
        rw [HLG.out x hxg, hxc] at cox
        have hxi : (x : Int) < (o.length : Int) := by omega
        clear hBi hN hxm hx0 hxc hx
        go_wp2
        (try go_quiet (fail))
        (try go_wp2)
        go_roundw
        case rel => exact ⟨q + 1, by omega, by go_num, by repeat (first | exact HBi.out | apply pw_below_drewN)⟩
        case measure => simp [intOf]; omega
       ·
        obtain rfl : q = nd.length := by omega
        have hqq : decide ((nd.length : Int) < (nd.length : Int)) = false := decide_eq_false (by omega)
        clear hBi hN
        go_wp2
        go_roundw
        case rel => exact ⟨j + 1, by omega, by go_num, HBi.out⟩
        case measure => simp [intOf]; omega
     ·
      have d0 : decide (s + tm ≤ now) = false := decide_eq_false g0
      by_cases g1 : s < now
      ·
       have d1 : decide (s < now) = true := decide_eq_true g1
       obtain rfl := HD1.out.2 ⟨g1, g0⟩
       clear HD0 HD1 HD3 g0 g1
       go_wp2
       (try go_quiet (fail))
       (try go_wp2)
       (try go_quiet (fail))
       (try go_wp2)
       clear hwr
       go_loopw [11] (fun k wi => ∃ q, q ≤ nd.length ∧ k = .int .i64 (q : Nat) ∧ Below w2.heap.size w2 wi) (fun k _ => nd.length - (intOf k).toNat)
       case atStart => exact ⟨0, Nat.zero_le _, rfl, by repeat (first | exact HB2.out | apply pw_below_drewN)⟩
       case round =>
        obtain ⟨q, hq, rfl, hBi⟩ := hrel
        obtain ⟨ad3, A5, c5, e5, hc0', hc1, _, _, _, hN⟩ := at_Tk (Kd.C_below H1.out (HW.out.trans (hBi.mono HW.out.size))) j hjl
        cases e5
        rw [← HHN.out] at hc1 hN
        have HBi := Lib.hid hBi
        have co2 := at_num (Kd.C_below HcO.out hBi) j hjo
        obtain ⟨ad4, e4, co2⟩ := co2
        cases e4
        rw [HLG.out j hjl, HCJ.out] at co2
        by_cases hql : q < nd.length
        ·
         have hqq : decide ((q : Int) < (nd.length : Int)) = true := decide_eq_true (by omega)
         have hqi : (q : Int) < (nd.length : Int) := by omega
         obtain ⟨ad6, rfl, cx⟩ := at_num hN q hql
         have hxm : nd.getD q 0 ∈ nd := mem_getD hql
         have hx0 := HNI.out _ hxm
         have hxc := HND.out (by decide) _ hxm
         obtain ⟨x, hx⟩ : ∃ x : Nat, nd.getD q 0 = (x : Int) := ⟨(nd.getD q 0).toNat, by omega⟩
         rw [hx] at cx hx0 hxc
         rw [Int.toNat_natCast] at hxc
         have hxg : x < g.length := by omega
         have hxo : x < o.length := by rw [HLL.out]; exact hxg
         obtain ⟨ad7, e7, cox⟩ := at_num (Kd.C_below HcO.out hBi) x hxo
         cases e7
         rw [HLG.out x hxg, hxc] at cox
         have hxi : (x : Int) < (o.length : Int) := by omega
         clear hBi hN hxm hx0 hxc hx
         go_wp2
         (try go_quiet (fail))
         (try go_wp2)
         go_roundw
         case rel => exact ⟨q + 1, by omega, by go_num, by repeat (first | exact HBi.out | apply pw_below_drewN)⟩
         case measure => simp [intOf]; omega
        ·
         obtain rfl : q = nd.length := by omega
         have hqq : decide ((nd.length : Int) < (nd.length : Int)) = false := decide_eq_false (by omega)
         clear hBi hN
         go_wp2
         go_roundw
         case rel => exact ⟨j + 1, by omega, by go_num, HBi.out⟩
         case measure => simp [intOf]; omega
      ·
       have d1 : decide (s < now) = false := decide_eq_false g1
       obtain rfl : cj = 3 := HD3.out.2 (by omega)
       clear HD0 HD1 HD3 g0 g1
       go_wp2
       (try go_quiet (fail))
       (try go_wp2)
       (try go_quiet (fail))
       (try go_wp2)
       clear hwr
       go_loopw [11] (fun k wi => ∃ q, q ≤ nd.length ∧ k = .int .i64 (q : Nat) ∧ Below w2.heap.size w2 wi) (fun k _ => nd.length - (intOf k).toNat)
       case atStart => exact ⟨0, Nat.zero_le _, rfl, by repeat (first | exact HB2.out | apply pw_below_drewN)⟩
       case round =>
        obtain ⟨q, hq, rfl, hBi⟩ := hrel
        obtain ⟨ad3, A5, c5, e5, hc0', hc1, _, _, _, hN⟩ := at_Tk (Kd.C_below H1.out (HW.out.trans (hBi.mono HW.out.size))) j hjl
        cases e5
        rw [← HHN.out] at hc1 hN
        have HBi := Lib.hid hBi
        have co2 := at_num (Kd.C_below HcO.out hBi) j hjo
        obtain ⟨ad4, e4, co2⟩ := co2
        cases e4
        rw [HLG.out j hjl, HCJ.out] at co2
        by_cases hql : q < nd.length
        ·
         have hqq : decide ((q : Int) < (nd.length : Int)) = true := decide_eq_true (by omega)
         have hqi : (q : Int) < (nd.length : Int) := by omega
         clear hBi hN
         go_wp2
         (try go_quiet (fail))
         (try go_wp2)
         go_roundw
         case rel => exact ⟨q + 1, by omega, by go_num, by repeat (first | exact HBi.out | apply pw_below_drewN)⟩
         case measure => simp [intOf]; omega
        ·
         obtain rfl : q = nd.length := by omega
         have hqq : decide ((nd.length : Int) < (nd.length : Int)) = false := decide_eq_false (by omega)
         clear hBi hN
         go_wp2
         go_roundw
         case rel => exact ⟨j + 1, by omega, by go_num, HBi.out⟩
         case measure => simp [intOf]; omega
    ·
     obtain rfl : j = g.length := by omega
     have hjj : decide ((g.length : Int) < (g.length : Int)) = false := decide_eq_false (by omega)
     have hB := HW.out.trans (hB2.mono HW.out.size)
     go_wp2
     go_ret
     exact ⟨rfl, HB1.out.trans (hB.mono HB1.out.size)⟩
  ·
   have dl : (((caS g rm wk st now).length : Int) != (g.length : Int)) = true := bne_iff_ne.2 (by omega)
   clear hcase hlen
   generalize caS g rm wk st now = o at HCA HSC dl
   go_wp2_with (first | (go_at_call 31; refine (HCA.out _ HW.out).mono ?_; rintro e wl ⟨vO, rfl, hR, hB⟩; obtain ⟨AO, cO, rfl, hcO, hC⟩ := Kd.R_reads hR; have HW := Lib.hid (HW.out.trans (hB.mono HW.out.size)); (try (have HcO := Lib.hid (Kd.C_below HcO.out hB))); (try (have HcP := Lib.hid (Kd.C_below HcP.out hB))); have HcO := Lib.hid hC; clear hR hC hB) | (go_at_call 33; refine (HSC.out _ HW.out).mono ?_; rintro e wl ⟨vP, rfl, hR, hB⟩; obtain ⟨AP, cP, rfl, hcP, hC⟩ := Kd.R_reads hR; have HW := Lib.hid (HW.out.trans (hB.mono HW.out.size)); (try (have HcO := Lib.hid (Kd.C_below HcO.out hB))); (try (have HcP := Lib.hid (Kd.C_below HcP.out hB))); have HcP := Lib.hid hC; clear hR hC hB) | (go_at_call 32; refine (equalInts_same _ _ _ _ _ _ HcO.out HcP.out).mono ?_; rintro e wv ⟨rfl, hB⟩; have HW := Lib.hid (HW.out.trans (hB.mono HW.out.size)); (try (have HcO := Lib.hid (Kd.C_below HcO.out hB))); (try (have HcP := Lib.hid (Kd.C_below HcP.out hB))); clear hB))
   go_ret
   exact ⟨rfl, HB1.out.trans (HW.out.mono HB1.out.size)⟩
end Go.Proofs.YtnbkkiacffkfmaaDoor
