/- Parts of the proof, laid as one text by a program of mine. -/
import Derived.Test.YtnbkkiacffkfmaaDoorKbc16
import Derived.Test.YtnbkkiacffkfmaaDoorKbc5
import Derived.Test.YtnbkkiacffkfmaaDoorKbc2
import Derived.Test.YtnbkkiacffkfmaaDoorKbc12
import Derived.Test.YtnbkkiacffkfmaaDoorKbc17
import Derived.Test.YtnbkkiacffkfmaaDoorKbc10
namespace Go.Proofs.YtnbkkiacffkfmaaDoor
set_option linter.unusedVariables false
set_option linter.unusedSimpArgs false
open Go.RowKit Go.Shelf Bits
open Go.Proofs.YtnbkkiacffkfmaaDoorW.PrintWords Go.Proofs.YtnbkkiacffkfmaaDoorW.PrintLast Go.Proofs.YtnbkkiacffkfmaaDoorW.PrintMore
attribute [local go_sem] Oper.semAt_some
theorem allInB_intsR {L : List Nat} {n : Nat} (h : ∀ i ∈ L, i < n) : allInB (ints L) 0 ((n : Int) - 1) = true := by
 unfold allInB ints
 rw [List.all_map, List.all_eq_true]
 intro i hi
 have := h i hi
 exact inB_true.2 ⟨by simp, by simp; omega⟩
theorem setOf_filter (P : Nat → Bool) {n : Nat} (hn : n ≤ 8) : ∃ s, setOfN (ints ((List.range n).filter P)) n = some s ∧ elems s = (List.range n).filter P := by
 have h1 : (setOfN (ints ((List.range n).filter P)) n).isSome = true := by
  rw [setOfN_isSome, ascB_filter, allInB_intsR (fun i hi => List.mem_range.1 (List.mem_filter.1 hi).1)]
  rfl
 obtain ⟨s, hs⟩ := Option.isSome_iff_exists.1 h1
 refine ⟨s, hs, elems_eq (by omega) (setOfN_lt hs) P (fun j hj => ?_)⟩
 rw [setOfN_bits hs, Bool.eq_iff_iff, decide_eq_true_iff]
 unfold ints
 constructor
 ·
  intro h
  obtain ⟨i, hi, e⟩ := List.mem_map.1 h
  have : i = j := Int.ofNat.inj e
  rw [← this]
  exact (List.mem_filter.1 hi).2
 ·
  intro h
  exact List.mem_map.2 ⟨j, List.mem_filter.2 ⟨List.mem_range.2 hj, h⟩, rfl⟩
set_option maxRecDepth 100000 in
theorem fits_calls (t a0 a1 a2 : Int) (A : Option Addr) (c : Nat) (rm : List Int) (hrm : rm.length = 3) (h0 : a0 ≤ rm.getD 0 0) (h1 : a1 ≤ rm.getD 1 0) (h2 : a2 ≤ rm.getD 2 0) (w : World) (hr : (Kd.int .i64).C w A rm.length rm) :
  Calls Tryd.prog 61 #[.agg #[.int .i64 t, .int .i64 a0, .int .i64 a1, .int .i64 a2], .slice A rm.length c] w fun e w' => e = .returned (.bool true) ∧ Below w.heap.size w w' := by
 have HB : Hid (Below w.heap.size w (w.alloc (.cells #[.int .i64 t, .int .i64 a0, .int .i64 a1, .int .i64 a2] 69))) := Lib.hid ((Below.refl _ _).alloc (Nat.le_refl _) _)
 have HR := Lib.hid (Kd.C_below hr HB.out)
 clear hr
 obtain ⟨ad, rfl, c0⟩ := at_num HR.out 0 (by omega)
 obtain ⟨_, e1, c1⟩ := at_num HR.out 1 (by omega)
 cases e1
 obtain ⟨_, e2, c2⟩ := at_num HR.out 2 (by omega)
 cases e2
 generalize rm.getD 0 0 = r0 at c0 h0
 generalize rm.getD 1 0 = r1 at c1 h1
 generalize rm.getD 2 0 = r2 at c2 h2
 rw [show ad.add 0 = ad from by cases ad; rfl] at c0
 rw [show ad.add 1 = ⟨ad.block, ad.off + 1, none⟩ from by unfold Addr.add; split <;> simp_all] at c1
 rw [show ad.add 2 = ⟨ad.block, ad.off + 2, none⟩ from by unfold Addr.add; split <;> simp_all] at c2
 have d0 : decide (r0 < a0) = false := decide_eq_false (by omega)
 have d1 : decide (r1 < a1) = false := decide_eq_false (by omega)
 have d2 : decide (r2 < a2) = false := decide_eq_false (by omega)
 have l0 : (0 : Int) < (rm.length : Int) := by omega
 have l1 : (1 : Int) < (rm.length : Int) := by omega
 have l2 : (2 : Int) < (rm.length : Int) := by omega
 have i0 : ∀ w : World, (Instr.index 67 (.agg #[.int .i64 a0, .int .i64 a1, .int .i64 a2]) (.int .i64 0)).run Tryd.prog w = .ok (.int .i64 a0) w := fun _ => by kernel_rfl
 have i1 : ∀ w : World, (Instr.index 67 (.agg #[.int .i64 a0, .int .i64 a1, .int .i64 a2]) (.int .i64 1)).run Tryd.prog w = .ok (.int .i64 a1) w := fun _ => by kernel_rfl
 have i2 : ∀ w : World, (Instr.index 67 (.agg #[.int .i64 a0, .int .i64 a1, .int .i64 a2]) (.int .i64 2)).run Tryd.prog w = .ok (.int .i64 a2) w := fun _ => by kernel_rfl
 clear hrm h0 h1 h2
 go_enter Tryd.func61, Tryd.ntmps61
 go_wp2
 go_loop [9] (fun i => ∃ (j : Nat), j ≤ 3 ∧ i = .int .i64 j) (fun i => 3 - (intOf i).toNat)
 case atStart => exact ⟨0, Nat.zero_le _, rfl⟩
 case round =>
  obtain ⟨j, hj, rfl⟩ := hrel
  rcases j with _ | _ | _ | _ | j
  ·
   go_wp2
   go_round
   case rel => exact ⟨1, by omega, rfl⟩
   case measure => simp [intOf]
  ·
   go_wp2
   go_round
   case rel => exact ⟨2, by omega, rfl⟩
   case measure => simp [intOf]
  ·
   go_wp2
   go_round
   case rel => exact ⟨3, by omega, rfl⟩
   case measure => simp [intOf]
  ·
   go_wp2
   go_ret
   exact ⟨rfl, HB.out⟩
  ·
   omega
set_option maxRecDepth 100000 in
set_option maxHeartbeats 4000000 in
theorem RunsTogether_yes (A : Option Addr) (c : Nat) (g : List Tk) (A1 : Option Addr) (c1 : Nat) (rm : List Int) (A2 : Option Addr) (c2 : Nat) (P : Nat → Bool) (hv : specValid g = true) (hrm : roomB rm = true) (hu : ∀ p : Nat, p < 3 → usedS g ((List.range g.length).filter P) p ≤ rm.getD p 0) (w : World) (hr : kTk.C w A g.length g) (hr1 : (Kd.int .i64).C w A1 rm.length rm) (hr2 : (Kd.int .i64).C w A2 (ints ((List.range g.length).filter P)).length (ints ((List.range g.length).filter P))) (hT : Tab w) :
  Calls Tryd.prog 40 #[.slice A g.length c, .slice A1 rm.length c1, .slice A2 (ints ((List.range g.length).filter P)).length c2] w fun e w' => e = .returned (.bool true) ∧ Below w.heap.size w w' := by
 obtain ⟨ns, hg⟩ := graphN_yes hv
 have hok := specValid_TOk hv
 obtain ⟨s, hs, he⟩ := setOf_filter P hok.1
 have HP := Lib.hid (graphOf_yes A c g ns w hr hT hg)
 have HRM := Lib.hid hrm
 have HR1 := Lib.hid hr1
 have HR2 := Lib.hid hr2
 have HT := Lib.hid hT
 have HS := Lib.hid hs
 have h8 := hok.1
 have HCT := Lib.hid (fun (W : World) C (h : IsGraph W C g ns) (hT : Tab W) => counted_calls C g ns s (setOfN_lt hs) hok W h hT)
 rw [he] at HCT
 have HU0 := Lib.hid (hu 0 (by omega))
 have HU1 := Lib.hid (hu 1 (by omega))
 have HU2 := Lib.hid (hu 2 (by omega))
 have HR3 := Lib.hid (roomB_facts hrm).1
 clear hr hr1 hr2 hT hg hv hrm hs hok hu he
 generalize (List.range g.length).filter P = run at HR2 HS HCT HU0 HU1 HU2 ⊢
 go_enter Tryd.func40, Tryd.ntmps40
 go_wp2_with (first | (go_at_call 46; refine HP.out.mono ?_; rintro e w1 ⟨C, rfl, hG, hB1⟩; have HG := Lib.hid hG; have HB1 := Lib.hid hB1; clear hG hB1) | (go_at_call 21; refine (ValidRoom_is true A1 c1 rm HRM _ (Kd.C_below HR1.out HB1.out)).mono ?_; rintro e w2 ⟨rfl, rfl⟩) | (go_at_call 55; refine (size_calls _ C g ns HG.out).mono ?_; rintro e w2 ⟨rfl, rfl⟩) | (go_at_call 59; refine (setOf_some A2 c2 (ints run) g.length s HS (by omega) _ (Kd.C_below HR2.out HB1.out)).mono ?_; rintro e w2 ⟨rfl, rfl⟩) | (go_at_call 60; refine (HCT.out _ C HG.out (HT.out.keep HT.out.lt HB1.out)).mono ?_; rintro e w3 ⟨rfl, hB3⟩; have HB3 := Lib.hid (HB1.out.trans (hB3.mono HB1.out.size)); clear hB3) | (go_at_call 61; refine (fits_calls _ _ _ _ A1 c1 rm HR3.out HU0.out HU1.out HU2.out _ (Kd.C_below HR1.out HB3.out)).mono ?_; rintro e w4 ⟨rfl, hB4⟩))
 go_ret
 exact ⟨rfl, HB3.out.trans (hB4.mono HB3.out.size)⟩
end Go.Proofs.YtnbkkiacffkfmaaDoor

namespace Go.Proofs.YtnbkkiacffkfmaaDoor
set_option linter.unusedVariables false
set_option linter.unusedSimpArgs false
open Go.RowKit Go.Shelf Bits
open Go.Proofs.YtnbkkiacffkfmaaDoorW.PrintWords Go.Proofs.YtnbkkiacffkfmaaDoorW.PrintLast Go.Proofs.YtnbkkiacffkfmaaDoorW.PrintMore
set_option maxRecDepth 1000000 in
set_option maxHeartbeats 8000000 in
theorem FnRunningAt_walk (A : Option Addr) (c : Nat) (l : List Int) (hb : ∀ x ∈ l, 0 ≤ x ∧ x < 256) (w : World) (hT : Tab w) (hr : (Kd.int .u8).C w A l.length l) (hc : l.length ≤ c) :
  Calls Tryd.prog 16 #[.slice A l.length c] w fun e w' => e = .returned (.bool true) ∧ Below w.heap.size w w' := by
 have HT := Lib.hid hT
 have hll := (C_len hr).2
 have HD := Lib.hid (DrawRunningAt_any A c l hb w hr hc)
 clear hb hr hc hT
 by_cases hbig : 1048576 < l.length
 ·
  have db : decide ((1048576 : Int) < (l.length : Int)) = true := decide_eq_true (by omega)
  clear hbig
  go_enter Tryd.func16, Tryd.ntmps16
  go_wp2
  go_ret
  exact ⟨rfl, Below.refl _ _⟩
 ·
  have db : decide ((1048576 : Int) < (l.length : Int)) = false := decide_eq_false (by omega)
  clear hbig
  go_enter Tryd.func16, Tryd.ntmps16
  go_upto_region 4 with (go_at_call 34; refine HD.out.mono ?_; rintro e w1 ⟨A1, c1, g, A2, c2, rm, wk, A3, c3, st, now, rfl, h1, h2, h3, hg16, hs8, hwk, hso, hnow, hB1⟩; have H1 := Lib.hid h1; have H2 := Lib.hid h2; have H3 := Lib.hid h3; have HSO := Lib.hid hso; have HB1 := Lib.hid hB1; clear h1 h2 h3 hso hB1)
  have HTW := Lib.hid (fun (W : World) (h : Below w1.heap.size w1 W) => HT.out.keep HT.out.lt (HB1.out.trans (h.mono HB1.out.size)))
  have HW := Lib.hid (Below.refl w1.heap.size w1)
  have HRA := Lib.hid (fun (W : World) (hW : Below w1.heap.size w1 W) => RunningAt_impl A1 c1 g A2 c2 rm wk A3 c3 st now W (Kd.C_below H1.out hW) (Kd.C_below H2.out hW) (Kd.C_below H3.out hW) (HTW.out W hW))
  have HSR := Lib.hid (fun (W : World) (hW : Below w1.heap.size w1 W) => sRunningAt_calls A1 c1 g A2 c2 rm wk A3 c3 st now W (Kd.C_below H1.out hW) (Kd.C_below H2.out hW) (Kd.C_below H3.out hW))
  have HVS := Lib.hid (fun (W : World) (hW : Below w1.heap.size w1 W) => ValidStarts_impl A1 c1 g A2 c2 rm wk A3 c3 st W (Kd.C_below H1.out hW) (Kd.C_below H2.out hW) (Kd.C_below H3.out hW) (HTW.out W hW))
  cases hv : vStB g rm wk st with
  | false =>
   rw [hv] at HVS
   clear hv
   generalize ints (raS g rm wk st now) = o at HRA HSR
   go_wp2_with (first | (go_at_call 35; refine (HRA.out _ HW.out).mono ?_; rintro e wl ⟨vO, rfl, hR, hB⟩; obtain ⟨AO, cO, rfl, hcO, hC⟩ := Kd.R_reads hR; have HW := Lib.hid (HW.out.trans (hB.mono HW.out.size)); (try (have HcO := Lib.hid (Kd.C_below HcO.out hB))); (try (have HcP := Lib.hid (Kd.C_below HcP.out hB))); have HcO := Lib.hid hC; clear hR hC hB) | (go_at_call 36; refine (HSR.out _ HW.out).mono ?_; rintro e wl ⟨vP, rfl, hR, hB⟩; obtain ⟨AP, cP, rfl, hcP, hC⟩ := Kd.R_reads hR; have HW := Lib.hid (HW.out.trans (hB.mono HW.out.size)); (try (have HcO := Lib.hid (Kd.C_below HcO.out hB))); (try (have HcP := Lib.hid (Kd.C_below HcP.out hB))); have HcP := Lib.hid hC; clear hR hC hB) | (go_at_call 32; refine (equalInts_same _ _ _ _ _ _ HcO.out HcP.out).mono ?_; rintro e wv ⟨rfl, hB⟩; have HW := Lib.hid (HW.out.trans (hB.mono HW.out.size)); (try (have HcO := Lib.hid (Kd.C_below HcO.out hB))); (try (have HcP := Lib.hid (Kd.C_below HcP.out hB))); clear hB) | (go_at_call 18; refine (HVS.out _ HW.out).mono ?_; rintro e wv ⟨rfl, hB⟩; have HW := Lib.hid (HW.out.trans (hB.mono HW.out.size)); (try (have HcO := Lib.hid (Kd.C_below HcO.out hB))); (try (have HcP := Lib.hid (Kd.C_below HcP.out hB))); clear hB))
   go_ret
   exact ⟨rfl, HB1.out.trans (HW.out.mono HB1.out.size)⟩
  | true =>
   rw [hv] at HVS
   have hV := vSt_valid hv
   have hra : raS g rm wk st now = runS g st now := by unfold raS; rw [if_pos hv]
   rw [hra] at HRA HSR
   have HV := Lib.hid hV
   have hrl := (hV.runs now).1
   have hru := (hV.runs now).2
   have hrb := (placeB_facts hV.p).1
   have HRT := Lib.hid (fun (AO : Option Addr) (cO : Nat) (W : World) (hW : Below w1.heap.size w1 W) hO => RunsTogether_yes A1 c1 g A2 c2 rm AO cO (runB g st now) hV.v hrb hru W (Kd.C_below H1.out hW) (Kd.C_below H2.out hW) hO (HTW.out W hW))
   have HMM : Hid (∀ j : Nat, j < g.length → decide ((j : Int) ∈ ints (runS g st now)) = runB g st now j) := Lib.hid (fun j hj => by
    rw [Bool.eq_iff_iff, decide_eq_true_iff, mem_intsN]
    unfold runS
    rw [List.mem_filter, List.mem_range]
    exact ⟨fun h => h.2, fun h => ⟨hj, h⟩⟩)
   have hle : decide (((ints (runS g st now)).length : Int) ≤ wk) = true := decide_eq_true (by rw [ints_length]; exact hrl)
   have hRS : runS g st now = (List.range g.length).filter (runB g st now) := rfl
   rw [← hRS] at HRT
   clear hv hV hra hrl hru hrb hRS
   generalize ints (runS g st now) = o at HRA HSR HRT HMM hle
   go_upto_region 7 with (first | (go_at_call 35; refine (HRA.out _ HW.out).mono ?_; rintro e wl ⟨vO, rfl, hR, hB⟩; obtain ⟨AO, cO, rfl, hcO, hC⟩ := Kd.R_reads hR; have HW := Lib.hid (HW.out.trans (hB.mono HW.out.size)); (try (have HcO := Lib.hid (Kd.C_below HcO.out hB))); (try (have HcP := Lib.hid (Kd.C_below HcP.out hB))); have HcO := Lib.hid hC; clear hR hC hB) | (go_at_call 36; refine (HSR.out _ HW.out).mono ?_; rintro e wl ⟨vP, rfl, hR, hB⟩; obtain ⟨AP, cP, rfl, hcP, hC⟩ := Kd.R_reads hR; have HW := Lib.hid (HW.out.trans (hB.mono HW.out.size)); (try (have HcO := Lib.hid (Kd.C_below HcO.out hB))); (try (have HcP := Lib.hid (Kd.C_below HcP.out hB))); have HcP := Lib.hid hC; clear hR hC hB) | (go_at_call 32; refine (equalInts_same _ _ _ _ _ _ HcO.out HcP.out).mono ?_; rintro e wv ⟨rfl, hB⟩; have HW := Lib.hid (HW.out.trans (hB.mono HW.out.size)); (try (have HcO := Lib.hid (Kd.C_below HcO.out hB))); (try (have HcP := Lib.hid (Kd.C_below HcP.out hB))); clear hB) | (go_at_call 18; refine (HVS.out _ HW.out).mono ?_; rintro e wv ⟨rfl, hB⟩; have HW := Lib.hid (HW.out.trans (hB.mono HW.out.size)); (try (have HcO := Lib.hid (Kd.C_below HcO.out hB))); (try (have HcP := Lib.hid (Kd.C_below HcP.out hB))); clear hB))
   obtain ⟨w2, rfl⟩ : ∃ w2 : World, w2 = wv := ⟨_, rfl⟩
   go_wp2
   go_loopw [9] (fun i wr => ∃ j, j ≤ g.length ∧ i = .int .i64 (j : Nat) ∧ Below w2.heap.size w2 wr) (fun i _ => g.length - (intOf i).toNat)
   case atStart => exact ⟨0, Nat.zero_le _, rfl, Below.refl _ _⟩
   case round =>
    obtain ⟨j, hj, rfl, hB2⟩ := hrel
    have hB := HW.out.trans (hB2.mono HW.out.size)
    have HCO := Lib.hid (Kd.C_below HcO.out hB2)
    by_cases hjl : j < g.length
    ·
     have hjs : j < st.length := by rw [HV.out.len]; exact hjl
     obtain ⟨ad, A4, c4, rfl, hc0, _⟩ := at_Tk (Kd.C_below H1.out hB) j hjl
     obtain ⟨ads, rfl, cs⟩ := at_num (Kd.C_below H3.out hB) j hjs
     have hjj : decide ((j : Int) < (g.length : Int)) = true := decide_eq_true (by omega)
     have hji : (j : Int) < (g.length : Int) := by omega
     have hjsi : (j : Int) < (st.length : Int) := by omega
     have HM := Lib.hid (HMM.out j hjl)
     have HBD : Hid (runB g st now j = (decide (st.getD j 0 ≤ now) && decide (now < st.getD j 0 + (rdTk g j).f0))) := Lib.hid rfl
     have hsj := HSO.out j
     have htj := HV.out.ok.2.1 j
     generalize st.getD j 0 = s at cs hsj HBD
     generalize (rdTk g j).f0 = tm at hc0 htj HBD
     generalize runB g st now j = rb at HM HBD
     have hwr : IntKind.i64.wrap (s + tm) = s + tm := IntWalk.i64_in _ (by omega)
     have HB2 := Lib.hid hB2
     clear hB hB2
     by_cases g1 : s ≤ now
     ·
      have d1 : decide (s ≤ now) = true := decide_eq_true g1
      by_cases g2 : now < s + tm
      ·
       have d2 : decide (now < s + tm) = true := decide_eq_true g2
       rw [d1, d2] at HBD
       obtain rfl := HBD.out
       clear g1 g2
       go_wp2
       go_quiet ((go_at_call 39; exact Calls.quiet_of_same (lIsIn_is true _ _ _ _ HM _ (Kd.C_drewN HCO.out _))))
       clear hwr
       go_wp2
       go_roundw
       case rel => exact ⟨j + 1, by omega, by go_num, by repeat (first | exact HB2.out | apply pw_below_drewN)⟩
       case measure => simp [intOf]; omega
      ·
       have d2 : decide (now < s + tm) = false := decide_eq_false g2
       rw [d1, d2] at HBD
       obtain rfl := HBD.out
       clear g1 g2
       go_wp2
       go_quiet ((go_at_call 39; exact Calls.quiet_of_same (lIsIn_is false _ _ _ _ HM _ (Kd.C_drewN HCO.out _))))
       clear hwr
       go_wp2
       go_roundw
       case rel => exact ⟨j + 1, by omega, by go_num, by repeat (first | exact HB2.out | apply pw_below_drewN)⟩
       case measure => simp [intOf]; omega
     ·
      have d1 : decide (s ≤ now) = false := decide_eq_false g1
      rw [d1] at HBD
      obtain rfl := HBD.out
      clear g1
      go_wp2
      go_quiet ((go_at_call 39; exact Calls.quiet_of_same (lIsIn_is false _ _ _ _ HM _ (Kd.C_drewN HCO.out _))))
      clear hwr
      go_wp2
      go_roundw
      case rel => exact ⟨j + 1, by omega, by go_num, by repeat (first | exact HB2.out | apply pw_below_drewN)⟩
      case measure => simp [intOf]; omega
    ·
     obtain rfl : j = g.length := by omega
     have hjj : decide ((g.length : Int) < (g.length : Int)) = false := decide_eq_false (by omega)
     have HBB := Lib.hid hB
     clear hB hB2
     go_wp2_with (go_at_call 40; refine (HRT.out AO cO _ HBB.out HCO.out).mono ?_; rintro e wz ⟨rfl, hB9⟩)
     go_ret
     exact ⟨rfl, HB1.out.trans ((HBB.out.trans (hB9.mono HBB.out.size)).mono HB1.out.size)⟩
end Go.Proofs.YtnbkkiacffkfmaaDoor
