/- Parts of the proof, laid as one text by a program of mine. -/
import Derived.Test.YtdjdfbfcjajlkaaDoorKcc20
namespace Go.Proofs.YtdjdfbfcjajlkaaDoor
set_option linter.unusedVariables false
set_option linter.unusedSimpArgs false
open Go.RowKit Go.Shelf Bits
open Go.Proofs.YtdjdfbfcjajlkaaDoorW.PrintWords Go.Proofs.YtdjdfbfcjajlkaaDoorW.PrintLast Go.Proofs.YtdjdfbfcjajlkaaDoorW.PrintMore
def usedOkB (g : List Tk) (rm : List Int) (run : List Nat) : Bool := (List.range 3).all fun p => decide (usedS g run (p : Nat) ≤ rm.getD p 0)
theorem vRunB_eq {g : List Tk} (hv : specValid g = true) {rm : List Int} (hrm : roomB rm = true) (st : List Int) (now : Int) : vRunB g rm (runS g st now) = usedOkB g rm (runS g st now) := by
 unfold vRunB usedOkB
 rw [hv, hrm, runS_in, show ascB (ints (runS g st now)) = true from ascB_filter _ _]
 rfl
theorem ascends_isV (b : Bool) (A : Option Addr) (c : Nat) (l : List Int) (h : Hid (ascB l = b)) (w : World) (hr : (Kd.int .i64).C w A l.length l) :
  Calls Tryd.prog 123 #[.slice A l.length c] w fun e w' => e = .returned (.bool b) ∧ Below w.heap.size w w' :=
 (ascends_calls A c l w hr).mono fun e w' ⟨he, hw⟩ => ⟨by rw [he, h.out], by first | exact hw | (rw [hw]; exact Below.refl _ _)⟩
set_option maxRecDepth 100000 in
set_option maxHeartbeats 4000000 in
theorem validRunning_calls (A : Option Addr) (c : Nat) (g : List Tk) (A1 : Option Addr) (c1 : Nat) (rm : List Int) (A2 : Option Addr) (c2 : Nat) (run : List Nat) (hv : specValid g = true) (hrm : roomB rm = true) (hl : run.length ≤ 50) (hlt : ∀ i ∈ run, i < g.length) (hasc : ascB (ints run) = true) (hin : allInB (ints run) 0 (g.length - 1) = true) (w : World) (hr : kTk.C w A g.length g) (hr1 : (Kd.int .i64).C w A1 rm.length rm) (hr2 : (Kd.int .i64).C w A2 run.length (ints run)) :
  Calls Tryd.prog 94 #[.slice A g.length c, .slice A1 rm.length c1, .slice A2 run.length c2] w fun e w' => e = .returned (.bool (usedOkB g rm run)) ∧ Below w.heap.size w w' := by
 have HR := Lib.hid hr
 have HR1 := Lib.hid hr1
 have HR2 := Lib.hid hr2
 have HV := Lib.hid hv
 have HRM := Lib.hid hrm
 have HLT := Lib.hid hlt
 have HAS := Lib.hid hasc
 have hn8 := (specValid_TOk hv).1
 have HIN := Lib.hid hin
 have HOK := Lib.hid (specValid_TOk hv)
 have H3L := Lib.hid (roomB_facts hrm).1
 have hc2 : (Kd.int .i64).C w A2 (ints run).length (ints run) := by rw [ints_length]; exact hr2
 have HC2 := Lib.hid hc2
 have hwn : IntKind.i64.wrap ((g.length : Int) - 1) = (g.length : Int) - 1 := IntWalk.i64_in _ (by omega)
 have has := fun W (h : (Kd.int .i64).C W A2 (ints run).length (ints run)) => ascends_isV true A2 c2 (ints run) HAS W h
 have hal := fun W (h : (Kd.int .i64).C W A2 (ints run).length (ints run)) => allIn_is true A2 c2 (ints run) 0 ((g.length : Int) - 1) HIN W h
 rw [ints_length] at has hal
 have HASC := Lib.hid has
 have HALL := Lib.hid hal
 clear hr hr1 hr2 hv hrm hlt hasc hin hc2 has hal
 go_enter Tryd.func94, Tryd.ntmps94
 go_wp2_with (first
  | (go_at_call 48; refine (validGraph_is true A c g HV w HR.out).mono ?_; rintro e w1 ⟨rfl, hB1⟩; have HB1 := Lib.hid hB1; clear hB1)
  | (go_at_call 49; refine (validRoom_is _ _ _ _ HRM _ (Kd.C_below HR1.out HB1.out)).mono ?_; rintro e wv ⟨rfl, rfl⟩)
  | (go_at_call 123; refine (HASC.out _ (Kd.C_below HR2.out HB1.out)).mono ?_; rintro e w2 ⟨rfl, hB2⟩; have HB2 := Lib.hid (HB1.out.trans (hB2.mono HB1.out.size)); clear hB2)
  | (go_at_call 82; refine (HALL.out _ (Kd.C_below HR2.out HB2.out)).mono ?_; rintro e w3 ⟨rfl, rfl⟩))
 clear hwn
 go_loopw [7] (fun i wr => ∃ j, j ≤ 3 ∧ i = .int .i64 (j : Nat) ∧ Below w.heap.size w wr ∧ Hid (∀ q, q < j → decide (usedS g run (q : Nat) ≤ rm.getD q 0) = true)) (fun i _ => 3 - (intOf i).toNat)
 case atStart => exact ⟨0, by omega, rfl, HB2.out, Lib.hid fun q h => absurd h (Nat.not_lt_zero _)⟩
 case round =>
  obtain ⟨j, hj, rfl, hB, HS⟩ := hrel
  have HB := Lib.hid hB
  by_cases hj3 : j < 3
  ·
   have dj : decide ((j : Int) < 3) = true := decide_eq_true (by omega)
   obtain ⟨ad, rfl, cx⟩ := at_num (Kd.C_below HR1.out hB) j (by have := H3L.out; omega)
   have hji : (j : Int) < (rm.length : Int) := by have := H3L.out; omega
   have HCG := Lib.hid (Kd.C_below HR.out hB)
   have HCN := Lib.hid (Kd.C_below HR2.out hB)
   have hrl : run.length ≤ 100 := by omega
   obtain ⟨U, hU⟩ : ∃ U, usedS g run (j : Int) = U := ⟨_, rfl⟩
   have HU := Lib.hid hU
   have HX : Hid (∃ x, x = rm.getD j 0) := Lib.hid ⟨_, rfl⟩
   obtain ⟨x, hx⟩ := HX.out
   rw [← hx] at cx
   have hxx := Lib.hid hx
   clear hU
   clear hB hx HX
   by_cases hc : U ≤ x
   ·
    have dc : decide (x < U) = false := decide_eq_false (by omega)
    have HT : Hid (decide (usedS g run (j : Nat) ≤ rm.getD j 0) = true) := Lib.hid (decide_eq_true (by rw [HU.out, ← hxx.out]; exact hc))
    clear hc
    go_wp2
    go_quiet ((go_at_call 113; exact Calls.quiet_of_same (used_is U _ _ g _ _ run (j : Int) HU HOK.out hrl HLT.out _ (Kd.C_drewN HCG.out _) (Kd.C_drewN HCN.out _))))
    go_wp2
    go_roundw
    case rel =>
     refine ⟨j + 1, by omega, by go_num, pw_below_drewN HB.out _, Lib.hid fun q hq => ?_⟩
     by_cases e : q = j
     ·
      rw [e]; exact HT.out
     ·
      exact HS.out q (by omega)
    case measure => simp [intOf]; omega
   ·
    have dc : decide (x < U) = true := decide_eq_true (by omega)
    have HF : Hid (usedOkB g rm run = false) := Lib.hid (by
     unfold usedOkB
     rw [List.all_eq_false]
     exact ⟨j, List.mem_range.2 hj3, by rw [HU.out, ← hxx.out, decide_eq_false hc]; simp⟩)
    clear hc
    go_wp2
    go_quiet ((go_at_call 113; exact Calls.quiet_of_same (used_is U _ _ g _ _ run (j : Int) HU HOK.out hrl HLT.out _ (Kd.C_drewN HCG.out _) (Kd.C_drewN HCN.out _))))
    go_wp2
    go_ret
    exact ⟨ret_bool HF.out.symm, pw_below_drewN HB.out _⟩
  ·
   obtain rfl : j = 3 := by omega
   have dj : decide (((3 : Nat) : Int) < 3) = false := by decide
   have HF : Hid (usedOkB g rm run = true) := Lib.hid (by
    unfold usedOkB
    rw [List.all_eq_true]
    exact fun q hq => HS.out q (List.mem_range.1 hq))
   go_wp2
   go_ret
   exact ⟨ret_bool HF.out.symm, HB.out⟩
set_option maxRecDepth 1000000 in
set_option maxHeartbeats 8000000 in
theorem validStarts_calls (A : Option Addr) (c : Nat) (g : List Tk) (A1 : Option Addr) (c1 : Nat) (rm : List Int) (wk : Int) (A2 : Option Addr) (c2 : Nat) (st : List Int) (w : World) (hr : kTk.C w A g.length g) (hr1 : (Kd.int .i64).C w A1 rm.length rm) (hr2 : (Kd.int .i64).C w A2 st.length st) :
  Calls Tryd.prog 59 #[.slice A g.length c, .slice A1 rm.length c1, .int .i64 wk, .slice A2 st.length c2] w fun e w' => e = .returned (.bool (vStB g rm wk st)) ∧ Below w.heap.size w w' := by
 have HVG := fun b (h : specValid g = b) => validGraph_is b A c g (Lib.hid h) w hr
 have HR := Lib.hid hr
 have HR1 := Lib.hid hr1
 have HR2 := Lib.hid hr2
 have hlg := (C_len hr2).2
 clear hr hr1 hr2
 cases h1 : specValid g with
 | false =>
  have HF : Hid (vStB g rm wk st = false) := Lib.hid (by unfold vStB; rw [h1]; rfl)
  have HVG := Lib.hid (HVG _ h1)
  clear h1
  go_enter Tryd.func59, Tryd.ntmps59
  go_wp2_with (go_at_call 48; refine HVG.out.mono ?_; rintro e w1 ⟨rfl, hB1⟩; have HB1 := Lib.hid hB1; clear hB1)
  go_ret
  exact ⟨ret_bool HF.out.symm, HB1.out⟩
 | true =>
  have HVV := Lib.hid h1
  have HVG := Lib.hid (HVG _ h1)
  have HOK := Lib.hid (specValid_TOk h1)
  have hg8 := (specValid_TOk h1).1
  clear h1
  cases h2 : roomB rm with
  | false =>
   have HF : Hid (vStB g rm wk st = false) := Lib.hid (by unfold vStB; rw [h2, Bool.false_and, Bool.and_false])
   have H2 := Lib.hid h2
   clear h2
   go_enter Tryd.func59, Tryd.ntmps59
   go_wp2_with (first | (go_at_call 48; refine HVG.out.mono ?_; rintro e w1 ⟨rfl, hB1⟩; have HB1 := Lib.hid hB1; clear hB1) | (go_at_call 49; refine (validRoom_is _ _ _ _ H2 _ (Kd.C_below HR1.out HB1.out)).mono ?_; rintro e w' ⟨rfl, rfl⟩))
   go_ret
   exact ⟨ret_bool HF.out.symm, HB1.out⟩
  | true =>
   have H2 := Lib.hid h2
   clear h2
   cases h3 : inB wk 1 4 with
   | false =>
    have HF : Hid (vStB g rm wk st = false) := Lib.hid (by unfold vStB; rw [h3, Bool.false_and, Bool.and_false, Bool.and_false])
    have H3 := Lib.hid h3
    clear h3
    go_enter Tryd.func59, Tryd.ntmps59
    go_wp2_with (first | (go_at_call 48; refine HVG.out.mono ?_; rintro e w1 ⟨rfl, hB1⟩; have HB1 := Lib.hid hB1; clear hB1) | (go_at_call 49; refine (validRoom_is _ _ _ _ H2 _ (Kd.C_below HR1.out HB1.out)).mono ?_; rintro e w' ⟨rfl, rfl⟩) | (go_at_call 50; refine (inRange_is _ _ _ _ H3 _).mono ?_; rintro e w' ⟨rfl, rfl⟩))
    go_ret
    exact ⟨ret_bool HF.out.symm, HB1.out⟩
   | true =>
    have H3 := Lib.hid h3
    clear h3
    by_cases h4 : st.length = g.length
    ·
     have d4 : ((st.length : Int) != (g.length : Int)) = false := by rw [bne_eq_false_iff_eq]; omega
     have HL := Lib.hid h4
     cases h5 : allInB st 0 200 with
     | false =>
      have HF : Hid (vStB g rm wk st = false) := Lib.hid (by unfold vStB; rw [h5]; simp)
      have H5 := Lib.hid h5
      clear h4 h5
      go_enter Tryd.func59, Tryd.ntmps59
      go_wp2_with (first | (go_at_call 48; refine HVG.out.mono ?_; rintro e w1 ⟨rfl, hB1⟩; have HB1 := Lib.hid hB1; clear hB1) | (go_at_call 49; refine (validRoom_is _ _ _ _ H2 _ (Kd.C_below HR1.out HB1.out)).mono ?_; rintro e w' ⟨rfl, rfl⟩) | (go_at_call 50; refine (inRange_is _ _ _ _ H3 _).mono ?_; rintro e w' ⟨rfl, rfl⟩) | (go_at_call 82; refine (allIn_is _ _ _ _ _ _ H5 _ (Kd.C_below HR2.out HB1.out)).mono ?_; rintro e w' ⟨rfl, rfl⟩))
      go_ret
      exact ⟨ret_bool HF.out.symm, HB1.out⟩
     | true =>
      have HE : Hid (vStB g rm wk st = (List.range g.length).all (startOkB g rm wk st)) := Lib.hid (by unfold vStB; rw [HVV.out, H2.out, H3.out, h5, decide_eq_true h4]; rfl)
      have H5 := Lib.hid h5
      have HSOK := Lib.hid (allIn_sok h5)
      have HNI := Lib.hid (spec_needs_in HVV.out)
      have HVRG := Lib.hid (fun (run : List Nat) (b : Bool) (hu : usedOkB g rm run = b) (q1 : run.length ≤ 50) (q2 : ∀ i ∈ run, i < g.length) (q3 : ascB (ints run) = true) (q4 : allInB (ints run) 0 (g.length - 1) = true) (W : World) Ar cr h h1 h2 => (validRunning_calls A c g A1 c1 rm Ar cr run HVV.out H2.out q1 q2 q3 q4 W h h1 h2).mono fun e w' hh => (⟨by rw [hh.1, hu], hh.2⟩ : e = .returned (.bool b) ∧ Below W.heap.size W w'))
      have HRA := Lib.hid (fun (now : Int) (W : World) h h' => runningAt_calls A c g A2 c2 st now HOK.out HSOK.out h4 W h h')
      clear h4 h5
      go_enter Tryd.func59, Tryd.ntmps59
      go_wp2_with (first | (go_at_call 48; refine HVG.out.mono ?_; rintro e w1 ⟨rfl, hB1⟩; have HB1 := Lib.hid hB1; clear hB1) | (go_at_call 49; refine (validRoom_is _ _ _ _ H2 _ (Kd.C_below HR1.out HB1.out)).mono ?_; rintro e w' ⟨rfl, rfl⟩) | (go_at_call 50; refine (inRange_is _ _ _ _ H3 _).mono ?_; rintro e w' ⟨rfl, rfl⟩) | (go_at_call 82; refine (allIn_is _ _ _ _ _ _ H5 _ (Kd.C_below HR2.out HB1.out)).mono ?_; rintro e w' ⟨rfl, rfl⟩))
      have HBB := Lib.hid HB1.out
      go_loopw [9] (fun i wr => ∃ j, j ≤ g.length ∧ i = .int .i64 (j : Nat) ∧ Below w.heap.size w wr ∧ Hid (∀ q, q < j → startOkB g rm wk st q = true)) (fun i _ => g.length - (intOf i).toNat)
      case atStart => exact ⟨0, Nat.zero_le _, rfl, HBB.out, Lib.hid fun q h => absurd h (Nat.not_lt_zero _)⟩
      case round =>
       obtain ⟨j, hj, rfl, hB, HS⟩ := hrel
       obtain ⟨wo, rfl⟩ : ∃ wo : World, wo = wr := ⟨_, rfl⟩
       have HB := Lib.hid hB
       clear hB
       by_cases hjl : j < g.length
       ·
        have hjj : decide ((j : Int) < (g.length : Int)) = true := decide_eq_true (by omega)
        have hji : (j : Int) < (g.length : Int) := by omega
        have hjs : (j : Int) < (st.length : Int) := by have := HL.out; omega
        have HNJ := Lib.hid (HNI.out j hjl)
        obtain ⟨ad, A3, c3, rfl, hx0, hx1, hx2, hx3, hl3, hC3⟩ := at_Tk (Kd.C_below HR.out HB.out) j hjl
        have hnl := (C_len hC3).2
        have HNO : Hid (needsOkB g st j = (rdTk g j).f1.all fun x => decide (st.getD x.toNat 0 + (rdTk g x.toNat).f0 ≤ st.getD j 0)) := Lib.hid rfl
        have HTJ := Lib.hid (And.intro hx1 hC3)
        clear hx0 hx1 hx2 hx3 hl3 hC3
        generalize (rdTk g j).f1 = nd at HNJ HNO HTJ hnl
        go_wp2
        go_loopw [10] (fun i wi => ∃ q, q ≤ nd.length ∧ i = .int .i64 (q : Nat) ∧ Below wo.heap.size wo wi ∧ Hid (∀ p, p < q → decide (st.getD (nd.getD p 0).toNat 0 + (rdTk g (nd.getD p 0).toNat).f0 ≤ st.getD j 0) = true)) (fun i _ => nd.length - (intOf i).toNat)
        case atStart => exact ⟨0, Nat.zero_le _, rfl, Below.refl _ _, Lib.hid fun q h => absurd h (Nat.not_lt_zero _)⟩
        case round =>
         obtain ⟨q, hq, rfl, hBi, HI⟩ := hrel
         have HBi := Lib.hid hBi
         have HBw := Lib.hid (HB.out.trans (hBi.mono HB.out.size))
         have cn := (hBi.cell (World.block_lt_of_cell? wo _ HTJ.out.1)).trans HTJ.out.1
         have hC3 := Kd.C_below HTJ.out.2 hBi
         clear hBi
         by_cases hql : q < nd.length
         ·
          have hqq : decide ((q : Int) < (nd.length : Int)) = true := decide_eq_true (by omega)
          have hqi : (q : Int) < (nd.length : Int) := by omega
          obtain ⟨ad3, rfl, cq⟩ := at_num hC3 q hql
          have hxr := HNJ.out (nd.getD q 0) (mem_getD hql)
          have HXQ : Hid (∃ m : Nat, nd.getD q 0 = (m : Int) ∧ m < g.length) := Lib.hid ⟨(nd.getD q 0).toNat, by omega, by omega⟩
          obtain ⟨m, hm, hmg⟩ := HXQ.out
          have HMQ := Lib.hid hm
          rw [hm] at cq
          clear hxr HXQ hm hC3
          obtain ⟨adm, Am, cm, e1, hm0, _⟩ := at_Tk (Kd.C_below HR.out HBw.out) m hmg
          cases e1
          obtain ⟨ads, e2, csm⟩ := at_num (Kd.C_below HR2.out HBw.out) m (by have := HL.out; omega)
          obtain ⟨ads', e3, csj⟩ := at_num (Kd.C_below HR2.out HBw.out) j (by have := HL.out; omega)
          subst e2
          cases e3
          have hmi : (m : Int) < (g.length : Int) := by omega
          have hms : (m : Int) < (st.length : Int) := by have := HL.out; omega
          have hsm := HSOK.out m
          have htm := HOK.out.2.1 m
          have HD : Hid (decide (st.getD (nd.getD q 0).toNat 0 + (rdTk g (nd.getD q 0).toNat).f0 ≤ st.getD j 0) = decide (st.getD m 0 + (rdTk g m).f0 ≤ st.getD j 0)) := Lib.hid (by rw [HMQ.out, Int.toNat_natCast])
          generalize st.getD m 0 = sm at csm hsm HD
          generalize (rdTk g m).f0 = tm at hm0 htm HD
          have HSJ : Hid (∃ x, x = st.getD j 0) := Lib.hid ⟨_, rfl⟩
          obtain ⟨sj, hsj⟩ := HSJ.out
          rw [← hsj] at csj HD
          have HSJ2 := Lib.hid hsj
          clear hsj HSJ
          by_cases hc : sm + tm ≤ sj
          ·
           have dc : decide (sj < sm + tm) = false := decide_eq_false (by omega)
           have HT : Hid (decide (st.getD (nd.getD q 0).toNat 0 + (rdTk g (nd.getD q 0).toNat).f0 ≤ st.getD j 0) = true) := Lib.hid (by rw [← HSJ2.out, HD.out]; exact decide_eq_true hc)
           have hwr : IntKind.i64.wrap (sm + tm) = sm + tm := IntWalk.i64_in _ (by omega)
           clear hc
           go_wp2
           go_quiet (fail)
           clear hwr
           go_wp2
           go_roundw
           case rel =>
            refine ⟨q + 1, by omega, by go_num, pw_below_drewN HBi.out _, Lib.hid fun p hp => ?_⟩
            by_cases e : p = q
            ·
             rw [e]; exact HT.out
            ·
             exact HI.out p (by omega)
           case measure => simp [intOf]; omega
          ·
           have dc : decide (sj < sm + tm) = true := decide_eq_true (by omega)
           have HF : Hid (vStB g rm wk st = false) := Lib.hid (by
            rw [HE.out, List.all_eq_false]
            refine ⟨j, List.mem_range.2 hjl, ?_⟩
            unfold startOkB
            rw [show needsOkB g st j = false by
             rw [HNO.out]
             exact all_not 0 hql (by rw [← HSJ2.out, HD.out]; exact decide_eq_false hc)]
            simp)
           have hwr : IntKind.i64.wrap (sm + tm) = sm + tm := IntWalk.i64_in _ (by omega)
           clear hc
           go_wp2
           go_quiet (fail)
           clear hwr
           go_wp2
           go_ret
           exact ⟨ret_bool HF.out.symm, pw_below_drewN HBw.out _⟩
         ·
          obtain rfl : q = nd.length := by omega
          have hqq : decide ((nd.length : Int) < (nd.length : Int)) = false := decide_eq_false (by omega)
          have HNT : Hid (needsOkB g st j = true) := Lib.hid (by rw [HNO.out]; exact all_take 0 (fun p hp => HI.out p hp))
          obtain ⟨ads', e3, csj⟩ := at_num (Kd.C_below HR2.out HBw.out) j (by have := HL.out; omega)
          subst e3
          have HSE : Hid (startOkB g rm wk st j = (needsOkB g st j && (decide (((runS g st (st.getD j 0)).length : Int) ≤ wk) && usedOkB g rm (runS g st (st.getD j 0))))) := Lib.hid (by rw [← vRunB_eq HVV.out H2.out]; rfl)
          have HRJ := Lib.hid (HRA.out (st.getD j 0) wr (Kd.C_below HR.out HBw.out) (Kd.C_below HR2.out HBw.out))
          have HRF := Lib.hid (And.intro (show (runS g st (st.getD j 0)).length ≤ 50 from Nat.le_trans (filter_range_le _ _) (by omega)) (And.intro (fun i (hi : i ∈ runS g st (st.getD j 0)) => (mem_runS.1 hi).1) (And.intro (show ascB (ints (runS g st (st.getD j 0))) = true from ascB_filter _ _) (runS_in g st (st.getD j 0)))))
          generalize runS g st (st.getD j 0) = run at HSE HRJ HRF
          generalize st.getD j 0 = sj at csj HRJ
          by_cases hc : (run.length : Int) ≤ wk
          ·
           have dc : decide (wk < (run.length : Int)) = false := decide_eq_false (by omega)
           rw [HNT.out, decide_eq_true hc, Bool.true_and, Bool.true_and] at HSE
           clear hc
           cases hu : usedOkB g rm run with
           | true =>
            rw [hu] at HSE
            have HVR := Lib.hid (HVRG.out run true hu HRF.out.1 HRF.out.2.1 HRF.out.2.2.1 HRF.out.2.2.2)
            clear hu
            go_wp2_with (first | (go_at_call 61; refine HRJ.out.mono ?_; rintro e w4 ⟨v4, rfl, hR4, hB4⟩; obtain ⟨A4, c4, rfl, _, hC4⟩ := Kd.R_reads hR4; rw [ints_length] at hC4; rw [ints_length]; have HC4 := Lib.hid hC4; have HB4 := Lib.hid (HBw.out.trans (hB4.mono HBw.out.size)); clear hR4 hC4 hB4) | (go_at_call 94; refine (HVR.out _ A4 c4 (Kd.C_below HR.out HB4.out) (Kd.C_below HR1.out HB4.out) HC4.out).mono ?_; rintro e w5 ⟨rfl, hB5⟩; have HB5 := Lib.hid (HB4.out.trans (hB5.mono HB4.out.size)); clear hB5))
            go_roundw
            case rel =>
             refine ⟨j + 1, by omega, by go_num, HB5.out, Lib.hid fun q hq => ?_⟩
             by_cases e : q = j
             ·
              rw [e]; exact HSE.out
             ·
              exact HS.out q (by omega)
            case measure => simp [intOf]; omega
           | false =>
            rw [hu] at HSE
            have HF : Hid (vStB g rm wk st = false) := Lib.hid (by
             rw [HE.out, List.all_eq_false]
             exact ⟨j, List.mem_range.2 hjl, by rw [HSE.out]; simp⟩)
            have HVR := Lib.hid (HVRG.out run false hu HRF.out.1 HRF.out.2.1 HRF.out.2.2.1 HRF.out.2.2.2)
            clear hu
            go_wp2_with (first | (go_at_call 61; refine HRJ.out.mono ?_; rintro e w4 ⟨v4, rfl, hR4, hB4⟩; obtain ⟨A4, c4, rfl, _, hC4⟩ := Kd.R_reads hR4; rw [ints_length] at hC4; rw [ints_length]; have HC4 := Lib.hid hC4; have HB4 := Lib.hid (HBw.out.trans (hB4.mono HBw.out.size)); clear hR4 hC4 hB4) | (go_at_call 94; refine (HVR.out _ A4 c4 (Kd.C_below HR.out HB4.out) (Kd.C_below HR1.out HB4.out) HC4.out).mono ?_; rintro e w5 ⟨rfl, hB5⟩; have HB5 := Lib.hid (HB4.out.trans (hB5.mono HB4.out.size)); clear hB5))
            go_ret
            exact ⟨ret_bool HF.out.symm, HB5.out⟩
          ·
           have dc : decide (wk < (run.length : Int)) = true := decide_eq_true (by omega)
           have HF : Hid (vStB g rm wk st = false) := Lib.hid (by
            rw [HE.out, List.all_eq_false]
            exact ⟨j, List.mem_range.2 hjl, by rw [HSE.out, decide_eq_false hc]; simp⟩)
           clear hc
           go_wp2_with (go_at_call 61; refine HRJ.out.mono ?_; rintro e w4 ⟨v4, rfl, hR4, hB4⟩; obtain ⟨A4, c4, rfl, _, hC4⟩ := Kd.R_reads hR4; rw [ints_length] at hC4; rw [ints_length]; have HC4 := Lib.hid hC4; have HB4 := Lib.hid (HBw.out.trans (hB4.mono HBw.out.size)); clear hR4 hC4 hB4)
           go_ret
           exact ⟨ret_bool HF.out.symm, HB4.out⟩
       ·
        obtain rfl : j = g.length := by omega
        have hjj : decide ((g.length : Int) < (g.length : Int)) = false := decide_eq_false (by omega)
        have HF : Hid (vStB g rm wk st = true) := Lib.hid (by
         rw [HE.out, List.all_eq_true]
         exact fun q hq => HS.out q (List.mem_range.1 hq))
        go_wp2
        go_ret
        exact ⟨ret_bool HF.out.symm, HB.out⟩
    ·
     have d4 : ((st.length : Int) != (g.length : Int)) = true := by rw [bne_iff_ne]; omega
     have HF : Hid (vStB g rm wk st = false) := Lib.hid (by unfold vStB; rw [decide_eq_false h4]; simp)
     clear h4
     go_enter Tryd.func59, Tryd.ntmps59
     go_wp2_with (first | (go_at_call 48; refine HVG.out.mono ?_; rintro e w1 ⟨rfl, hB1⟩; have HB1 := Lib.hid hB1; clear hB1) | (go_at_call 49; refine (validRoom_is _ _ _ _ H2 _ (Kd.C_below HR1.out HB1.out)).mono ?_; rintro e w' ⟨rfl, rfl⟩) | (go_at_call 50; refine (inRange_is _ _ _ _ H3 _).mono ?_; rintro e w' ⟨rfl, rfl⟩))
     go_ret
     exact ⟨ret_bool HF.out.symm, HB1.out⟩
theorem validStarts_is (b : Bool) (A : Option Addr) (c : Nat) (g : List Tk) (A1 : Option Addr) (c1 : Nat) (rm : List Int) (wk : Int) (A2 : Option Addr) (c2 : Nat) (st : List Int) (h : Hid (vStB g rm wk st = b)) (w : World) (hr : kTk.C w A g.length g) (hr1 : (Kd.int .i64).C w A1 rm.length rm) (hr2 : (Kd.int .i64).C w A2 st.length st) :
  Calls Tryd.prog 59 #[.slice A g.length c, .slice A1 rm.length c1, .int .i64 wk, .slice A2 st.length c2] w fun e w' => e = .returned (.bool b) ∧ Below w.heap.size w w' :=
 (validStarts_calls A c g A1 c1 rm wk A2 c2 st w hr hr1 hr2).mono fun e w' ⟨he, hw⟩ => ⟨by rw [he, h.out], hw⟩
end Go.Proofs.YtdjdfbfcjajlkaaDoor

namespace Go.Proofs.YtdjdfbfcjajlkaaDoor
set_option linter.unusedVariables false
set_option linter.unusedSimpArgs false
open Go.RowKit Go.Shelf Bits
open Go.Proofs.YtdjdfbfcjajlkaaDoorW.PrintWords Go.Proofs.YtdjdfbfcjajlkaaDoorW.PrintLast Go.Proofs.YtdjdfbfcjajlkaaDoorW.PrintMore
attribute [local go_sem] Oper.semAt_some
set_option maxRecDepth 100000 in
theorem sValidStarts_calls (A : Option Addr) (c : Nat) (g : List Tk) (A1 : Option Addr) (c1 : Nat) (rm : List Int) (wk : Int) (A2 : Option Addr) (c2 : Nat) (st : List Int) (w : World) (hr : kTk.C w A g.length g) (hr1 : (Kd.int .i64).C w A1 rm.length rm) (hr2 : (Kd.int .i64).C w A2 st.length st) :
  Calls Tryd.prog 26 #[.slice A g.length c, .slice A1 rm.length c1, .int .i64 wk, .slice A2 st.length c2] w fun e w' => e = .returned (.bool (vStB g rm wk st)) ∧ Below w.heap.size w w' := by
 have HP := Lib.hid (validStarts_calls A c g A1 c1 rm wk A2 c2 st w hr hr1 hr2)
 clear hr hr1 hr2
 go_enter Tryd.func26, Tryd.ntmps26
 go_wp2_with (go_at_call 59; refine HP.out.mono ?_; rintro e w1 ⟨rfl, hB1⟩)
 go_ret
 exact ⟨rfl, hB1⟩
set_option maxRecDepth 100000 in
theorem sEndTime_calls (A : Option Addr) (c : Nat) (g : List Tk) (A1 : Option Addr) (c1 : Nat) (rm : List Int) (wk : Int) (A2 : Option Addr) (c2 : Nat) (st : List Int) (w : World) (hr : kTk.C w A g.length g) (hr1 : (Kd.int .i64).C w A1 rm.length rm) (hr2 : (Kd.int .i64).C w A2 st.length st) :
  Calls Tryd.prog 30 #[.slice A g.length c, .slice A1 rm.length c1, .int .i64 wk, .slice A2 st.length c2] w fun e w' => e = .returned (.int .i64 (etS g rm wk st)) ∧ Below w.heap.size w w' := by
 cases h : vStB g rm wk st with
 | true =>
  have HF : Hid (etS g rm wk st = endS g st g.length) := Lib.hid (by unfold etS; rw [if_pos h])
  have HP := Lib.hid (validStarts_is true A c g A1 c1 rm wk A2 c2 st (Lib.hid h) w hr hr1 hr2)
  have HV := Lib.hid (vSt_valid h)
  have HR := Lib.hid hr
  have HR2 := Lib.hid hr2
  clear hr hr1 hr2 h
  go_enter Tryd.func30, Tryd.ntmps30
  go_wp2_with (first | (go_at_call 59; refine HP.out.mono ?_; rintro e w1 ⟨rfl, hB1⟩; have HB1 := Lib.hid hB1; clear hB1) | (go_at_call 51; refine (endOf_calls A c g A2 c2 st HV.out.ok HV.out.sok HV.out.len _ (Kd.C_below HR.out HB1.out) (Kd.C_below HR2.out HB1.out)).mono ?_; rintro e w2 ⟨rfl, hB2⟩))
  go_ret
  exact ⟨ret_int HF.out.symm, HB1.out.trans (hB2.mono HB1.out.size)⟩
 | false =>
  have HF : Hid (etS g rm wk st = -1) := Lib.hid (by unfold etS; rw [h]; rfl)
  have HP := Lib.hid (validStarts_is false A c g A1 c1 rm wk A2 c2 st (Lib.hid h) w hr hr1 hr2)
  clear hr hr1 hr2 h
  go_enter Tryd.func30, Tryd.ntmps30
  go_wp2_with (go_at_call 59; refine HP.out.mono ?_; rintro e w1 ⟨rfl, hB1⟩)
  go_ret
  exact ⟨ret_int HF.out.symm, hB1⟩
set_option maxRecDepth 100000 in
theorem sRunningAt_calls (A : Option Addr) (c : Nat) (g : List Tk) (A1 : Option Addr) (c1 : Nat) (rm : List Int) (wk : Int) (A2 : Option Addr) (c2 : Nat) (st : List Int) (now : Int) (w : World) (hr : kTk.C w A g.length g) (hr1 : (Kd.int .i64).C w A1 rm.length rm) (hr2 : (Kd.int .i64).C w A2 st.length st) :
  Calls Tryd.prog 32 #[.slice A g.length c, .slice A1 rm.length c1, .int .i64 wk, .slice A2 st.length c2, .int .i64 now] w fun e w' => ∃ v, e = .returned v ∧ Kd.R (Kd.int .i64) 3 w' w.heap.size (fun _ => True) v (ints (raS g rm wk st now)) ∧ Below w.heap.size w w' := by
 cases h : vStB g rm wk st with
 | true =>
  have HF : Hid (raS g rm wk st now = runS g st now) := Lib.hid (by unfold raS; rw [if_pos h])
  have HP := Lib.hid (validStarts_is true A c g A1 c1 rm wk A2 c2 st (Lib.hid h) w hr hr1 hr2)
  have HV := Lib.hid (vSt_valid h)
  have HR := Lib.hid hr
  have HR2 := Lib.hid hr2
  clear hr hr1 hr2 h
  go_enter Tryd.func32, Tryd.ntmps32
  go_wp2_with (first | (go_at_call 59; refine HP.out.mono ?_; rintro e w1 ⟨rfl, hB1⟩; have HB1 := Lib.hid hB1; clear hB1) | (go_at_call 61; refine (runningAt_calls A c g A2 c2 st now HV.out.ok HV.out.sok HV.out.len _ (Kd.C_below HR.out HB1.out) (Kd.C_below HR2.out HB1.out)).mono ?_; rintro e w2 ⟨v, rfl, hR, hB2⟩))
  go_ret
  have hz := HB1.out.size
  exact ⟨_, rfl, by rw [HF.out]; exact Kd.R_lower hR hz, HB1.out.trans (hB2.mono hz)⟩
 | false =>
  have HF : Hid (raS g rm wk st now = []) := Lib.hid (by unfold raS; rw [h]; rfl)
  have HP := Lib.hid (validStarts_is false A c g A1 c1 rm wk A2 c2 st (Lib.hid h) w hr hr1 hr2)
  clear hr hr1 hr2 h
  go_enter Tryd.func32, Tryd.ntmps32
  go_wp2_with (go_at_call 59; refine HP.out.mono ?_; rintro e w1 ⟨rfl, hB1⟩)
  go_ret
  exact ⟨_, rfl, by rw [HF.out]; exact R_nilJ _ _, hB1⟩
set_option maxRecDepth 100000 in
theorem sMeetsDeadline_calls (A : Option Addr) (c : Nat) (g : List Tk) (A1 : Option Addr) (c1 : Nat) (rm : List Int) (wk : Int) (A2 : Option Addr) (c2 : Nat) (st : List Int) (dl : Int) (w : World) (hr : kTk.C w A g.length g) (hr1 : (Kd.int .i64).C w A1 rm.length rm) (hr2 : (Kd.int .i64).C w A2 st.length st) :
  Calls Tryd.prog 28 #[.slice A g.length c, .slice A1 rm.length c1, .int .i64 wk, .slice A2 st.length c2, .int .i64 dl] w fun e w' => e = .returned (.bool (mdS g rm wk st dl)) ∧ Below w.heap.size w w' := by
 cases h : vStB g rm wk st with
 | true =>
  have HP := Lib.hid (validStarts_is true A c g A1 c1 rm wk A2 c2 st (Lib.hid h) w hr hr1 hr2)
  have HV := Lib.hid (vSt_valid h)
  have HR := Lib.hid hr
  have HR2 := Lib.hid hr2
  cases h3 : inB dl 0 200 with
  | true =>
   have HF : Hid (mdS g rm wk st dl = decide (endS g st g.length ≤ dl)) := Lib.hid (by unfold mdS; rw [h, h3]; rfl)
   have H3 := Lib.hid h3
   clear hr hr1 hr2 h h3
   go_enter Tryd.func28, Tryd.ntmps28
   go_wp2_with (first | (go_at_call 59; refine HP.out.mono ?_; rintro e w1 ⟨rfl, hB1⟩; have HB1 := Lib.hid hB1; clear hB1) | (go_at_call 50; refine (inRange_is _ _ _ _ H3 _).mono ?_; rintro e wd ⟨rfl, rfl⟩) | (go_at_call 51; refine (endOf_calls A c g A2 c2 st HV.out.ok HV.out.sok HV.out.len _ (Kd.C_below HR.out HB1.out) (Kd.C_below HR2.out HB1.out)).mono ?_; rintro e w2 ⟨rfl, hB2⟩))
   go_ret
   exact ⟨by rw [HF.out]; rfl, HB1.out.trans (hB2.mono HB1.out.size)⟩
  | false =>
   have HF : Hid (mdS g rm wk st dl = false) := Lib.hid (by unfold mdS; rw [h, h3]; rfl)
   have H3 := Lib.hid h3
   clear hr hr1 hr2 h h3
   go_enter Tryd.func28, Tryd.ntmps28
   go_wp2_with (first | (go_at_call 59; refine HP.out.mono ?_; rintro e w1 ⟨rfl, hB1⟩; have HB1 := Lib.hid hB1; clear hB1) | (go_at_call 50; refine (inRange_is _ _ _ _ H3 _).mono ?_; rintro e wd ⟨rfl, rfl⟩))
   go_ret
   exact ⟨by rw [HF.out]; rfl, HB1.out⟩
 | false =>
  have HF : Hid (mdS g rm wk st dl = false) := Lib.hid (by unfold mdS; rw [h]; rfl)
  have HP := Lib.hid (validStarts_is false A c g A1 c1 rm wk A2 c2 st (Lib.hid h) w hr hr1 hr2)
  clear hr hr1 hr2 h
  go_enter Tryd.func28, Tryd.ntmps28
  go_wp2_with (go_at_call 59; refine HP.out.mono ?_; rintro e w1 ⟨rfl, hB1⟩)
  go_ret
  exact ⟨by rw [HF.out]; rfl, hB1⟩
theorem map_snoc_range (F : Nat → Int) (j : Nat) : (List.range (j + 1)).map F = (List.range j).map F ++ [F j] := by
 rw [List.range_succ, List.map_append]
 rfl
set_option maxRecDepth 100000 in
set_option maxHeartbeats 4000000 in
theorem sCancelAt_calls (A : Option Addr) (c : Nat) (g : List Tk) (A1 : Option Addr) (c1 : Nat) (rm : List Int) (wk : Int) (A2 : Option Addr) (c2 : Nat) (st : List Int) (now : Int) (w : World) (hr : kTk.C w A g.length g) (hr1 : (Kd.int .i64).C w A1 rm.length rm) (hr2 : (Kd.int .i64).C w A2 st.length st) :
  Calls Tryd.prog 34 #[.slice A g.length c, .slice A1 rm.length c1, .int .i64 wk, .slice A2 st.length c2, .int .i64 now] w fun e w' => ∃ v, e = .returned v ∧ Kd.R (Kd.int .i64) 3 w' w.heap.size (fun _ => True) v (caS g rm wk st now) ∧ Below w.heap.size w w' := by
 have HBa : Hid (Below w.heap.size w (w.alloc (.cells #[] 3))) := Lib.hid ((Below.refl _ _).alloc (Nat.le_refl _) _)
 have HO : Hid (Kd.R (Kd.int .i64) 3 (w.alloc (.cells #[] 3)) w.heap.size (fun _ => True) (.slice (some ⟨w.heap.size, 0, none⟩) 0 0) []) := Lib.hid (Kd.R_of_own (World.ownsRow_lit (base := w.heap.size) (size := 1) w #[] 0 (Nat.le_refl _) (by simp [maxLen]) rfl) (fun _ _ => trivial))
 have hra := Kd.C_below hr HBa.out
 have hrb := Kd.C_below hr1 HBa.out
 have hrc := Kd.C_below hr2 HBa.out
 cases h : vStB g rm wk st with
 | true =>
  have HP := Lib.hid (validStarts_is true A c g A1 c1 rm wk A2 c2 st (Lib.hid h) _ hra hrb hrc)
  have HV := Lib.hid (vSt_valid h)
  have h8 := HV.out.ok.1
  have HR := Lib.hid hr
  have HR2 := Lib.hid hr2
  cases h3 : inB now 0 200 with
  | true =>
   have HF : Hid (caS g rm wk st now = (List.range g.length).map (cancF g st now)) := Lib.hid (by unfold caS; rw [h, h3, Bool.and_self, if_pos rfl])
   have H3 := Lib.hid h3
   clear hr hr1 hr2 hra hrb hrc h h3
   go_enter Tryd.func34, Tryd.ntmps34
   go_wp2_with (first | (go_at_call 59; refine HP.out.mono ?_; rintro e w1 ⟨rfl, hB1⟩; have HO1 := Lib.hid (Kd.R_below HO.out hB1); have HB1 := Lib.hid (HBa.out.trans (hB1.mono HBa.out.size)); clear hB1) | (go_at_call 50; refine (inRange_is _ _ _ _ H3 _).mono ?_; rintro e wd ⟨rfl, rfl⟩))
   go_loopw [11, 12] (fun out i wr => ∃ j, j ≤ g.length ∧ i = .int .i64 (j : Nat) ∧ Kd.R (Kd.int .i64) 3 wr w.heap.size (fun _ => True) out ((List.range j).map (cancF g st now)) ∧ Below w.heap.size w wr) (fun _ i _ => g.length - (intOf i).toNat)
   case atStart => exact ⟨0, Nat.zero_le _, rfl, HO1.out, HB1.out⟩
   case round =>
    clear HO1 HB1
    obtain ⟨j, hj, rfl, hO, hB⟩ := hrel
    by_cases hjl : j < g.length
    ·
     have hjs : j < st.length := by rw [HV.out.len]; exact hjl
     obtain ⟨ad, A4, c4, rfl, hc0, _⟩ := at_Tk (Kd.C_below HR.out hB) j hjl
     obtain ⟨ads, rfl, cs⟩ := at_num (Kd.C_below HR2.out hB) j hjs
     have hjj : decide ((j : Int) < (g.length : Int)) = true := decide_eq_true (by omega)
     have hji : (j : Int) < (g.length : Int) := by omega
     have hjsi : (j : Int) < (st.length : Int) := by omega
     have HE := Lib.hid (map_snoc_range (cancF g st now) j)
     have HBD : Hid (cancF g st now j = if st.getD j 0 + (rdTk g j).f0 ≤ now then 0 else if st.getD j 0 < now then 1 else 3) := Lib.hid rfl
     have hsj := HV.out.sok j
     have htj := HV.out.ok.2.1 j
     generalize st.getD j 0 = s at cs hsj HBD
     generalize (rdTk g j).f0 = tm at hc0 htj HBD
     generalize cancF g st now j = cj at HE HBD
     have hll : ((List.range j).map (cancF g st now)).length ≤ 8 := by simp; omega
     generalize (List.range j).map (cancF g st now) = fl at hO HE hll
     have hwr : IntKind.i64.wrap (s + tm) = s + tm := IntWalk.i64_in _ (by omega)
     have HOB := Lib.hid (And.intro hO hB)
     clear hO hB
     by_cases g1 : s + tm ≤ now
     ·
      have d1 : decide (s + tm ≤ now) = true := decide_eq_true g1
      rw [if_pos g1] at HBD
      clear g1
      go_wp2
      go_quiet (fail)
      clear hwr
      have hO2 := Kd.R_drewN HOB.out.1 nq
      have hB2 := pw_below_drewN HOB.out.2 nq
      go_wp2_with (at_builtin; refine ap_int (w0 := w) w.heap.size rfl _ _ rfl u11 fl 0 rfl rfl rfl hO2 hB2 hB2.size (by omega) ?_; intro v1 w2 hO3 hB3 hg3 hat3; clear hg3 hat3)
      go_roundw
      case rel => exact ⟨j + 1, by omega, by go_num, by rw [HE.out, HBD.out]; exact hO3, hB3⟩
      case measure => simp [intOf]; omega
     ·
      have d1 : decide (s + tm ≤ now) = false := decide_eq_false g1
      rw [if_neg g1] at HBD
      clear g1
      by_cases g2 : s < now
      ·
       have d2 : decide (s < now) = true := decide_eq_true g2
       rw [if_pos g2] at HBD
       clear g2
       go_wp2
       go_quiet (fail)
       clear hwr
       have hO2 := Kd.R_drewN HOB.out.1 nq
       have hB2 := pw_below_drewN HOB.out.2 nq
       go_wp2_with (at_builtin; refine ap_int (w0 := w) w.heap.size rfl _ _ rfl u11 fl 1 rfl rfl rfl hO2 hB2 hB2.size (by omega) ?_; intro v1 w2 hO3 hB3 hg3 hat3; clear hg3 hat3)
       go_roundw
       case rel => exact ⟨j + 1, by omega, by go_num, by rw [HE.out, HBD.out]; exact hO3, hB3⟩
       case measure => simp [intOf]; omega
      ·
       have d2 : decide (s < now) = false := decide_eq_false g2
       rw [if_neg g2] at HBD
       clear g2
       go_wp2
       go_quiet (fail)
       clear hwr
       have hO2 := Kd.R_drewN HOB.out.1 nq
       have hB2 := pw_below_drewN HOB.out.2 nq
       go_wp2_with (at_builtin; refine ap_int (w0 := w) w.heap.size rfl _ _ rfl u11 fl 3 rfl rfl rfl hO2 hB2 hB2.size (by omega) ?_; intro v1 w2 hO3 hB3 hg3 hat3; clear hg3 hat3)
       go_roundw
       case rel => exact ⟨j + 1, by omega, by go_num, by rw [HE.out, HBD.out]; exact hO3, hB3⟩
       case measure => simp [intOf]; omega
    ·
     obtain rfl : j = g.length := by omega
     have hjj : decide ((g.length : Int) < (g.length : Int)) = false := decide_eq_false (by omega)
     rw [← HF.out] at hO
     go_wp2
     go_ret
     exact ⟨_, rfl, hO, hB⟩
  | false =>
   have HF : Hid (caS g rm wk st now = []) := Lib.hid (by unfold caS; rw [h3, Bool.and_false]; rfl)
   have H3 := Lib.hid h3
   clear hr hr1 hr2 hra hrb hrc h h3
   go_enter Tryd.func34, Tryd.ntmps34
   go_wp2_with (first | (go_at_call 59; refine HP.out.mono ?_; rintro e w1 ⟨rfl, hB1⟩; have HB1 := Lib.hid (HBa.out.trans (hB1.mono HBa.out.size)); clear hB1) | (go_at_call 50; refine (inRange_is _ _ _ _ H3 _).mono ?_; rintro e wd ⟨rfl, rfl⟩))
   go_ret
   exact ⟨_, rfl, by rw [HF.out]; exact R_nilJ _ _, HB1.out⟩
 | false =>
  have HF : Hid (caS g rm wk st now = []) := Lib.hid (by unfold caS; rw [h]; rfl)
  have HP := Lib.hid (validStarts_is false A c g A1 c1 rm wk A2 c2 st (Lib.hid h) _ hra hrb hrc)
  clear hr hr1 hr2 hra hrb hrc h
  go_enter Tryd.func34, Tryd.ntmps34
  go_wp2_with (go_at_call 59; refine HP.out.mono ?_; rintro e w1 ⟨rfl, hB1⟩)
  go_ret
  exact ⟨_, rfl, by rw [HF.out]; exact R_nilJ _ _, HBa.out.trans (hB1.mono HBa.out.size)⟩
end Go.Proofs.YtdjdfbfcjajlkaaDoor
