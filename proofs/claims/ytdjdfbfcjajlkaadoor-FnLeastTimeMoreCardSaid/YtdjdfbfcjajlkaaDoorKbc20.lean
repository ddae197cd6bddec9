/- Parts of the proof, laid as one text by a program of mine. -/
import Derived.Test.YtdjdfbfcjajlkaaDoorKbc19
import Derived.Test.YtdjdfbfcjajlkaaDoorKbc11
import Derived.Test.YtdjdfbfcjajlkaaDoorKbc16
namespace Go.Proofs.YtdjdfbfcjajlkaaDoor
set_option linter.unusedVariables false
set_option linter.unusedSimpArgs false
open Go.RowKit Go.Shelf Bits
open Go.Proofs.YtdjdfbfcjajlkaaDoorW.PrintWords Go.Proofs.YtdjdfbfcjajlkaaDoorW.PrintLast Go.Proofs.YtdjdfbfcjajlkaaDoorW.PrintMore
attribute [local go_sem] Oper.semAt_some
set_option maxRecDepth 100000 in
theorem sValidStarts_calls (A : Option Addr) (c : Nat) (g : List Tk) (A1 : Option Addr) (c1 : Nat) (rm : List Int) (wk : Int) (A2 : Option Addr) (c2 : Nat) (st : List Int) (w : World) (hr : kTk.C w A g.length g) (hr1 : (Kd.int .i64).C w A1 rm.length rm) (hr2 : (Kd.int .i64).C w A2 st.length st) :
  Calls Tryd.prog 26 #[.slice A g.length c, .slice A1 rm.length c1, .int .i64 wk, .slice A2 st.length c2] w fun e w' => e = .returned (.bool (vStB g rm wk st)) ∧ Below w.heap.size w w' := by
 have HP := Lib.hid (validStarts_calls A c g A1 c1 rm wk A2 c2 st w hr hr1 hr2)
 clear hr hr1 hr2
 go_enter Tryd.func26, Tryd.ntmps26
 go_wp2_with (go_at_call 59; refine HP.out.mono ?_; rintro e w1 ⟨rfl, hB1⟩)
 go_ret
 exact ⟨rfl, hB1⟩
set_option maxRecDepth 100000 in
theorem sEndTime_calls (A : Option Addr) (c : Nat) (g : List Tk) (A1 : Option Addr) (c1 : Nat) (rm : List Int) (wk : Int) (A2 : Option Addr) (c2 : Nat) (st : List Int) (w : World) (hr : kTk.C w A g.length g) (hr1 : (Kd.int .i64).C w A1 rm.length rm) (hr2 : (Kd.int .i64).C w A2 st.length st) :
  Calls Tryd.prog 30 #[.slice A g.length c, .slice A1 rm.length c1, .int .i64 wk, .slice A2 st.length c2] w fun e w' => e = .returned (.int .i64 (etS g rm wk st)) ∧ Below w.heap.size w w' := by
 cases h : vStB g rm wk st with
 | true =>
  have HF : Hid (etS g rm wk st = endS g st g.length) := Lib.hid (by unfold etS; rw [if_pos h])
  have HP := Lib.hid (validStarts_is true A c g A1 c1 rm wk A2 c2 st (Lib.hid h) w hr hr1 hr2)
  have HV := Lib.hid (vSt_valid h)
  have HR := Lib.hid hr
  have HR2 := Lib.hid hr2
  clear hr hr1 hr2 h
  go_enter Tryd.func30, Tryd.ntmps30
  go_wp2_with (first | (go_at_call 59; refine HP.out.mono ?_; rintro e w1 ⟨rfl, hB1⟩; have HB1 := Lib.hid hB1; clear hB1) | (go_at_call 51; refine (endOf_calls A c g A2 c2 st HV.out.ok HV.out.sok HV.out.len _ (Kd.C_below HR.out HB1.out) (Kd.C_below HR2.out HB1.out)).mono ?_; rintro e w2 ⟨rfl, hB2⟩))
  go_ret
  exact ⟨ret_int HF.out.symm, HB1.out.trans (hB2.mono HB1.out.size)⟩
 | false =>
  have HF : Hid (etS g rm wk st = -1) := Lib.hid (by unfold etS; rw [h]; rfl)
  have HP := Lib.hid (validStarts_is false A c g A1 c1 rm wk A2 c2 st (Lib.hid h) w hr hr1 hr2)
  clear hr hr1 hr2 h
  go_enter Tryd.func30, Tryd.ntmps30
  go_wp2_with (go_at_call 59; refine HP.out.mono ?_; rintro e w1 ⟨rfl, hB1⟩)
  go_ret
  exact ⟨ret_int HF.out.symm, hB1⟩
set_option maxRecDepth 100000 in
theorem sRunningAt_calls (A : Option Addr) (c : Nat) (g : List Tk) (A1 : Option Addr) (c1 : Nat) (rm : List Int) (wk : Int) (A2 : Option Addr) (c2 : Nat) (st : List Int) (now : Int) (w : World) (hr : kTk.C w A g.length g) (hr1 : (Kd.int .i64).C w A1 rm.length rm) (hr2 : (Kd.int .i64).C w A2 st.length st) :
  Calls Tryd.prog 32 #[.slice A g.length c, .slice A1 rm.length c1, .int .i64 wk, .slice A2 st.length c2, .int .i64 now] w fun e w' => ∃ v, e = .returned v ∧ Kd.R (Kd.int .i64) 3 w' w.heap.size (fun _ => True) v (ints (raS g rm wk st now)) ∧ Below w.heap.size w w' := by
 cases h : vStB g rm wk st with
 | true =>
  have HF : Hid (raS g rm wk st now = runS g st now) := Lib.hid (by unfold raS; rw [if_pos h])
  have HP := Lib.hid (validStarts_is true A c g A1 c1 rm wk A2 c2 st (Lib.hid h) w hr hr1 hr2)
  have HV := Lib.hid (vSt_valid h)
  have HR := Lib.hid hr
  have HR2 := Lib.hid hr2
  clear hr hr1 hr2 h
  go_enter Tryd.func32, Tryd.ntmps32
  go_wp2_with (first | (go_at_call 59; refine HP.out.mono ?_; rintro e w1 ⟨rfl, hB1⟩; have HB1 := Lib.hid hB1; clear hB1) | (go_at_call 61; refine (runningAt_calls A c g A2 c2 st now HV.out.ok HV.out.sok HV.out.len _ (Kd.C_below HR.out HB1.out) (Kd.C_below HR2.out HB1.out)).mono ?_; rintro e w2 ⟨v, rfl, hR, hB2⟩))
  go_ret
  have hz := HB1.out.size
  exact ⟨_, rfl, by rw [HF.out]; exact Kd.R_lower hR hz, HB1.out.trans (hB2.mono hz)⟩
 | false =>
  have HF : Hid (raS g rm wk st now = []) := Lib.hid (by unfold raS; rw [h]; rfl)
  have HP := Lib.hid (validStarts_is false A c g A1 c1 rm wk A2 c2 st (Lib.hid h) w hr hr1 hr2)
  clear hr hr1 hr2 h
  go_enter Tryd.func32, Tryd.ntmps32
  go_wp2_with (go_at_call 59; refine HP.out.mono ?_; rintro e w1 ⟨rfl, hB1⟩)
  go_ret
  exact ⟨_, rfl, by rw [HF.out]; exact R_nilJ _ _, hB1⟩
set_option maxRecDepth 100000 in
theorem sMeetsDeadline_calls (A : Option Addr) (c : Nat) (g : List Tk) (A1 : Option Addr) (c1 : Nat) (rm : List Int) (wk : Int) (A2 : Option Addr) (c2 : Nat) (st : List Int) (dl : Int) (w : World) (hr : kTk.C w A g.length g) (hr1 : (Kd.int .i64).C w A1 rm.length rm) (hr2 : (Kd.int .i64).C w A2 st.length st) :
  Calls Tryd.prog 28 #[.slice A g.length c, .slice A1 rm.length c1, .int .i64 wk, .slice A2 st.length c2, .int .i64 dl] w fun e w' => e = .returned (.bool (mdS g rm wk st dl)) ∧ Below w.heap.size w w' := by
 cases h : vStB g rm wk st with
 | true =>
  have HP := Lib.hid (validStarts_is true A c g A1 c1 rm wk A2 c2 st (Lib.hid h) w hr hr1 hr2)
  have HV := Lib.hid (vSt_valid h)
  have HR := Lib.hid hr
  have HR2 := Lib.hid hr2
  cases h3 : inB dl 0 200 with
  | true =>
   have HF : Hid (mdS g rm wk st dl = decide (endS g st g.length ≤ dl)) := Lib.hid (by unfold mdS; rw [h, h3]; rfl)
   have H3 := Lib.hid h3
   clear hr hr1 hr2 h h3
   go_enter Tryd.func28, Tryd.ntmps28
   go_wp2_with (first | (go_at_call 59; refine HP.out.mono ?_; rintro e w1 ⟨rfl, hB1⟩; have HB1 := Lib.hid hB1; clear hB1) | (go_at_call 50; refine (inRange_is _ _ _ _ H3 _).mono ?_; rintro e wd ⟨rfl, rfl⟩) | (go_at_call 51; refine (endOf_calls A c g A2 c2 st HV.out.ok HV.out.sok HV.out.len _ (Kd.C_below HR.out HB1.out) (Kd.C_below HR2.out HB1.out)).mono ?_; rintro e w2 ⟨rfl, hB2⟩))
   go_ret
   exact ⟨by rw [HF.out]; rfl, HB1.out.trans (hB2.mono HB1.out.size)⟩
  | false =>
   have HF : Hid (mdS g rm wk st dl = false) := Lib.hid (by unfold mdS; rw [h, h3]; rfl)
   have H3 := Lib.hid h3
   clear hr hr1 hr2 h h3
   go_enter Tryd.func28, Tryd.ntmps28
   go_wp2_with (first | (go_at_call 59; refine HP.out.mono ?_; rintro e w1 ⟨rfl, hB1⟩; have HB1 := Lib.hid hB1; clear hB1) | (go_at_call 50; refine (inRange_is _ _ _ _ H3 _).mono ?_; rintro e wd ⟨rfl, rfl⟩))
   go_ret
   exact ⟨by rw [HF.out]; rfl, HB1.out⟩
 | false =>
  have HF : Hid (mdS g rm wk st dl = false) := Lib.hid (by unfold mdS; rw [h]; rfl)
  have HP := Lib.hid (validStarts_is false A c g A1 c1 rm wk A2 c2 st (Lib.hid h) w hr hr1 hr2)
  clear hr hr1 hr2 h
  go_enter Tryd.func28, Tryd.ntmps28
  go_wp2_with (go_at_call 59; refine HP.out.mono ?_; rintro e w1 ⟨rfl, hB1⟩)
  go_ret
  exact ⟨by rw [HF.out]; rfl, hB1⟩
theorem map_snoc_range (F : Nat → Int) (j : Nat) : (List.range (j + 1)).map F = (List.range j).map F ++ [F j] := by
 rw [List.range_succ, List.map_append]
 rfl
set_option maxRecDepth 100000 in
set_option maxHeartbeats 4000000 in
theorem sCancelAt_calls (A : Option Addr) (c : Nat) (g : List Tk) (A1 : Option Addr) (c1 : Nat) (rm : List Int) (wk : Int) (A2 : Option Addr) (c2 : Nat) (st : List Int) (now : Int) (w : World) (hr : kTk.C w A g.length g) (hr1 : (Kd.int .i64).C w A1 rm.length rm) (hr2 : (Kd.int .i64).C w A2 st.length st) :
  Calls Tryd.prog 34 #[.slice A g.length c, .slice A1 rm.length c1, .int .i64 wk, .slice A2 st.length c2, .int .i64 now] w fun e w' => ∃ v, e = .returned v ∧ Kd.R (Kd.int .i64) 3 w' w.heap.size (fun _ => True) v (caS g rm wk st now) ∧ Below w.heap.size w w' := by
 have HBa : Hid (Below w.heap.size w (w.alloc (.cells #[] 3))) := Lib.hid ((Below.refl _ _).alloc (Nat.le_refl _) _)
 have HO : Hid (Kd.R (Kd.int .i64) 3 (w.alloc (.cells #[] 3)) w.heap.size (fun _ => True) (.slice (some ⟨w.heap.size, 0, none⟩) 0 0) []) := Lib.hid (Kd.R_of_own (World.ownsRow_lit (base := w.heap.size) (size := 1) w #[] 0 (Nat.le_refl _) (by simp [maxLen]) rfl) (fun _ _ => trivial))
 have hra := Kd.C_below hr HBa.out
 have hrb := Kd.C_below hr1 HBa.out
 have hrc := Kd.C_below hr2 HBa.out
 cases h : vStB g rm wk st with
 | true =>
  have HP := Lib.hid (validStarts_is true A c g A1 c1 rm wk A2 c2 st (Lib.hid h) _ hra hrb hrc)
  have HV := Lib.hid (vSt_valid h)
  have h8 := HV.out.ok.1
  have HR := Lib.hid hr
  have HR2 := Lib.hid hr2
  cases h3 : inB now 0 200 with
  | true =>
   have HF : Hid (caS g rm wk st now = (List.range g.length).map (cancF g st now)) := Lib.hid (by unfold caS; rw [h, h3, Bool.and_self, if_pos rfl])
   have H3 := Lib.hid h3
   clear hr hr1 hr2 hra hrb hrc h h3
   go_enter Tryd.func34, Tryd.ntmps34
   go_wp2_with (first | (go_at_call 59; refine HP.out.mono ?_; rintro e w1 ⟨rfl, hB1⟩; have HO1 := Lib.hid (Kd.R_below HO.out hB1); have HB1 := Lib.hid (HBa.out.trans (hB1.mono HBa.out.size)); clear hB1) | (go_at_call 50; refine (inRange_is _ _ _ _ H3 _).mono ?_; rintro e wd ⟨rfl, rfl⟩))
   go_loopw [11, 12] (fun out i wr => ∃ j, j ≤ g.length ∧ i = .int .i64 (j : Nat) ∧ Kd.R (Kd.int .i64) 3 wr w.heap.size (fun _ => True) out ((List.range j).map (cancF g st now)) ∧ Below w.heap.size w wr) (fun _ i _ => g.length - (intOf i).toNat)
   case atStart => exact ⟨0, Nat.zero_le _, rfl, HO1.out, HB1.out⟩
   case round =>
    clear HO1 HB1
    obtain ⟨j, hj, rfl, hO, hB⟩ := hrel
    by_cases hjl : j < g.length
    ·
     have hjs : j < st.length := by rw [HV.out.len]; exact hjl
     obtain ⟨ad, A4, c4, rfl, hc0, _⟩ := at_Tk (Kd.C_below HR.out hB) j hjl
     obtain ⟨ads, rfl, cs⟩ := at_num (Kd.C_below HR2.out hB) j hjs
     have hjj : decide ((j : Int) < (g.length : Int)) = true := decide_eq_true (by omega)
     have hji : (j : Int) < (g.length : Int) := by omega
     have hjsi : (j : Int) < (st.length : Int) := by omega
     have HE := Lib.hid (map_snoc_range (cancF g st now) j)
     have HBD : Hid (cancF g st now j = if st.getD j 0 + (rdTk g j).f0 ≤ now then 0 else if st.getD j 0 < now then 1 else 3) := Lib.hid rfl
     have hsj := HV.out.sok j
     have htj := HV.out.ok.2.1 j
     generalize st.getD j 0 = s at cs hsj HBD
     generalize (rdTk g j).f0 = tm at hc0 htj HBD
     generalize cancF g st now j = cj at HE HBD
     have hll : ((List.range j).map (cancF g st now)).length ≤ 8 := by simp; omega
     generalize (List.range j).map (cancF g st now) = fl at hO HE hll
     have hwr : IntKind.i64.wrap (s + tm) = s + tm := IntWalk.i64_in _ (by omega)
     have HOB := Lib.hid (And.intro hO hB)
     clear hO hB
     by_cases g1 : s + tm ≤ now
     ·
      have d1 : decide (s + tm ≤ now) = true := decide_eq_true g1
      rw [if_pos g1] at HBD
      clear g1
      go_wp2
      go_quiet (fail)
      clear hwr
      have hO2 := Kd.R_drewN HOB.out.1 nq
      have hB2 := pw_below_drewN HOB.out.2 nq
      go_wp2_with (at_builtin; refine ap_int (w0 := w) w.heap.size rfl _ _ rfl u11 fl 0 rfl rfl rfl hO2 hB2 hB2.size (by omega) ?_; intro v1 w2 hO3 hB3 hg3 hat3; clear hg3 hat3)
      go_roundw
      case rel => exact ⟨j + 1, by omega, by go_num, by rw [HE.out, HBD.out]; exact hO3, hB3⟩
      case measure => simp [intOf]; omega
     ·
      have d1 : decide (s + tm ≤ now) = false := decide_eq_false g1
      rw [if_neg g1] at HBD
      clear g1
      by_cases g2 : s < now
      ·
       have d2 : decide (s < now) = true := decide_eq_true g2
       rw [if_pos g2] at HBD
       clear g2
       go_wp2
       go_quiet (fail)
       clear hwr
       have hO2 := Kd.R_drewN HOB.out.1 nq
       have hB2 := pw_below_drewN HOB.out.2 nq
       go_wp2_with (at_builtin; refine ap_int (w0 := w) w.heap.size rfl _ _ rfl u11 fl 1 rfl rfl rfl hO2 hB2 hB2.size (by omega) ?_; intro v1 w2 hO3 hB3 hg3 hat3; clear hg3 hat3)
       go_roundw
       case rel => exact ⟨j + 1, by omega, by go_num, by rw [HE.out, HBD.out]; exact hO3, hB3⟩
       case measure => simp [intOf]; omega
      ·
       have d2 : decide (s < now) = false := decide_eq_false g2
       rw [if_neg g2] at HBD
       clear g2
       go_wp2
       go_quiet (fail)
       clear hwr
       have hO2 := Kd.R_drewN HOB.out.1 nq
       have hB2 := pw_below_drewN HOB.out.2 nq
       go_wp2_with (at_builtin; refine ap_int (w0 := w) w.heap.size rfl _ _ rfl u11 fl 3 rfl rfl rfl hO2 hB2 hB2.size (by omega) ?_; intro v1 w2 hO3 hB3 hg3 hat3; clear hg3 hat3)
       go_roundw
       case rel => exact ⟨j + 1, by omega, by go_num, by rw [HE.out, HBD.out]; exact hO3, hB3⟩
       case measure => simp [intOf]; omega
    ·
     obtain rfl : j = g.length := by omega
     have hjj : decide ((g.length : Int) < (g.length : Int)) = false := decide_eq_false (by omega)
     rw [← HF.out] at hO
     go_wp2
     go_ret
     exact ⟨_, rfl, hO, hB⟩
  | false =>
   have HF : Hid (caS g rm wk st now = []) := Lib.hid (by unfold caS; rw [h3, Bool.and_false]; rfl)
   have H3 := Lib.hid h3
   clear hr hr1 hr2 hra hrb hrc h h3
   go_enter Tryd.func34, Tryd.ntmps34
   go_wp2_with (first | (go_at_call 59; refine HP.out.mono ?_; rintro e w1 ⟨rfl, hB1⟩; have HB1 := Lib.hid (HBa.out.trans (hB1.mono HBa.out.size)); clear hB1) | (go_at_call 50; refine (inRange_is _ _ _ _ H3 _).mono ?_; rintro e wd ⟨rfl, rfl⟩))
   go_ret
   exact ⟨_, rfl, by rw [HF.out]; exact R_nilJ _ _, HB1.out⟩
 | false =>
  have HF : Hid (caS g rm wk st now = []) := Lib.hid (by unfold caS; rw [h]; rfl)
  have HP := Lib.hid (validStarts_is false A c g A1 c1 rm wk A2 c2 st (Lib.hid h) _ hra hrb hrc)
  clear hr hr1 hr2 hra hrb hrc h
  go_enter Tryd.func34, Tryd.ntmps34
  go_wp2_with (go_at_call 59; refine HP.out.mono ?_; rintro e w1 ⟨rfl, hB1⟩)
  go_ret
  exact ⟨_, rfl, by rw [HF.out]; exact R_nilJ _ _, HBa.out.trans (hB1.mono HBa.out.size)⟩
end Go.Proofs.YtdjdfbfcjajlkaaDoor

namespace Go.Proofs.YtdjdfbfcjajlkaaDoor
set_option linter.unusedVariables false
set_option linter.unusedSimpArgs false
open Go.RowKit Go.Shelf Bits
open Go.Proofs.YtdjdfbfcjajlkaaDoorW.PrintWords Go.Proofs.YtdjdfbfcjajlkaaDoorW.PrintLast Go.Proofs.YtdjdfbfcjajlkaaDoorW.PrintMore
attribute [local go_sem] Oper.semAt_some
theorem tailsS_span {g : List Tk} (hv : specValid g = true) : Span (tailsS g) g.length 160 := by
 obtain ⟨ns, hg⟩ := graphN_yes hv
 rw [← tailN_eq hg]
 exact tailN_span hg
def latS (g : List Tk) (dl : Int) (j : Nat) : List Int := (List.range j).map fun i => dl - (tailsS g).getD i 0
theorem latS_snoc (g : List Tk) (dl : Int) (j : Nat) : latS g dl (j + 1) = latS g dl j ++ [dl - (tailsS g).getD j 0] := map_snoc_range _ j
theorem latS_len (g : List Tk) (dl : Int) (j : Nat) : (latS g dl j).length = j := by simp [latS]
theorem latS_get {g : List Tk} {dl : Int} {i j : Nat} (hi : i < j) : (latS g dl j).getD i 0 = dl - (tailsS g).getD i 0 := by
 unfold latS
 rw [List.getD_eq_getElem?_getD, List.getElem?_map, List.getElem?_range hi]
 rfl
set_option maxRecDepth 100000 in
set_option maxHeartbeats 4000000 in
theorem LateTasks_impl (A : Option Addr) (c : Nat) (g : List Tk) (A1 : Option Addr) (c1 : Nat) (rm : List Int) (wk : Int) (A2 : Option Addr) (c2 : Nat) (st : List Int) (dl : Int) (w : World) (hr : kTk.C w A g.length g) (hr1 : (Kd.int .i64).C w A1 rm.length rm) (hr2 : (Kd.int .i64).C w A2 st.length st) (hT : Tab w) :
  Calls Tryd.prog 42 #[.slice A g.length c, .slice A1 rm.length c1, .int .i64 wk, .slice A2 st.length c2, .int .i64 dl] w fun e w' => ∃ v, e = .returned v ∧ Kd.R (Kd.int .i64) 3 w' w.heap.size (fun _ => True) v (ints (ltS g rm wk st dl)) ∧ Below w.heap.size w w' := by
 cases h : vStB g rm wk st with
 | true =>
  have HP := Lib.hid (startsIn_yes A c g A1 c1 rm wk A2 c2 st h w hr hr1 hr2 hT)
  have HV := Lib.hid (vSt_valid h)
  have HR2 := Lib.hid hr2
  have HT := Lib.hid hT
  have h8 := HV.out.ok.1
  cases h3 : inB dl 0 200 with
  | true =>
   have HF : Hid (ltS g rm wk st dl = (List.range g.length).filter (lateB g st dl)) := Lib.hid (by unfold ltS; rw [h, h3]; rfl)
   have H3 := Lib.hid h3
   have hdl := inB_true.1 h3
   have HSP := Lib.hid (tailsS_span HV.out.v)
   have HTE := Lib.hid (fun ns (hg : graphN g = some ns) => tailN_eq hg)
   have HTL := Lib.hid (fun (W : World) C ns (hg : graphN g = some ns) (hG : IsGraph W C g ns) (hT : Tab W) => tails_calls C g ns hg W hG hT)
   clear hr hr1 hr2 hT h h3
   generalize hTN : tailsS g = TN at HSP HTE
   have HBD0 : Hid (∀ j, lateB g st dl j = decide (dl - TN.getD j 0 < st.getD j 0)) := Lib.hid (fun j => by unfold lateB; rw [hTN])
   clear hTN
   go_enter Tryd.func42, Tryd.ntmps42
   go_wp2_with (first | (go_at_call 60; refine HP.out.mono ?_; rintro e w1 ⟨C, ns, rfl, hg, hG, hB1⟩; have HB1 := Lib.hid hB1; have HG := Lib.hid hG; have HGR := Lib.hid hg; clear hB1 hG hg) | (go_at_call 55; refine (deadlineValid_is _ _ H3 _).mono ?_; rintro e wd ⟨rfl, rfl⟩) | (go_at_call 69; refine (HTL.out _ C ns HGR.out HG.out (HT.out.keep HT.out.lt HB1.out)).mono ?_; rintro e w3 ⟨v3, rfl, hR3, hB3⟩; rw [HTE.out _ HGR.out] at hR3; obtain ⟨A3, c3, rfl, hl3, hC3⟩ := Kd.R_reads hR3; have HC3 := Lib.hid hC3; have HB3 := Lib.hid (HB1.out.trans (hB3.mono HB1.out.size)); clear hR3 hC3 hB3))
   have htl16 : TN.length ≤ 8 := by rw [HSP.out.1]; exact h8
   go_loop [13, 34] (fun s i => ∃ (j : Nat), j ≤ TN.length ∧ i = .int .i64 j ∧ s = .int .u16 (maskN (lateB g st dl) j : Nat)) (fun _ i => TN.length - (intOf i).toNat)
   case atStart => exact ⟨0, Nat.zero_le _, rfl, rfl⟩
   case round =>
    obtain ⟨j, hj, rfl, rfl⟩ := hrel
    by_cases hjl : j < TN.length
    ·
     have hjs : j < st.length := by rw [HV.out.len, ← HSP.out.1]; exact hjl
     obtain ⟨ad, rfl, hc0⟩ := at_num HC3.out j hjl
     obtain ⟨ads, rfl, cs⟩ := at_num (Kd.C_below HR2.out HB3.out) j hjs
     have hjj : decide ((j : Int) < (TN.length : Int)) = true := decide_eq_true (by omega)
     have hji : (j : Int) < (TN.length : Int) := by omega
     have hjsi : (j : Int) < (st.length : Int) := by omega
     have HE : Hid (maskN (lateB g st dl) (j + 1) = if lateB g st dl j then maskN (lateB g st dl) j ||| 2 ^ j else maskN (lateB g st dl) j) := Lib.hid rfl
     have HBD := Lib.hid (HBD0.out j)
     have hmk := maskN_u16 (lateB g st dl) (n := j) (by omega)
     have hj16 : j < 16 := by omega
     have hsj := HV.out.sok j
     have htj := HSP.out.2 j
     generalize st.getD j 0 = s at cs hsj HBD
     generalize TN.getD j 0 = tm at hc0 htj HBD
     generalize lateB g st dl j = rb at HE HBD
     generalize maskN (lateB g st dl) j = mk at HE hmk
     have hwr : IntKind.i64.wrap (dl - tm) = dl - tm := IntWalk.i64_in _ (by omega)
     by_cases g1 : dl - tm < s
     ·
      have d1 : decide (dl - tm < s) = true := decide_eq_true g1
      rw [d1] at HBD
      clear g1
      go_wp2_with (go_at_call 62; refine (with_calls mk j hmk hj16 _).mono ?_; rintro e w6 ⟨rfl, rfl⟩)
      clear hwr
      go_round
      case rel => exact ⟨j + 1, by omega, by go_num, by rw [HE.out, HBD.out]; rfl⟩
      case measure => simp [intOf]; omega
     ·
      have d1 : decide (dl - tm < s) = false := decide_eq_false g1
      rw [d1] at HBD
      clear g1
      go_wp2
      clear hwr
      go_round
      case rel => exact ⟨j + 1, by omega, by go_num, by rw [HE.out, HBD.out]; rfl⟩
      case measure => simp [intOf]; omega
    ·
     obtain rfl : j = TN.length := by omega
     have hjj : decide ((TN.length : Int) < (TN.length : Int)) = false := decide_eq_false (by omega)
     have hmk := maskN_u16 (lateB g st dl) (n := TN.length) (by omega)
     have HEL := Lib.hid (els_mask (lateB g st dl) (n := TN.length) (by omega))
     have HLC := Lib.hid (list_calls (maskN (lateB g st dl) TN.length) hmk _ (HT.out.keep HT.out.lt HB3.out))
     rw [HEL.out, show (List.range TN.length).filter (lateB g st dl) = ltS g rm wk st dl by rw [HF.out, HSP.out.1]] at HLC
     go_wp2_with (go_at_call 63; refine HLC.out.mono ?_; rintro e w9 ⟨v, rfl, hR, hB9⟩)
     go_ret
     have hz := HB3.out.size
     exact ⟨_, rfl, Kd.R_lower hR hz, HB3.out.trans (hB9.mono hz)⟩
  | false =>
   have HF : Hid (ltS g rm wk st dl = []) := Lib.hid (by unfold ltS; rw [h3, Bool.and_false]; rfl)
   have H3 := Lib.hid h3
   clear hr hr1 hr2 hT h h3
   go_enter Tryd.func42, Tryd.ntmps42
   go_wp2_with (first | (go_at_call 60; refine HP.out.mono ?_; rintro e w1 ⟨C, ns, rfl, hg, hG, hB1⟩; have HB1 := Lib.hid hB1; clear hB1 hG hg) | (go_at_call 55; refine (deadlineValid_is _ _ H3 _).mono ?_; rintro e wd ⟨rfl, rfl⟩))
   go_ret
   exact ⟨_, rfl, by rw [HF.out]; exact R_nilJ _ _, HB1.out⟩
 | false =>
  have HF : Hid (ltS g rm wk st dl = []) := Lib.hid (by unfold ltS; rw [h]; rfl)
  have HP := Lib.hid (startsIn_no A c g A1 c1 rm wk A2 c2 st h w hr hr1 hr2 hT)
  clear hr hr1 hr2 hT h
  go_enter Tryd.func42, Tryd.ntmps42
  go_wp2_with (go_at_call 60; refine HP.out.mono ?_; rintro e w1 ⟨rfl, hB1⟩)
  go_ret
  exact ⟨_, rfl, by rw [HF.out]; exact R_nilJ _ _, hB1⟩
set_option maxRecDepth 100000 in
set_option maxHeartbeats 4000000 in
theorem latest_calls (A : Option Addr) (c : Nat) (g : List Tk) (dl : Int) (hd : 0 ≤ dl ∧ dl ≤ 200) (hv : specValid g = true) (w : World) (hr : kTk.C w A g.length g) :
  Calls Tryd.prog 68 #[.slice A g.length c, .int .i64 dl] w fun e w' => ∃ v, e = .returned v ∧ Kd.R (Kd.int .i64) 3 w' w.heap.size (fun _ => True) v (latS g dl g.length) ∧ Below w.heap.size w w' := by
 have HBa : Hid (Below w.heap.size w (w.alloc (.cells #[] 3))) := Lib.hid ((Below.refl _ _).alloc (Nat.le_refl _) _)
 have HO : Hid (Kd.R (Kd.int .i64) 3 (w.alloc (.cells #[] 3)) w.heap.size (fun _ => True) (.slice (some ⟨w.heap.size, 0, none⟩) 0 0) (latS g dl 0)) := Lib.hid (Kd.R_of_own (World.ownsRow_lit (base := w.heap.size) (size := 1) w #[] 0 (Nat.le_refl _) (by simp [maxLen]) rfl) (fun _ _ => trivial))
 have HTC := Lib.hid (stails_calls A c g hv _ (Kd.C_below hr HBa.out))
 have HSP := Lib.hid (tailsS_span hv)
 have h8 := (specValid_TOk hv).1
 have HLS := Lib.hid (latS_snoc g dl)
 clear hr hv
 generalize tailsS g = TN at HTC HSP HLS
 go_enter Tryd.func68, Tryd.ntmps68
 go_wp2_with (go_at_call 101; refine HTC.out.mono ?_; rintro e w3 ⟨v3, rfl, hR3, hB3⟩)
 have HTLN := Lib.hid HSP.out.1
 have hTw : Two w3 w.heap.size (.slice (some ⟨w.heap.size, 0, none⟩) 0 0) v3 (latS g dl 0) TN := ⟨Kd.R_below HO.out hB3, Kd.R_lower hR3 HBa.out.size, fun q h1 h2 => by
  have h3 := (Kd.R_bound hR3).1 q h2
  simp [Value.ownBlock] at h1
  have := h3.2.1
  simp at this
  omega⟩
 have hBw := HBa.out.trans (hB3.mono HBa.out.size)
 obtain ⟨A3, c3, rfl, hl3, _⟩ := Kd.R_reads hR3
 clear hR3 hB3
 go_loopw [5, 7] (fun out i wr => ∃ j, j ≤ g.length ∧ i = .int .i64 (j : Nat) ∧ Two wr w.heap.size out (.slice A3 TN.length c3) (latS g dl j) TN ∧ Below w.heap.size w wr) (fun _ i _ => g.length - (intOf i).toNat)
 case atStart => exact ⟨0, Nat.zero_le _, rfl, hTw, hBw⟩
 case round =>
  clear hTw hBw
  obtain ⟨j, hj, rfl, hT, hB⟩ := hrel
  by_cases hjl : j < g.length
  ·
   obtain ⟨A4, c4, e5, _, hCn⟩ := Kd.R_reads hT.b
   cases e5
   have hjt : j < TN.length := by rw [HTLN.out]; exact hjl
   obtain ⟨ad, rfl, cx⟩ := at_num hCn j hjt
   have hjj : decide ((j : Int) < (g.length : Int)) = true := decide_eq_true (by omega)
   have hji : (j : Int) < (TN.length : Int) := by omega
   have HL := Lib.hid (HLS.out j)
   have htj := HSP.out.2 j
   have hll := latS_len g dl j
   generalize TN.getD j 0 = tm at cx htj HL
   generalize latS g dl j = fl at hT HL hll
   have hwr : IntKind.i64.wrap (dl - tm) = dl - tm := IntWalk.i64_in _ (by omega)
   have HTB := Lib.hid hT
   have hta := hT.a
   have hbs := hB.size
   clear hT hCn
   go_wp2_with (at_builtin; refine ap_int (w0 := w) w.heap.size rfl _ _ rfl u5 fl (dl - tm) rfl rfl rfl hta hB hbs (by omega) ?_; intro v1 w4 hO4 hB4 hg4 hat4; have hT4 := HTB.out.grow hO4 hg4 hat4; clear hg4 hat4 hO4)
   clear hwr
   go_roundw
   case rel => exact ⟨j + 1, by omega, by go_num, by rw [HL.out]; exact hT4, hB4⟩
   case measure => simp [intOf]; omega
  ·
   obtain rfl : j = g.length := by omega
   have hjj : decide ((g.length : Int) < (g.length : Int)) = false := decide_eq_false (by omega)
   go_wp2
   go_ret
   exact ⟨_, rfl, hT.a, hB⟩
theorem lateB_lat {g : List Tk} {st : List Int} {dl : Int} {j n : Nat} (h : j < n) : lateB g st dl j = decide ((latS g dl n).getD j 0 < st.getD j 0) := by
 unfold lateB
 rw [latS_get h]
set_option maxRecDepth 100000 in
set_option maxHeartbeats 4000000 in
theorem sLateTasks_calls (A : Option Addr) (c : Nat) (g : List Tk) (A1 : Option Addr) (c1 : Nat) (rm : List Int) (wk : Int) (A2 : Option Addr) (c2 : Nat) (st : List Int) (dl : Int) (w : World) (hr : kTk.C w A g.length g) (hr1 : (Kd.int .i64).C w A1 rm.length rm) (hr2 : (Kd.int .i64).C w A2 st.length st) :
  Calls Tryd.prog 41 #[.slice A g.length c, .slice A1 rm.length c1, .int .i64 wk, .slice A2 st.length c2, .int .i64 dl] w fun e w' => ∃ v, e = .returned v ∧ Kd.R (Kd.int .i64) 3 w' w.heap.size (fun _ => True) v (ints (ltS g rm wk st dl)) ∧ Below w.heap.size w w' := by
 have HBa : Hid (Below w.heap.size w (w.alloc (.cells #[] 3))) := Lib.hid ((Below.refl _ _).alloc (Nat.le_refl _) _)
 have HO : Hid (Kd.R (Kd.int .i64) 3 (w.alloc (.cells #[] 3)) w.heap.size (fun _ => True) (.slice (some ⟨w.heap.size, 0, none⟩) 0 0) (ints [])) := Lib.hid (Kd.R_of_own (World.ownsRow_lit (base := w.heap.size) (size := 1) w #[] 0 (Nat.le_refl _) (by simp [maxLen]) rfl) (fun _ _ => trivial))
 have hra := Kd.C_below hr HBa.out
 have hrb := Kd.C_below hr1 HBa.out
 have hrc := Kd.C_below hr2 HBa.out
 cases h : vStB g rm wk st with
 | true =>
  have HP := Lib.hid (validStarts_is true A c g A1 c1 rm wk A2 c2 st (Lib.hid h) _ hra hrb hrc)
  have HV := Lib.hid (vSt_valid h)
  have h8 := HV.out.ok.1
  have HR := Lib.hid hr
  have HR2 := Lib.hid hr2
  cases h3 : inB dl 0 200 with
  | true =>
   have HF : Hid (ltS g rm wk st dl = (List.range g.length).filter (lateB g st dl)) := Lib.hid (by unfold ltS; rw [h, h3]; rfl)
   have H3 := Lib.hid h3
   have hdl := inB_true.1 h3
   have HLB := Lib.hid (fun (j : Nat) (hj : j < g.length) => lateB_lat (g := g) (st := st) (dl := dl) hj)
   have HLC := Lib.hid (fun (W : World) (hW : Below w.heap.size w W) => latest_calls A c g dl hdl HV.out.v W (Kd.C_below HR.out hW))
   have HLL := Lib.hid (latS_len g dl g.length)
   generalize latS g dl g.length = LT at HLB HLC HLL
   clear hr hr1 hr2 hra hrb hrc h h3
   go_enter Tryd.func41, Tryd.ntmps41
   go_wp2_with (first | (go_at_call 59; refine HP.out.mono ?_; rintro e w1 ⟨rfl, hB1⟩; have HO1 := Lib.hid (Kd.R_below HO.out hB1); have HB1 := Lib.hid (HBa.out.trans (hB1.mono HBa.out.size)); clear hB1) | (go_at_call 50; refine (inRange_is _ _ _ _ H3 _).mono ?_; rintro e wd ⟨rfl, rfl⟩) | (go_at_call 68; refine (HLC.out _ HB1.out).mono ?_; rintro e w3 ⟨v3, rfl, hR3, hB3⟩))
   have hTw : Two w3 w.heap.size (.slice (some ⟨w.heap.size, 0, none⟩) 0 0) v3 (ints ((List.range 0).filter (lateB g st dl))) LT := ⟨Kd.R_below HO1.out hB3, Kd.R_lower hR3 HB1.out.size, fun q h1 h2 => by
    have h3 := (Kd.R_bound hR3).1 q h2
    have h4 := R_lt HO1.out h1
    have := h3.2.1
    omega⟩
   have hBw := HB1.out.trans (hB3.mono HB1.out.size)
   obtain ⟨A3, c3, rfl, hl3, _⟩ := Kd.R_reads hR3
   clear hR3 hB3 HO1
   go_loopw [11, 13] (fun out i wr => ∃ j, j ≤ g.length ∧ i = .int .i64 (j : Nat) ∧ Two wr w.heap.size out (.slice A3 LT.length c3) (ints ((List.range j).filter (lateB g st dl))) LT ∧ Below w.heap.size w wr) (fun _ i _ => g.length - (intOf i).toNat)
   case atStart => exact ⟨0, Nat.zero_le _, rfl, hTw, hBw⟩
   case round =>
    clear hTw hBw HB1
    obtain ⟨j, hj, rfl, hT, hB⟩ := hrel
    by_cases hjl : j < g.length
    ·
     have hjs : j < st.length := by rw [HV.out.len]; exact hjl
     obtain ⟨A4, c4, e5, _, hCn⟩ := Kd.R_reads hT.b
     cases e5
     have hjt : j < LT.length := by rw [HLL.out]; exact hjl
     obtain ⟨ad, rfl, cx⟩ := at_num hCn j hjt
     obtain ⟨ads, rfl, cs⟩ := at_num (Kd.C_below HR2.out hB) j hjs
     have hjj : decide ((j : Int) < (g.length : Int)) = true := decide_eq_true (by omega)
     have hji : (j : Int) < (LT.length : Int) := by omega
     have hjsi : (j : Int) < (st.length : Int) := by omega
     have HFS : Hid ((List.range (j + 1)).filter (lateB g st dl) = if lateB g st dl j then (List.range j).filter (lateB g st dl) ++ [j] else (List.range j).filter (lateB g st dl)) := Lib.hid (filter_snoc j)
     have hfl := filter_range_le (lateB g st dl) j
     have HBD := Lib.hid (HLB.out j hjl)
     generalize (List.range j).filter (lateB g st dl) = fl at hT HFS hfl
     generalize st.getD j 0 = s at cs HBD
     generalize LT.getD j 0 = lt at cx HBD
     have HTB := Lib.hid (And.intro hT hB)
     have hol : (ints fl).length < 1000000 := by rw [ints_length]; omega
     clear hT hB hCn
     by_cases h1 : lt < s
     ·
      have d1 : decide (lt < s) = true := decide_eq_true h1
      rw [d1] at HBD
      clear h1
      go_wp2
      go_quiet (fail)
      have hta := Kd.R_drewN HTB.out.1.a nq
      have hB2 := pw_below_drewN HTB.out.2 nq
      have hT2 : Two (wr.drewN nq) w.heap.size u11 (.slice (some ad) LT.length c3) (ints fl) LT := ⟨hta, Kd.R_drewN HTB.out.1.b nq, HTB.out.1.ne⟩
      have HT2 := Lib.hid hT2
      clear hT2
      go_wp2_with (at_builtin; refine ap_int (w0 := w) w.heap.size rfl _ _ rfl u11 (ints fl) (j : Int) rfl rfl rfl hta hB2 hB2.size hol ?_; intro v1 w4 hO4 hB4 hg4 hat4; have hT4 := HT2.out.grow hO4 hg4 hat4; clear hg4 hat4 hO4)
      go_roundw
      case rel => exact ⟨j + 1, by omega, by go_num, by rw [HFS.out, HBD.out, if_pos rfl]; simpa [ints] using hT4, hB4⟩
      case measure => simp [intOf]; omega
     ·
      have d1 : decide (lt < s) = false := decide_eq_false h1
      rw [d1] at HBD
      clear h1
      go_wp2
      go_quiet (fail)
      go_wp2
      go_roundw
      case rel => exact ⟨j + 1, by omega, by go_num, by rw [HFS.out, HBD.out, if_neg (by simp)]; exact ⟨Kd.R_drewN HTB.out.1.a _, Kd.R_drewN HTB.out.1.b _, HTB.out.1.ne⟩, pw_below_drewN HTB.out.2 _⟩
      case measure => simp [intOf]; omega
    ·
     obtain rfl : j = g.length := by omega
     have hjj : decide ((g.length : Int) < (g.length : Int)) = false := decide_eq_false (by omega)
     go_wp2
     go_ret
     exact ⟨_, rfl, by rw [HF.out]; exact hT.a, hB⟩
  | false =>
   have HF : Hid (ltS g rm wk st dl = []) := Lib.hid (by unfold ltS; rw [h3, Bool.and_false]; rfl)
   have H3 := Lib.hid h3
   clear hr hr1 hr2 hra hrb hrc h h3
   go_enter Tryd.func41, Tryd.ntmps41
   go_wp2_with (first | (go_at_call 59; refine HP.out.mono ?_; rintro e w1 ⟨rfl, hB1⟩; have HB1 := Lib.hid (HBa.out.trans (hB1.mono HBa.out.size)); clear hB1) | (go_at_call 50; refine (inRange_is _ _ _ _ H3 _).mono ?_; rintro e wd ⟨rfl, rfl⟩))
   go_ret
   exact ⟨_, rfl, by rw [HF.out]; exact R_nilJ _ _, HB1.out⟩
 | false =>
  have HF : Hid (ltS g rm wk st dl = []) := Lib.hid (by unfold ltS; rw [h]; rfl)
  have HP := Lib.hid (validStarts_is false A c g A1 c1 rm wk A2 c2 st (Lib.hid h) _ hra hrb hrc)
  clear hr hr1 hr2 hra hrb hrc h
  go_enter Tryd.func41, Tryd.ntmps41
  go_wp2_with (go_at_call 59; refine HP.out.mono ?_; rintro e w1 ⟨rfl, hB1⟩)
  go_ret
  exact ⟨_, rfl, by rw [HF.out]; exact R_nilJ _ _, HBa.out.trans (hB1.mono HBa.out.size)⟩
end Go.Proofs.YtdjdfbfcjajlkaaDoor

namespace Go.Proofs.YtdjdfbfcjajlkaaDoor
set_option linter.unusedVariables false
set_option linter.unusedSimpArgs false
open Go.RowKit Go.Shelf Bits
open Go.Proofs.YtdjdfbfcjajlkaaDoorW.PrintWords Go.Proofs.YtdjdfbfcjajlkaaDoorW.PrintLast Go.Proofs.YtdjdfbfcjajlkaaDoorW.PrintMore
attribute [local go_sem] Oper.semAt_some
set_option maxRecDepth 100000 in
theorem slongest_calls (A : Option Addr) (c : Nat) (g : List Tk) (hv : specValid g = true) (w : World) (hr : kTk.C w A g.length g) :
  Calls Tryd.prog 77 #[.slice A g.length c] w fun e w' => e = .returned (.int .i64 (longestN g)) ∧ Below w.heap.size w w' := by
 have HTC := Lib.hid (stails_calls A c g hv w hr)
 have HSP := Lib.hid (tailsS_span hv)
 have HLE := Lib.hid (longestN_eq hv)
 have h8 := (specValid_TOk hv).1
 have htl8 : (tailsS g).length ≤ 8 := by rw [HSP.out.1]; exact h8
 have HLL : Hid ((tailsS g).length = g.length) := Lib.hid HSP.out.1
 clear hr hv
 generalize tailsS g = TN at HTC HSP HLE htl8 HLL
 go_enter Tryd.func77, Tryd.ntmps77
 go_wp2_with (go_at_call 101; refine HTC.out.mono ?_; rintro e w3 ⟨v3, rfl, hR3, hB3⟩; obtain ⟨A3, c3, rfl, hl3, hC3⟩ := Kd.R_reads hR3; have HC3 := Lib.hid hC3; have HB3 := Lib.hid hB3; clear hR3 hC3 hB3)
 go_loop [3, 5] (fun n i => ∃ (j : Nat), j ≤ TN.length ∧ i = .int .i64 j ∧ n = .int .i64 (longL TN j)) (fun _ i => TN.length - (intOf i).toNat)
 case atStart => exact ⟨0, Nat.zero_le _, rfl, rfl⟩
 case round =>
  obtain ⟨j, hj, rfl, rfl⟩ := hrel
  by_cases hjl : j < TN.length
  ·
   obtain ⟨ad, rfl, cx⟩ := at_num HC3.out j hjl
   have hjj : decide ((j : Int) < (TN.length : Int)) = true := decide_eq_true (by omega)
   have hji : (j : Int) < (TN.length : Int) := by omega
   have HE : Hid (longL TN (j + 1) = max (longL TN j) (TN.getD j 0)) := Lib.hid rfl
   generalize TN.getD j 0 = x at cx HE
   generalize longL TN j = m at HE ⊢
   go_wp2
   all_goals
    go_round
    case rel => exact ⟨j + 1, by omega, by go_num, by rw [HE.out] <;> (congr 1; first | omega | (split <;> omega))⟩
    case measure => simp [intOf]; omega
  ·
   obtain rfl : j = TN.length := by omega
   have hjj : decide ((TN.length : Int) < (TN.length : Int)) = false := decide_eq_false (by omega)
   go_wp2
   go_ret
   exact ⟨by rw [HLE.out, ← HLL.out]; rfl, HB3.out⟩
set_option maxRecDepth 100000 in
set_option maxHeartbeats 2000000 in
theorem sPoolTime_calls (A : Option Addr) (c : Nat) (g : List Tk) (p r : Int) (hv : specValid g = true) (hp : 0 ≤ p ∧ p ≤ 2) (hrm : 4 ≤ r ∧ r ≤ 8) (w : World) (hr : kTk.C w A g.length g) :
  Calls Tryd.prog 78 #[.slice A g.length c, .int .i64 p, .int .i64 r] w fun e w' => e = .returned (.int .i64 (poolS g p r)) ∧ Below w.heap.size w w' := by
 have hok := specValid_TOk hv
 have h8 := hok.1
 have HV := Lib.hid (validGraph_is true A c g (Lib.hid hv) w hr)
 have HP := Lib.hid (inB_true.2 hp)
 have HRM := Lib.hid (inB_true.2 hrm)
 have HF := Lib.hid (poolS_is hv hp hrm)
 have HW := Lib.hid (poolW_bound hok p)
 have HPB := Lib.hid (poolSum_bound hok p)
 have HR := Lib.hid hr
 have HOK := Lib.hid hok
 clear hr hv hok
 go_enter Tryd.func78, Tryd.ntmps78
 go_wp2_with (first | (go_at_call 48; refine HV.out.mono ?_; rintro e w1 ⟨rfl, hB1⟩; have HB1 := Lib.hid hB1; clear hB1) | (go_at_call 50; with_reducible refine (inRange_is _ _ _ _ HP _).mono ?_; rintro e w' ⟨rfl, rfl⟩) | (go_at_call 50; with_reducible refine (inRange_is _ _ _ _ HRM _).mono ?_; rintro e w' ⟨rfl, rfl⟩))
 go_loopw [7, 8] (fun n i wr => ∃ (j : Nat), j ≤ g.length ∧ i = .int .i64 j ∧ n = .int .i64 (sumTo (poolF g p) j) ∧ Below w.heap.size w wr) (fun _ i _ => g.length - (intOf i).toNat)
 case atStart => exact ⟨0, Nat.zero_le _, rfl, rfl, HB1.out⟩
 case round =>
  clear HB1
  obtain ⟨j, hj, rfl, rfl, hB⟩ := hrel
  by_cases hjl : j < g.length
  ·
   obtain ⟨ad, A1, c1, rfl, hc0, hc1, hc2, hc3, _⟩ := at_Tk (Kd.C_below HR.out hB) j hjl
   have hjj : decide ((j : Int) < (g.length : Int)) = true := decide_eq_true (by omega)
   have hji : (j : Int) < (g.length : Int) := by omega
   have HE : Hid (sumTo (poolF g p) (j + 1) = sumTo (poolF g p) j + (if (rdTk g j).f2 = p then (rdTk g j).f0 * (rdTk g j).f3 else 0)) := Lib.hid rfl
   have hb := HPB.out j (by omega)
   have hb2 := HPB.out (j + 1) (by omega)
   rw [HE.out] at hb2
   have htj := HOK.out.2.1 j
   have huj := HOK.out.2.2.2.1 j
   generalize sumTo (poolF g p) j = s at HE hb hb2
   generalize (rdTk g j).f0 = tm at hc0 htj HE hb2
   generalize (rdTk g j).f3 = un at hc3 huj HE hb2
   generalize (rdTk g j).f2 = pl at hc2 HE hb2
   generalize (rdTk g j).f1.length = nl at hc1
   have HB := Lib.hid hB
   by_cases g1 : pl = p
   ·
    have d1 : (pl == p) = true := beq_iff_eq.2 g1
    rw [if_pos g1] at HE hb2
    have hwm : IntKind.i64.wrap (tm * un) = tm * un := IntWalk.i64_in _ (by omega)
    have hwr : IntKind.i64.wrap (s + tm * un) = s + tm * un := IntWalk.i64_in _ (by clear hwm; omega)
    clear g1 hb hb2 hB
    go_wp2
    (try go_quiet (fail))
    (try go_wp2)
    clear hwr hwm
    go_roundw
    case rel => exact ⟨j + 1, by omega, by go_num, by rw [HE.out], by repeat (first | exact HB.out | apply pw_below_drewN)⟩
    case measure => simp [intOf]; omega
   ·
    have d1 : (pl == p) = false := beq_eq_false_iff_ne.2 g1
    rw [if_neg g1] at HE
    clear g1 hb hb2 hB
    go_wp2
    (try go_quiet (fail))
    (try go_wp2)
    go_roundw
    case rel => exact ⟨j + 1, by omega, by go_num, by rw [HE.out, Int.add_zero], by repeat (first | exact HB.out | apply pw_below_drewN)⟩
    case measure => simp [intOf]; omega
  ·
   obtain rfl : j = g.length := by omega
   have hjj : decide ((g.length : Int) < (g.length : Int)) = false := decide_eq_false (by omega)
   have HPW : Hid (sumTo (poolF g p) g.length = poolW g p) := Lib.hid rfl
   rw [HPW.out]
   have hpw := HW.out
   have h3 := (upI_wrap (n := poolW g p) (b := r) (by omega) (by omega)).1
   generalize poolW g p = pw at HF hpw h3
   have h1 : IntKind.i64.wrap (pw + r) = pw + r := IntWalk.i64_in _ (by clear h3; omega)
   have h2 : IntKind.i64.wrap (pw + r - 1) = pw + r - 1 := IntWalk.i64_in _ (by clear h1 h3; omega)
   have hb0 : ¬ r = 0 := by clear h1 h2 h3; omega
   have hb1 : (r == 0) = false := beq_eq_false_iff_ne.2 hb0
   have HBB := Lib.hid hB
   clear hB hpw
   go_wp2
   go_ret
   exact ⟨ret_int HF.out.symm, HBB.out⟩
set_option maxRecDepth 100000 in
set_option maxHeartbeats 4000000 in
theorem sLeastTime_calls (A : Option Addr) (c : Nat) (g : List Tk) (A1 : Option Addr) (c1 : Nat) (rm : List Int) (wk : Int) (w : World) (hr : kTk.C w A g.length g) (hr1 : (Kd.int .i64).C w A1 rm.length rm) :
  Calls Tryd.prog 46 #[.slice A g.length c, .slice A1 rm.length c1, .int .i64 wk] w fun e W' => e = .returned (.int .i64 (leS g rm wk)) ∧ Below w.heap.size w W' := by
 cases h1 : specValid g with
 | false =>
  have HF : Hid (leS g rm wk = -1) := Lib.hid (by unfold leS; rw [h1]; rfl)
  have HV := Lib.hid (validGraph_is false A c g (Lib.hid h1) w hr)
  clear hr hr1 h1
  go_enter Tryd.func46, Tryd.ntmps46
  go_wp2_with (go_at_call 48; refine HV.out.mono ?_; rintro e w1 ⟨rfl, hB1⟩)
  go_ret
  exact ⟨ret_int HF.out.symm, hB1⟩
 | true =>
  have HV := Lib.hid (validGraph_is true A c g (Lib.hid h1) w hr)
  cases h2 : roomB rm with
  | false =>
   have HF : Hid (leS g rm wk = -1) := Lib.hid (by unfold leS placeB; rw [h2, Bool.false_and, Bool.and_false]; rfl)
   have H2 := Lib.hid h2
   have HR1 := Lib.hid hr1
   clear hr hr1 h1 h2
   go_enter Tryd.func46, Tryd.ntmps46
   go_wp2_with (first | (go_at_call 48; refine HV.out.mono ?_; rintro e w1 ⟨rfl, hB1⟩; have HB1 := Lib.hid hB1; clear hB1) | (go_at_call 49; refine (validRoom_is _ _ _ _ H2 _ (Kd.C_below HR1.out HB1.out)).mono ?_; rintro e w' ⟨rfl, rfl⟩))
   go_ret
   exact ⟨ret_int HF.out.symm, HB1.out⟩
  | true =>
   cases h3 : inB wk 1 4 with
   | false =>
    have HF : Hid (leS g rm wk = -1) := Lib.hid (by unfold leS placeB; rw [h3, Bool.and_false, Bool.and_false]; rfl)
    have H2 := Lib.hid h2
    have H3 := Lib.hid h3
    have HR1 := Lib.hid hr1
    clear hr hr1 h1 h2 h3
    go_enter Tryd.func46, Tryd.ntmps46
    go_wp2_with (first | (go_at_call 48; refine HV.out.mono ?_; rintro e w1 ⟨rfl, hB1⟩; have HB1 := Lib.hid hB1; clear hB1) | (go_at_call 49; refine (validRoom_is _ _ _ _ H2 _ (Kd.C_below HR1.out HB1.out)).mono ?_; rintro e w' ⟨rfl, rfl⟩) | (go_at_call 50; with_reducible refine (inRange_is _ _ _ _ H3 _).mono ?_; rintro e w' ⟨rfl, rfl⟩))
    go_ret
    exact ⟨ret_int HF.out.symm, HB1.out⟩
   | true =>
    have hp : placeB rm wk = true := by unfold placeB; rw [h2, h3]; rfl
    have HF := Lib.hid (leS_is h1 hp)
    have hok := specValid_TOk h1
    have h8 := hok.1
    have hwk := inB_true.1 h3
    have H2 := Lib.hid h2
    have H3 := Lib.hid h3
    have HOK := Lib.hid hok
    have hrf := roomB_facts h2
    have HLG := Lib.hid (fun (W : World) (hW : Below w.heap.size w W) => slongest_calls A c g h1 W (Kd.C_below hr hW))
    have HPT := Lib.hid (fun (p : Nat) (hp : p < 3) (W : World) (hW : Below w.heap.size w W) => sPoolTime_calls A c g p (rm.getD p 0) h1 (by omega) (hrf.2 p hp) W (Kd.C_below hr hW))
    have HLB := Lib.hid (leastN_bound h1 hp)
    have htm := timeS_bound hok
    have HUW := Lib.hid (upI_wrap (n := timeS g) (b := wk) (by omega) (by omega))
    have HL0 : Hid (leastN g rm wk 0 = max (longestN g) (upI (timeS g) wk)) := Lib.hid rfl
    have HTS : Hid (sumTo (fun i => (rdTk g i).f0) g.length = timeS g) := Lib.hid rfl
    have HRL := Lib.hid hrf.1
    have HR := Lib.hid hr
    have HR1 := Lib.hid hr1
    clear hr hr1 h1 h2 h3 hp hok hrf
    go_enter Tryd.func46, Tryd.ntmps46
    go_wp2_with (first | (go_at_call 48; refine HV.out.mono ?_; rintro e w1 ⟨rfl, hB1⟩; have HB1 := Lib.hid hB1; clear hB1) | (go_at_call 49; refine (validRoom_is _ _ _ _ H2 _ (Kd.C_below HR1.out HB1.out)).mono ?_; rintro e w' ⟨rfl, rfl⟩) | (go_at_call 50; with_reducible refine (inRange_is _ _ _ _ H3 _).mono ?_; rintro e w' ⟨rfl, rfl⟩))
    go_loopw [7, 8] (fun n i wr => ∃ (j : Nat), j ≤ g.length ∧ i = .int .i64 j ∧ n = .int .i64 (sumTo (fun i => (rdTk g i).f0) j) ∧ Below w.heap.size w wr) (fun _ i _ => g.length - (intOf i).toNat)
    case atStart => exact ⟨0, Nat.zero_le _, rfl, rfl, HB1.out⟩
    case round =>
     clear HB1
     obtain ⟨j, hj, rfl, rfl, hB⟩ := hrel
     by_cases hjl : j < g.length
     ·
      obtain ⟨ad, A3, c3, rfl, hc0, _⟩ := at_Tk (Kd.C_below HR.out hB) j hjl
      have hjj : decide ((j : Int) < (g.length : Int)) = true := decide_eq_true (by omega)
      have hji : (j : Int) < (g.length : Int) := by omega
      have HE : Hid (sumTo (fun i => (rdTk g i).f0) (j + 1) = sumTo (fun i => (rdTk g i).f0) j + (rdTk g j).f0) := Lib.hid rfl
      have hb := sumTo_bound (f := fun i => (rdTk g i).f0) (a := 0) (b := 20) j (fun i _ => HOK.out.2.1 i)
      have htj := HOK.out.2.1 j
      generalize sumTo (fun i => (rdTk g i).f0) j = s at HE hb
      generalize (rdTk g j).f0 = tm at hc0 htj HE
      have hwr : IntKind.i64.wrap (s + tm) = s + tm := IntWalk.i64_in _ (by omega)
      have HB := Lib.hid hB
      clear hB
      go_wp2
      (try go_quiet (fail))
      (try go_wp2)
      clear hwr
      go_roundw
      case rel => exact ⟨j + 1, by omega, by go_num, by rw [HE.out], by repeat (first | exact HB.out | apply pw_below_drewN)⟩
      case measure => simp [intOf]; omega
     ·
      obtain rfl : j = g.length := by omega
      have hjj : decide ((g.length : Int) < (g.length : Int)) = false := decide_eq_false (by omega)
      rw [HTS.out]
      have HW := Lib.hid hB
      have h3 := HUW.out.1
      generalize timeS g = tm at htm h3 HL0
      generalize upI tm wk = uu at h3 HL0
      generalize longestN g = lg at HLG HL0
      have h1 : IntKind.i64.wrap (tm + wk) = tm + wk := IntWalk.i64_in _ (by clear h3; omega)
      have h2 : IntKind.i64.wrap (tm + wk - 1) = tm + wk - 1 := IntWalk.i64_in _ (by clear h1 h3; omega)
      have hb0 : ¬ wk = 0 := by clear h1 h2 h3; omega
      have hb1 : (wk == 0) = false := beq_eq_false_iff_ne.2 hb0
      clear hB
      go_wp2
      go_region_with (go_at_call 77; refine (HLG.out _ HW.out.drew).mono ?_; rintro e w5 ⟨rfl, hB5⟩; have HW := Lib.hid (HW.out.drew.trans (hB5.mono HW.out.size)); clear hB5)
      go_wp2
      clear h1 h2 h3
      all_goals
       go_loopw [9, 10] (fun n i wr => ∃ (k : Nat), k ≤ 3 ∧ i = .int .i64 k ∧ n = .int .i64 (leastN g rm wk k) ∧ Below w.heap.size w wr) (fun _ i _ => 3 - (intOf i).toNat)
       case atStart => exact ⟨0, by omega, rfl, by rw [HL0.out] <;> (congr 1; first | omega | (split <;> omega)), by repeat (first | exact HW.out | apply pw_below_drewN)⟩
       case round =>
        clear HW
        obtain ⟨k, hk, rfl, rfl, hB⟩ := hrel
        by_cases hkl : k < 3
        ·
         have hkr : k < rm.length := by rw [HRL.out]; exact hkl
         obtain ⟨ads, rfl, cs⟩ := at_num (Kd.C_below HR1.out hB) k hkr
         have hkk : decide ((k : Int) < 3) = true := decide_eq_true (by omega)
         have hkk' : decide (k < 3) = true := decide_eq_true hkl
         have hki : (k : Int) < (rm.length : Int) := by omega
         have HE : Hid (leastN g rm wk (k + 1) = max (leastN g rm wk k) (poolS g k (rm.getD k 0))) := Lib.hid rfl
         have HPK := Lib.hid (HPT.out k hkl)
         generalize poolS g k (rm.getD k 0) = pw at HPK HE
         generalize rm.getD k 0 = rk at cs HPK
         generalize leastN g rm wk k = m at HE ⊢
         have HW := Lib.hid hB
         clear hB
         go_wp2_with (go_at_call 78; refine (HPK.out _ HW.out).mono ?_; rintro e w5 ⟨rfl, hB5⟩; have HW := Lib.hid (HW.out.trans (hB5.mono HW.out.size)); clear hB5)
         all_goals
          go_roundw
          case rel => exact ⟨k + 1, by omega, by go_num, by rw [HE.out] <;> (congr 1; first | omega | (split <;> omega)), HW.out⟩
          case measure => simp [intOf]; omega
        ·
         obtain rfl : k = 3 := by omega
         go_wp2
         go_ret
         exact ⟨ret_int HF.out.symm, hB⟩
end Go.Proofs.YtdjdfbfcjajlkaaDoor
