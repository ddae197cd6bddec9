/- Parts of the proof, laid as one text by a program of mine. -/
import Derived.Test.YtifbjnhicnfdoaaDoorKac13
import Derived.Test.YtifbjnhicnfdoaaDoorKac16
import Derived.Test.YtifbjnhicnfdoaaDoorKac14
import Derived.StillTailTactics
import Derived.Sort.Grow
namespace Go.Proofs.YtifbjnhicnfdoaaDoor
set_option linter.unusedVariables false
set_option linter.unusedSimpArgs false
open Go.RowKit Go.Shelf Bits
open Go.Proofs.YtifbjnhicnfdoaaDoorW.PrintWords Go.Proofs.YtifbjnhicnfdoaaDoorW.PrintLast Go.Proofs.YtifbjnhicnfdoaaDoorW.PrintMore
attribute [local go_sem] Oper.semAt_some
theorem plan_impl (C : Nat) (g : List Tk) (ns : List Nat) (A1 : Option Addr) (c1 : Nat) (rm : List Int) (wk : Int) (hgr : graphN g = some ns) (hrm : roomB rm = true) (hwk : 1 ≤ wk) (w : World) (hG : IsGraph w C g ns) (hT : Tab w) (hr1 : (Kd.int .i64).C w A1 rm.length rm) :
  Calls Tryd.prog 67 #[.pointer (some ⟨C, 0, none⟩), .slice A1 rm.length c1, .int .i64 wk] w fun e w' => ∃ v, e = .returned v ∧ Kd.R (Kd.int .i64) 3 w' w.heap.size (fun _ => True) v (planS g rm wk) ∧ Below w.heap.size w w' := by
 obtain ⟨K, h1, h2, h3, h4⟩ := plan_eq hgr hrm hwk
 rw [← h4]
 exact iplan_calls C g ns A1 c1 rm wk K hgr (specValid_TOk (graphN_spec hgr)) (roomB_facts hrm).1 h1 h2 h3 w hG hT hr1
set_option maxRecDepth 100000 in
theorem PlanStarts_impl (A : Option Addr) (c : Nat) (g : List Tk) (A1 : Option Addr) (c1 : Nat) (rm : List Int) (wk : Int) (w : World) (hr : kTk.C w A g.length g) (hr1 : (Kd.int .i64).C w A1 rm.length rm) (hT : Tab w) :
  Calls Tryd.prog 36 #[.slice A g.length c, .slice A1 rm.length c1, .int .i64 wk] w fun e W' => ∃ v, e = .returned v ∧ Kd.R (Kd.int .i64) 3 W' w.heap.size (fun _ => True) v (pS g rm wk) ∧ Below w.heap.size w W' := by
 by_cases hp : (specValid g && placeB rm wk) = true
 ·
  have HF : Hid (pS g rm wk = planS g rm wk) := Lib.hid (by unfold pS; rw [if_pos hp])
  rw [Bool.and_eq_true] at hp
  obtain ⟨ns, hg⟩ := graphN_yes hp.1
  obtain ⟨h1, h2, h3⟩ := placeB_facts hp.2
  have HP := Lib.hid (placeIn_yes A c g ns A1 c1 rm wk hp.2 w hr hT hg hr1)
  have HK := Lib.hid (fun (W : World) C (h : IsGraph W C g ns) (hT : Tab W) hr => plan_impl C g ns A1 c1 rm wk hg h1 h2 W h hT hr)
  have HR1 := Lib.hid hr1
  have HT := Lib.hid hT
  clear hr hT hg h1 h2 h3 hp hr1
  go_enter Tryd.func36, Tryd.ntmps36
  go_wp2_with (first | (go_at_call 66; refine HP.out.mono ?_; rintro e w1 ⟨C, rfl, hG, hB1⟩; have HG := Lib.hid hG; have HB1 := Lib.hid hB1; clear hG hB1) | (go_at_call 67; refine (HK.out _ C HG.out (HT.out.keep HT.out.lt HB1.out) (Kd.C_below HR1.out HB1.out)).mono ?_; rintro e w3 ⟨v, rfl, hR, hB3⟩))
  go_ret
  have hz := HB1.out.size
  exact ⟨_, rfl, by rw [HF.out]; exact Kd.R_lower hR hz, HB1.out.trans (hB3.mono hz)⟩
 ·
  have HF : Hid (pS g rm wk = []) := Lib.hid (by unfold pS; rw [if_neg hp])
  have hn : ∀ ns, graphN g = some ns → placeB rm wk = false := fun ns hg => by
   rw [graphN_spec hg, Bool.true_and] at hp
   simpa using hp
  have HP := Lib.hid (placeIn_no A c g A1 c1 rm wk hn w hr hT hr1)
  clear hr hT hp hr1 hn
  go_enter Tryd.func36, Tryd.ntmps36
  go_wp2_with (go_at_call 66; refine HP.out.mono ?_; rintro e w1 ⟨rfl, hB1⟩)
  go_ret
  exact ⟨_, rfl, by rw [HF.out]; exact R_nilJ _ _, hB1⟩
theorem deadlineValid_is (b : Bool) (dl : Int) (h : Hid (inB dl 0 200 = b)) (w : World) : Calls Tryd.prog 52 #[.int .i64 dl] w fun e w' => e = .returned (.bool b) ∧ w' = w := by
 go_enter Tryd.func52, Tryd.ntmps52
 go_wp2_with (go_at_call 75; refine (within_is _ _ _ _ h _).mono ?_; rintro e w2 ⟨rfl, rfl⟩)
 go_ret
 exact ⟨rfl, rfl⟩
set_option maxRecDepth 100000 in
set_option maxHeartbeats 2000000 in
theorem WorkersFor_impl (A : Option Addr) (c : Nat) (g : List Tk) (A1 : Option Addr) (c1 : Nat) (rm : List Int) (dl : Int) (w : World) (hr : kTk.C w A g.length g) (hr1 : (Kd.int .i64).C w A1 rm.length rm) (hT : Tab w) :
  Calls Tryd.prog 41 #[.slice A g.length c, .slice A1 rm.length c1, .int .i64 dl] w fun e W' => e = .returned (.int .i64 (wfS g rm dl)) ∧ Below w.heap.size w W' := by
 by_cases hp : (specValid g && roomB rm) = true
 ·
  rw [Bool.and_eq_true] at hp
  obtain ⟨ns, hg⟩ := graphN_yes hp.1
  have hpl : placeB rm 4 = true := by unfold placeB; rw [hp.2]; rfl
  have HP := Lib.hid (placeIn_yes A c g ns A1 c1 rm 4 hpl w hr hT hg hr1)
  have HK := Lib.hid (fun (n : Nat) (hn : 1 ≤ n) (W : World) C (h : IsGraph W C g ns) (hT : Tab W) hr => plan_impl C g ns A1 c1 rm (n : Nat) hg hp.2 (by omega) W h hT hr)
  have HR1 := Lib.hid hr1
  have HT := Lib.hid hT
  have HOK := Lib.hid (specValid_TOk hp.1)
  have HPP := Lib.hid hp
  clear hr hT hg hp hr1 hpl
  cases h3 : inB dl 0 200 with
  | false =>
   have HF : Hid (wfS g rm dl = -1) := Lib.hid (by unfold wfS; rw [h3, Bool.and_false, Bool.and_false]; rfl)
   have H3 := Lib.hid h3
   clear h3
   go_enter Tryd.func41, Tryd.ntmps41
   go_wp2_with (first | (go_at_call 66; refine HP.out.mono ?_; rintro e w1 ⟨C, rfl, hG, hB1⟩; have HG := Lib.hid hG; have HB1 := Lib.hid hB1; clear hG hB1) | (go_at_call 52; refine (deadlineValid_is _ _ H3 _).mono ?_; rintro e wd ⟨rfl, rfl⟩))
   go_ret
   exact ⟨ret_int HF.out.symm, HB1.out⟩
  | true =>
   have HF : Hid (wfS g rm dl = firstN (meetsB g rm dl) 4 1) := Lib.hid (by unfold wfS; rw [h3, HPP.out.1, HPP.out.2]; rfl)
   have H3 := Lib.hid h3
   clear h3
   go_enter Tryd.func41, Tryd.ntmps41
   go_wp2_with (first | (go_at_call 66; refine HP.out.mono ?_; rintro e w1 ⟨C, rfl, hG, hB1⟩; have HG := Lib.hid hG; have HB1 := Lib.hid hB1; clear hG hB1) | (go_at_call 52; refine (deadlineValid_is _ _ H3 _).mono ?_; rintro e wd ⟨rfl, rfl⟩))
   go_loopw [9] (fun i wr => ∃ n : Nat, 1 ≤ n ∧ n ≤ 5 ∧ i = .int .i64 n ∧ Hid (wfS g rm dl = firstN (meetsB g rm dl) (5 - n) n) ∧ Below wd.heap.size wd wr) (fun i _ => 5 - (intOf i).toNat)
   case atStart => exact ⟨1, by omega, by omega, rfl, HF, Below.refl _ _⟩
   case round =>
    clear HF
    obtain ⟨n, hn1, hn5, rfl, HF, hB⟩ := hrel
    have HB := Lib.hid hB
    clear hB
    by_cases hn : n < 5
    ·
     have dn : decide ((n : Int) ≤ 4) = true := decide_eq_true (by omega)
     have HG2 := Lib.hid (HG.out.below HB.out)
     have HPL := Lib.hid (HK.out n hn1 wr C HG2.out (HT.out.keep HT.out.lt (HB1.out.trans (HB.out.mono HB1.out.size))) (Kd.C_below HR1.out (HB1.out.trans (HB.out.mono HB1.out.size))))
     have hpo := planS_ok g rm n
     have HPO := Lib.hid hpo
     clear hpo
     cases hm : meetsB g rm dl n with
     | true =>
      have HM := Lib.hid hm
      have HFF : Hid (wfS g rm dl = n) := Lib.hid (by
       rw [HF.out, show 5 - n = (4 - n) + 1 by omega]
       show (if meetsB g rm dl n then (n : Int) else _) = _
       rw [if_pos hm])
      unfold meetsB at hm
      clear HM
      generalize planS g rm n = st at HPL HPO hm
      have HEN := Lib.hid (fun (W : World) A' c' h h2 => iend_calls C g ns A' c' st HOK.out HPO.out.sok HPO.out.1 W h h2)
      generalize endS g st g.length = en at hm HEN
      go_wp2_with (first | (go_at_call 67; refine HPL.out.mono ?_; rintro e w3 ⟨v, rfl, hR, hB3⟩; obtain ⟨A3, c3, rfl, _, hC3⟩ := Kd.R_reads hR; have HC3 := Lib.hid hC3; have HB3 := Lib.hid hB3; clear hR hC3 hB3) | (go_at_call 59; refine (HEN.out _ A3 c3 (HG2.out.below HB3.out) HC3.out).mono ?_; rintro e w4 ⟨rfl, rfl⟩))
      go_ret
      exact ⟨ret_int HFF.out.symm, HB1.out.trans ((HB.out.trans (HB3.out.mono HB.out.size)).mono HB1.out.size)⟩
     | false =>
      have HM := Lib.hid hm
      have HFF : Hid (wfS g rm dl = firstN (meetsB g rm dl) (5 - (n + 1)) (n + 1)) := Lib.hid (by
       rw [HF.out, show 5 - n = (5 - (n + 1)) + 1 by omega]
       show (if meetsB g rm dl n then (n : Int) else _) = _
       rw [if_neg (by rw [hm]; simp)])
      unfold meetsB at hm
      clear HM
      generalize planS g rm n = st at HPL HPO hm
      have HEN := Lib.hid (fun (W : World) A' c' h h2 => iend_calls C g ns A' c' st HOK.out HPO.out.sok HPO.out.1 W h h2)
      generalize endS g st g.length = en at hm HEN
      go_wp2_with (first | (go_at_call 67; refine HPL.out.mono ?_; rintro e w3 ⟨v, rfl, hR, hB3⟩; obtain ⟨A3, c3, rfl, _, hC3⟩ := Kd.R_reads hR; have HC3 := Lib.hid hC3; have HB3 := Lib.hid hB3; clear hR hC3 hB3) | (go_at_call 59; refine (HEN.out _ A3 c3 (HG2.out.below HB3.out) HC3.out).mono ?_; rintro e w4 ⟨rfl, rfl⟩))
      go_roundw
      case rel => exact ⟨n + 1, by omega, by omega, by go_num, HFF, HB.out.trans (HB3.out.mono HB.out.size)⟩
      case measure => simp [intOf]; omega
    ·
     obtain rfl : n = 5 := by omega
     have dn : decide (((5 : Nat) : Int) ≤ 4) = false := by decide
     have HFF : Hid (wfS g rm dl = -1) := Lib.hid (by rw [HF.out]; rfl)
     go_wp2
     go_ret
     exact ⟨ret_int HFF.out.symm, HB1.out.trans (HB.out.mono HB1.out.size)⟩
 ·
  have HF : Hid (wfS g rm dl = -1) := Lib.hid (by
   unfold wfS
   rw [← Bool.and_assoc]
   have : (specValid g && roomB rm) = false := by simpa using hp
   rw [this]; rfl)
  have hn : ∀ ns, graphN g = some ns → placeB rm 4 = false := fun ns hg => by
   rw [graphN_spec hg, Bool.true_and] at hp
   unfold placeB
   have : roomB rm = false := by simpa using hp
   rw [this]; rfl
  have HP := Lib.hid (placeIn_no A c g A1 c1 rm 4 hn w hr hT hr1)
  clear hr hT hp hr1 hn
  go_enter Tryd.func41, Tryd.ntmps41
  go_wp2_with (go_at_call 66; refine HP.out.mono ?_; rintro e w1 ⟨rfl, hB1⟩)
  go_ret
  exact ⟨ret_int HF.out.symm, hB1⟩
set_option maxRecDepth 100000 in
set_option maxHeartbeats 2000000 in
theorem sWorkersFor_calls (A : Option Addr) (c : Nat) (g : List Tk) (A1 : Option Addr) (c1 : Nat) (rm : List Int) (dl : Int) (w : World) (hr : kTk.C w A g.length g) (hr1 : (Kd.int .i64).C w A1 rm.length rm) :
  Calls Tryd.prog 42 #[.slice A g.length c, .slice A1 rm.length c1, .int .i64 dl] w fun e W' => e = .returned (.int .i64 (wfS g rm dl)) ∧ Below w.heap.size w W' := by
 have HV := fun b (h : specValid g = b) => validGraph_is b A c g (Lib.hid h) w hr
 have HR := Lib.hid hr
 have HR1 := Lib.hid hr1
 clear hr hr1
 cases h1 : specValid g with
 | false =>
  have HF : Hid (wfS g rm dl = -1) := Lib.hid (by unfold wfS; rw [h1]; rfl)
  have HV := Lib.hid (HV _ h1)
  clear h1
  go_enter Tryd.func42, Tryd.ntmps42
  go_wp2_with (go_at_call 68; refine HV.out.mono ?_; rintro e w1 ⟨rfl, hB1⟩; have HB1 := Lib.hid hB1; clear hB1)
  go_ret
  exact ⟨ret_int HF.out.symm, HB1.out⟩
 | true =>
  have HVV := Lib.hid h1
  have HV := Lib.hid (HV _ h1)
  clear h1
  cases h2 : roomB rm with
  | false =>
   have HF : Hid (wfS g rm dl = -1) := Lib.hid (by unfold wfS; rw [h2, Bool.false_and, Bool.and_false]; rfl)
   have H2 := Lib.hid h2
   clear h2
   go_enter Tryd.func42, Tryd.ntmps42
   go_wp2_with (first | (go_at_call 68; refine HV.out.mono ?_; rintro e w1 ⟨rfl, hB1⟩; have HB1 := Lib.hid hB1; clear hB1) | (go_at_call 69; refine (validRoom_is _ _ _ _ H2 _ (Kd.C_below HR1.out HB1.out)).mono ?_; rintro e w' ⟨rfl, rfl⟩))
   go_ret
   exact ⟨ret_int HF.out.symm, HB1.out⟩
  | true =>
   have H2 := Lib.hid h2
   cases h3 : inB dl 0 200 with
   | false =>
    have HF : Hid (wfS g rm dl = -1) := Lib.hid (by unfold wfS; rw [h3, Bool.and_false, Bool.and_false]; rfl)
    have H3 := Lib.hid h3
    clear h2 h3
    go_enter Tryd.func42, Tryd.ntmps42
    go_wp2_with (first | (go_at_call 68; refine HV.out.mono ?_; rintro e w1 ⟨rfl, hB1⟩; have HB1 := Lib.hid hB1; clear hB1) | (go_at_call 69; refine (validRoom_is _ _ _ _ H2 _ (Kd.C_below HR1.out HB1.out)).mono ?_; rintro e w' ⟨rfl, rfl⟩) | (go_at_call 56; refine (inRange_is _ _ _ _ H3 _).mono ?_; rintro e w' ⟨rfl, rfl⟩))
    go_ret
    exact ⟨ret_int HF.out.symm, HB1.out⟩
   | true =>
    have HF : Hid (wfS g rm dl = firstN (meetsB g rm dl) 4 1) := Lib.hid (by unfold wfS; rw [h3, h2, HVV.out]; rfl)
    have H3 := Lib.hid h3
    have HK := Lib.hid (fun (n : Nat) (W : World) hr hr1 => plan_calls A c g A1 c1 rm (n : Nat) HVV.out (roomB_facts h2).1 W hr hr1)
    have HOK := Lib.hid (specValid_TOk HVV.out)
    clear h2 h3
    go_enter Tryd.func42, Tryd.ntmps42
    go_wp2_with (first | (go_at_call 68; refine HV.out.mono ?_; rintro e w1 ⟨rfl, hB1⟩; have HB1 := Lib.hid hB1; clear hB1) | (go_at_call 69; refine (validRoom_is _ _ _ _ H2 _ (Kd.C_below HR1.out HB1.out)).mono ?_; rintro e w' ⟨rfl, rfl⟩) | (go_at_call 56; refine (inRange_is _ _ _ _ H3 _).mono ?_; rintro e w' ⟨rfl, rfl⟩))
    have HBB := Lib.hid HB1.out
    go_loopw [7] (fun i wr => ∃ n : Nat, 1 ≤ n ∧ n ≤ 5 ∧ i = .int .i64 n ∧ Hid (wfS g rm dl = firstN (meetsB g rm dl) (5 - n) n) ∧ Below w.heap.size w wr) (fun i _ => 5 - (intOf i).toNat)
    case atStart => exact ⟨1, by omega, by omega, rfl, HF, HBB.out⟩
    case round =>
     clear HF
     obtain ⟨n, hn1, hn5, rfl, HF, hB⟩ := hrel
     have HB := Lib.hid hB
     clear hB
     by_cases hn : n < 5
     ·
      have dn : decide ((n : Int) ≤ 4) = true := decide_eq_true (by omega)
      have HPL := Lib.hid (HK.out n wr (Kd.C_below HR.out HB.out) (Kd.C_below HR1.out HB.out))
      have hpo := planS_ok g rm n
      have HPO := Lib.hid hpo
      clear hpo
      cases hm : meetsB g rm dl n with
      | true =>
       have HFF : Hid (wfS g rm dl = n) := Lib.hid (by
        rw [HF.out, show 5 - n = (4 - n) + 1 by omega]
        show (if meetsB g rm dl n then (n : Int) else _) = _
        rw [if_pos hm])
       unfold meetsB at hm
       generalize planS g rm n = st at HPL HPO hm
       have HEN := Lib.hid (fun (W : World) A' c' h h2 => endOf_calls A c g A' c' st HOK.out HPO.out.sok HPO.out.1 W h h2)
       generalize endS g st g.length = en at hm HEN
       go_wp2_with (first | (go_at_call 70; refine HPL.out.mono ?_; rintro e w3 ⟨v, rfl, hR, hB3⟩; obtain ⟨A3, c3, rfl, _, hC3⟩ := Kd.R_reads hR; have HC3 := Lib.hid hC3; have HB3 := Lib.hid (HB.out.trans (hB3.mono HB.out.size)); clear hR hC3 hB3) | (go_at_call 72; refine (HEN.out _ A3 c3 (Kd.C_below HR.out HB3.out) HC3.out).mono ?_; rintro e w4 ⟨rfl, hB4⟩; have HB4 := Lib.hid (HB3.out.trans (hB4.mono HB3.out.size)); clear hB4))
       go_ret
       exact ⟨ret_int HFF.out.symm, HB4.out⟩
      | false =>
       have HFF : Hid (wfS g rm dl = firstN (meetsB g rm dl) (5 - (n + 1)) (n + 1)) := Lib.hid (by
        rw [HF.out, show 5 - n = (5 - (n + 1)) + 1 by omega]
        show (if meetsB g rm dl n then (n : Int) else _) = _
        rw [if_neg (by rw [hm]; simp)])
       unfold meetsB at hm
       generalize planS g rm n = st at HPL HPO hm
       have HEN := Lib.hid (fun (W : World) A' c' h h2 => endOf_calls A c g A' c' st HOK.out HPO.out.sok HPO.out.1 W h h2)
       generalize endS g st g.length = en at hm HEN
       go_wp2_with (first | (go_at_call 70; refine HPL.out.mono ?_; rintro e w3 ⟨v, rfl, hR, hB3⟩; obtain ⟨A3, c3, rfl, _, hC3⟩ := Kd.R_reads hR; have HC3 := Lib.hid hC3; have HB3 := Lib.hid (HB.out.trans (hB3.mono HB.out.size)); clear hR hC3 hB3) | (go_at_call 72; refine (HEN.out _ A3 c3 (Kd.C_below HR.out HB3.out) HC3.out).mono ?_; rintro e w4 ⟨rfl, hB4⟩; have HB4 := Lib.hid (HB3.out.trans (hB4.mono HB3.out.size)); clear hB4))
       go_roundw
       case rel => exact ⟨n + 1, by omega, by omega, by go_num, HFF, HB4.out⟩
       case measure => simp [intOf]; omega
     ·
      obtain rfl : n = 5 := by omega
      have dn : decide (((5 : Nat) : Int) ≤ 4) = false := by decide
      have HFF : Hid (wfS g rm dl = -1) := Lib.hid (by rw [HF.out]; rfl)
      go_wp2
      go_ret
      exact ⟨ret_int HFF.out.symm, HB.out⟩
end Go.Proofs.YtifbjnhicnfdoaaDoor

namespace Go.Proofs.YtifbjnhicnfdoaaDoor
set_option linter.unusedVariables false
set_option linter.unusedSimpArgs false
open Go.RowKit Go.Shelf Bits
theorem longestN_eq {g : List Tk} (hv : specValid g = true) : longestN g = longL (tailsS g) g.length := by
 obtain ⟨ns, hg⟩ := graphN_yes hv
 unfold longestN
 rw [hg]
 show longL (tailN g ns) g.length = _
 rw [tailN_eq hg]
theorem longest_le {g : List Tk} (hv : specValid g = true) {st : List Int} (h0 : ∀ i, i < g.length → 0 ≤ st.getD i 0) (hN : ∀ k, k < g.length → ∀ i : Nat, (i : Int) ∈ (rdTk g k).f1 → st.getD i 0 + (rdTk g i).f0 ≤ st.getD k 0) : longestN g ≤ endS g st g.length := by
 rw [longestN_eq hv]
 exact longS_le h0 hN
theorem vDone_nil {g : List Tk} (hv : specValid g = true) : vDoneB g [] = true := by
 unfold vDoneB
 rw [hv]
 rfl
theorem first_zero {g : List Tk} (hv : specValid g = true) {rm : List Int} (hrm : roomB rm = true) {wk : Int} (hwk : 1 ≤ wk) (hg : 0 < g.length) : ∃ y, 0 < (rdOrdN g []).length ∧ (rdOrdN g []).getD 0 0 = ((y : Nat) : Int) ∧ y < g.length ∧ (planS g rm wk).getD y 0 = 0 := by
 have hok := specValid_TOk hv
 rw [rdOrd_eq]
 have e : sRdOrd g [] = insL (tailsS g) (readyS g []) := by
  unfold sRdOrd
  rw [if_pos (vDone_nil hv)]
 rw [e]
 have h0 : ∀ j, j < g.length → (planL g rm wk 0).getD j 0 = 200 := fun j hj => by
  unfold planL
  rw [List.getD_eq_getElem?_getD, List.getElem?_replicate, if_pos hj]
  rfl
 obtain ⟨x, hx, hrd⟩ := some_ready hv (D := []) ⟨0, hg, by simp⟩
 have hmem : x ∈ insL (tailsS g) (readyS g []) := (insL_perm _ _).mem_iff.2 (List.mem_filter.2 ⟨List.mem_range.2 hx, hrd⟩)
 obtain ⟨y, ys, hys⟩ := List.exists_cons_of_ne_nil (List.ne_nil_of_mem hmem)
 have ho : overS g (planL g rm wk 0) (0 : Nat) = [] := by
  unfold overS
  rw [List.filter_eq_nil_iff]
  intro i hi
  rw [overB_iff, h0 i (List.mem_range.1 hi)]
  have := hok.2.1 i
  omega
 have hrn : runS g (planL g rm wk 0) (0 : Nat) = [] := by
  unfold runS
  rw [List.filter_eq_nil_iff]
  intro i hi
  unfold runB
  rw [h0 i (List.mem_range.1 hi)]
  simp
 have hfl : (readyS g []).filter (idleB (planL g rm wk 0)) = readyS g [] := by
  rw [List.filter_eq_self]
  exact fun a ha => idleB_iff.2 (h0 a (readyS_lt a ha))
 have hn : y ∈ nextS g rm wk (planL g rm wk 0) (0 : Nat) := by
  unfold nextS
  rw [ho, hrn, show ints [] = [] from rfl, hfl, hys]
  exact adm_first hok hrm hwk y ys
 have hyl := nextS_lt _ _ _ _ _ y hn
 have h1 : (planL g rm wk 1).getD y 0 = 0 := by
  rw [show planL g rm wk 1 = stepS g rm wk (planL g rm wk 0) (0 : Nat) from rfl, stepS_get (planL_ok g rm wk 0 (by omega)).1, if_pos hn]
  rfl
 refine ⟨y, by rw [hys]; simp [ints], by rw [hys]; rfl, hyl, ?_⟩
 rw [planL_final (k := 1) (by omega) (by rw [h1]; decide), h1]
theorem firstN_mono {P Q : Nat → Bool} (h : ∀ n, P n = true → Q n = true) : ∀ f n, firstN P f n = -1 ∨ ((n : Int) ≤ firstN Q f n ∧ firstN Q f n ≤ firstN P f n)
 | 0, _ => .inl rfl
 | f + 1, n => by
  have ih := firstN_mono h f (n + 1)
  unfold firstN
  by_cases hp : P n = true
  ·
   rw [if_pos hp, if_pos (h n hp)]
   right
   omega
  ·
   rw [if_neg hp]
   by_cases hq : Q n = true
   ·
    rw [if_pos hq]
    rcases ih with e | e
    ·
     exact .inl e
    ·
     right
     omega
   ·
    rw [if_neg hq]
    rcases ih with e | e
    ·
     exact .inl e
    ·
     right
     omega
theorem later_law {g : List Tk} {rm : List Int} {dl : Int} (h : 0 ≤ wfS g rm dl) (hd : dl ≠ 200) : 1 ≤ wfS g rm (dl + 1) ∧ wfS g rm (dl + 1) ≤ wfS g rm dl := by
 unfold wfS at h ⊢
 by_cases hc : (specValid g && (roomB rm && inB dl 0 200)) = true
 ·
  have hc' := hc
  rw [Bool.and_eq_true, Bool.and_eq_true] at hc
  have h1 := inB_true.1 hc.2.2
  have h2 : inB (dl + 1) 0 200 = true := inB_true.2 (by omega)
  rw [if_pos hc'] at h ⊢
  rw [h2, hc.1, hc.2.1, if_pos (show (true && (true && true)) = true from rfl)]
  rcases firstN_mono (P := meetsB g rm dl) (Q := meetsB g rm (dl + 1)) (fun n hn => by
   unfold meetsB at hn ⊢
   have := of_decide_eq_true hn
   exact decide_eq_true (by omega)) 4 1 with e | e
  ·
   rw [e] at h
   omega
  ·
   omega
 ·
  rw [if_neg hc] at h
  omega
theorem firstN_none {P : Nat → Bool} : ∀ f n, (∀ k, n ≤ k → P k = false) → firstN P f n = -1
 | 0, _, _ => rfl
 | f + 1, n, h => by
  unfold firstN
  rw [if_neg (by rw [h n (Nat.le_refl _)]; simp)]
  exact firstN_none f (n + 1) (fun k hk => h k (by omega))
theorem one_law {g : List Tk} (hv : specValid g = true) {rm : List Int} (hrm : roomB rm = true) (hg : 0 < g.length) : wfS g rm (timeS g) = 1 ∧ wfS g rm (longestN g - 1) = -1 := by
 have hok := specValid_TOk hv
 have hT := timeS_bound hok
 constructor
 ·
  unfold wfS
  rw [hv, hrm, inB_true.2 (show 0 ≤ timeS g ∧ timeS g ≤ 200 by omega), if_pos (show (true && (true && true)) = true from rfl)]
  show (if meetsB g rm (timeS g) 1 then ((1 : Nat) : Int) else _) = 1
  rw [if_pos]
  ·
   rfl
  ·
   unfold meetsB
   exact decide_eq_true (endS_le hT.1 _ (planS_ends hv hrm (Int.le_refl _)))
 ·
  unfold wfS
  split
  ·
   refine firstN_none _ _ (fun k hk => ?_)
   unfold meetsB
   apply decide_eq_false
   have := longest_le hv (st := planS g rm (k : Nat)) (fun i _ => (planS_ok g rm k).2 i |>.1) (fun q hq i hi => planS_needs hv hrm (by omega) hq i hi)
   omega
  ·
   rfl
end Go.Proofs.YtifbjnhicnfdoaaDoor

namespace Go.Proofs.YtifbjnhicnfdoaaDoor
set_option linter.unusedVariables false
set_option linter.unusedSimpArgs false
open Go.RowKit Go.Shelf Bits
def laterN (d : Int) (st : List Int) (j : Nat) : List Int := (st.take j).map fun x => x + d
theorem laterN_len {d : Int} {st : List Int} {j : Nat} (h : j ≤ st.length) : (laterN d st j).length = j := by
 unfold laterN
 rw [List.length_map, List.length_take]
 omega
theorem laterN_get {d : Int} {st : List Int} {i j : Nat} (hi : i < j) (hj : j ≤ st.length) : (laterN d st j).getD i 0 = st.getD i 0 + d := by
 unfold laterN
 rw [List.getD_eq_getElem?_getD, List.getElem?_map, List.getElem?_take_of_lt hi, List.getD_eq_getElem?_getD, List.getElem?_eq_getElem (by omega)]
 rfl
theorem laterN_snoc {d : Int} {st : List Int} {j : Nat} (hj : j < st.length) : laterN d st (j + 1) = laterN d st j ++ [st.getD j 0 + d] := by
 unfold laterN
 rw [List.take_succ_eq_append_getElem hj, List.map_append, List.getD_eq_getElem?_getD, List.getElem?_eq_getElem hj]
 rfl
theorem later_valid {g : List Tk} {rm : List Int} {wk : Int} {st : List Int} {d : Int} (h : Valid g rm wk st) (hd : 0 ≤ d) (hs : ∀ k, k < st.length → st.getD k 0 + d ≤ 200) : Valid g rm wk (laterN d st st.length) := by
 refine valid_shift (d := d) h (by rw [laterN_len (Nat.le_refl _)]; exact h.len) (fun i hi => laterN_get (by rw [h.len]; exact hi) (Nat.le_refl _)) (fun i hi => ?_)
 have hil : i < st.length := by rw [h.len]; exact hi
 rw [laterN_get hil (Nat.le_refl _)]
 have := h.b i hi
 have := hs i hil
 omega
theorem later_end {g : List Tk} {rm : List Int} {wk : Int} {st : List Int} {d : Int} (h : Valid g rm wk st) (hd : 0 ≤ d) (hs : ∀ k, k < st.length → st.getD k 0 + d ≤ 200) (hn : 0 < g.length) : etS g rm wk (laterN d st st.length) = etS g rm wk st + d := by
 have h' := later_valid h hd hs
 unfold etS
 rw [if_pos (valid_vSt h), if_pos (valid_vSt h')]
 exact end_shift h h' hn (fun i hi => laterN_get (by rw [h.len]; exact hi) (Nat.le_refl _))
theorem large_valid {g : List Tk} {rm : List Int} {wk : Int} {st : List Int} (h : Valid g rm wk st) : Valid g (List.replicate rm.length 8) 4 st := by
 obtain ⟨h1, h2, h3⟩ := placeB_facts h.p
 obtain ⟨h4, h5⟩ := roomB_facts h1
 rw [h4]
 refine valid_more h (by decide) h3 (fun p hp => ?_)
 have := (h5 p hp).2
 have e : (List.replicate 3 (8 : Int)).getD p 0 = 8 := by
  rcases p with _ | _ | _ | p
  ·
   rfl
  ·
   rfl
  ·
   rfl
  ·
   omega
 omega
theorem rep_snoc (n : Nat) (x : Int) : List.replicate (n + 1) x = List.replicate n x ++ [x] := List.replicate_succ'
theorem etS_valid {g : List Tk} {rm : List Int} {wk : Int} {st : List Int} (h : Valid g rm wk st) : etS g rm wk st = endS g st g.length := by
 unfold etS
 rw [if_pos (valid_vSt h)]
theorem etS_no {g : List Tk} {rm : List Int} {wk : Int} {st : List Int} (h : vStB g rm wk st = false) : etS g rm wk st = -1 := by
 unfold etS
 rw [h]
 rfl
theorem etS_cases (g : List Tk) (rm : List Int) (wk : Int) (st : List Int) : (etS g rm wk st = -1 ∧ vStB g rm wk st = false) ∨ (0 ≤ etS g rm wk st ∧ Valid g rm wk st) := by
 cases h : vStB g rm wk st with
 | false => exact .inl ⟨etS_no h, rfl⟩
 | true =>
  refine .inr ⟨?_, vSt_valid h⟩
  rw [etS_valid (vSt_valid h)]
  exact endS_nonneg _ _ _
theorem etS_bound (g : List Tk) (rm : List Int) (wk : Int) (st : List Int) : -1 ≤ etS g rm wk st ∧ etS g rm wk st ≤ 1020 := by
 cases h : vStB g rm wk st with
 | false => rw [etS_no h]; omega
 | true =>
  have hv := vSt_valid h
  rw [etS_valid hv]
  have := endS_bound hv.ok hv.sok g.length
  omega
def someEnd (g : List Tk) (st : List Int) (n : Int) (j : Nat) : Bool := (List.range j).any fun i => st.getD i 0 + (rdTk g i).f0 == n
theorem someEnd_snoc (g : List Tk) (st : List Int) (n : Int) (j : Nat) : someEnd g st n (j + 1) = (someEnd g st n j || (st.getD j 0 + (rdTk g j).f0 == n)) := by
 unfold someEnd
 rw [List.range_succ, List.any_append]
 simp
theorem someEnd_all {g : List Tk} {rm : List Int} {wk : Int} {st : List Int} (h : Valid g rm wk st) (hn : 0 < g.length) : someEnd g st (etS g rm wk st) g.length = true := by
 rw [etS_valid h]
 obtain ⟨i, hi, he⟩ := h.end_some hn
 unfold someEnd
 rw [List.any_eq_true]
 exact ⟨i, List.mem_range.2 hi, by rw [beq_iff_eq]; exact he⟩
theorem end_ge {g : List Tk} {st : List Int} : ∀ n i, i < n → st.getD i 0 + (rdTk g i).f0 ≤ endS g st n
 | n + 1, i, hi => by
  unfold endS
  by_cases h : i = n
  ·
   subst h
   exact Int.le_max_right _ _
  ·
   exact Int.le_trans (end_ge n i (by omega)) (Int.le_max_left _ _)
theorem etS_ge {g : List Tk} {rm : List Int} {wk : Int} {st : List Int} (h : Valid g rm wk st) {i : Nat} (hi : i < g.length) : st.getD i 0 + (rdTk g i).f0 ≤ etS g rm wk st := by
 rw [etS_valid h]
 exact end_ge _ i hi
theorem mdS_never {g : List Tk} {rm : List Int} {wk : Int} {st : List Int} (h : Valid g rm wk st) : mdS g rm wk st 0 = decide (g.length = 0) := by
 unfold mdS
 rw [valid_vSt h]
 by_cases hg : g.length = 0
 ·
  rw [hg, decide_eq_true rfl]
  rfl
 ·
  have := h.end_pos (by omega)
  rw [decide_eq_false hg, decide_eq_false (show ¬ endS g st g.length ≤ 0 by omega)]
  rfl
theorem mdS_is {g : List Tk} {rm : List Int} {wk : Int} {st : List Int} (h : Valid g rm wk st) {dl : Int} (hd : 0 ≤ dl ∧ dl ≤ 200) : mdS g rm wk st dl = decide (etS g rm wk st ≤ dl) := by
 unfold mdS
 rw [valid_vSt h, inB_true.2 hd, etS_valid h]
 rfl
theorem caS_no {g : List Tk} {rm : List Int} {wk : Int} {st : List Int} {now : Int} (h : (vStB g rm wk st && inB now 0 200) = false) : caS g rm wk st now = [] := by
 unfold caS
 rw [h]
 rfl
theorem caS_yes {g : List Tk} {rm : List Int} {wk : Int} {st : List Int} {now : Int} (h : Valid g rm wk st) (hn : 0 ≤ now ∧ now ≤ 200) : caS g rm wk st now = (List.range g.length).map (cancF g st now) := by
 unfold caS
 rw [valid_vSt h, inB_true.2 hn]
 rfl
theorem caS_cases (g : List Tk) (rm : List Int) (wk : Int) (st : List Int) (now : Int) : caS g rm wk st now = [] ∨ (Valid g rm wk st ∧ (0 ≤ now ∧ now ≤ 200) ∧ caS g rm wk st now = (List.range g.length).map (cancF g st now)) := by
 cases h : (vStB g rm wk st && inB now 0 200) with
 | false => exact .inl (caS_no h)
 | true =>
  rw [Bool.and_eq_true] at h
  exact .inr ⟨vSt_valid h.1, inB_true.1 h.2, caS_yes (vSt_valid h.1) (inB_true.1 h.2)⟩
theorem canc_len (F : Nat → Int) (n : Nat) : ((List.range n).map F).length = n := by simp
theorem cancF_bound (g : List Tk) (st : List Int) (now : Int) (i : Nat) : 0 ≤ cancF g st now i ∧ cancF g st now i ≤ 3 := by
 unfold cancF
 split
 ·
  omega
 ·
  split <;> omega
theorem canc_row_bound (g : List Tk) (st : List Int) (now : Int) (i : Nat) : 0 ≤ ((List.range g.length).map (cancF g st now)).getD i 0 ∧ ((List.range g.length).map (cancF g st now)).getD i 0 ≤ 1000 := by
 by_cases h : i < g.length
 ·
  rw [caS_get h]
  have := cancF_bound g st now i
  omega
 ·
  rw [getD_out (by rw [canc_len]; exact h)]
  omega
theorem canc_needs {g : List Tk} {rm : List Int} {wk : Int} {st : List Int} (h : Valid g rm wk st) {now : Int} {i : Nat} (hi : i < g.length) (hc : cancF g st now i ≠ 3) {x : Int} (hx : x ∈ (rdTk g i).f1) : cancF g st now x.toNat = 0 := by
 have hs : st.getD i 0 < now := by
  apply Classical.byContradiction
  intro hn
  exact hc ((canc_left h.ok hi).2 (by omega))
 have hx0 := spec_needs_in h.v i hi x hx
 have := h.needs i hi x.toNat (by rw [Int.toNat_of_nonneg hx0.1]; exact hx)
 exact canc_done.2 (by omega)
theorem canc_end {g : List Tk} {rm : List Int} {wk : Int} {st : List Int} (h : Valid g rm wk st) {i : Nat} (hi : i < g.length) : cancF g st (etS g rm wk st) i = 0 := canc_done.2 (etS_ge h hi)
theorem canc_zero {g : List Tk} {rm : List Int} {wk : Int} {st : List Int} (h : Valid g rm wk st) {i : Nat} (hi : i < g.length) : cancF g st 0 i = 3 := (canc_left h.ok hi).2 (h.b i hi).1
theorem canc_more {g : List Tk} (hok : TOk g) {st : List Int} {now : Int} {i : Nat} (hi : i < g.length) : (cancF g st now i = 0 → cancF g st (now + 1) i = 0) ∧ (cancF g st now i = 1 → cancF g st (now + 1) i ≠ 3) ∧ (cancF g st now i = 0 ∨ cancF g st now i = 1 ∨ cancF g st now i = 3) := by
 refine ⟨fun h => ?_, fun h => ?_, ?_⟩
 ·
  have := canc_done.1 h
  exact canc_done.2 (by omega)
 ·
  have := (canc_failed.1 h).1
  intro h3
  have := (canc_left hok hi).1 h3
  omega
 ·
  unfold cancF
  split
  ·
   exact .inl rfl
  ·
   split
   ·
    exact .inr (.inl rfl)
   ·
    exact .inr (.inr rfl)
end Go.Proofs.YtifbjnhicnfdoaaDoor

namespace Go.Proofs.YtifbjnhicnfdoaaDoor
set_option linter.unusedVariables false
set_option linter.unusedSimpArgs false
open Go.RowKit Go.Shelf Bits
theorem pS_yes {g : List Tk} {rm : List Int} {wk : Int} (h : pS g rm wk ≠ []) : specValid g = true ∧ placeB rm wk = true ∧ pS g rm wk = planS g rm wk ∧ 0 < g.length := by
 unfold pS at h ⊢
 by_cases hc : (specValid g && placeB rm wk) = true
 ·
  rw [if_pos hc] at h ⊢
  rw [Bool.and_eq_true] at hc
  refine ⟨hc.1, hc.2, rfl, ?_⟩
  rw [← (planS_ok g rm wk).1]
  exact List.length_pos_iff.2 h
 ·
  rw [if_neg hc] at h
  exact absurd rfl h
theorem pS_is {g : List Tk} {rm : List Int} {wk : Int} (hv : specValid g = true) (hp : placeB rm wk = true) : pS g rm wk = planS g rm wk := by
 unfold pS
 rw [hv, hp]
 rfl
theorem placeB_one {rm : List Int} {wk : Int} (h : placeB rm wk = true) : placeB rm 1 = true := by
 unfold placeB
 rw [(placeB_facts h).1]
 rfl
theorem mem_getD0 {l : List Int} {i : Nat} (h : i < l.length) {x : Int} (e : l.getD i 0 = x) : x ∈ l := by
 rw [List.getD_eq_getElem?_getD, List.getElem?_eq_getElem h] at e
 rw [← e]
 exact List.getElem_mem h
theorem plan_law {g : List Tk} {rm : List Int} {wk : Int} (h : pS g rm wk ≠ []) : Valid g rm wk (pS g rm wk) ∧ (0 : Int) ∈ pS g rm wk := by
 obtain ⟨hv, hp, he, hg⟩ := pS_yes h
 rw [he]
 obtain ⟨h1, h2, _⟩ := placeB_facts hp
 obtain ⟨y, _, _, hy, h0⟩ := first_zero hv h1 h2 hg
 exact ⟨plan_valid hv hp, mem_getD0 (by rw [(planS_ok g rm wk).1]; exact hy) h0⟩
theorem plan_one_law {g : List Tk} {rm : List Int} {wk : Int} (h : pS g rm wk ≠ []) : etS g rm 1 (pS g rm 1) = timeS g := by
 obtain ⟨hv, hp, _, hg⟩ := pS_yes h
 have hp1 := placeB_one hp
 rw [pS_is hv hp1, etS_valid (plan_valid hv hp1)]
 exact plan_one hv (placeB_facts hp).1
theorem plan_twice_law {g : List Tk} {rm : List Int} {wk : Int} (h : pS g rm wk ≠ []) : etS g rm wk (pS g rm wk) ≤ timeS g ∧ longestN g ≤ etS g rm wk (pS g rm wk) := by
 obtain ⟨hv, hp, he, hg⟩ := pS_yes h
 obtain ⟨h1, h2, _⟩ := placeB_facts hp
 have hV := plan_valid hv hp
 rw [he, etS_valid hV]
 exact ⟨endS_le (timeS_bound (specValid_TOk hv)).1 _ (planS_ends hv h1 h2), longest_le hv (fun i hi => (hV.b i hi).1) (fun k hk i hi => hV.needs k hk i hi)⟩
theorem plan_busy_law {g : List Tk} {rm : List Int} {wk : Int} (h : pS g rm wk ≠ []) (t : Nat) (ht : (t : Int) < etS g rm wk (pS g rm wk)) : (ints (raS g rm wk (pS g rm wk) t)).length ≠ 0 := by
 obtain ⟨hv, hp, he, hg⟩ := pS_yes h
 have hV := plan_valid hv hp
 rw [he, etS_valid hV] at ht
 rw [he, ints_length]
 unfold raS
 rw [if_pos (valid_vSt hV)]
 exact fun e => plan_busy hv hp ht (List.eq_nil_of_length_eq_zero e)
theorem firstN_is {P : Nat → Bool} : ∀ f n, firstN P f n = -1 ∨ ∃ m : Nat, firstN P f n = m ∧ n ≤ m ∧ m < n + f ∧ P m = true ∧ ∀ k, n ≤ k → k < m → P k = false
 | 0, n => .inl rfl
 | f + 1, n => by
  unfold firstN
  cases hp : P n with
  | true => exact .inr ⟨n, rfl, Nat.le_refl _, by omega, hp, fun k h1 h2 => by omega⟩
  | false =>
   rcases firstN_is (P := P) f (n + 1) with h | ⟨m, h1, h2, h3, h4, h5⟩
   ·
    exact .inl h
   ·
    refine .inr ⟨m, h1, by omega, by omega, h4, fun k hk hm => ?_⟩
    by_cases e : k = n
    ·
     rw [e]; exact hp
    ·
     exact h5 k (by omega) hm
theorem wf_law {g : List Tk} {rm : List Int} {dl : Int} (h : 0 ≤ wfS g rm dl) : ∃ m : Nat, wfS g rm dl = m ∧ 1 ≤ m ∧ m ≤ 4 ∧ ∀ k : Nat, 1 ≤ k → k ≤ m → mdS g rm k (pS g rm k) dl = decide (k = m) := by
 unfold wfS at h ⊢
 by_cases hc : (specValid g && (roomB rm && inB dl 0 200)) = true
 ·
  rw [if_pos hc] at h ⊢
  simp only [Bool.and_eq_true] at hc
  obtain ⟨hv, hrm, hd⟩ := hc
  rcases firstN_is (P := meetsB g rm dl) 4 1 with e | ⟨m, h1, h2, h3, h4, h5⟩
  ·
   omega
  ·
   refine ⟨m, h1, h2, by omega, fun k hk hkm => ?_⟩
   have hp : placeB rm (k : Int) = true := by
    unfold placeB
    rw [hrm, Bool.true_and]
    exact inB_true.2 (by omega)
   have hV := plan_valid hv hp
   rw [pS_is hv hp]
   unfold mdS
   rw [valid_vSt hV, hd, Bool.true_and, Bool.true_and]
   show meetsB g rm dl k = _
   by_cases e : k = m
   ·
    rw [decide_eq_true e, e, h4]
   ·
    rw [decide_eq_false e, h5 k hk (by omega)]
 ·
  rw [if_neg hc] at h
  omega
end Go.Proofs.YtifbjnhicnfdoaaDoor

namespace Go.Proofs.YtifbjnhicnfdoaaDoor
set_option linter.unusedVariables false
set_option linter.unusedSimpArgs false
open Go.RowKit Go.Shelf Bits
open Go.Proofs.YtifbjnhicnfdoaaDoorW.PrintWords Go.Proofs.YtifbjnhicnfdoaaDoorW.PrintLast Go.Proofs.YtifbjnhicnfdoaaDoorW.PrintMore
attribute [local go_sem] Oper.semAt_some
def cmpI (x y : Int) : Int := if x < y then -1 else if y < x then 1 else 0
def cmpE (a b : Ev) : Int := if a.f0 = b.f0 ∧ a.f2 ≠ b.f2 then (if a.f2 then -1 else 1) else if cmpI a.f0 b.f0 ≠ 0 then cmpI a.f0 b.f0 else cmpI a.f1 b.f1
theorem cmpI_neg {x y : Int} : cmpI x y < 0 ↔ x < y := by
 unfold cmpI
 split
 ·
  simp_all
 ·
  split <;> simp_all
theorem cmpI_zero {x y : Int} : cmpI x y = 0 ↔ x = y := by
 unfold cmpI
 split
 ·
  rename_i h
  constructor
  ·
   intro e; exact absurd e (by decide)
  ·
   intro e; omega
 ·
  rename_i h
  split
  ·
   rename_i h2
   constructor
   ·
    intro e; exact absurd e (by decide)
   ·
    intro e; omega
  ·
   rename_i h2
   exact ⟨fun _ => by omega, fun _ => rfl⟩
theorem cmpE_lt (a b : Ev) : cmpE a b < 0 ↔ ltE a b := by
 unfold cmpE ltE
 by_cases h0 : a.f0 = b.f0
 ·
  by_cases h2 : a.f2 = b.f2
  ·
   rw [if_neg (fun h => h.2 h2), if_neg (by rw [cmpI_zero.2 h0]; simp), cmpI_neg]
   constructor
   ·
    intro h
    exact .inr ⟨h0, .inr ⟨h2, h⟩⟩
   ·
    rintro (h | ⟨_, ⟨h, k⟩ | ⟨_, h⟩⟩)
    ·
     omega
    ·
     rw [h, k] at h2; cases h2
    ·
     exact h
  ·
   rw [if_pos ⟨h0, h2⟩]
   cases ha : a.f2
   ·
    simp only [Bool.false_eq_true, if_false]
    constructor
    ·
     intro h; exact absurd h (by decide)
    ·
     rintro (h | ⟨_, ⟨h, _⟩ | ⟨h, _⟩⟩)
     ·
      omega
     ·
      cases h
     ·
      rw [ha] at h2; exact absurd h h2
   ·
    have hb : b.f2 = false := by
     cases hb : b.f2
     ·
      rfl
     ·
      rw [ha, hb] at h2; exact absurd rfl h2
    simp only [if_true]
    exact ⟨fun _ => .inr ⟨h0, .inl ⟨by first | rfl | trivial | exact ha, hb⟩⟩, fun _ => by decide⟩
 ·
  rw [if_neg (fun h => h0 h.1), if_pos (fun h => h0 (cmpI_zero.1 h)), cmpI_neg]
  constructor
  ·
   exact .inl
  ·
   rintro (h | ⟨h, _⟩)
   ·
    exact h
   ·
    exact absurd h h0
theorem isNaN_calls (x : Int) (w : World) : Calls Tryd.prog 108 #[.int .i64 x] w fun e w' => e = .returned (.bool false) ∧ w' = w := by
 go_enter Tryd.func108, Tryd.ntmps108
 go_wp2
 go_ret
 exact ⟨ret_bool (by simp), rfl⟩
theorem compare_calls (x y : Int) (w : World) : Calls Tryd.prog 81 #[.int .i64 x, .int .i64 y] w fun e w' => e = .returned (.int .i64 (cmpI x y)) ∧ w' = w := by
 by_cases h1 : x < y
 ·
  have d1 : decide (x < y) = true := decide_eq_true h1
  have HF : Hid (cmpI x y = -1) := Lib.hid (by unfold cmpI; rw [if_pos h1])
  clear h1
  go_enter Tryd.func81, Tryd.ntmps81
  go_wp2_with (go_at_call 108; refine (isNaN_calls _ _).mono ?_; rintro e w' ⟨rfl, rfl⟩)
  go_ret
  exact ⟨ret_int HF.out.symm, rfl⟩
 ·
  have d1 : decide (x < y) = false := decide_eq_false h1
  by_cases h2 : y < x
  ·
   have d2 : decide (y < x) = true := decide_eq_true h2
   have HF : Hid (cmpI x y = 1) := Lib.hid (by unfold cmpI; rw [if_neg h1, if_pos h2])
   clear h1 h2
   go_enter Tryd.func81, Tryd.ntmps81
   go_wp2_with (go_at_call 108; refine (isNaN_calls _ _).mono ?_; rintro e w' ⟨rfl, rfl⟩)
   go_ret
   exact ⟨ret_int HF.out.symm, rfl⟩
  ·
   have d2 : decide (y < x) = false := decide_eq_false h2
   have HF : Hid (cmpI x y = 0) := Lib.hid (by unfold cmpI; rw [if_neg h1, if_neg h2])
   clear h1 h2
   go_enter Tryd.func81, Tryd.ntmps81
   go_wp2_with (go_at_call 108; refine (isNaN_calls _ _).mono ?_; rintro e w' ⟨rfl, rfl⟩)
   go_ret
   exact ⟨ret_int HF.out.symm, rfl⟩
theorem or_calls (A : Option Addr) (c : Nat) (a b r : Int) (HR : Hid ((if a ≠ 0 then a else b) = r)) (w : World) (hr : (Kd.int .i64).C w A 2 [a, b]) : Calls Tryd.prog 80 #[.slice A 2 c] w fun e w' => e = .returned (.int .i64 r) ∧ w' = w := by
 obtain ⟨ad, rfl, c0⟩ := at_num hr 0 (by omega)
 obtain ⟨ad', e', c1⟩ := at_num hr 1 (by omega)
 cases e'
 replace c0 : w.cell? (ad.add 0) = some (.int .i64 a) := c0
 rw [show ad.add 0 = ad from by cases ad; rfl] at c0
 replace c1 : w.cell? (ad.add 1) = some (.int .i64 b) := c1
 have c1 : w.cell? ⟨ad.block, ad.off + 1, none⟩ = some (.int .i64 b) := by simpa [Addr.add] using c1
 clear hr
 go_enter Tryd.func80, Tryd.ntmps80
 go_wp2
 go_loop [8] (fun i => ∃ (j : Nat), j ≤ 2 ∧ i = .int .i64 j ∧ Hid ((1 ≤ j → a = 0) ∧ (2 ≤ j → b = 0))) (fun i => 2 - (intOf i).toNat)
 case atStart => exact ⟨0, by omega, rfl, Lib.hid ⟨fun h => by omega, fun h => by omega⟩⟩
 case round =>
  obtain ⟨j, hj, rfl, HS⟩ := hrel
  by_cases h0 : j = 0
  ·
   subst h0
   by_cases ha : a = 0
   ·
    have da : (a != 0) = false := by rw [bne_eq_false_iff_eq]; exact ha
    have HA := Lib.hid ha
    clear ha
    go_wp2
    go_round
    case rel => exact ⟨1, by omega, rfl, Lib.hid ⟨fun _ => HA.out, fun h => by omega⟩⟩
    case measure => simp [intOf]
   ·
    have da : (a != 0) = true := by rw [bne_iff_ne]; exact ha
    have HF : Hid (r = a) := Lib.hid (by rw [← HR.out]; exact if_pos ha)
    clear ha
    go_wp2
    go_ret
    exact ⟨ret_int HF.out.symm, rfl⟩
  ·
   by_cases h1 : j = 1
   ·
    subst h1
    have HA := Lib.hid (HS.out.1 (Nat.le_refl _))
    by_cases hb : b = 0
    ·
     have da : (b != 0) = false := by rw [bne_eq_false_iff_eq]; exact hb
     have HB := Lib.hid hb
     clear hb h0
     go_wp2
     go_round
     case rel => exact ⟨2, by omega, rfl, Lib.hid ⟨fun _ => HA.out, fun _ => HB.out⟩⟩
     case measure => simp [intOf]
    ·
     have da : (b != 0) = true := by rw [bne_iff_ne]; exact hb
     have HF : Hid (r = b) := Lib.hid (by rw [← HR.out]; exact if_neg (fun h => h HA.out))
     clear hb h0
     go_wp2
     go_ret
     exact ⟨ret_int HF.out.symm, rfl⟩
   ·
    obtain rfl : j = 2 := by omega
    have HF : Hid (r = 0) := Lib.hid (by rw [← HR.out, HS.out.2 (Nat.le_refl _), HS.out.1 (by omega)]; rfl)
    clear h0 h1
    go_wp2
    go_ret
    exact ⟨ret_int HF.out.symm, rfl⟩
end Go.Proofs.YtifbjnhicnfdoaaDoor
