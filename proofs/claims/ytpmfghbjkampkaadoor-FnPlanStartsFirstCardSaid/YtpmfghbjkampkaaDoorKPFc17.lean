/- Parts of the proof, laid as one text by a program of mine. -/
import Derived.Test.YtpmfghbjkampkaaDoorKPFc11
import Derived.Test.YtpmfghbjkampkaaDoorKPFc13
import Derived.Test.YtpmfghbjkampkaaDoorKPFc16
namespace Go.Proofs.YtpmfghbjkampkaaDoor
set_option linter.unusedVariables false
set_option linter.unusedSimpArgs false
open Go.RowKit Go.Shelf Bits
open Go.Proofs.YtpmfghbjkampkaaDoorW.PrintWords Go.Proofs.YtpmfghbjkampkaaDoorW.PrintLast Go.Proofs.YtpmfghbjkampkaaDoorW.PrintMore
attribute [local go_sem] Oper.semAt_some
def pS (g : List Tk) (rm : List Int) (wk : Int) : List Int := if specValid g && placeB rm wk then planS g rm wk else []
theorem placeB_facts {rm : List Int} {wk : Int} (h : placeB rm wk = true) : roomB rm = true ∧ 1 ≤ wk ∧ wk ≤ 4 := by
 unfold placeB at h
 rw [Bool.and_eq_true] at h
 exact ⟨h.1, inB_true.1 h.2⟩
theorem planS_ok (g : List Tk) (rm : List Int) (wk : Int) : StOk g.length (planS g rm wk) := planL_ok g rm wk 200 (Nat.le_refl _)
theorem StOk.sok {n : Nat} {st : List Int} (h : StOk n st) : SOk st := fun i => by have := h.2 i; omega
theorem R_nilJ (w : World) (base : Nat) : Kd.R (Kd.int .i64) 3 w base (fun _ => True) (.slice none 0 0) [] := Kd.R_of_own ⟨by simp [encs], .inl ⟨rfl, by simp [encs]⟩⟩ (fun _ _ => trivial)
theorem graphN_no {g : List Tk} (h : specValid g = false) : graphN g = none := by
 rw [specValid_eq] at h
 cases hg : graphN g with
 | none => rfl
 | some ns => rw [hg] at h; cases h
theorem graphN_yes {g : List Tk} (h : specValid g = true) : ∃ ns, graphN g = some ns := Option.isSome_iff_exists.1 ((specValid_eq g).symm.trans h)
theorem plan_impl (C : Nat) (g : List Tk) (ns : List Nat) (A1 : Option Addr) (c1 : Nat) (rm : List Int) (wk : Int) (hgr : graphN g = some ns) (hrm : roomB rm = true) (hwk : 1 ≤ wk) (w : World) (hG : IsGraph w C g ns) (hT : Tab w) (hr1 : (Kd.int .i64).C w A1 rm.length rm) :
  Calls Tryd.prog 49 #[.pointer (some ⟨C, 0, none⟩), .slice A1 rm.length c1, .int .i64 wk] w fun e w' => ∃ v, e = .returned v ∧ Kd.R (Kd.int .i64) 3 w' w.heap.size (fun _ => True) v (planS g rm wk) ∧ Below w.heap.size w w' := by
 obtain ⟨K, h1, h2, h3, h4⟩ := plan_eq hgr hrm hwk
 rw [← h4]
 exact iplan_calls C g ns A1 c1 rm wk K hgr (specValid_TOk (graphN_spec hgr)) (roomB_facts hrm).1 h1 h2 h3 w hG hT hr1
set_option maxRecDepth 100000 in
theorem PlanStarts_impl (A : Option Addr) (c : Nat) (g : List Tk) (A1 : Option Addr) (c1 : Nat) (rm : List Int) (wk : Int) (w : World) (hr : kTk.C w A g.length g) (hr1 : (Kd.int .i64).C w A1 rm.length rm) (hT : Tab w) :
  Calls Tryd.prog 18 #[.slice A g.length c, .slice A1 rm.length c1, .int .i64 wk] w fun e W' => ∃ v, e = .returned v ∧ Kd.R (Kd.int .i64) 3 W' w.heap.size (fun _ => True) v (pS g rm wk) ∧ Below w.heap.size w W' := by
 by_cases hp : (specValid g && placeB rm wk) = true
 ·
  have HF : Hid (pS g rm wk = planS g rm wk) := Lib.hid (by unfold pS; rw [if_pos hp])
  rw [Bool.and_eq_true] at hp
  obtain ⟨ns, hg⟩ := graphN_yes hp.1
  obtain ⟨h1, h2, h3⟩ := placeB_facts hp.2
  have HP := Lib.hid (placeIn_yes A c g ns A1 c1 rm wk hp.2 w hr hT hg hr1)
  have HK := Lib.hid (fun (W : World) C (h : IsGraph W C g ns) (hT : Tab W) hr => plan_impl C g ns A1 c1 rm wk hg h1 h2 W h hT hr)
  have HR1 := Lib.hid hr1
  have HT := Lib.hid hT
  clear hr hT hg h1 h2 h3 hp hr1
  go_enter Tryd.func18, Tryd.ntmps18
  go_wp2_with (first | (go_at_call 46; refine HP.out.mono ?_; rintro e w1 ⟨C, rfl, hG, hB1⟩; have HG := Lib.hid hG; have HB1 := Lib.hid hB1; clear hG hB1) | (go_at_call 49; refine (HK.out _ C HG.out (HT.out.keep HT.out.lt HB1.out) (Kd.C_below HR1.out HB1.out)).mono ?_; rintro e w3 ⟨v, rfl, hR, hB3⟩))
  go_ret
  have hz := HB1.out.size
  exact ⟨_, rfl, by rw [HF.out]; exact Kd.R_lower hR hz, HB1.out.trans (hB3.mono hz)⟩
 ·
  have HF : Hid (pS g rm wk = []) := Lib.hid (by unfold pS; rw [if_neg hp])
  have hn : ∀ ns, graphN g = some ns → placeB rm wk = false := fun ns hg => by
   rw [graphN_spec hg, Bool.true_and] at hp
   simpa using hp
  have HP := Lib.hid (placeIn_no A c g A1 c1 rm wk hn w hr hT hr1)
  clear hr hT hp hr1 hn
  go_enter Tryd.func18, Tryd.ntmps18
  go_wp2_with (go_at_call 46; refine HP.out.mono ?_; rintro e w1 ⟨rfl, hB1⟩)
  go_ret
  exact ⟨_, rfl, by rw [HF.out]; exact R_nilJ _ _, hB1⟩
set_option maxRecDepth 100000 in
theorem sPlanStarts_calls (A : Option Addr) (c : Nat) (g : List Tk) (A1 : Option Addr) (c1 : Nat) (rm : List Int) (wk : Int) (w : World) (hr : kTk.C w A g.length g) (hr1 : (Kd.int .i64).C w A1 rm.length rm) :
  Calls Tryd.prog 17 #[.slice A g.length c, .slice A1 rm.length c1, .int .i64 wk] w fun e W' => ∃ v, e = .returned v ∧ Kd.R (Kd.int .i64) 3 W' w.heap.size (fun _ => True) v (pS g rm wk) ∧ Below w.heap.size w W' := by
 have HV := fun b (h : specValid g = b) => validGraph_is b A c g (Lib.hid h) w hr
 have HR := Lib.hid hr
 have HR1 := Lib.hid hr1
 clear hr hr1
 cases h1 : specValid g with
 | false =>
  have HF : Hid (pS g rm wk = []) := Lib.hid (by unfold pS; rw [h1]; rfl)
  have HV := Lib.hid (HV _ h1)
  clear h1
  go_enter Tryd.func17, Tryd.ntmps17
  go_wp2_with (go_at_call 40; refine HV.out.mono ?_; rintro e w1 ⟨rfl, hB1⟩; have HB1 := Lib.hid hB1; clear hB1)
  go_ret
  exact ⟨_, rfl, by rw [HF.out]; exact R_nilJ _ _, HB1.out⟩
 | true =>
  have HVV := Lib.hid h1
  have HV := Lib.hid (HV _ h1)
  clear h1
  cases h2 : roomB rm with
  | false =>
   have HF : Hid (pS g rm wk = []) := Lib.hid (by unfold pS placeB; rw [h2, Bool.false_and, Bool.and_false]; rfl)
   have H2 := Lib.hid h2
   clear h2
   go_enter Tryd.func17, Tryd.ntmps17
   go_wp2_with (first | (go_at_call 40; refine HV.out.mono ?_; rintro e w1 ⟨rfl, hB1⟩; have HB1 := Lib.hid hB1; clear hB1) | (go_at_call 41; refine (validRoom_is _ _ _ _ H2 _ (Kd.C_below HR1.out HB1.out)).mono ?_; rintro e w' ⟨rfl, rfl⟩))
   go_ret
   exact ⟨_, rfl, by rw [HF.out]; exact R_nilJ _ _, HB1.out⟩
  | true =>
   have H2 := Lib.hid h2
   cases h3 : inB wk 1 4 with
   | false =>
    have HF : Hid (pS g rm wk = []) := Lib.hid (by unfold pS placeB; rw [h3, Bool.and_false, Bool.and_false]; rfl)
    have H3 := Lib.hid h3
    clear h2 h3
    go_enter Tryd.func17, Tryd.ntmps17
    go_wp2_with (first | (go_at_call 40; refine HV.out.mono ?_; rintro e w1 ⟨rfl, hB1⟩; have HB1 := Lib.hid hB1; clear hB1) | (go_at_call 41; refine (validRoom_is _ _ _ _ H2 _ (Kd.C_below HR1.out HB1.out)).mono ?_; rintro e w' ⟨rfl, rfl⟩) | (go_at_call 42; refine (inRange_is _ _ _ _ H3 _).mono ?_; rintro e w' ⟨rfl, rfl⟩))
    go_ret
    exact ⟨_, rfl, by rw [HF.out]; exact R_nilJ _ _, HB1.out⟩
   | true =>
    have HF : Hid (pS g rm wk = planS g rm wk) := Lib.hid (by unfold pS placeB; rw [h2, h3, HVV.out]; rfl)
    have H3 := Lib.hid h3
    have HK := Lib.hid (fun (W : World) hr hr1 => plan_calls A c g A1 c1 rm wk HVV.out (roomB_facts h2).1 W hr hr1)
    clear h2 h3
    go_enter Tryd.func17, Tryd.ntmps17
    go_wp2_with (first | (go_at_call 40; refine HV.out.mono ?_; rintro e w1 ⟨rfl, hB1⟩; have HB1 := Lib.hid hB1; clear hB1) | (go_at_call 41; refine (validRoom_is _ _ _ _ H2 _ (Kd.C_below HR1.out HB1.out)).mono ?_; rintro e w' ⟨rfl, rfl⟩) | (go_at_call 42; refine (inRange_is _ _ _ _ H3 _).mono ?_; rintro e w' ⟨rfl, rfl⟩) | (go_at_call 44; refine (HK.out _ (Kd.C_below HR.out HB1.out) (Kd.C_below HR1.out HB1.out)).mono ?_; rintro e w3 ⟨v, rfl, hR, hB3⟩))
    go_ret
    have hz := HB1.out.size
    exact ⟨_, rfl, by rw [HF.out]; exact Kd.R_lower hR hz, HB1.out.trans (hB3.mono hz)⟩
def firstN (P : Nat → Bool) : Nat → Nat → Int
 | 0, _ => -1
 | f + 1, n => if P n then n else firstN P f (n + 1)
def meetsB (g : List Tk) (rm : List Int) (dl : Int) (n : Nat) : Bool := decide (endS g (planS g rm n) g.length ≤ dl)
def wfS (g : List Tk) (rm : List Int) (dl : Int) : Int := if specValid g && (roomB rm && inB dl 0 200) then firstN (meetsB g rm dl) 4 1 else -1
theorem deadlineValid_is (b : Bool) (dl : Int) (h : Hid (inB dl 0 200 = b)) (w : World) : Calls Tryd.prog 47 #[.int .i64 dl] w fun e w' => e = .returned (.bool b) ∧ w' = w := by
 go_enter Tryd.func47, Tryd.ntmps47
 go_wp2_with (go_at_call 73; refine (within_is _ _ _ _ h _).mono ?_; rintro e w2 ⟨rfl, rfl⟩)
 go_ret
 exact ⟨rfl, rfl⟩
set_option maxRecDepth 100000 in
set_option maxHeartbeats 2000000 in
theorem WorkersFor_impl (A : Option Addr) (c : Nat) (g : List Tk) (A1 : Option Addr) (c1 : Nat) (rm : List Int) (dl : Int) (w : World) (hr : kTk.C w A g.length g) (hr1 : (Kd.int .i64).C w A1 rm.length rm) (hT : Tab w) :
  Calls Tryd.prog 14 #[.slice A g.length c, .slice A1 rm.length c1, .int .i64 dl] w fun e W' => e = .returned (.int .i64 (wfS g rm dl)) ∧ Below w.heap.size w W' := by
 by_cases hp : (specValid g && roomB rm) = true
 ·
  rw [Bool.and_eq_true] at hp
  obtain ⟨ns, hg⟩ := graphN_yes hp.1
  have hpl : placeB rm 4 = true := by unfold placeB; rw [hp.2]; rfl
  have HP := Lib.hid (placeIn_yes A c g ns A1 c1 rm 4 hpl w hr hT hg hr1)
  have HK := Lib.hid (fun (n : Nat) (hn : 1 ≤ n) (W : World) C (h : IsGraph W C g ns) (hT : Tab W) hr => plan_impl C g ns A1 c1 rm (n : Nat) hg hp.2 (by omega) W h hT hr)
  have HR1 := Lib.hid hr1
  have HT := Lib.hid hT
  have HOK := Lib.hid (specValid_TOk hp.1)
  have HPP := Lib.hid hp
  clear hr hT hg hp hr1 hpl
  cases h3 : inB dl 0 200 with
  | false =>
   have HF : Hid (wfS g rm dl = -1) := Lib.hid (by unfold wfS; rw [h3, Bool.and_false, Bool.and_false]; rfl)
   have H3 := Lib.hid h3
   clear h3
   go_enter Tryd.func14, Tryd.ntmps14
   go_wp2_with (first | (go_at_call 46; refine HP.out.mono ?_; rintro e w1 ⟨C, rfl, hG, hB1⟩; have HG := Lib.hid hG; have HB1 := Lib.hid hB1; clear hG hB1) | (go_at_call 47; refine (deadlineValid_is _ _ H3 _).mono ?_; rintro e wd ⟨rfl, rfl⟩))
   go_ret
   exact ⟨ret_int HF.out.symm, HB1.out⟩
  | true =>
   have HF : Hid (wfS g rm dl = firstN (meetsB g rm dl) 4 1) := Lib.hid (by unfold wfS; rw [h3, HPP.out.1, HPP.out.2]; rfl)
   have H3 := Lib.hid h3
   clear h3
   go_enter Tryd.func14, Tryd.ntmps14
   go_wp2_with (first | (go_at_call 46; refine HP.out.mono ?_; rintro e w1 ⟨C, rfl, hG, hB1⟩; have HG := Lib.hid hG; have HB1 := Lib.hid hB1; clear hG hB1) | (go_at_call 47; refine (deadlineValid_is _ _ H3 _).mono ?_; rintro e wd ⟨rfl, rfl⟩))
   go_loopw [9] (fun i wr => ∃ n : Nat, 1 ≤ n ∧ n ≤ 5 ∧ i = .int .i64 n ∧ Hid (wfS g rm dl = firstN (meetsB g rm dl) (5 - n) n) ∧ Below wd.heap.size wd wr) (fun i _ => 5 - (intOf i).toNat)
   case atStart => exact ⟨1, by omega, by omega, rfl, HF, Below.refl _ _⟩
   case round =>
    clear HF
    obtain ⟨n, hn1, hn5, rfl, HF, hB⟩ := hrel
    have HB := Lib.hid hB
    clear hB
    by_cases hn : n < 5
    ·
     have dn : decide ((n : Int) ≤ 4) = true := decide_eq_true (by omega)
     have HG2 := Lib.hid (HG.out.below HB.out)
     have HPL := Lib.hid (HK.out n hn1 wr C HG2.out (HT.out.keep HT.out.lt (HB1.out.trans (HB.out.mono HB1.out.size))) (Kd.C_below HR1.out (HB1.out.trans (HB.out.mono HB1.out.size))))
     have hpo := planS_ok g rm n
     have HPO := Lib.hid hpo
     clear hpo
     cases hm : meetsB g rm dl n with
     | true =>
      have HM := Lib.hid hm
      have HFF : Hid (wfS g rm dl = n) := Lib.hid (by
       rw [HF.out, show 5 - n = (4 - n) + 1 by omega]
       show (if meetsB g rm dl n then (n : Int) else _) = _
       rw [if_pos hm])
      unfold meetsB at hm
      clear HM
      generalize planS g rm n = st at HPL HPO hm
      have HEN := Lib.hid (fun (W : World) A' c' h h2 => iend_calls C g ns A' c' st HOK.out HPO.out.sok HPO.out.1 W h h2)
      generalize endS g st g.length = en at hm HEN
      go_wp2_with (first | (go_at_call 49; refine HPL.out.mono ?_; rintro e w3 ⟨v, rfl, hR, hB3⟩; obtain ⟨A3, c3, rfl, _, hC3⟩ := Kd.R_reads hR; have HC3 := Lib.hid hC3; have HB3 := Lib.hid hB3; clear hR hC3 hB3) | (go_at_call 48; refine (HEN.out _ A3 c3 (HG2.out.below HB3.out) HC3.out).mono ?_; rintro e w4 ⟨rfl, rfl⟩))
      go_ret
      exact ⟨ret_int HFF.out.symm, HB1.out.trans ((HB.out.trans (HB3.out.mono HB.out.size)).mono HB1.out.size)⟩
     | false =>
      have HM := Lib.hid hm
      have HFF : Hid (wfS g rm dl = firstN (meetsB g rm dl) (5 - (n + 1)) (n + 1)) := Lib.hid (by
       rw [HF.out, show 5 - n = (5 - (n + 1)) + 1 by omega]
       show (if meetsB g rm dl n then (n : Int) else _) = _
       rw [if_neg (by rw [hm]; simp)])
      unfold meetsB at hm
      clear HM
      generalize planS g rm n = st at HPL HPO hm
      have HEN := Lib.hid (fun (W : World) A' c' h h2 => iend_calls C g ns A' c' st HOK.out HPO.out.sok HPO.out.1 W h h2)
      generalize endS g st g.length = en at hm HEN
      go_wp2_with (first | (go_at_call 49; refine HPL.out.mono ?_; rintro e w3 ⟨v, rfl, hR, hB3⟩; obtain ⟨A3, c3, rfl, _, hC3⟩ := Kd.R_reads hR; have HC3 := Lib.hid hC3; have HB3 := Lib.hid hB3; clear hR hC3 hB3) | (go_at_call 48; refine (HEN.out _ A3 c3 (HG2.out.below HB3.out) HC3.out).mono ?_; rintro e w4 ⟨rfl, rfl⟩))
      go_roundw
      case rel => exact ⟨n + 1, by omega, by omega, by go_num, HFF, HB.out.trans (HB3.out.mono HB.out.size)⟩
      case measure => simp [intOf]; omega
    ·
     obtain rfl : n = 5 := by omega
     have dn : decide (((5 : Nat) : Int) ≤ 4) = false := by decide
     have HFF : Hid (wfS g rm dl = -1) := Lib.hid (by rw [HF.out]; rfl)
     go_wp2
     go_ret
     exact ⟨ret_int HFF.out.symm, HB1.out.trans (HB.out.mono HB1.out.size)⟩
 ·
  have HF : Hid (wfS g rm dl = -1) := Lib.hid (by
   unfold wfS
   rw [← Bool.and_assoc]
   have : (specValid g && roomB rm) = false := by simpa using hp
   rw [this]; rfl)
  have hn : ∀ ns, graphN g = some ns → placeB rm 4 = false := fun ns hg => by
   rw [graphN_spec hg, Bool.true_and] at hp
   unfold placeB
   have : roomB rm = false := by simpa using hp
   rw [this]; rfl
  have HP := Lib.hid (placeIn_no A c g A1 c1 rm 4 hn w hr hT hr1)
  clear hr hT hp hr1 hn
  go_enter Tryd.func14, Tryd.ntmps14
  go_wp2_with (go_at_call 46; refine HP.out.mono ?_; rintro e w1 ⟨rfl, hB1⟩)
  go_ret
  exact ⟨ret_int HF.out.symm, hB1⟩
set_option maxRecDepth 100000 in
set_option maxHeartbeats 2000000 in
theorem sWorkersFor_calls (A : Option Addr) (c : Nat) (g : List Tk) (A1 : Option Addr) (c1 : Nat) (rm : List Int) (dl : Int) (w : World) (hr : kTk.C w A g.length g) (hr1 : (Kd.int .i64).C w A1 rm.length rm) :
  Calls Tryd.prog 11 #[.slice A g.length c, .slice A1 rm.length c1, .int .i64 dl] w fun e W' => e = .returned (.int .i64 (wfS g rm dl)) ∧ Below w.heap.size w W' := by
 have HV := fun b (h : specValid g = b) => validGraph_is b A c g (Lib.hid h) w hr
 have HR := Lib.hid hr
 have HR1 := Lib.hid hr1
 clear hr hr1
 cases h1 : specValid g with
 | false =>
  have HF : Hid (wfS g rm dl = -1) := Lib.hid (by unfold wfS; rw [h1]; rfl)
  have HV := Lib.hid (HV _ h1)
  clear h1
  go_enter Tryd.func11, Tryd.ntmps11
  go_wp2_with (go_at_call 40; refine HV.out.mono ?_; rintro e w1 ⟨rfl, hB1⟩; have HB1 := Lib.hid hB1; clear hB1)
  go_ret
  exact ⟨ret_int HF.out.symm, HB1.out⟩
 | true =>
  have HVV := Lib.hid h1
  have HV := Lib.hid (HV _ h1)
  clear h1
  cases h2 : roomB rm with
  | false =>
   have HF : Hid (wfS g rm dl = -1) := Lib.hid (by unfold wfS; rw [h2, Bool.false_and, Bool.and_false]; rfl)
   have H2 := Lib.hid h2
   clear h2
   go_enter Tryd.func11, Tryd.ntmps11
   go_wp2_with (first | (go_at_call 40; refine HV.out.mono ?_; rintro e w1 ⟨rfl, hB1⟩; have HB1 := Lib.hid hB1; clear hB1) | (go_at_call 41; refine (validRoom_is _ _ _ _ H2 _ (Kd.C_below HR1.out HB1.out)).mono ?_; rintro e w' ⟨rfl, rfl⟩))
   go_ret
   exact ⟨ret_int HF.out.symm, HB1.out⟩
  | true =>
   have H2 := Lib.hid h2
   cases h3 : inB dl 0 200 with
   | false =>
    have HF : Hid (wfS g rm dl = -1) := Lib.hid (by unfold wfS; rw [h3, Bool.and_false, Bool.and_false]; rfl)
    have H3 := Lib.hid h3
    clear h2 h3
    go_enter Tryd.func11, Tryd.ntmps11
    go_wp2_with (first | (go_at_call 40; refine HV.out.mono ?_; rintro e w1 ⟨rfl, hB1⟩; have HB1 := Lib.hid hB1; clear hB1) | (go_at_call 41; refine (validRoom_is _ _ _ _ H2 _ (Kd.C_below HR1.out HB1.out)).mono ?_; rintro e w' ⟨rfl, rfl⟩) | (go_at_call 42; refine (inRange_is _ _ _ _ H3 _).mono ?_; rintro e w' ⟨rfl, rfl⟩))
    go_ret
    exact ⟨ret_int HF.out.symm, HB1.out⟩
   | true =>
    have HF : Hid (wfS g rm dl = firstN (meetsB g rm dl) 4 1) := Lib.hid (by unfold wfS; rw [h3, h2, HVV.out]; rfl)
    have H3 := Lib.hid h3
    have HK := Lib.hid (fun (n : Nat) (W : World) hr hr1 => plan_calls A c g A1 c1 rm (n : Nat) HVV.out (roomB_facts h2).1 W hr hr1)
    have HOK := Lib.hid (specValid_TOk HVV.out)
    clear h2 h3
    go_enter Tryd.func11, Tryd.ntmps11
    go_wp2_with (first | (go_at_call 40; refine HV.out.mono ?_; rintro e w1 ⟨rfl, hB1⟩; have HB1 := Lib.hid hB1; clear hB1) | (go_at_call 41; refine (validRoom_is _ _ _ _ H2 _ (Kd.C_below HR1.out HB1.out)).mono ?_; rintro e w' ⟨rfl, rfl⟩) | (go_at_call 42; refine (inRange_is _ _ _ _ H3 _).mono ?_; rintro e w' ⟨rfl, rfl⟩))
    have HBB := Lib.hid HB1.out
    go_loopw [7] (fun i wr => ∃ n : Nat, 1 ≤ n ∧ n ≤ 5 ∧ i = .int .i64 n ∧ Hid (wfS g rm dl = firstN (meetsB g rm dl) (5 - n) n) ∧ Below w.heap.size w wr) (fun i _ => 5 - (intOf i).toNat)
    case atStart => exact ⟨1, by omega, by omega, rfl, HF, HBB.out⟩
    case round =>
     clear HF
     obtain ⟨n, hn1, hn5, rfl, HF, hB⟩ := hrel
     have HB := Lib.hid hB
     clear hB
     by_cases hn : n < 5
     ·
      have dn : decide ((n : Int) ≤ 4) = true := decide_eq_true (by omega)
      have HPL := Lib.hid (HK.out n wr (Kd.C_below HR.out HB.out) (Kd.C_below HR1.out HB.out))
      have hpo := planS_ok g rm n
      have HPO := Lib.hid hpo
      clear hpo
      cases hm : meetsB g rm dl n with
      | true =>
       have HFF : Hid (wfS g rm dl = n) := Lib.hid (by
        rw [HF.out, show 5 - n = (4 - n) + 1 by omega]
        show (if meetsB g rm dl n then (n : Int) else _) = _
        rw [if_pos hm])
       unfold meetsB at hm
       generalize planS g rm n = st at HPL HPO hm
       have HEN := Lib.hid (fun (W : World) A' c' h h2 => endOf_calls A c g A' c' st HOK.out HPO.out.sok HPO.out.1 W h h2)
       generalize endS g st g.length = en at hm HEN
       go_wp2_with (first | (go_at_call 44; refine HPL.out.mono ?_; rintro e w3 ⟨v, rfl, hR, hB3⟩; obtain ⟨A3, c3, rfl, _, hC3⟩ := Kd.R_reads hR; have HC3 := Lib.hid hC3; have HB3 := Lib.hid (HB.out.trans (hB3.mono HB.out.size)); clear hR hC3 hB3) | (go_at_call 43; refine (HEN.out _ A3 c3 (Kd.C_below HR.out HB3.out) HC3.out).mono ?_; rintro e w4 ⟨rfl, hB4⟩; have HB4 := Lib.hid (HB3.out.trans (hB4.mono HB3.out.size)); clear hB4))
       go_ret
       exact ⟨ret_int HFF.out.symm, HB4.out⟩
      | false =>
       have HFF : Hid (wfS g rm dl = firstN (meetsB g rm dl) (5 - (n + 1)) (n + 1)) := Lib.hid (by
        rw [HF.out, show 5 - n = (5 - (n + 1)) + 1 by omega]
        show (if meetsB g rm dl n then (n : Int) else _) = _
        rw [if_neg (by rw [hm]; simp)])
       unfold meetsB at hm
       generalize planS g rm n = st at HPL HPO hm
       have HEN := Lib.hid (fun (W : World) A' c' h h2 => endOf_calls A c g A' c' st HOK.out HPO.out.sok HPO.out.1 W h h2)
       generalize endS g st g.length = en at hm HEN
       go_wp2_with (first | (go_at_call 44; refine HPL.out.mono ?_; rintro e w3 ⟨v, rfl, hR, hB3⟩; obtain ⟨A3, c3, rfl, _, hC3⟩ := Kd.R_reads hR; have HC3 := Lib.hid hC3; have HB3 := Lib.hid (HB.out.trans (hB3.mono HB.out.size)); clear hR hC3 hB3) | (go_at_call 43; refine (HEN.out _ A3 c3 (Kd.C_below HR.out HB3.out) HC3.out).mono ?_; rintro e w4 ⟨rfl, hB4⟩; have HB4 := Lib.hid (HB3.out.trans (hB4.mono HB3.out.size)); clear hB4))
       go_roundw
       case rel => exact ⟨n + 1, by omega, by omega, by go_num, HFF, HB4.out⟩
       case measure => simp [intOf]; omega
     ·
      obtain rfl : n = 5 := by omega
      have dn : decide (((5 : Nat) : Int) ≤ 4) = false := by decide
      have HFF : Hid (wfS g rm dl = -1) := Lib.hid (by rw [HF.out]; rfl)
      go_wp2
      go_ret
      exact ⟨ret_int HFF.out.symm, HB.out⟩
end Go.Proofs.YtpmfghbjkampkaaDoor

namespace Go.Proofs.YtpmfghbjkampkaaDoor
set_option linter.unusedVariables false
set_option linter.unusedSimpArgs false
open Go.RowKit Go.Shelf Bits
theorem planL_step_keeps {g : List Tk} {rm : List Int} {wk : Int} {k j : Nat} (hk : k ≤ 200) (h : (planL g rm wk k).getD j 0 ≠ 200) : (planL g rm wk (k + 1)).getD j 0 = (planL g rm wk k).getD j 0 := by
 rw [show planL g rm wk (k + 1) = stepS g rm wk (planL g rm wk k) k from rfl, stepS_get (planL_ok g rm wk k hk).1, if_neg (fun hm => h (nextS_in hm).2.2)]
theorem planL_keeps {g : List Tk} {rm : List Int} {wk : Int} {k j : Nat} (h : (planL g rm wk k).getD j 0 ≠ 200) : ∀ d, k + d ≤ 200 → (planL g rm wk (k + d)).getD j 0 = (planL g rm wk k).getD j 0
 | 0, _ => rfl
 | d + 1, hd => by
  have ih := planL_keeps h d (by omega)
  rw [show k + (d + 1) = (k + d) + 1 from rfl, planL_step_keeps (by omega) (by rw [ih]; exact h), ih]
theorem planL_final {g : List Tk} {rm : List Int} {wk : Int} {k j : Nat} (hk : k ≤ 200) (h : (planL g rm wk k).getD j 0 ≠ 200) : (planS g rm wk).getD j 0 = (planL g rm wk k).getD j 0 := by
 have := planL_keeps h (200 - k) (by omega)
 rw [show k + (200 - k) = 200 by omega] at this
 exact this
theorem planL_needs {g : List Tk} (hok : TOk g) (hin : ∀ k, k < g.length → ∀ x ∈ (rdTk g k).f1, 0 ≤ x ∧ x < g.length) (rm : List Int) (wk : Int) : ∀ m, m ≤ 200 → ∀ k, k < g.length → (planL g rm wk m).getD k 0 ≠ 200 → ∀ i : Nat, (i : Int) ∈ (rdTk g k).f1 → (planL g rm wk m).getD i 0 ≠ 200 ∧ (planL g rm wk m).getD i 0 + (rdTk g i).f0 ≤ (planL g rm wk m).getD k 0
 | 0, _, k, hk, h, _, _ => by
  refine absurd ?_ h
  unfold planL
  rw [List.getD_eq_getElem?_getD, List.getElem?_replicate, if_pos hk]
  rfl
 | m + 1, hm, k, hk, h, i, hi => by
  have hL := (planL_ok g rm wk m (by omega)).1
  by_cases hc : (planL g rm wk m).getD k 0 = 200
  ·
   have hmem : k ∈ nextS g rm wk (planL g rm wk m) m := by
    by_cases hm' : k ∈ nextS g rm wk (planL g rm wk m) m
    ·
     exact hm'
    ·
     refine absurd ?_ h
     rw [show planL g rm wk (m + 1) = stepS g rm wk (planL g rm wk m) m from rfl, stepS_get hL, if_neg hm']
     exact hc
   have h1 := (nextS_in hmem).2.1
   unfold rdB allDoneB at h1
   rw [Bool.and_eq_true, List.all_eq_true] at h1
   have h2 := of_decide_eq_true (h1.2 _ hi)
   rw [mem_intsN, mem_overS] at h2
   have ht := hok.2.2.2.2 i h2.1
   have hne : (planL g rm wk m).getD i 0 ≠ 200 := fun e => by
    have := h2.2
    rw [e] at this
    omega
   rw [planL_step_keeps (by omega) hne]
   refine ⟨hne, ?_⟩
   rw [show planL g rm wk (m + 1) = stepS g rm wk (planL g rm wk m) m from rfl, stepS_get hL, if_pos hmem]
   exact h2.2
  ·
   obtain ⟨h1, h2⟩ := planL_needs hok hin rm wk m (by omega) k hk hc i hi
   rw [planL_step_keeps (by omega) h1, planL_step_keeps (by omega) hc]
   exact ⟨h1, h2⟩
theorem spec_needs_in {g : List Tk} (hv : specValid g = true) : ∀ k, k < g.length → ∀ x ∈ (rdTk g k).f1, 0 ≤ x ∧ x < g.length := fun k hk x hx => by
 obtain ⟨ns, hg⟩ := graphN_yes hv
 have := setOfL_mem _ _ _ _ _ (by omega) ((graphN_all hg).2.2 k hk).2 x hx
 omega
theorem planS_lt {g : List Tk} (hv : specValid g = true) {rm : List Int} (hrm : roomB rm = true) {wk : Int} (hwk : 1 ≤ wk) {i : Nat} (hi : i < g.length) : (planS g rm wk).getD i 0 < 200 := by
 have hok := specValid_TOk hv
 have := planS_ends hv hrm hwk i hi
 have := timeS_bound hok
 have := hok.2.1 i
 omega
theorem planS_needs {g : List Tk} (hv : specValid g = true) {rm : List Int} (hrm : roomB rm = true) {wk : Int} (hwk : 1 ≤ wk) {k : Nat} (hk : k < g.length) (i : Nat) (hi : (i : Int) ∈ (rdTk g k).f1) : (planS g rm wk).getD i 0 + (rdTk g i).f0 ≤ (planS g rm wk).getD k 0 :=
 (planL_needs (specValid_TOk hv) (spec_needs_in hv) rm wk 200 (Nat.le_refl _) k hk (by have := planS_lt hv hrm hwk hk; show (planS g rm wk).getD k 0 ≠ 200; omega) i hi).2
theorem endS_mono (g : List Tk) (st : List Int) (i : Nat) : ∀ n, i < n → st.getD i 0 + (rdTk g i).f0 ≤ endS g st n
 | 0, h => absurd h (Nat.not_lt_zero _)
 | n + 1, h => by
  unfold endS
  by_cases hi : i < n
  ·
   have := endS_mono g st i n hi
   omega
  ·
   obtain rfl : i = n := by omega
   omega
theorem endS_le {g : List Tk} {st : List Int} {E : Int} (hE : 0 ≤ E) : ∀ n, (∀ i, i < n → st.getD i 0 + (rdTk g i).f0 ≤ E) → endS g st n ≤ E
 | 0, _ => hE
 | n + 1, h => by
  have h1 := endS_le hE n (fun i hi => h i (by omega))
  have h2 := h n (by omega)
  unfold endS
  omega
theorem mostS_le {g : List Tk} {o : List Int} {i : Nat} {b : Int} (hb : 0 ≤ b) : ∀ n, (∀ k, k < n → (i : Int) ∈ (rdTk g k).f1 → o.getD k 0 ≤ b) → mostS g o i n ≤ b
 | 0, _ => hb
 | n + 1, h => by
  have h1 := mostS_le hb n (fun k hk => h k (by omega))
  unfold mostS
  split
  ·
   have h2 := h n (by omega) (of_decide_eq_true (by assumption))
   omega
  ·
   exact h1
theorem getD_setL (o : List Int) (a j : Nat) (v : Int) : (o.set a v).getD j 0 = if j = a ∧ a < o.length then v else o.getD j 0 := by
 by_cases ha : a < o.length
 ·
  rw [getD_setI _ _ _ _ ha]
  by_cases h : j = a
  ·
   rw [if_pos h, if_pos ⟨h, ha⟩]
  ·
   rw [if_neg h, if_neg (fun e => h e.1)]
 ·
  rw [List.set_eq_of_length_le (by omega), if_neg (fun e => ha e.2)]
theorem tails_fit {g : List Tk} {st : List Int} {E : Int} (hE : ∀ i, i < g.length → st.getD i 0 + (rdTk g i).f0 ≤ E) (hN : ∀ k, k < g.length → ∀ i : Nat, (i : Int) ∈ (rdTk g k).f1 → st.getD i 0 + (rdTk g i).f0 ≤ st.getD k 0) :
  ∀ i, i < g.length → st.getD i 0 + (tailsS g).getD i 0 ≤ E ∨ (tailsS g).getD i 0 = 0 := by
 have key : ∀ (pre : List Nat) (o : List Int), o.length = g.length → (∀ i, i < g.length → st.getD i 0 + o.getD i 0 ≤ E ∨ o.getD i 0 = 0) →
   ∀ i, i < g.length → st.getD i 0 + (pre.foldl (fun o p => sStep g o ((topL g).getD p 0)) o).getD i 0 ≤ E ∨ (pre.foldl (fun o p => sStep g o ((topL g).getD p 0)) o).getD i 0 = 0 := by
  intro pre
  induction pre with
  | nil => exact fun o _ h => h
  | cons p pre ih =>
   intro o hl h
   refine ih _ (by unfold sStep; rw [List.length_set]; exact hl) (fun i hi => ?_)
   unfold sStep
   rw [getD_setL]
   split
   ·
    rename_i hc
    left
    rw [← hc.1]
    have := mostS_le (g := g) (o := o) (i := i) (b := E - st.getD i 0 - (rdTk g i).f0) (by have := hE i hi; omega) g.length (fun k hk hm => by
     have h1 := hN k hk i hm
     have h3 := hE k hk
     have h4 := hE i hi
     rcases h k hk with h2 | h2
     ·
      omega
     ·
      omega)
    omega
   ·
    exact h i hi
 exact key _ _ (by simp) (fun i hi => .inr (by
  rw [List.getD_eq_getElem?_getD, List.getElem?_replicate]
  split <;> rfl))
theorem longL_le {T : List Int} {b : Int} (hb : 0 ≤ b) : ∀ n, (∀ i, i < n → T.getD i 0 ≤ b) → longL T n ≤ b
 | 0, _ => hb
 | n + 1, h => by
  have h1 := longL_le hb n (fun i hi => h i (by omega))
  have h2 := h n (by omega)
  unfold longL
  omega
theorem longestN_eq {g : List Tk} (hv : specValid g = true) : longestN g = longL (tailsS g) g.length := by
 obtain ⟨ns, hg⟩ := graphN_yes hv
 unfold longestN
 rw [hg]
 show longL (tailN g ns) g.length = _
 rw [tailN_eq hg]
theorem longest_le {g : List Tk} (hv : specValid g = true) {st : List Int} (h0 : ∀ i, i < g.length → 0 ≤ st.getD i 0) (hN : ∀ k, k < g.length → ∀ i : Nat, (i : Int) ∈ (rdTk g k).f1 → st.getD i 0 + (rdTk g i).f0 ≤ st.getD k 0) : longestN g ≤ endS g st g.length := by
 rw [longestN_eq hv]
 have hE : 0 ≤ endS g st g.length := by
  have : ∀ n, 0 ≤ endS g st n := by
   intro n
   induction n with
   | zero => exact Int.le_refl _
   | succ n ih => unfold endS; omega
  exact this _
 refine longL_le hE _ (fun i hi => ?_)
 have := h0 i hi
 rcases tails_fit (E := endS g st g.length) (fun i hi => endS_mono g st i _ hi) hN i hi with h | h
 ·
  omega
 ·
  omega
theorem vDone_nil {g : List Tk} (hv : specValid g = true) : vDoneB g [] = true := by
 unfold vDoneB
 rw [hv]
 rfl
theorem first_zero {g : List Tk} (hv : specValid g = true) {rm : List Int} (hrm : roomB rm = true) {wk : Int} (hwk : 1 ≤ wk) (hg : 0 < g.length) : ∃ y, 0 < (rdOrdN g []).length ∧ (rdOrdN g []).getD 0 0 = ((y : Nat) : Int) ∧ y < g.length ∧ (planS g rm wk).getD y 0 = 0 := by
 have hok := specValid_TOk hv
 rw [rdOrd_eq]
 have e : sRdOrd g [] = insL (tailsS g) (readyS g []) := by
  unfold sRdOrd
  rw [if_pos (vDone_nil hv)]
 rw [e]
 have h0 : ∀ j, j < g.length → (planL g rm wk 0).getD j 0 = 200 := fun j hj => by
  unfold planL
  rw [List.getD_eq_getElem?_getD, List.getElem?_replicate, if_pos hj]
  rfl
 obtain ⟨x, hx, hrd⟩ := some_ready hv (D := []) ⟨0, hg, by simp⟩
 have hmem : x ∈ insL (tailsS g) (readyS g []) := (insL_perm _ _).mem_iff.2 (List.mem_filter.2 ⟨List.mem_range.2 hx, hrd⟩)
 obtain ⟨y, ys, hys⟩ := List.exists_cons_of_ne_nil (List.ne_nil_of_mem hmem)
 have ho : overS g (planL g rm wk 0) (0 : Nat) = [] := by
  unfold overS
  rw [List.filter_eq_nil_iff]
  intro i hi
  rw [overB_iff, h0 i (List.mem_range.1 hi)]
  have := hok.2.1 i
  omega
 have hrn : runS g (planL g rm wk 0) (0 : Nat) = [] := by
  unfold runS
  rw [List.filter_eq_nil_iff]
  intro i hi
  unfold runB
  rw [h0 i (List.mem_range.1 hi)]
  simp
 have hfl : (readyS g []).filter (idleB (planL g rm wk 0)) = readyS g [] := by
  rw [List.filter_eq_self]
  exact fun a ha => idleB_iff.2 (h0 a (readyS_lt a ha))
 have hn : y ∈ nextS g rm wk (planL g rm wk 0) (0 : Nat) := by
  unfold nextS
  rw [ho, hrn, show ints [] = [] from rfl, hfl, hys]
  exact adm_first hok hrm hwk y ys
 have hyl := nextS_lt _ _ _ _ _ y hn
 have h1 : (planL g rm wk 1).getD y 0 = 0 := by
  rw [show planL g rm wk 1 = stepS g rm wk (planL g rm wk 0) (0 : Nat) from rfl, stepS_get (planL_ok g rm wk 0 (by omega)).1, if_pos hn]
  rfl
 refine ⟨y, by rw [hys]; simp [ints], by rw [hys]; rfl, hyl, ?_⟩
 rw [planL_final (k := 1) (by omega) (by rw [h1]; decide), h1]
theorem firstN_mono {P Q : Nat → Bool} (h : ∀ n, P n = true → Q n = true) : ∀ f n, firstN P f n = -1 ∨ ((n : Int) ≤ firstN Q f n ∧ firstN Q f n ≤ firstN P f n)
 | 0, _ => .inl rfl
 | f + 1, n => by
  have ih := firstN_mono h f (n + 1)
  unfold firstN
  by_cases hp : P n = true
  ·
   rw [if_pos hp, if_pos (h n hp)]
   right
   omega
  ·
   rw [if_neg hp]
   by_cases hq : Q n = true
   ·
    rw [if_pos hq]
    rcases ih with e | e
    ·
     exact .inl e
    ·
     right
     omega
   ·
    rw [if_neg hq]
    rcases ih with e | e
    ·
     exact .inl e
    ·
     right
     omega
theorem later_law {g : List Tk} {rm : List Int} {dl : Int} (h : 0 ≤ wfS g rm dl) (hd : dl ≠ 200) : 1 ≤ wfS g rm (dl + 1) ∧ wfS g rm (dl + 1) ≤ wfS g rm dl := by
 unfold wfS at h ⊢
 by_cases hc : (specValid g && (roomB rm && inB dl 0 200)) = true
 ·
  have hc' := hc
  rw [Bool.and_eq_true, Bool.and_eq_true] at hc
  have h1 := inB_true.1 hc.2.2
  have h2 : inB (dl + 1) 0 200 = true := inB_true.2 (by omega)
  rw [if_pos hc'] at h ⊢
  rw [h2, hc.1, hc.2.1, if_pos (show (true && (true && true)) = true from rfl)]
  rcases firstN_mono (P := meetsB g rm dl) (Q := meetsB g rm (dl + 1)) (fun n hn => by
   unfold meetsB at hn ⊢
   have := of_decide_eq_true hn
   exact decide_eq_true (by omega)) 4 1 with e | e
  ·
   rw [e] at h
   omega
  ·
   omega
 ·
  rw [if_neg hc] at h
  omega
theorem firstN_none {P : Nat → Bool} : ∀ f n, (∀ k, n ≤ k → P k = false) → firstN P f n = -1
 | 0, _, _ => rfl
 | f + 1, n, h => by
  unfold firstN
  rw [if_neg (by rw [h n (Nat.le_refl _)]; simp)]
  exact firstN_none f (n + 1) (fun k hk => h k (by omega))
theorem one_law {g : List Tk} (hv : specValid g = true) {rm : List Int} (hrm : roomB rm = true) (hg : 0 < g.length) : wfS g rm (timeS g) = 1 ∧ wfS g rm (longestN g - 1) = -1 := by
 have hok := specValid_TOk hv
 have hT := timeS_bound hok
 constructor
 ·
  unfold wfS
  rw [hv, hrm, inB_true.2 (show 0 ≤ timeS g ∧ timeS g ≤ 200 by omega), if_pos (show (true && (true && true)) = true from rfl)]
  show (if meetsB g rm (timeS g) 1 then ((1 : Nat) : Int) else _) = 1
  rw [if_pos]
  ·
   rfl
  ·
   unfold meetsB
   exact decide_eq_true (endS_le hT.1 _ (planS_ends hv hrm (Int.le_refl _)))
 ·
  unfold wfS
  split
  ·
   refine firstN_none _ _ (fun k hk => ?_)
   unfold meetsB
   apply decide_eq_false
   have := longest_le hv (st := planS g rm (k : Nat)) (fun i _ => (planS_ok g rm k).2 i |>.1) (fun q hq i hi => planS_needs hv hrm (by omega) hq i hi)
   omega
  ·
   rfl
end Go.Proofs.YtpmfghbjkampkaaDoor

namespace Go.Proofs.YtpmfghbjkampkaaDoor
set_option linter.unusedVariables false
set_option linter.unusedSimpArgs false
open Go.RowKit Go.Shelf Bits
open Go.Proofs.YtpmfghbjkampkaaDoorW.PrintWords Go.Proofs.YtpmfghbjkampkaaDoorW.PrintLast Go.Proofs.YtpmfghbjkampkaaDoorW.PrintMore
theorem C_nilI (w : World) : (Kd.int .i64).C w none 0 [] := ⟨rfl, by simp, fun hn => absurd hn (by simp)⟩
theorem ValidGraph_is (b : Bool) (A : Option Addr) (c : Nat) (g : List Tk) (h : Hid (specValid g = b)) (w : World) (hr : kTk.C w A g.length g) (hT : Tab w) :
  Calls Tryd.prog 35 #[.slice A g.length c] w fun e w' => e = .returned (.bool b) ∧ Below w.heap.size w w' := by
 have hv := h.out
 rw [specValid_eq] at hv
 cases hg : graphN g with
 | none =>
  rw [hg] at hv
  obtain rfl : b = false := hv.symm
  have HP := Lib.hid (graphOf_no A c g w hr hg)
  clear hr hT hg h hv
  go_enter Tryd.func35, Tryd.ntmps35
  go_wp2_with (go_at_call 79; refine HP.out.mono ?_; rintro e w1 ⟨rfl, hB1⟩)
  go_ret
  exact ⟨rfl, hB1⟩
 | some ns =>
  rw [hg] at hv
  obtain rfl : b = true := hv.symm
  have HP := Lib.hid (graphOf_yes A c g ns w hr hT hg)
  clear hr hT hg h hv
  go_enter Tryd.func35, Tryd.ntmps35
  go_wp2_with (go_at_call 79; refine HP.out.mono ?_; rintro e w1 ⟨C, rfl, hG, hB1⟩)
  go_ret
  exact ⟨rfl, hB1⟩
set_option maxRecDepth 100000 in
theorem allTime_calls (A : Option Addr) (c : Nat) (g : List Tk) (h16 : g.length ≤ 16) (ht : ∀ i, 0 ≤ (rdTk g i).f0 ∧ (rdTk g i).f0 ≤ 1000) (w : World) (hr : kTk.C w A g.length g) :
  Calls Tryd.prog 37 #[.slice A g.length c] w fun e w' => e = .returned (.int .i64 (timeS g)) ∧ w' = w := by
 have HR := Lib.hid hr
 have HT := Lib.hid ht
 clear hr ht
 go_enter Tryd.func37, Tryd.ntmps37
 go_wp2
 go_loop [3, 4] (fun n i => ∃ (j : Nat), j ≤ g.length ∧ i = .int .i64 j ∧ n = .int .i64 (sumTo (fun i => (rdTk g i).f0) j)) (fun _ i => g.length - (intOf i).toNat)
 case atStart => exact ⟨0, Nat.zero_le _, rfl, rfl⟩
 case round =>
  obtain ⟨j, hj, rfl, rfl⟩ := hrel
  by_cases hjl : j < g.length
  ·
   obtain ⟨ad, A1, c1, rfl, hc0, _⟩ := at_Tk HR.out j hjl
   have hjj : decide ((j : Int) < (g.length : Int)) = true := decide_eq_true (by omega)
   have hji : (j : Int) < (g.length : Int) := by omega
   have HE : Hid (sumTo (fun i => (rdTk g i).f0) (j + 1) = sumTo (fun i => (rdTk g i).f0) j + (rdTk g j).f0) := Lib.hid rfl
   have hb := sumTo_bound (f := fun i => (rdTk g i).f0) (a := 0) (b := 1000) j (fun i _ => HT.out i)
   have htj := HT.out j
   generalize sumTo (fun i => (rdTk g i).f0) j = s at HE hb
   generalize (rdTk g j).f0 = tm at hc0 htj HE
   have hwr : IntKind.i64.wrap (s + tm) = s + tm := IntWalk.i64_in _ (by omega)
   go_wp2
   clear hwr
   go_round
   case rel => exact ⟨j + 1, by omega, by go_num, by rw [HE.out]⟩
   case measure => simp [intOf]; omega
  ·
   obtain rfl : j = g.length := by omega
   have hjj : decide ((g.length : Int) < (g.length : Int)) = false := decide_eq_false (by omega)
   go_wp2
   go_ret
   exact ⟨rfl, rfl⟩
end Go.Proofs.YtpmfghbjkampkaaDoor
