/- Parts of the proof, laid as one text by a program of mine. -/
import Derived.Test.YtnbkkiacffkfmaaDoorKbc16
import Derived.Deep.RegionHeld3
import Derived.Deep.RegionWith
import Derived.Test.YtnbkkiacffkfmaaDoorKbc14
import Derived.Test.YtnbkkiacffkfmaaDoorKbc11
namespace Go.Proofs.YtnbkkiacffkfmaaDoor
set_option linter.unusedVariables false
set_option linter.unusedSimpArgs false
open Go.RowKit Go.Shelf Bits
open Go.Proofs.YtnbkkiacffkfmaaDoorW.PrintWords Go.Proofs.YtnbkkiacffkfmaaDoorW.PrintLast Go.Proofs.YtnbkkiacffkfmaaDoorW.PrintMore
attribute [local go_sem] Oper.semAt_some
set_option maxRecDepth 100000 in
theorem sValidStarts_calls (A : Option Addr) (c : Nat) (g : List Tk) (A1 : Option Addr) (c1 : Nat) (rm : List Int) (wk : Int) (A2 : Option Addr) (c2 : Nat) (st : List Int) (w : World) (hr : kTk.C w A g.length g) (hr1 : (Kd.int .i64).C w A1 rm.length rm) (hr2 : (Kd.int .i64).C w A2 st.length st) :
  Calls Tryd.prog 19 #[.slice A g.length c, .slice A1 rm.length c1, .int .i64 wk, .slice A2 st.length c2] w fun e w' => e = .returned (.bool (vStB g rm wk st)) ∧ Below w.heap.size w w' := by
 have HP := Lib.hid (validStarts_calls A c g A1 c1 rm wk A2 c2 st w hr hr1 hr2)
 clear hr hr1 hr2
 go_enter Tryd.func19, Tryd.ntmps19
 go_wp2_with (go_at_call 45; refine HP.out.mono ?_; rintro e w1 ⟨rfl, hB1⟩)
 go_ret
 exact ⟨rfl, hB1⟩
set_option maxRecDepth 100000 in
theorem sEndTime_calls (A : Option Addr) (c : Nat) (g : List Tk) (A1 : Option Addr) (c1 : Nat) (rm : List Int) (wk : Int) (A2 : Option Addr) (c2 : Nat) (st : List Int) (w : World) (hr : kTk.C w A g.length g) (hr1 : (Kd.int .i64).C w A1 rm.length rm) (hr2 : (Kd.int .i64).C w A2 st.length st) :
  Calls Tryd.prog 26 #[.slice A g.length c, .slice A1 rm.length c1, .int .i64 wk, .slice A2 st.length c2] w fun e w' => e = .returned (.int .i64 (etS g rm wk st)) ∧ Below w.heap.size w w' := by
 cases h : vStB g rm wk st with
 | true =>
  have HF : Hid (etS g rm wk st = endS g st g.length) := Lib.hid (by unfold etS; rw [if_pos h])
  have HP := Lib.hid (validStarts_is true A c g A1 c1 rm wk A2 c2 st (Lib.hid h) w hr hr1 hr2)
  have HV := Lib.hid (vSt_valid h)
  have HR := Lib.hid hr
  have HR2 := Lib.hid hr2
  clear hr hr1 hr2 h
  go_enter Tryd.func26, Tryd.ntmps26
  go_wp2_with (first | (go_at_call 45; refine HP.out.mono ?_; rintro e w1 ⟨rfl, hB1⟩; have HB1 := Lib.hid hB1; clear hB1) | (go_at_call 50; refine (endOf_calls A c g A2 c2 st HV.out.ok HV.out.sok HV.out.len _ (Kd.C_below HR.out HB1.out) (Kd.C_below HR2.out HB1.out)).mono ?_; rintro e w2 ⟨rfl, hB2⟩))
  go_ret
  exact ⟨ret_int HF.out.symm, HB1.out.trans (hB2.mono HB1.out.size)⟩
 | false =>
  have HF : Hid (etS g rm wk st = -1) := Lib.hid (by unfold etS; rw [h]; rfl)
  have HP := Lib.hid (validStarts_is false A c g A1 c1 rm wk A2 c2 st (Lib.hid h) w hr hr1 hr2)
  clear hr hr1 hr2 h
  go_enter Tryd.func26, Tryd.ntmps26
  go_wp2_with (go_at_call 45; refine HP.out.mono ?_; rintro e w1 ⟨rfl, hB1⟩)
  go_ret
  exact ⟨ret_int HF.out.symm, hB1⟩
set_option maxRecDepth 100000 in
theorem sRunningAt_calls (A : Option Addr) (c : Nat) (g : List Tk) (A1 : Option Addr) (c1 : Nat) (rm : List Int) (wk : Int) (A2 : Option Addr) (c2 : Nat) (st : List Int) (now : Int) (w : World) (hr : kTk.C w A g.length g) (hr1 : (Kd.int .i64).C w A1 rm.length rm) (hr2 : (Kd.int .i64).C w A2 st.length st) :
  Calls Tryd.prog 36 #[.slice A g.length c, .slice A1 rm.length c1, .int .i64 wk, .slice A2 st.length c2, .int .i64 now] w fun e w' => ∃ v, e = .returned v ∧ Kd.R (Kd.int .i64) 3 w' w.heap.size (fun _ => True) v (ints (raS g rm wk st now)) ∧ Below w.heap.size w w' := by
 cases h : vStB g rm wk st with
 | true =>
  have HF : Hid (raS g rm wk st now = runS g st now) := Lib.hid (by unfold raS; rw [if_pos h])
  have HP := Lib.hid (validStarts_is true A c g A1 c1 rm wk A2 c2 st (Lib.hid h) w hr hr1 hr2)
  have HV := Lib.hid (vSt_valid h)
  have HR := Lib.hid hr
  have HR2 := Lib.hid hr2
  clear hr hr1 hr2 h
  go_enter Tryd.func36, Tryd.ntmps36
  go_wp2_with (first | (go_at_call 45; refine HP.out.mono ?_; rintro e w1 ⟨rfl, hB1⟩; have HB1 := Lib.hid hB1; clear hB1) | (go_at_call 58; refine (runningAt_calls A c g A2 c2 st now HV.out.ok HV.out.sok HV.out.len _ (Kd.C_below HR.out HB1.out) (Kd.C_below HR2.out HB1.out)).mono ?_; rintro e w2 ⟨v, rfl, hR, hB2⟩))
  go_ret
  have hz := HB1.out.size
  exact ⟨_, rfl, by rw [HF.out]; exact Kd.R_lower hR hz, HB1.out.trans (hB2.mono hz)⟩
 | false =>
  have HF : Hid (raS g rm wk st now = []) := Lib.hid (by unfold raS; rw [h]; rfl)
  have HP := Lib.hid (validStarts_is false A c g A1 c1 rm wk A2 c2 st (Lib.hid h) w hr hr1 hr2)
  clear hr hr1 hr2 h
  go_enter Tryd.func36, Tryd.ntmps36
  go_wp2_with (go_at_call 45; refine HP.out.mono ?_; rintro e w1 ⟨rfl, hB1⟩)
  go_ret
  exact ⟨_, rfl, by rw [HF.out]; exact R_nilJ _ _, hB1⟩
set_option maxRecDepth 100000 in
theorem sMeetsDeadline_calls (A : Option Addr) (c : Nat) (g : List Tk) (A1 : Option Addr) (c1 : Nat) (rm : List Int) (wk : Int) (A2 : Option Addr) (c2 : Nat) (st : List Int) (dl : Int) (w : World) (hr : kTk.C w A g.length g) (hr1 : (Kd.int .i64).C w A1 rm.length rm) (hr2 : (Kd.int .i64).C w A2 st.length st) :
  Calls Tryd.prog 29 #[.slice A g.length c, .slice A1 rm.length c1, .int .i64 wk, .slice A2 st.length c2, .int .i64 dl] w fun e w' => e = .returned (.bool (mdS g rm wk st dl)) ∧ Below w.heap.size w w' := by
 cases h : vStB g rm wk st with
 | true =>
  have HP := Lib.hid (validStarts_is true A c g A1 c1 rm wk A2 c2 st (Lib.hid h) w hr hr1 hr2)
  have HV := Lib.hid (vSt_valid h)
  have HR := Lib.hid hr
  have HR2 := Lib.hid hr2
  cases h3 : inB dl 0 200 with
  | true =>
   have HF : Hid (mdS g rm wk st dl = decide (endS g st g.length ≤ dl)) := Lib.hid (by unfold mdS; rw [h, h3]; rfl)
   have H3 := Lib.hid h3
   clear hr hr1 hr2 h h3
   go_enter Tryd.func29, Tryd.ntmps29
   go_wp2_with (first | (go_at_call 45; refine HP.out.mono ?_; rintro e w1 ⟨rfl, hB1⟩; have HB1 := Lib.hid hB1; clear hB1) | (go_at_call 53; refine (inRange_is _ _ _ _ H3 _).mono ?_; rintro e wd ⟨rfl, rfl⟩) | (go_at_call 50; refine (endOf_calls A c g A2 c2 st HV.out.ok HV.out.sok HV.out.len _ (Kd.C_below HR.out HB1.out) (Kd.C_below HR2.out HB1.out)).mono ?_; rintro e w2 ⟨rfl, hB2⟩))
   go_ret
   exact ⟨by rw [HF.out]; rfl, HB1.out.trans (hB2.mono HB1.out.size)⟩
  | false =>
   have HF : Hid (mdS g rm wk st dl = false) := Lib.hid (by unfold mdS; rw [h, h3]; rfl)
   have H3 := Lib.hid h3
   clear hr hr1 hr2 h h3
   go_enter Tryd.func29, Tryd.ntmps29
   go_wp2_with (first | (go_at_call 45; refine HP.out.mono ?_; rintro e w1 ⟨rfl, hB1⟩; have HB1 := Lib.hid hB1; clear hB1) | (go_at_call 53; refine (inRange_is _ _ _ _ H3 _).mono ?_; rintro e wd ⟨rfl, rfl⟩))
   go_ret
   exact ⟨by rw [HF.out]; rfl, HB1.out⟩
 | false =>
  have HF : Hid (mdS g rm wk st dl = false) := Lib.hid (by unfold mdS; rw [h]; rfl)
  have HP := Lib.hid (validStarts_is false A c g A1 c1 rm wk A2 c2 st (Lib.hid h) w hr hr1 hr2)
  clear hr hr1 hr2 h
  go_enter Tryd.func29, Tryd.ntmps29
  go_wp2_with (go_at_call 45; refine HP.out.mono ?_; rintro e w1 ⟨rfl, hB1⟩)
  go_ret
  exact ⟨by rw [HF.out]; rfl, hB1⟩
theorem map_snoc_range (F : Nat → Int) (j : Nat) : (List.range (j + 1)).map F = (List.range j).map F ++ [F j] := by
 rw [List.range_succ, List.map_append]
 rfl
set_option maxRecDepth 100000 in
set_option maxHeartbeats 4000000 in
theorem sCancelAt_calls (A : Option Addr) (c : Nat) (g : List Tk) (A1 : Option Addr) (c1 : Nat) (rm : List Int) (wk : Int) (A2 : Option Addr) (c2 : Nat) (st : List Int) (now : Int) (w : World) (hr : kTk.C w A g.length g) (hr1 : (Kd.int .i64).C w A1 rm.length rm) (hr2 : (Kd.int .i64).C w A2 st.length st) :
  Calls Tryd.prog 33 #[.slice A g.length c, .slice A1 rm.length c1, .int .i64 wk, .slice A2 st.length c2, .int .i64 now] w fun e w' => ∃ v, e = .returned v ∧ Kd.R (Kd.int .i64) 3 w' w.heap.size (fun _ => True) v (caS g rm wk st now) ∧ Below w.heap.size w w' := by
 have HBa : Hid (Below w.heap.size w (w.alloc (.cells #[] 3))) := Lib.hid ((Below.refl _ _).alloc (Nat.le_refl _) _)
 have HO : Hid (Kd.R (Kd.int .i64) 3 (w.alloc (.cells #[] 3)) w.heap.size (fun _ => True) (.slice (some ⟨w.heap.size, 0, none⟩) 0 0) []) := Lib.hid (Kd.R_of_own (World.ownsRow_lit (base := w.heap.size) (size := 1) w #[] 0 (Nat.le_refl _) (by simp [maxLen]) rfl) (fun _ _ => trivial))
 have hra := Kd.C_below hr HBa.out
 have hrb := Kd.C_below hr1 HBa.out
 have hrc := Kd.C_below hr2 HBa.out
 cases h : vStB g rm wk st with
 | true =>
  have HP := Lib.hid (validStarts_is true A c g A1 c1 rm wk A2 c2 st (Lib.hid h) _ hra hrb hrc)
  have HV := Lib.hid (vSt_valid h)
  have h8 := HV.out.ok.1
  have HR := Lib.hid hr
  have HR2 := Lib.hid hr2
  cases h3 : inB now 0 200 with
  | true =>
   have HF : Hid (caS g rm wk st now = (List.range g.length).map (cancF g st now)) := Lib.hid (by unfold caS; rw [h, h3, Bool.and_self, if_pos rfl])
   have H3 := Lib.hid h3
   clear hr hr1 hr2 hra hrb hrc h h3
   go_enter Tryd.func33, Tryd.ntmps33
   go_wp2_with (first | (go_at_call 45; refine HP.out.mono ?_; rintro e w1 ⟨rfl, hB1⟩; have HO1 := Lib.hid (Kd.R_below HO.out hB1); have HB1 := Lib.hid (HBa.out.trans (hB1.mono HBa.out.size)); clear hB1) | (go_at_call 53; refine (inRange_is _ _ _ _ H3 _).mono ?_; rintro e wd ⟨rfl, rfl⟩))
   go_loopw [11, 12] (fun out i wr => ∃ j, j ≤ g.length ∧ i = .int .i64 (j : Nat) ∧ Kd.R (Kd.int .i64) 3 wr w.heap.size (fun _ => True) out ((List.range j).map (cancF g st now)) ∧ Below w.heap.size w wr) (fun _ i _ => g.length - (intOf i).toNat)
   case atStart => exact ⟨0, Nat.zero_le _, rfl, HO1.out, HB1.out⟩
   case round =>
    clear HO1 HB1
    obtain ⟨j, hj, rfl, hO, hB⟩ := hrel
    by_cases hjl : j < g.length
    ·
     have hjs : j < st.length := by rw [HV.out.len]; exact hjl
     obtain ⟨ad, A4, c4, rfl, hc0, _⟩ := at_Tk (Kd.C_below HR.out hB) j hjl
     obtain ⟨ads, rfl, cs⟩ := at_num (Kd.C_below HR2.out hB) j hjs
     have hjj : decide ((j : Int) < (g.length : Int)) = true := decide_eq_true (by omega)
     have hji : (j : Int) < (g.length : Int) := by omega
     have hjsi : (j : Int) < (st.length : Int) := by omega
     have HE := Lib.hid (map_snoc_range (cancF g st now) j)
     have HBD : Hid (cancF g st now j = if st.getD j 0 + (rdTk g j).f0 ≤ now then 0 else if st.getD j 0 < now then 1 else 3) := Lib.hid rfl
     have hsj := HV.out.sok j
     have htj := HV.out.ok.2.1 j
     generalize st.getD j 0 = s at cs hsj HBD
     generalize (rdTk g j).f0 = tm at hc0 htj HBD
     generalize cancF g st now j = cj at HE HBD
     have hll : ((List.range j).map (cancF g st now)).length ≤ 8 := by simp; omega
     generalize (List.range j).map (cancF g st now) = fl at hO HE hll
     have hwr : IntKind.i64.wrap (s + tm) = s + tm := IntWalk.i64_in _ (by omega)
     have HOB := Lib.hid (And.intro hO hB)
     clear hO hB
     by_cases g1 : s + tm ≤ now
     ·
      have d1 : decide (s + tm ≤ now) = true := decide_eq_true g1
      rw [if_pos g1] at HBD
      clear g1
      go_wp2
      go_quiet (fail)
      clear hwr
      have hO2 := Kd.R_drewN HOB.out.1 nq
      have hB2 := pw_below_drewN HOB.out.2 nq
      go_wp2_with (at_builtin; refine ap_int (w0 := w) w.heap.size rfl _ _ rfl u11 fl 0 rfl rfl rfl hO2 hB2 hB2.size (by omega) ?_; intro v1 w2 hO3 hB3 hg3 hat3; clear hg3 hat3)
      go_roundw
      case rel => exact ⟨j + 1, by omega, by go_num, by rw [HE.out, HBD.out]; exact hO3, hB3⟩
      case measure => simp [intOf]; omega
     ·
      have d1 : decide (s + tm ≤ now) = false := decide_eq_false g1
      rw [if_neg g1] at HBD
      clear g1
      by_cases g2 : s < now
      ·
       have d2 : decide (s < now) = true := decide_eq_true g2
       rw [if_pos g2] at HBD
       clear g2
       go_wp2
       go_quiet (fail)
       clear hwr
       have hO2 := Kd.R_drewN HOB.out.1 nq
       have hB2 := pw_below_drewN HOB.out.2 nq
       go_wp2_with (at_builtin; refine ap_int (w0 := w) w.heap.size rfl _ _ rfl u11 fl 1 rfl rfl rfl hO2 hB2 hB2.size (by omega) ?_; intro v1 w2 hO3 hB3 hg3 hat3; clear hg3 hat3)
       go_roundw
       case rel => exact ⟨j + 1, by omega, by go_num, by rw [HE.out, HBD.out]; exact hO3, hB3⟩
       case measure => simp [intOf]; omega
      ·
       have d2 : decide (s < now) = false := decide_eq_false g2
       rw [if_neg g2] at HBD
       clear g2
       go_wp2
       go_quiet (fail)
       clear hwr
       have hO2 := Kd.R_drewN HOB.out.1 nq
       have hB2 := pw_below_drewN HOB.out.2 nq
       go_wp2_with (at_builtin; refine ap_int (w0 := w) w.heap.size rfl _ _ rfl u11 fl 3 rfl rfl rfl hO2 hB2 hB2.size (by omega) ?_; intro v1 w2 hO3 hB3 hg3 hat3; clear hg3 hat3)
       go_roundw
       case rel => exact ⟨j + 1, by omega, by go_num, by rw [HE.out, HBD.out]; exact hO3, hB3⟩
       case measure => simp [intOf]; omega
    ·
     obtain rfl : j = g.length := by omega
     have hjj : decide ((g.length : Int) < (g.length : Int)) = false := decide_eq_false (by omega)
     rw [← HF.out] at hO
     go_wp2
     go_ret
     exact ⟨_, rfl, hO, hB⟩
  | false =>
   have HF : Hid (caS g rm wk st now = []) := Lib.hid (by unfold caS; rw [h3, Bool.and_false]; rfl)
   have H3 := Lib.hid h3
   clear hr hr1 hr2 hra hrb hrc h h3
   go_enter Tryd.func33, Tryd.ntmps33
   go_wp2_with (first | (go_at_call 45; refine HP.out.mono ?_; rintro e w1 ⟨rfl, hB1⟩; have HB1 := Lib.hid (HBa.out.trans (hB1.mono HBa.out.size)); clear hB1) | (go_at_call 53; refine (inRange_is _ _ _ _ H3 _).mono ?_; rintro e wd ⟨rfl, rfl⟩))
   go_ret
   exact ⟨_, rfl, by rw [HF.out]; exact R_nilJ _ _, HB1.out⟩
 | false =>
  have HF : Hid (caS g rm wk st now = []) := Lib.hid (by unfold caS; rw [h]; rfl)
  have HP := Lib.hid (validStarts_is false A c g A1 c1 rm wk A2 c2 st (Lib.hid h) _ hra hrb hrc)
  clear hr hr1 hr2 hra hrb hrc h
  go_enter Tryd.func33, Tryd.ntmps33
  go_wp2_with (go_at_call 45; refine HP.out.mono ?_; rintro e w1 ⟨rfl, hB1⟩)
  go_ret
  exact ⟨_, rfl, by rw [HF.out]; exact R_nilJ _ _, HBa.out.trans (hB1.mono HBa.out.size)⟩
end Go.Proofs.YtnbkkiacffkfmaaDoor

namespace Go.Proofs.YtnbkkiacffkfmaaDoor
set_option linter.unusedVariables false
set_option linter.unusedSimpArgs false
open Go.RowKit Go.Shelf
open Go.Proofs.YtnbkkiacffkfmaaDoorW.PrintWords Go.Proofs.YtnbkkiacffkfmaaDoorW.PrintLast Go.Proofs.YtnbkkiacffkfmaaDoorW.PrintMore
def StB (k : Int) (st : List Int) : Prop := ∀ i, -k ≤ st.getD i 0 ∧ st.getD i 0 ≤ 200 + 40 * k
theorem StB.set {k : Int} {st : List Int} (h : StB k st) (i : Nat) {x : Int} (hx : -(k + 1) ≤ x ∧ x ≤ 200 + 40 * (k + 1)) (hk : 0 ≤ k) : StB (k + 1) (st.set i x) := fun j => by
 have := h j
 rw [getD_setL]
 split <;> omega
theorem StB.wide {k k' : Int} {st : List Int} (h : StB k st) (hk : k ≤ k') : StB k' st := fun i => by have := h i; omega
theorem StB.sok {st : List Int} (h : StB 2 st) : SOk st := fun i => by have := h i; omega
theorem pS_B (g : List Tk) (rm : List Int) (wk : Int) : StB 0 (pS g rm wk) := by
 unfold pS
 split
 ·
  exact fun i => by have := (planS_ok g rm wk).2 i; omega
 ·
  exact fun i => by simp
theorem pS_len (g : List Tk) (rm : List Int) (wk : Int) : (pS g rm wk).length ≤ 8 := by
 unfold pS
 split
 ·
  rename_i h
  rw [Bool.and_eq_true] at h
  rw [(planS_ok g rm wk).1]
  exact (specValid_TOk h.1).1
 ·
  simp
theorem stI_of_Rb {W : World} {rb base : Nat} {ok : Nat → Prop} {v : Value} {l : List Int} (h : Kd.R (Kd.int .i64) 3 W base ok v l) (hrb : rb < base) : ∃ A c, v = .slice A l.length c ∧ l.length ≤ c ∧ StI W rb A l := stI_of_R (Kd.R_mono h (fun _ _ => trivial)) hrb
theorem RdSt.far {w0 W : World} {rb : Nat} {M : Int} (h : RdSt w0 W rb M) {p : Addr} (hp : p.block ≠ rb) (u : Value) : RdSt w0 (W.setCell p u) rb M := by
 obtain ⟨b, q, ⟨A0, c0, h1, h2, h3⟩, h4⟩ := h
 exact ⟨b, q, ⟨A0, c0, (Below.heap_setCell W p u rb (fun e => hp e.symm)).trans h1, h2, h3⟩, h4⟩
set_option maxRecDepth 1000000 in
set_option maxHeartbeats 8000000 in
theorem someStarts_any (rb : Nat) (M : Int) (hM : M ≤ 700000) (A : Option Addr) (c : Nat) (g : List Tk) (w0 w : World) (hS : RdSt w0 w rb M) (hB : Below w0.heap.size w0 w) (hG : StG w rb A g) :
  Calls Tryd.prog 43 #[.pointer (some ⟨rb, 0, none⟩), .slice A g.length c] w fun e w' => ∃ A1 c1 rm wk A2 c2 st, e = .returned (.tuple #[.slice A1 rm.length c1, .int .i64 wk, .slice A2 st.length c2]) ∧ rm.length ≤ c1 ∧ st.length ≤ c2 ∧ StI w' rb A1 rm ∧ StI w' rb A2 st ∧ rm.length ≤ 4 ∧ st.length ≤ 8 ∧ (0 ≤ wk ∧ wk ≤ 5) ∧ StB 2 st ∧ RdSt w0 w' rb (M + 20) ∧ Below w0.heap.size w0 w' ∧ KeepBut w w' rb none := by
 have HS := Lib.hid hS
 have HB := Lib.hid hB
 have HG := Lib.hid hG
 clear hS hB hG
 go_enter Tryd.func43, Tryd.ntmps43
 go_wp2_with (first
  | (go_at_call 65; refine (someRoom_any rb M (by omega) w0 _ HS.out HB.out).mono ?_; rintro e w1 ⟨A1, c1, rm, rfl, hc1, hI1, hl1, hS1, hB1, hK1⟩; have H1 := Lib.hid (And.intro hI1 (And.intro hS1 (And.intro hB1 hK1))); clear hI1 hS1 hB1 hK1)
  | (go_at_call 66; refine (someWorkers_any rb (M + 6) (by omega) w0 _ H1.out.2.1 H1.out.2.2.1).mono ?_; rintro e w2 ⟨wk, rfl, hwk, hS2, hB2, hK2⟩; have H2 := Lib.hid (And.intro (H1.out.1.keep hK2) (And.intro hS2 (And.intro hB2 (And.intro (keep_trans H1.out.2.2.2 hK2) ((HG.out.keep H1.out.2.2.2).keep hK2))))); clear hS2 hB2 hK2)
  | (go_at_call 67; refine (sPlanStarts_calls A c g A1 c1 rm wk w2 H2.out.2.2.2.2.now H2.out.1.now).mono ?_; rintro e w3 ⟨v3, rfl, hR3, hB3⟩; have H3 := Lib.hid (And.intro hR3 hB3); clear hR3 hB3)
  | (go_at_call 63; refine (pick_any rb (M + 7) _ (by omega) w0 _ ((H2.out.2.1.below H3.out.2).wide (by omega)) (H2.out.2.2.1.trans (H3.out.2.mono H2.out.2.2.1.size))).mono ?_; rintro e w4 ⟨v4, rfl, hv4, hS4, hB4, hK4⟩; have H4 := Lib.hid (And.intro hS4 (And.intro hB4 hK4)); clear hS4 hB4 hK4))
 have hrb2 := H2.out.2.1.lt
 have hpl := pS_len g rm wk
 have hpb := pS_B g rm wk
 have hR4 : Kd.R (Kd.int .i64) 3 w4 w2.heap.size (fun q => q ≠ rb) v3 (pS g rm wk) := Kd.R_keep (Kd.R_mono (Kd.R_bound H3.out.1) (fun q hq => by have := hq.2.1; omega)) H4.out.2.2 (fun q hq => hq)
 obtain ⟨A3, c3, rfl, hc3, _⟩ := Kd.R_reads hR4
 have hK24 : KeepBut w2 w4 rb none := keep_trans (keep_below rb H3.out.2) H4.out.2.2
 have HK24 := Lib.hid hK24
 have hv2 : 0 ≤ v4 ∧ v4 ≤ 2 := by have := hv4.2 (by omega); omega
 clear hK24 hv4
 generalize pS g rm wk = s0 at hR4 hpl hpb hc3
 go_loopw [10] (fun n wr => ∃ (k : Nat) (st : List Int), n = .int .i64 (k : Int) ∧ k ≤ 2 ∧ st.length = s0.length ∧ StB (2 - k) st ∧ Hid (Kd.R (Kd.int .i64) 3 wr w2.heap.size (fun q => q ≠ rb) (.slice A3 s0.length c3) st ∧ RdSt w0 wr rb (M + 12 - 2 * k) ∧ Below w0.heap.size w0 wr ∧ KeepBut w2 wr rb none)) (fun n _ => (intOf n).toNat)
 case atStart => exact ⟨v4.toNat, s0, by congr 1; omega, by omega, rfl, hpb.wide (by omega), Lib.hid ⟨hR4, H4.out.1.wide (by omega), H4.out.2.1, HK24.out⟩⟩
 case round =>
  clear hR4 hpb
  obtain ⟨k, st, rfl, hk, hsl, hsb, HH⟩ := hrel
  by_cases hk0 : k = 0
  ·
   subst hk0
   have HSB := Lib.hid hsb
   go_wp2
   go_ret3
   obtain ⟨hR, hS, hB, hK⟩ := HH.out
   obtain ⟨A9, c9, e9, hc9, hI9⟩ := stI_of_Rb hR hrb2
   rw [← hsl] at e9 hR ⊢
   cases e9
   exact ⟨A1, c1, rm, wk, A3, c3, st, rfl, hc1, hc9, H2.out.1.keep hK, hI9, hl1, by omega, hwk, HSB.out.wide (by omega), hS.wide (by omega), hB, keep_trans H2.out.2.2.2.1 hK⟩
  ·
   have dk : decide ((0 : Int) < (k : Int)) = true := decide_eq_true (by omega)
   have dk' : decide (0 < k) = true := decide_eq_true (by omega)
   by_cases hs0 : s0.length = 0
   ·
    have ds : decide ((0 : Int) < (s0.length : Int)) = false := decide_eq_false (by omega)
    have ds' : decide (0 < s0.length) = false := decide_eq_false (by omega)
    have HSB := Lib.hid hsb
    clear hk0 hsb
    go_wp2
    go_ret3
    obtain ⟨hR, hS, hB, hK⟩ := HH.out
    obtain ⟨A9, c9, e9, hc9, hI9⟩ := stI_of_Rb hR hrb2
    rw [← hsl] at e9 hR ⊢
    cases e9
    exact ⟨A1, c1, rm, wk, A3, c3, st, rfl, hc1, hc9, H2.out.1.keep hK, hI9, hl1, by omega, hwk, HSB.out.wide (by omega), hS.wide (by omega), hB, keep_trans H2.out.2.2.2.1 hK⟩
   ·
    have ds : decide ((0 : Int) < (s0.length : Int)) = true := decide_eq_true (by omega)
    have ds' : decide (0 < s0.length) = true := decide_eq_true (by omega)
    have HSB := Lib.hid hsb
    have HSB2 := Lib.hid hsb
    obtain ⟨b, cap, e5, hbb, hbl, hbc⟩ := Kd.R_form HH.out.1 (by omega)
    rw [hsl] at e5
    cases e5
    have hbr : b ≠ rb := by omega
    go_upto_region 8 with (go_at_call 63; refine (pick_any rb _ _ (by omega) w0 _ HH.out.2.1 HH.out.2.2.1).mono ?_; rintro e w5 ⟨v5, rfl, hv5, hS5, hB5, hK5⟩; obtain ⟨m, rfl⟩ := Int.eq_ofNat_of_zero_le hv5.1; have hml : m < s0.length := (by have := hv5.2 (by omega); omega); have H5 := Lib.hid (And.intro hS5 (And.intro hB5 hK5)); clear hv5 hS5 hB5 hK5)
    have hR5 := Kd.R_keep HH.out.1 H5.out.2.2 (fun q hq => hq)
    obtain ⟨cx, fx⟩ := Kd.R_celln (0 : Int) hR5 (m : Int) (by omega) (by omega)
    rw [Int.toNat_natCast] at cx fx
    have hsx := HSB.out m
    replace cx : w5.cell? ⟨b, m, none⟩ = some (.int .i64 (st.getD m 0)) := cx
    have HST : Hid (∃ s, s = st.getD m 0) := Lib.hid ⟨_, rfl⟩
    obtain ⟨s, hs⟩ := HST.out
    rw [← hs] at cx hsx
    have HR5 := Lib.hid hR5
    have HSE := Lib.hid hs
    have hb5 : b < w5.heap.size := Nat.lt_of_lt_of_le hbl H5.out.2.2.1
    have hmi : (m : Int) < (s0.length : Int) := by omega
    have hrb5 := H5.out.1.lt
    clear hR5 hs HST
    have HCALL : Hid (∀ W (l : List Int), Below w5.heap.size w5 W → 0 < l.length → l.length ≤ 1000 → Calls Tryd.prog 54 #[.pointer (some ⟨rb, 0, none⟩), .slice (some ⟨W.heap.size, 0, none⟩) l.length l.length] (W.alloc (.cells (encs (Value.int .i64) l).toArray 3)) fun e w' =>
      ∃ v, e = .returned (.int .i64 v) ∧ v ∈ l ∧ RdSt w0 w' rb (M + 14 - 2 * k) ∧ Below w0.heap.size w0 w' ∧ w'.cell? ⟨b, m, none⟩ = some (.int .i64 s) ∧ w'.frozen? ⟨b, m, none⟩ = false ∧ KeepBut w5 w' rb none) := Lib.hid (by
     intro W l hW hl0 hl
     refine (oneLit_any rb _ l hl0 hl (by omega) w0 W (H5.out.1.below hW) (H5.out.2.1.trans (hW.mono H5.out.2.1.size))).mono ?_
     rintro e w' ⟨v, he, hv, h1, h2, h3⟩
     have hkk : KeepBut w5 w' rb none := keep_trans (keep_below rb hW) h3
     have hblk : w'.heap[b]? = w5.heap[b]? := hkk.2 b hb5 hbr (by simp)
     refine ⟨v, he, hv, h1.wide (by omega), h2, ?_, ?_, hkk⟩
     ·
      rw [← cx]
      unfold World.cell?
      simp only [hblk]
     ·
      rw [← fx]
      unfold World.frozen?
      simp only [hblk])
    have HSB : Hid (∀ W, Below w5.heap.size w5 W → W.cell? ⟨b, m, none⟩ = some (.int .i64 s) ∧ W.frozen? ⟨b, m, none⟩ = false ∧ KeepBut w5 W rb none) := Lib.hid (fun W hW => by
     have hblk : W.heap[b]? = w5.heap[b]? := hW.block b hb5
     refine ⟨?_, ?_, keep_below rb hW⟩
     ·
      rw [← cx]
      unfold World.cell?
      simp only [hblk]
     ·
      rw [← fx]
      unfold World.frozen?
      simp only [hblk])
    go_wp2
    have hcA : ∀ o, (w5.alloc o).cell? ⟨b, m, none⟩ = some (.int .i64 s) := fun o => (HSB.out _ ((Below.refl _ _).alloc (Nat.le_refl _) _)).1
    go_region_with (first | (go_at_call 54; refine (HCALL.out w5.drew [0, 1, 5, -1, 40] (Below.refl _ _).drew (by decide) (by decide)).mono ?_; rintro e w6 ⟨v6, rfl, hv6, hS6, hB6, hX1, hX2, hX3⟩))
    all_goals
     have hv7 : -1 ≤ v6 ∧ v6 ≤ 40 := by simp at hv6; omega
     have hR6 := Kd.R_putn (Kd.R_keep HR5.out hX3 (fun q hq => hq)) (m : Int) (s + v6)
     rw [Int.toNat_natCast] at hR6
     have hsb' := StB.set HSB2.out m (x := s + v6) (by omega) (by omega)
     have hbel : Below w0.heap.size w0 (w6.setCell ⟨b, m, none⟩ (.int .i64 (s + v6))) := hB6.setCell (p := ⟨b, m, none⟩) (by have h02 := H2.out.2.2.1.size; show w0.heap.size ≤ b; omega) _
     have hkp : KeepBut w2 (w6.setCell ⟨b, m, none⟩ (.int .i64 (s + v6))) rb none := by
      have h26 : KeepBut w2 w6 rb none := keep_trans HH.out.2.2.2 (keep_trans H5.out.2.2 hX3)
      refine ⟨by rw [World.size_setCell]; exact h26.1, fun i hi h1 h2 => ?_⟩
      rw [Below.heap_setCell w6 ⟨b, m, none⟩ _ i (by show i ≠ b; omega)]
      exact h26.2 i hi h1 h2
     have hrd : RdSt w0 (w6.setCell ⟨b, m, none⟩ (.int .i64 (s + v6))) rb (M + 12 - 2 * (k - 1 : Nat)) := (RdSt.far hS6 hbr _).wide (by omega)
     have HEND := Lib.hid (And.intro hR6 (And.intro hrd (And.intro hbel hkp)))
     have HSB3 := Lib.hid (hsb'.wide (k' := 2 - (k - 1 : Nat)) (by omega))
     have hk1 : IntKind.i64.wrap ((k : Int) - 1) = ((k - 1 : Nat) : Int) := by rw [show (k : Int) - 1 = ((k - 1 : Nat) : Int) by omega]; exact IntWalk.i64_in _ (by omega)
     have hwr : IntKind.i64.wrap (s + v6) = s + v6 := IntWalk.i64_in _ (by omega)
     clear hR6 hrd hbel hkp hsb' hv6 hv7 hX1 hX2 hX3 hS6 hB6 hsx
     go_wp2
     clear hwr hk1
     exact ⟨⟨k - 1, st.set m (s + v6), rfl, by omega, by rw [List.length_set]; exact hsl, HSB3.out, HEND⟩, by simp [intOf]; omega⟩
theorem RdSt_new {w0 W : World} {rb : Nat} {M : Int} (h : RdSt w0 W rb M) : w0.heap.size ≤ rb := by
 obtain ⟨b, p, ⟨A0, c0, h1, h2, h3⟩, _⟩ := h
 exact h2
theorem newReader_new (A : Option Addr) (c : Nat) (l : List Int) (hb : ∀ x ∈ l, 0 ≤ x ∧ x < 256) (w : World) (hr : (Kd.int .u8).C w A l.length l) (hc : l.length ≤ c) :
  Calls Tryd.prog 41 #[.slice A l.length c] w fun e w' => ∃ rb, e = .returned (.pointer (some ⟨rb, 0, none⟩)) ∧ w.heap.size ≤ rb ∧ RdSt w w' rb 0 ∧ Below w.heap.size w w' := by
 refine (newReader_any A c l hb w hr hc).mono ?_
 rintro e w' ⟨rb, he, hS, hB⟩
 exact ⟨rb, he, RdSt_new hS, hS, hB⟩
theorem results_tmp4 {fn : Func} {t u v x : Tmp} (h : fn.results = #[.tmp t, .tmp u, .tmp v, .tmp x]) (tmps : Array Value) (P : Program) (w : World) :
  (results fn tmps).run P w = .ok (.tuple #[tmps.getD t undef, tmps.getD u undef, tmps.getD v undef, tmps.getD x undef]) w := by
 simp [results, h]
theorem results_tmp5 {fn : Func} {t u v x y : Tmp} (h : fn.results = #[.tmp t, .tmp u, .tmp v, .tmp x, .tmp y]) (tmps : Array Value) (P : Program) (w : World) :
  (results fn tmps).run P w = .ok (.tuple #[tmps.getD t undef, tmps.getD u undef, tmps.getD v undef, tmps.getD x undef, tmps.getD y undef]) w := by
 simp [results, h]
def DrSt (w : World) (e : Ending) (w' : World) : Prop := ∃ rb A1 c1 g A2 c2 rm wk A3 c3 st, e = .returned (.tuple #[.slice A1 g.length c1, .slice A2 rm.length c2, .int .i64 wk, .slice A3 st.length c3]) ∧ StG w' rb A1 g ∧ StI w' rb A2 rm ∧ StI w' rb A3 st ∧ w.heap.size ≤ rb ∧ g.length ≤ 16 ∧ st.length ≤ 8 ∧ (0 ≤ wk ∧ wk ≤ 5) ∧ SOk st ∧ Below w.heap.size w w'
set_option maxRecDepth 100000 in
theorem DrawValidStarts_any (A : Option Addr) (c : Nat) (l : List Int) (hb : ∀ x ∈ l, 0 ≤ x ∧ x < 256) (w : World) (hr : (Kd.int .u8).C w A l.length l) (hc : l.length ≤ c) :
  Calls Tryd.prog 17 #[.slice A l.length c] w (DrSt w) := by
 have HN := Lib.hid (newReader_new A c l hb w hr hc)
 clear hb hr hc
 go_enter Tryd.func17, Tryd.ntmps17
 go_wp2_with (first | (go_at_call 41; refine HN.out.mono ?_; rintro e w1 ⟨rb, rfl, hrb, hS1, hB1⟩; have H1 := Lib.hid (And.intro hS1 hB1); clear hS1 hB1) | (go_at_call 42; refine (anyGraph_any rb 0 (by omega) w _ H1.out.1 H1.out.2).mono ?_; rintro e w2 ⟨A2, c2, g, rfl, hg2, hG2, hok, hS2, hB2, hK2⟩; have H2 := Lib.hid (And.intro hG2 (And.intro hok (And.intro hS2 hB2))); clear hG2 hok hS2 hB2 hK2) | (go_at_call 43; refine (someStarts_any rb _ (by omega) A2 c2 g w _ H2.out.2.2.1 H2.out.2.2.2 H2.out.1).mono ?_; rintro e w3 ⟨A3, c3, rm, wk, A4, c4, st, rfl, h1, h2, hI3, hI4, hl3, hl4, hwk, hsb, hS3, hB3, hK3⟩; have H3 := Lib.hid (And.intro (H2.out.1.keep hK3) (And.intro hI3 (And.intro hI4 (And.intro hsb hB3)))); clear hI3 hI4 hsb hS3 hB3 hK3))
 (try simp only [Exit.inBlock, Exit.then])
 refine bodyPost_ret (results_tmp4 rfl _ _ _) rfl ?_
 exact ⟨rb, _, _, g, _, _, rm, wk, _, _, st, rfl, H3.out.1, H3.out.2.1, H3.out.2.2.1, hrb, H2.out.2.1.1, hl4, hwk, H3.out.2.2.2.1.sok, H3.out.2.2.2.2⟩
theorem DrawEndTime_any (A : Option Addr) (c : Nat) (l : List Int) (hb : ∀ x ∈ l, 0 ≤ x ∧ x < 256) (w : World) (hr : (Kd.int .u8).C w A l.length l) (hc : l.length ≤ c) :
  Calls Tryd.prog 24 #[.slice A l.length c] w (DrSt w) := by
 have HN := Lib.hid (DrawValidStarts_any A c l hb w hr hc)
 clear hb hr hc
 go_enter Tryd.func24, Tryd.ntmps24
 go_wp2_with (go_at_call 17; refine HN.out.mono ?_; rintro e w1 ⟨rb, A1, c1, g, A2, c2, rm, wk, A3, c3, st, rfl, h1⟩; have H1 := Lib.hid h1; clear h1)
 (try simp only [Exit.inBlock, Exit.then])
 refine bodyPost_ret (results_tmp4 rfl _ _ _) rfl ?_
 exact ⟨rb, _, _, g, _, _, rm, wk, _, _, st, rfl, H1.out⟩
def DrSt5 (lo hi : Int) (w : World) (e : Ending) (w' : World) : Prop := ∃ A1 c1 g A2 c2 rm wk A3 c3 st now, e = .returned (.tuple #[.slice A1 g.length c1, .slice A2 rm.length c2, .int .i64 wk, .slice A3 st.length c3, .int .i64 now]) ∧ kTk.C w' A1 g.length g ∧ (Kd.int .i64).C w' A2 rm.length rm ∧ (Kd.int .i64).C w' A3 st.length st ∧ g.length ≤ 16 ∧ st.length ≤ 8 ∧ (0 ≤ wk ∧ wk ≤ 5) ∧ SOk st ∧ (lo ≤ now ∧ now ≤ hi) ∧ Below w.heap.size w w'
set_option maxRecDepth 100000 in
theorem DrawRunningAt_any (A : Option Addr) (c : Nat) (l : List Int) (hb : ∀ x ∈ l, 0 ≤ x ∧ x < 256) (w : World) (hr : (Kd.int .u8).C w A l.length l) (hc : l.length ≤ c) :
  Calls Tryd.prog 34 #[.slice A l.length c] w (DrSt5 (-1) 300 w) := by
 have HN := Lib.hid (newReader_any A c l hb w hr hc)
 have HD := Lib.hid (fun (W : World) (hW : Below w.heap.size w W) => DrawValidStarts_any A c l hb W (Kd.C_below hr hW) hc)
 clear hb hr hc
 go_enter Tryd.func34, Tryd.ntmps34
 go_wp2_with (first | (go_at_call 41; refine HN.out.mono ?_; rintro e w1 ⟨rb, rfl, hS1, hB1⟩; have H1 := Lib.hid (And.intro hS1 hB1); clear hS1 hB1) | (go_at_call 17; refine (HD.out _ H1.out.2).mono ?_; rintro e w2 ⟨r2, A1, c1, g, A2, c2, rm, wk, A3, c3, st, rfl, h1, h2, h3, hr2, h4, h5, h6, h7, h8⟩; have H2 := Lib.hid (And.intro h1 (And.intro h2 (And.intro h3 (And.intro h7 h8)))); clear h1 h2 h3 h7 h8) | (go_at_call 54; refine (oneLit_any rb 0 [0, 1, 5, 10, 20, -1, 300] (by decide) (by decide) (by omega) w _ (H1.out.1.below H2.out.2.2.2.2) (H1.out.2.trans (H2.out.2.2.2.2.mono H1.out.2.size))).mono ?_; rintro e w3 ⟨v3, rfl, hv, hS3, hB3, hK3⟩; have hv3 : -1 ≤ v3 ∧ v3 ≤ 300 := (by simp at hv; omega); have H3 := Lib.hid (And.intro hS3 (And.intro hB3 hK3)); clear hv hS3 hB3 hK3))
 have hrb := H1.out.1.lt
 (try simp only [Exit.inBlock, Exit.then])
 refine bodyPost_ret (results_tmp5 rfl _ _ _) rfl ?_
 have hku := KeepUp.of (rb := r2) H3.out.2.2 (by omega)
 exact ⟨_, _, g, _, _, rm, wk, _, _, st, v3, rfl, H2.out.1 _ hku, H2.out.2.1.st _ hku, H2.out.2.2.1.st _ hku, h4, h5, h6, H2.out.2.2.2.1, hv3, H3.out.2.1⟩
set_option maxRecDepth 100000 in
theorem DrawCancelAt_any (A : Option Addr) (c : Nat) (l : List Int) (hb : ∀ x ∈ l, 0 ≤ x ∧ x < 256) (w : World) (hr : (Kd.int .u8).C w A l.length l) (hc : l.length ≤ c) :
  Calls Tryd.prog 30 #[.slice A l.length c] w (DrSt5 (-1) 201 w) := by
 have HN := Lib.hid (newReader_any A c l hb w hr hc)
 have HD := Lib.hid (fun (W : World) (hW : Below w.heap.size w W) => DrawValidStarts_any A c l hb W (Kd.C_below hr hW) hc)
 clear hb hr hc
 go_enter Tryd.func30, Tryd.ntmps30
 go_wp2_with (first | (go_at_call 41; refine HN.out.mono ?_; rintro e w1 ⟨rb, rfl, hS1, hB1⟩; have H1 := Lib.hid (And.intro hS1 hB1); clear hS1 hB1) | (go_at_call 17; refine (HD.out _ H1.out.2).mono ?_; rintro e w2 ⟨r2, A1, c1, g, A2, c2, rm, wk, A3, c3, st, rfl, h1, h2, h3, hr2, h4, h5, h6, h7, h8⟩; have H2 := Lib.hid (And.intro h1 (And.intro h2 (And.intro h3 (And.intro h7 h8)))); clear h1 h2 h3 h7 h8) | (go_at_call 54; refine (oneLit_any rb 0 [0, 3, 7, 15, 200, 201, -1] (by decide) (by decide) (by omega) w _ (H1.out.1.below H2.out.2.2.2.2) (H1.out.2.trans (H2.out.2.2.2.2.mono H1.out.2.size))).mono ?_; rintro e w3 ⟨v3, rfl, hv, hS3, hB3, hK3⟩; have hv3 : -1 ≤ v3 ∧ v3 ≤ 201 := (by simp at hv; omega); have H3 := Lib.hid (And.intro hS3 (And.intro hB3 hK3)); clear hv hS3 hB3 hK3))
 have hrb := H1.out.1.lt
 (try simp only [Exit.inBlock, Exit.then])
 refine bodyPost_ret (results_tmp5 rfl _ _ _) rfl ?_
 have hku := KeepUp.of (rb := r2) H3.out.2.2 (by omega)
 exact ⟨_, _, g, _, _, rm, wk, _, _, st, v3, rfl, H2.out.1 _ hku, H2.out.2.1.st _ hku, H2.out.2.2.1.st _ hku, h4, h5, h6, H2.out.2.2.2.1, hv3, H3.out.2.1⟩
set_option maxRecDepth 100000 in
theorem DrawLateTasks_any (A : Option Addr) (c : Nat) (l : List Int) (hb : ∀ x ∈ l, 0 ≤ x ∧ x < 256) (w : World) (hr : (Kd.int .u8).C w A l.length l) (hc : l.length ≤ c) :
  Calls Tryd.prog 51 #[.slice A l.length c] w (DrSt5 (-1) 201 w) := by
 have HN := Lib.hid (newReader_any A c l hb w hr hc)
 have HD := Lib.hid (fun (W : World) (hW : Below w.heap.size w W) => DrawValidStarts_any A c l hb W (Kd.C_below hr hW) hc)
 clear hb hr hc
 go_enter Tryd.func51, Tryd.ntmps51
 go_wp2_with (first | (go_at_call 41; refine HN.out.mono ?_; rintro e w1 ⟨rb, rfl, hS1, hB1⟩; have H1 := Lib.hid (And.intro hS1 hB1); clear hS1 hB1) | (go_at_call 17; refine (HD.out _ H1.out.2).mono ?_; rintro e w2 ⟨r2, A1, c1, g, A2, c2, rm, wk, A3, c3, st, rfl, h1, h2, h3, hr2, h4, h5, h6, h7, h8⟩; have H2 := Lib.hid (And.intro h1 (And.intro h2 (And.intro h3 (And.intro h7 h8)))); clear h1 h2 h3 h7 h8) | (go_at_call 80; refine (someDeadline_any rb 0 (by omega) w _ (H1.out.1.below H2.out.2.2.2.2) (H1.out.2.trans (H2.out.2.2.2.2.mono H1.out.2.size))).mono ?_; rintro e w3 ⟨v3, rfl, hv3, hS3, hB3, hK3⟩; have H3 := Lib.hid (And.intro hS3 (And.intro hB3 hK3)); clear hS3 hB3 hK3))
 have hrb := H1.out.1.lt
 (try simp only [Exit.inBlock, Exit.then])
 refine bodyPost_ret (results_tmp5 rfl _ _ _) rfl ?_
 have hku := KeepUp.of (rb := r2) H3.out.2.2 (by omega)
 exact ⟨_, _, g, _, _, rm, wk, _, _, st, v3, rfl, H2.out.1 _ hku, H2.out.2.1.st _ hku, H2.out.2.2.1.st _ hku, h4, h5, h6, H2.out.2.2.2.1, hv3, H3.out.2.1⟩
theorem DrawMeetsDeadline_any (A : Option Addr) (c : Nat) (l : List Int) (hb : ∀ x ∈ l, 0 ≤ x ∧ x < 256) (w : World) (hr : (Kd.int .u8).C w A l.length l) (hc : l.length ≤ c) :
  Calls Tryd.prog 27 #[.slice A l.length c] w (DrSt5 (-1) 201 w) := by
 have HN := Lib.hid (DrawLateTasks_any A c l hb w hr hc)
 clear hb hr hc
 go_enter Tryd.func27, Tryd.ntmps27
 go_wp2_with (go_at_call 51; refine HN.out.mono ?_; rintro e w1 ⟨A1, c1, g, A2, c2, rm, wk, A3, c3, st, now, rfl, h1⟩; have H1 := Lib.hid h1; clear h1)
 (try simp only [Exit.inBlock, Exit.then])
 refine bodyPost_ret (results_tmp5 rfl _ _ _) rfl ?_
 exact ⟨_, _, g, _, _, rm, wk, _, _, st, now, rfl, H1.out⟩
end Go.Proofs.YtnbkkiacffkfmaaDoor

namespace Go.Proofs.YtnbkkiacffkfmaaDoor
set_option linter.unusedVariables false
set_option linter.unusedSimpArgs false
open Go.RowKit Go.Shelf Bits
open Go.Proofs.YtnbkkiacffkfmaaDoorW.PrintWords Go.Proofs.YtnbkkiacffkfmaaDoorW.PrintLast Go.Proofs.YtnbkkiacffkfmaaDoorW.PrintMore
attribute [local go_sem] Oper.semAt_some
def rowF (F : Nat → Int) (n j : Nat) : List Int := (List.range n).map fun i => if i < j then F i else 0
theorem rowF_len (F : Nat → Int) (n j : Nat) : (rowF F n j).length = n := by simp [rowF]
theorem rowF_zero (F : Nat → Int) (n : Nat) : rowF F n 0 = List.replicate n 0 := by
 unfold rowF
 apply List.ext_getElem (by simp)
 intro i h1 h2
 simp
theorem rowF_set (F : Nat → Int) (n j : Nat) : (rowF F n j).set j (F j) = rowF F n (j + 1) := by
 unfold rowF
 apply List.ext_getElem (by simp)
 intro i h1 h2
 simp only [List.getElem_set, List.getElem_map, List.getElem_range]
 by_cases h : j = i
 ·
  rw [if_pos h, if_pos (by omega), h]
 ·
  rw [if_neg h]
  by_cases h' : i < j
  ·
   rw [if_pos h', if_pos (by omega)]
  ·
   rw [if_neg h', if_neg (by omega)]
theorem rowF_end (F : Nat → Int) (n : Nat) : rowF F n n = (List.range n).map F := by
 unfold rowF
 apply List.map_congr_left
 intro i hi
 rw [if_pos (List.mem_range.1 hi)]
set_option maxRecDepth 100000 in
set_option maxHeartbeats 4000000 in
theorem CancelAt_impl (A : Option Addr) (c : Nat) (g : List Tk) (A1 : Option Addr) (c1 : Nat) (rm : List Int) (wk : Int) (A2 : Option Addr) (c2 : Nat) (st : List Int) (now : Int) (w : World) (hr : kTk.C w A g.length g) (hr1 : (Kd.int .i64).C w A1 rm.length rm) (hr2 : (Kd.int .i64).C w A2 st.length st) (hT : Tab w) :
  Calls Tryd.prog 31 #[.slice A g.length c, .slice A1 rm.length c1, .int .i64 wk, .slice A2 st.length c2, .int .i64 now] w fun e w' => ∃ v, e = .returned v ∧ Kd.R (Kd.int .i64) 3 w' w.heap.size (fun _ => True) v (caS g rm wk st now) ∧ Below w.heap.size w w' := by
 cases h : vStB g rm wk st with
 | true =>
  have HP := Lib.hid (startsIn_yes A c g A1 c1 rm wk A2 c2 st h w hr hr1 hr2 hT)
  have HV := Lib.hid (vSt_valid h)
  have HR2 := Lib.hid hr2
  have hgl8 := HV.out.ok.1
  have hl8 : st.length ≤ 8 := by rw [HV.out.len]; exact HV.out.ok.1
  cases h3 : inB now 0 200 with
  | true =>
   have HF : Hid (caS g rm wk st now = rowF (cancF g st now) g.length st.length) := Lib.hid (by unfold caS; rw [h, h3, Bool.and_self, if_pos rfl, HV.out.len, rowF_end])
   have H3 := Lib.hid h3
   have hmk := run_makeI g.length (by omega)
   clear hr hr1 hr2 hT h h3
   go_enter Tryd.func31, Tryd.ntmps31
   go_wp2_with (first | (go_at_call 44; refine HP.out.mono ?_; rintro e w1 ⟨C, ns, rfl, hg, hG, hB1⟩; have HB1 := Lib.hid hB1; have HG := Lib.hid hG; clear hg hB1 hG) | (go_at_call 47; refine (within_is _ _ _ _ H3 _).mono ?_; rintro e w2 ⟨rfl, rfl⟩) | (go_at_call 55; refine (size_calls _ C g ns HG.out).mono ?_; rintro e w3 ⟨rfl, rfl⟩))
   clear hmk
   obtain ⟨w1, rfl⟩ : ∃ w1 : World, w1 = w3 := ⟨_, rfl⟩
   have hI0 : IRow (w1.alloc (.cells (zeroI g.length) 3)) w1.heap.size (rowF (cancF g st now) g.length 0) := by
    rw [rowF_zero]
    exact World.alloc_heap_new w1 _
   have hB0 : Below w1.heap.size w1 (w1.alloc (.cells (zeroI g.length) 3)) := (Below.refl _ _).alloc (Nat.le_refl _) _
   go_loopw [36] (fun i wr => ∃ j, j ≤ st.length ∧ i = .int .i64 (j : Nat) ∧ IRow wr w1.heap.size (rowF (cancF g st now) g.length j) ∧ Below w1.heap.size w1 wr) (fun i _ => st.length - (intOf i).toNat)
   case atStart => exact ⟨0, Nat.zero_le _, rfl, hI0, hB0⟩
   case round =>
    clear hI0 hB0
    obtain ⟨j, hj, rfl, hI, hB⟩ := hrel
    by_cases hjl : j < st.length
    ·
     have hjg : j < g.length := by rw [← HV.out.len]; exact hjl
     obtain ⟨Ag, cg, An, cn, Ao, co, vb, va, h1, h2, _, _⟩ := HG.out.below hB
     have cC := blk_cell h1 0
     simp at cC
     obtain ⟨ad, A4, c4, rfl, hc0, _⟩ := at_Tk h2 j hjg
     obtain ⟨ads, rfl, cs⟩ := at_num (Kd.C_below HR2.out (HB1.out.trans (hB.mono HB1.out.size))) j hjl
     have hjj : decide ((j : Int) < (st.length : Int)) = true := decide_eq_true (by omega)
     have hji : (j : Int) < (g.length : Int) := by omega
     have hjsi : (j : Int) < (st.length : Int) := by omega
     have cr := hI.cell j (by rw [rowF_len]; exact hjg)
     have fr := hI.frozen j
     have HE : Hid ((rowF (cancF g st now) g.length j).set j (cancF g st now j) = rowF (cancF g st now) g.length (j + 1)) := Lib.hid (rowF_set _ _ _)
     have HBD : Hid (cancF g st now j = if st.getD j 0 + (rdTk g j).f0 ≤ now then 0 else if st.getD j 0 < now then 1 else 3) := Lib.hid rfl
     have hsj := HV.out.sok j
     have htj := HV.out.ok.2.1 j
     generalize st.getD j 0 = s at cs hsj HBD
     generalize (rdTk g j).f0 = tm at hc0 htj HBD
     generalize cancF g st now j = cj at HE HBD
     have hwr : IntKind.i64.wrap (s + tm) = s + tm := IntWalk.i64_in _ (by omega)
     have HI := Lib.hid hI
     have HBo := Lib.hid hB
     clear h1 h2 hI hB
     by_cases g1 : s + tm ≤ now
     ·
      have d1 : decide (s + tm ≤ now) = true := decide_eq_true g1
      rw [if_pos g1] at HBD
      clear g1
      go_wp2
      clear hwr
      go_roundw
      case rel => exact ⟨j + 1, by omega, by go_num, by rw [← HE.out, HBD.out]; exact HI.out.set j 0, HBo.out.setCell (p := ⟨w1.heap.size, j, none⟩) (Nat.le_refl _) _⟩
      case measure => simp [intOf]; omega
     ·
      have d1 : decide (s + tm ≤ now) = false := decide_eq_false g1
      rw [if_neg g1] at HBD
      clear g1
      by_cases g2 : s < now
      ·
       have d2 : decide (s < now) = true := decide_eq_true g2
       rw [if_pos g2] at HBD
       clear g2
       go_wp2
       clear hwr
       go_roundw
       case rel => exact ⟨j + 1, by omega, by go_num, by rw [← HE.out, HBD.out]; exact HI.out.set j 1, HBo.out.setCell (p := ⟨w1.heap.size, j, none⟩) (Nat.le_refl _) _⟩
       case measure => simp [intOf]; omega
      ·
       have d2 : decide (s < now) = false := decide_eq_false g2
       rw [if_neg g2] at HBD
       clear g2
       go_wp2
       clear hwr
       go_roundw
       case rel => exact ⟨j + 1, by omega, by go_num, by rw [← HE.out, HBD.out]; exact HI.out.set j 3, HBo.out.setCell (p := ⟨w1.heap.size, j, none⟩) (Nat.le_refl _) _⟩
       case measure => simp [intOf]; omega
    ·
     obtain rfl : j = st.length := by omega
     have hjj : decide ((st.length : Int) < (st.length : Int)) = false := decide_eq_false (by omega)
     go_wp2
     go_ret
     have hz := HB1.out.size
     have hO := hI.own (base := w.heap.size) hz (by rw [rowF_len]; omega)
     rw [rowF_len, ← HF.out] at hO
     exact ⟨_, rfl, hO, HB1.out.trans (hB.mono hz)⟩
  | false =>
   have HF : Hid (caS g rm wk st now = []) := Lib.hid (by unfold caS; rw [h3, Bool.and_false]; rfl)
   have H3 := Lib.hid h3
   clear hr hr1 hr2 hT h h3
   go_enter Tryd.func31, Tryd.ntmps31
   go_wp2_with (first | (go_at_call 44; refine HP.out.mono ?_; rintro e w1 ⟨C, ns, rfl, hg, hG, hB1⟩; have HB1 := Lib.hid hB1; have HG := Lib.hid hG; clear hg hB1 hG) | (go_at_call 47; refine (within_is _ _ _ _ H3 _).mono ?_; rintro e w2 ⟨rfl, rfl⟩))
   go_ret
   exact ⟨_, rfl, by rw [HF.out]; exact R_nilJ _ _, HB1.out⟩
 | false =>
  have HF : Hid (caS g rm wk st now = []) := Lib.hid (by unfold caS; rw [h]; rfl)
  have HP := Lib.hid (startsIn_no A c g A1 c1 rm wk A2 c2 st h w hr hr1 hr2 hT)
  clear hr hr1 hr2 hT h
  go_enter Tryd.func31, Tryd.ntmps31
  go_wp2_with (go_at_call 44; refine HP.out.mono ?_; rintro e w1 ⟨rfl, hB1⟩)
  go_ret
  exact ⟨_, rfl, by rw [HF.out]; exact R_nilJ _ _, hB1⟩
end Go.Proofs.YtnbkkiacffkfmaaDoor
