/- Parts of the proof, laid as one text by a program of mine. -/
import Derived.Test.YtdjdfbfcjajlkaaDoorKcc20
import Derived.Test.YtdjdfbfcjajlkaaDoorKcc5
import Derived.Test.YtdjdfbfcjajlkaaDoorKcc21
namespace Go.Proofs.YtdjdfbfcjajlkaaDoor
set_option linter.unusedVariables false
set_option linter.unusedSimpArgs false
open Go.RowKit Go.Shelf Bits
open Go.Proofs.YtdjdfbfcjajlkaaDoorW.PrintWords Go.Proofs.YtdjdfbfcjajlkaaDoorW.PrintLast Go.Proofs.YtdjdfbfcjajlkaaDoorW.PrintMore
attribute [local go_sem] Oper.semAt_some
def rowF (F : Nat → Int) (n j : Nat) : List Int := (List.range n).map fun i => if i < j then F i else 0
theorem rowF_len (F : Nat → Int) (n j : Nat) : (rowF F n j).length = n := by simp [rowF]
theorem rowF_zero (F : Nat → Int) (n : Nat) : rowF F n 0 = List.replicate n 0 := by
 unfold rowF
 apply List.ext_getElem (by simp)
 intro i h1 h2
 simp
theorem rowF_set (F : Nat → Int) (n j : Nat) : (rowF F n j).set j (F j) = rowF F n (j + 1) := by
 unfold rowF
 apply List.ext_getElem (by simp)
 intro i h1 h2
 simp only [List.getElem_set, List.getElem_map, List.getElem_range]
 by_cases h : j = i
 ·
  rw [if_pos h, if_pos (by omega), h]
 ·
  rw [if_neg h]
  by_cases h' : i < j
  ·
   rw [if_pos h', if_pos (by omega)]
  ·
   rw [if_neg h', if_neg (by omega)]
theorem rowF_end (F : Nat → Int) (n : Nat) : rowF F n n = (List.range n).map F := by
 unfold rowF
 apply List.map_congr_left
 intro i hi
 rw [if_pos (List.mem_range.1 hi)]
set_option maxRecDepth 100000 in
set_option maxHeartbeats 4000000 in
theorem CancelAt_impl (A : Option Addr) (c : Nat) (g : List Tk) (A1 : Option Addr) (c1 : Nat) (rm : List Int) (wk : Int) (A2 : Option Addr) (c2 : Nat) (st : List Int) (now : Int) (w : World) (hr : kTk.C w A g.length g) (hr1 : (Kd.int .i64).C w A1 rm.length rm) (hr2 : (Kd.int .i64).C w A2 st.length st) (hT : Tab w) :
  Calls Tryd.prog 35 #[.slice A g.length c, .slice A1 rm.length c1, .int .i64 wk, .slice A2 st.length c2, .int .i64 now] w fun e w' => ∃ v, e = .returned v ∧ Kd.R (Kd.int .i64) 3 w' w.heap.size (fun _ => True) v (caS g rm wk st now) ∧ Below w.heap.size w w' := by
 cases h : vStB g rm wk st with
 | true =>
  have HP := Lib.hid (startsIn_yes A c g A1 c1 rm wk A2 c2 st h w hr hr1 hr2 hT)
  have HV := Lib.hid (vSt_valid h)
  have HR2 := Lib.hid hr2
  have hgl8 := HV.out.ok.1
  have hl8 : st.length ≤ 8 := by rw [HV.out.len]; exact HV.out.ok.1
  cases h3 : inB now 0 200 with
  | true =>
   have HF : Hid (caS g rm wk st now = rowF (cancF g st now) g.length st.length) := Lib.hid (by unfold caS; rw [h, h3, Bool.and_self, if_pos rfl, HV.out.len, rowF_end])
   have H3 := Lib.hid h3
   have hmk := run_makeI g.length (by omega)
   clear hr hr1 hr2 hT h h3
   go_enter Tryd.func35, Tryd.ntmps35
   go_wp2_with (first | (go_at_call 60; refine HP.out.mono ?_; rintro e w1 ⟨C, ns, rfl, hg, hG, hB1⟩; have HB1 := Lib.hid hB1; have HG := Lib.hid hG; clear hg hB1 hG) | (go_at_call 64; refine (within_is _ _ _ _ H3 _).mono ?_; rintro e w2 ⟨rfl, rfl⟩) | (go_at_call 65; refine (size_calls _ C g ns HG.out).mono ?_; rintro e w3 ⟨rfl, rfl⟩))
   clear hmk
   obtain ⟨w1, rfl⟩ : ∃ w1 : World, w1 = w3 := ⟨_, rfl⟩
   have hI0 : IRow (w1.alloc (.cells (zeroI g.length) 3)) w1.heap.size (rowF (cancF g st now) g.length 0) := by
    rw [rowF_zero]
    exact World.alloc_heap_new w1 _
   have hB0 : Below w1.heap.size w1 (w1.alloc (.cells (zeroI g.length) 3)) := (Below.refl _ _).alloc (Nat.le_refl _) _
   go_loopw [36] (fun i wr => ∃ j, j ≤ st.length ∧ i = .int .i64 (j : Nat) ∧ IRow wr w1.heap.size (rowF (cancF g st now) g.length j) ∧ Below w1.heap.size w1 wr) (fun i _ => st.length - (intOf i).toNat)
   case atStart => exact ⟨0, Nat.zero_le _, rfl, hI0, hB0⟩
   case round =>
    clear hI0 hB0
    obtain ⟨j, hj, rfl, hI, hB⟩ := hrel
    by_cases hjl : j < st.length
    ·
     have hjg : j < g.length := by rw [← HV.out.len]; exact hjl
     obtain ⟨Ag, cg, An, cn, Ao, co, vb, va, h1, h2, _, _⟩ := HG.out.below hB
     have cC := blk_cell h1 0
     simp at cC
     obtain ⟨ad, A4, c4, rfl, hc0, _⟩ := at_Tk h2 j hjg
     obtain ⟨ads, rfl, cs⟩ := at_num (Kd.C_below HR2.out (HB1.out.trans (hB.mono HB1.out.size))) j hjl
     have hjj : decide ((j : Int) < (st.length : Int)) = true := decide_eq_true (by omega)
     have hji : (j : Int) < (g.length : Int) := by omega
     have hjsi : (j : Int) < (st.length : Int) := by omega
     have cr := hI.cell j (by rw [rowF_len]; exact hjg)
     have fr := hI.frozen j
     have HE : Hid ((rowF (cancF g st now) g.length j).set j (cancF g st now j) = rowF (cancF g st now) g.length (j + 1)) := Lib.hid (rowF_set _ _ _)
     have HBD : Hid (cancF g st now j = if st.getD j 0 + (rdTk g j).f0 ≤ now then 0 else if st.getD j 0 < now then 1 else 3) := Lib.hid rfl
     have hsj := HV.out.sok j
     have htj := HV.out.ok.2.1 j
     generalize st.getD j 0 = s at cs hsj HBD
     generalize (rdTk g j).f0 = tm at hc0 htj HBD
     generalize cancF g st now j = cj at HE HBD
     have hwr : IntKind.i64.wrap (s + tm) = s + tm := IntWalk.i64_in _ (by omega)
     have HI := Lib.hid hI
     have HBo := Lib.hid hB
     clear h1 h2 hI hB
     by_cases g1 : s + tm ≤ now
     ·
      have d1 : decide (s + tm ≤ now) = true := decide_eq_true g1
      rw [if_pos g1] at HBD
      clear g1
      go_wp2
      clear hwr
      go_roundw
      case rel => exact ⟨j + 1, by omega, by go_num, by rw [← HE.out, HBD.out]; exact HI.out.set j 0, HBo.out.setCell (p := ⟨w1.heap.size, j, none⟩) (Nat.le_refl _) _⟩
      case measure => simp [intOf]; omega
     ·
      have d1 : decide (s + tm ≤ now) = false := decide_eq_false g1
      rw [if_neg g1] at HBD
      clear g1
      by_cases g2 : s < now
      ·
       have d2 : decide (s < now) = true := decide_eq_true g2
       rw [if_pos g2] at HBD
       clear g2
       go_wp2
       clear hwr
       go_roundw
       case rel => exact ⟨j + 1, by omega, by go_num, by rw [← HE.out, HBD.out]; exact HI.out.set j 1, HBo.out.setCell (p := ⟨w1.heap.size, j, none⟩) (Nat.le_refl _) _⟩
       case measure => simp [intOf]; omega
      ·
       have d2 : decide (s < now) = false := decide_eq_false g2
       rw [if_neg g2] at HBD
       clear g2
       go_wp2
       clear hwr
       go_roundw
       case rel => exact ⟨j + 1, by omega, by go_num, by rw [← HE.out, HBD.out]; exact HI.out.set j 3, HBo.out.setCell (p := ⟨w1.heap.size, j, none⟩) (Nat.le_refl _) _⟩
       case measure => simp [intOf]; omega
    ·
     obtain rfl : j = st.length := by omega
     have hjj : decide ((st.length : Int) < (st.length : Int)) = false := decide_eq_false (by omega)
     go_wp2
     go_ret
     have hz := HB1.out.size
     have hO := hI.own (base := w.heap.size) hz (by rw [rowF_len]; omega)
     rw [rowF_len, ← HF.out] at hO
     exact ⟨_, rfl, hO, HB1.out.trans (hB.mono hz)⟩
  | false =>
   have HF : Hid (caS g rm wk st now = []) := Lib.hid (by unfold caS; rw [h3, Bool.and_false]; rfl)
   have H3 := Lib.hid h3
   clear hr hr1 hr2 hT h h3
   go_enter Tryd.func35, Tryd.ntmps35
   go_wp2_with (first | (go_at_call 60; refine HP.out.mono ?_; rintro e w1 ⟨C, ns, rfl, hg, hG, hB1⟩; have HB1 := Lib.hid hB1; have HG := Lib.hid hG; clear hg hB1 hG) | (go_at_call 64; refine (within_is _ _ _ _ H3 _).mono ?_; rintro e w2 ⟨rfl, rfl⟩))
   go_ret
   exact ⟨_, rfl, by rw [HF.out]; exact R_nilJ _ _, HB1.out⟩
 | false =>
  have HF : Hid (caS g rm wk st now = []) := Lib.hid (by unfold caS; rw [h]; rfl)
  have HP := Lib.hid (startsIn_no A c g A1 c1 rm wk A2 c2 st h w hr hr1 hr2 hT)
  clear hr hr1 hr2 hT h
  go_enter Tryd.func35, Tryd.ntmps35
  go_wp2_with (go_at_call 60; refine HP.out.mono ?_; rintro e w1 ⟨rfl, hB1⟩)
  go_ret
  exact ⟨_, rfl, by rw [HF.out]; exact R_nilJ _ _, hB1⟩
end Go.Proofs.YtdjdfbfcjajlkaaDoor

namespace Go.Proofs.YtdjdfbfcjajlkaaDoor
set_option linter.unusedVariables false
set_option linter.unusedSimpArgs false
open Go.RowKit Go.Shelf Bits
open Go.Proofs.YtdjdfbfcjajlkaaDoorW.PrintWords Go.Proofs.YtdjdfbfcjajlkaaDoorW.PrintLast Go.Proofs.YtdjdfbfcjajlkaaDoorW.PrintMore
attribute [local go_sem] Oper.semAt_some
set_option maxRecDepth 1000000 in
set_option maxHeartbeats 8000000 in
theorem FnExactCancelAt_walk (A : Option Addr) (c : Nat) (g : List Tk) (A1 : Option Addr) (c1 : Nat) (rm : List Int) (wk : Int) (A2 : Option Addr) (c2 : Nat) (st : List Int) (now : Int) (w : World) (hT : Tab w) (hr : kTk.C w A g.length g) (hr1 : (Kd.int .i64).C w A1 rm.length rm) (hr2 : (Kd.int .i64).C w A2 st.length st) :
  Calls Tryd.prog 9 #[.slice A g.length c, .slice A1 rm.length c1, .int .i64 wk, .slice A2 st.length c2, .int .i64 now] w fun e w' => e = .returned (.bool true) ∧ Below w.heap.size w w' := by
 by_cases hb1 : ¬ rm.length ≤ 1048576
 ·
  have d : decide ((1048576 : Int) < (rm.length : Int)) = true := decide_eq_true (by omega)
  clear hb1 hr hr1 hr2 hT
  go_enter Tryd.func9, Tryd.ntmps9
  go_wp2
  go_ret
  exact ⟨rfl, by repeat (first | exact Below.refl _ _ | apply pw_below_drewN)⟩
 have hb1 : rm.length ≤ 1048576 := by omega
 have d1 : decide ((1048576 : Int) < (rm.length : Int)) = false := decide_eq_false (by omega)
 by_cases hb2 : ¬ st.length ≤ 1048576
 ·
  have d : decide ((1048576 : Int) < (st.length : Int)) = true := decide_eq_true (by omega)
  clear hb2 hr hr1 hr2 hT
  go_enter Tryd.func9, Tryd.ntmps9
  go_wp2
  go_ret
  exact ⟨rfl, by repeat (first | exact Below.refl _ _ | apply pw_below_drewN)⟩
 have hb2 : st.length ≤ 1048576 := by omega
 have d2 : decide ((1048576 : Int) < (st.length : Int)) = false := decide_eq_false (by omega)
 have HSZ := Lib.hid (fun (W : World) (hW : Below w.heap.size w W) => szTaskS_calls A c g W (Kd.C_below hr hW))
 by_cases hsz : szF g g.length < 0
 ·
  have dn : decide (szF g g.length < 0) = true := decide_eq_true hsz
  generalize szF g g.length = r at HSZ dn
  clear hb1 hr hr1 hT hsz hb2 hr2
  go_enter Tryd.func9, Tryd.ntmps9
  go_wp2_with (go_at_call 14; refine (HSZ.out _ (Below.refl _ _)).mono ?_; rintro e w1 ⟨rfl, hB⟩)
  go_ret
  exact ⟨rfl, hB⟩
 have dn : decide (szF g g.length < 0) = false := decide_eq_false hsz
 obtain ⟨hgl, hnl⟩ := szF_small (g := g) (by omega)
 have HKPG := Lib.hid (fun (W : World) (hW : Below w.heap.size w W) => toTaskS_C A c g hgl hnl W (Kd.C_below hr hW))
 have HKPR := Lib.hid (fun (W : World) (hW : Below w.heap.size w W) => toIntS_C A1 c1 rm hb1 W (Kd.C_below hr1 hW))
 have HKPS := Lib.hid (fun (W : World) (hW : Below w.heap.size w W) => toIntS_C A2 c2 st hb2 W (Kd.C_below hr2 hW))
 have HKXG := Lib.hid (fun (W : World) (hW : Below w.heap.size w W) => toTaskS_T A c g hgl hnl W (Kd.C_below hr hW))
 have HKXR := Lib.hid (fun (W : World) (hW : Below w.heap.size w W) => toIntS_T A1 c1 rm hb1 W (Kd.C_below hr1 hW))
 have HKXS := Lib.hid (fun (W : World) (hW : Below w.heap.size w W) => toIntS_T A2 c2 st hb2 W (Kd.C_below hr2 hW))
 have HKYG := Lib.hid (fun (W : World) (hW : Below w.heap.size w W) => toTaskS_C A c g hgl hnl W (Kd.C_below hr hW))
 have HKYR := Lib.hid (fun (W : World) (hW : Below w.heap.size w W) => toIntS_C A1 c1 rm hb1 W (Kd.C_below hr1 hW))
 have HKYS := Lib.hid (fun (W : World) (hW : Below w.heap.size w W) => toIntS_C A2 c2 st hb2 W (Kd.C_below hr2 hW))
 have HKQG := Lib.hid (fun (W : World) (hW : Below w.heap.size w W) => toTaskS_C A c g hgl hnl W (Kd.C_below hr hW))
 have HKQR := Lib.hid (fun (W : World) (hW : Below w.heap.size w W) => toIntS_C A1 c1 rm hb1 W (Kd.C_below hr1 hW))
 have HKQS := Lib.hid (fun (W : World) (hW : Below w.heap.size w W) => toIntS_C A2 c2 st hb2 W (Kd.C_below hr2 hW))
 have HTW := Lib.hid (fun (W : World) (hW : Below w.heap.size w W) => hT.keep hT.lt hW)
 have HW := Lib.hid (Below.refl w.heap.size w)
 have HS := Lib.hid (fun (BG : Option Addr) (kG : Nat) (BR : Option Addr) (kR : Nat) (BS : Option Addr) (kS : Nat) (W : World) (hG : kTk.C W BG g.length g) (hR : (Kd.int .i64).C W BR rm.length rm) (hS : (Kd.int .i64).C W BS st.length st) => sCancelAt_calls BG kG g BR kR rm wk BS kS st now W hG hR hS)
 have HI := Lib.hid (fun (BG : Option Addr) (kG : Nat) (BR : Option Addr) (kR : Nat) (BS : Option Addr) (kS : Nat) (W : World) (hG : kTk.C W BG g.length g) (hR : (Kd.int .i64).C W BR rm.length rm) (hS : (Kd.int .i64).C W BS st.length st) (hT : Tab W) => CancelAt_impl BG kG g BR kR rm wk BS kS st now W hG hR hS hT)
 have hll : (caS g rm wk st now).length ≤ 1048576 := by unfold caS; split <;> first | (rw [List.length_map, List.length_range]; exact hgl) | exact Nat.zero_le _
 generalize caS g rm wk st now = v at HS HI hll
 have HI2 := HI
 have dh : decide ((1 : Int) + (v.length : Int) < 0) = false := decide_eq_false (by omega)
 have dh2 : ((1 : Int) + (v.length : Int) != (1 : Int) + (v.length : Int)) = false := bne_self_eq_false _
 have HLL := Lib.hid hll
 have HGL := Lib.hid hgl
 have HB1 := Lib.hid hb1
 have HB2 := Lib.hid hb2
 generalize szF g g.length = r at HSZ dn hsz
 clear hr hr1 hT hsz hgl hnl hb1 hll hb2 hr2
 go_enter Tryd.func9, Tryd.ntmps9
 go_wp2_with (first | (go_at_call 16; with_reducible refine (HKPG.out _ HW.out).mono ?_; rintro e wPG ⟨bPG, rfl, hC, hB⟩; have HW := Lib.hid (HW.out.trans (hB.mono HW.out.size)); (try have HWS := Lib.hid (HWS.out.trans (hB.mono HWS.out.size))); (try have HCPG := Lib.hid (Kd.C_below HCPG.out hB)); (try have HCPR := Lib.hid (Kd.C_below HCPR.out hB)); (try have HCPS := Lib.hid (Kd.C_below HCPS.out hB)); (try have HCXG := Lib.hid (Kd.C_below HCXG.out hB)); (try have HCXR := Lib.hid (Kd.C_below HCXR.out hB)); (try have HCXS := Lib.hid (Kd.C_below HCXS.out hB)); (try have HCYG := Lib.hid (Kd.C_below HCYG.out hB)); (try have HCYR := Lib.hid (Kd.C_below HCYR.out hB)); (try have HCYS := Lib.hid (Kd.C_below HCYS.out hB)); (try have HCQG := Lib.hid (Kd.C_below HCQG.out hB)); (try have HCQR := Lib.hid (Kd.C_below HCQR.out hB)); (try have HCQS := Lib.hid (Kd.C_below HCQS.out hB)); (try have HMG := Lib.hid (HMG.out.below hB)); (try have HMR := Lib.hid (HMR.out.below hB)); (try have HMS := Lib.hid (HMS.out.below hB)); (try have HRG := Lib.hid (Kd.R_below HRG.out hB)); (try have HH := Lib.hid (HH.out.below hB)); (try have HC9 := Lib.hid (Kd.C_below HC9.out hB)); have HCPG := Lib.hid hC; clear HKPG hC hB) | (go_at_call 17; with_reducible refine (HKPR.out _ HW.out).mono ?_; rintro e wPR ⟨bPR, rfl, hC, hB⟩; have HW := Lib.hid (HW.out.trans (hB.mono HW.out.size)); (try have HWS := Lib.hid (HWS.out.trans (hB.mono HWS.out.size))); (try have HCPG := Lib.hid (Kd.C_below HCPG.out hB)); (try have HCPR := Lib.hid (Kd.C_below HCPR.out hB)); (try have HCPS := Lib.hid (Kd.C_below HCPS.out hB)); (try have HCXG := Lib.hid (Kd.C_below HCXG.out hB)); (try have HCXR := Lib.hid (Kd.C_below HCXR.out hB)); (try have HCXS := Lib.hid (Kd.C_below HCXS.out hB)); (try have HCYG := Lib.hid (Kd.C_below HCYG.out hB)); (try have HCYR := Lib.hid (Kd.C_below HCYR.out hB)); (try have HCYS := Lib.hid (Kd.C_below HCYS.out hB)); (try have HCQG := Lib.hid (Kd.C_below HCQG.out hB)); (try have HCQR := Lib.hid (Kd.C_below HCQR.out hB)); (try have HCQS := Lib.hid (Kd.C_below HCQS.out hB)); (try have HMG := Lib.hid (HMG.out.below hB)); (try have HMR := Lib.hid (HMR.out.below hB)); (try have HMS := Lib.hid (HMS.out.below hB)); (try have HRG := Lib.hid (Kd.R_below HRG.out hB)); (try have HH := Lib.hid (HH.out.below hB)); (try have HC9 := Lib.hid (Kd.C_below HC9.out hB)); have HCPR := Lib.hid hC; clear HKPR hC hB) | (go_at_call 17; with_reducible refine (HKPS.out _ HW.out).mono ?_; rintro e wPS ⟨bPS, rfl, hC, hB⟩; have HW := Lib.hid (HW.out.trans (hB.mono HW.out.size)); (try have HWS := Lib.hid (HWS.out.trans (hB.mono HWS.out.size))); (try have HCPG := Lib.hid (Kd.C_below HCPG.out hB)); (try have HCPR := Lib.hid (Kd.C_below HCPR.out hB)); (try have HCPS := Lib.hid (Kd.C_below HCPS.out hB)); (try have HCXG := Lib.hid (Kd.C_below HCXG.out hB)); (try have HCXR := Lib.hid (Kd.C_below HCXR.out hB)); (try have HCXS := Lib.hid (Kd.C_below HCXS.out hB)); (try have HCYG := Lib.hid (Kd.C_below HCYG.out hB)); (try have HCYR := Lib.hid (Kd.C_below HCYR.out hB)); (try have HCYS := Lib.hid (Kd.C_below HCYS.out hB)); (try have HCQG := Lib.hid (Kd.C_below HCQG.out hB)); (try have HCQR := Lib.hid (Kd.C_below HCQR.out hB)); (try have HCQS := Lib.hid (Kd.C_below HCQS.out hB)); (try have HMG := Lib.hid (HMG.out.below hB)); (try have HMR := Lib.hid (HMR.out.below hB)); (try have HMS := Lib.hid (HMS.out.below hB)); (try have HRG := Lib.hid (Kd.R_below HRG.out hB)); (try have HH := Lib.hid (HH.out.below hB)); (try have HC9 := Lib.hid (Kd.C_below HC9.out hB)); have HCPS := Lib.hid hC; clear HKPS hC hB) | (go_at_call 16; with_reducible refine (HKXG.out _ HW.out).mono ?_; have HWS0 := Lib.hid HWS.out.size; rintro e wXG ⟨bXG, rfl, hC, hM, hB⟩; have HW := Lib.hid (HW.out.trans (hB.mono HW.out.size)); (try have HWS := Lib.hid (HWS.out.trans (hB.mono HWS.out.size))); (try have HCPG := Lib.hid (Kd.C_below HCPG.out hB)); (try have HCPR := Lib.hid (Kd.C_below HCPR.out hB)); (try have HCPS := Lib.hid (Kd.C_below HCPS.out hB)); (try have HCXG := Lib.hid (Kd.C_below HCXG.out hB)); (try have HCXR := Lib.hid (Kd.C_below HCXR.out hB)); (try have HCXS := Lib.hid (Kd.C_below HCXS.out hB)); (try have HCYG := Lib.hid (Kd.C_below HCYG.out hB)); (try have HCYR := Lib.hid (Kd.C_below HCYR.out hB)); (try have HCYS := Lib.hid (Kd.C_below HCYS.out hB)); (try have HCQG := Lib.hid (Kd.C_below HCQG.out hB)); (try have HCQR := Lib.hid (Kd.C_below HCQR.out hB)); (try have HCQS := Lib.hid (Kd.C_below HCQS.out hB)); (try have HMG := Lib.hid ((HMG.out.below hB).wide (Nat.le_refl _) hB.size)); (try have HMR := Lib.hid ((HMR.out.below hB).wide (Nat.le_refl _) hB.size)); (try have HMS := Lib.hid ((HMS.out.below hB).wide (Nat.le_refl _) hB.size)); have HCXG := Lib.hid hC; have HMG := Lib.hid (hM.wide (lo' := wS.heap.size) (by have h0 := HWS0.out; exact h0) (Nat.le_refl _)); clear HWS0 HKXG hC hM hB) | (go_at_call 17; with_reducible refine (HKXR.out _ HW.out).mono ?_; have HWS0 := Lib.hid HWS.out.size; rintro e wXR ⟨bXR, rfl, hC, hM, hB⟩; have HW := Lib.hid (HW.out.trans (hB.mono HW.out.size)); (try have HWS := Lib.hid (HWS.out.trans (hB.mono HWS.out.size))); (try have HCPG := Lib.hid (Kd.C_below HCPG.out hB)); (try have HCPR := Lib.hid (Kd.C_below HCPR.out hB)); (try have HCPS := Lib.hid (Kd.C_below HCPS.out hB)); (try have HCXG := Lib.hid (Kd.C_below HCXG.out hB)); (try have HCXR := Lib.hid (Kd.C_below HCXR.out hB)); (try have HCXS := Lib.hid (Kd.C_below HCXS.out hB)); (try have HCYG := Lib.hid (Kd.C_below HCYG.out hB)); (try have HCYR := Lib.hid (Kd.C_below HCYR.out hB)); (try have HCYS := Lib.hid (Kd.C_below HCYS.out hB)); (try have HCQG := Lib.hid (Kd.C_below HCQG.out hB)); (try have HCQR := Lib.hid (Kd.C_below HCQR.out hB)); (try have HCQS := Lib.hid (Kd.C_below HCQS.out hB)); (try have HMG := Lib.hid ((HMG.out.below hB).wide (Nat.le_refl _) hB.size)); (try have HMR := Lib.hid ((HMR.out.below hB).wide (Nat.le_refl _) hB.size)); (try have HMS := Lib.hid ((HMS.out.below hB).wide (Nat.le_refl _) hB.size)); have HCXR := Lib.hid hC; have HMR := Lib.hid (hM.wide (lo' := wS.heap.size) (by have h0 := HWS0.out; exact h0) (Nat.le_refl _)); clear HWS0 HKXR hC hM hB) | (go_at_call 17; with_reducible refine (HKXS.out _ HW.out).mono ?_; have HWS0 := Lib.hid HWS.out.size; rintro e wXS ⟨bXS, rfl, hC, hM, hB⟩; have HW := Lib.hid (HW.out.trans (hB.mono HW.out.size)); (try have HWS := Lib.hid (HWS.out.trans (hB.mono HWS.out.size))); (try have HCPG := Lib.hid (Kd.C_below HCPG.out hB)); (try have HCPR := Lib.hid (Kd.C_below HCPR.out hB)); (try have HCPS := Lib.hid (Kd.C_below HCPS.out hB)); (try have HCXG := Lib.hid (Kd.C_below HCXG.out hB)); (try have HCXR := Lib.hid (Kd.C_below HCXR.out hB)); (try have HCXS := Lib.hid (Kd.C_below HCXS.out hB)); (try have HCYG := Lib.hid (Kd.C_below HCYG.out hB)); (try have HCYR := Lib.hid (Kd.C_below HCYR.out hB)); (try have HCYS := Lib.hid (Kd.C_below HCYS.out hB)); (try have HCQG := Lib.hid (Kd.C_below HCQG.out hB)); (try have HCQR := Lib.hid (Kd.C_below HCQR.out hB)); (try have HCQS := Lib.hid (Kd.C_below HCQS.out hB)); (try have HMG := Lib.hid ((HMG.out.below hB).wide (Nat.le_refl _) hB.size)); (try have HMR := Lib.hid ((HMR.out.below hB).wide (Nat.le_refl _) hB.size)); (try have HMS := Lib.hid ((HMS.out.below hB).wide (Nat.le_refl _) hB.size)); have HCXS := Lib.hid hC; have HMS := Lib.hid (hM.wide (lo' := wS.heap.size) (by have h0 := HWS0.out; exact h0) (Nat.le_refl _)); clear HWS0 HKXS hC hM hB) | (go_at_call 16; with_reducible refine (HKYG.out _ HW.out).mono ?_; rintro e wYG ⟨bYG, rfl, hC, hB⟩; have HW := Lib.hid (HW.out.trans (hB.mono HW.out.size)); (try have HWS := Lib.hid (HWS.out.trans (hB.mono HWS.out.size))); (try have HCPG := Lib.hid (Kd.C_below HCPG.out hB)); (try have HCPR := Lib.hid (Kd.C_below HCPR.out hB)); (try have HCPS := Lib.hid (Kd.C_below HCPS.out hB)); (try have HCXG := Lib.hid (Kd.C_below HCXG.out hB)); (try have HCXR := Lib.hid (Kd.C_below HCXR.out hB)); (try have HCXS := Lib.hid (Kd.C_below HCXS.out hB)); (try have HCYG := Lib.hid (Kd.C_below HCYG.out hB)); (try have HCYR := Lib.hid (Kd.C_below HCYR.out hB)); (try have HCYS := Lib.hid (Kd.C_below HCYS.out hB)); (try have HCQG := Lib.hid (Kd.C_below HCQG.out hB)); (try have HCQR := Lib.hid (Kd.C_below HCQR.out hB)); (try have HCQS := Lib.hid (Kd.C_below HCQS.out hB)); (try have HMG := Lib.hid (HMG.out.below hB)); (try have HMR := Lib.hid (HMR.out.below hB)); (try have HMS := Lib.hid (HMS.out.below hB)); (try have HRG := Lib.hid (Kd.R_below HRG.out hB)); (try have HH := Lib.hid (HH.out.below hB)); (try have HC9 := Lib.hid (Kd.C_below HC9.out hB)); have HCYG := Lib.hid hC; clear HKYG hC hB) | (go_at_call 17; with_reducible refine (HKYR.out _ HW.out).mono ?_; rintro e wYR ⟨bYR, rfl, hC, hB⟩; have HW := Lib.hid (HW.out.trans (hB.mono HW.out.size)); (try have HWS := Lib.hid (HWS.out.trans (hB.mono HWS.out.size))); (try have HCPG := Lib.hid (Kd.C_below HCPG.out hB)); (try have HCPR := Lib.hid (Kd.C_below HCPR.out hB)); (try have HCPS := Lib.hid (Kd.C_below HCPS.out hB)); (try have HCXG := Lib.hid (Kd.C_below HCXG.out hB)); (try have HCXR := Lib.hid (Kd.C_below HCXR.out hB)); (try have HCXS := Lib.hid (Kd.C_below HCXS.out hB)); (try have HCYG := Lib.hid (Kd.C_below HCYG.out hB)); (try have HCYR := Lib.hid (Kd.C_below HCYR.out hB)); (try have HCYS := Lib.hid (Kd.C_below HCYS.out hB)); (try have HCQG := Lib.hid (Kd.C_below HCQG.out hB)); (try have HCQR := Lib.hid (Kd.C_below HCQR.out hB)); (try have HCQS := Lib.hid (Kd.C_below HCQS.out hB)); (try have HMG := Lib.hid (HMG.out.below hB)); (try have HMR := Lib.hid (HMR.out.below hB)); (try have HMS := Lib.hid (HMS.out.below hB)); (try have HRG := Lib.hid (Kd.R_below HRG.out hB)); (try have HH := Lib.hid (HH.out.below hB)); (try have HC9 := Lib.hid (Kd.C_below HC9.out hB)); have HCYR := Lib.hid hC; clear HKYR hC hB) | (go_at_call 17; with_reducible refine (HKYS.out _ HW.out).mono ?_; rintro e wYS ⟨bYS, rfl, hC, hB⟩; have HW := Lib.hid (HW.out.trans (hB.mono HW.out.size)); (try have HWS := Lib.hid (HWS.out.trans (hB.mono HWS.out.size))); (try have HCPG := Lib.hid (Kd.C_below HCPG.out hB)); (try have HCPR := Lib.hid (Kd.C_below HCPR.out hB)); (try have HCPS := Lib.hid (Kd.C_below HCPS.out hB)); (try have HCXG := Lib.hid (Kd.C_below HCXG.out hB)); (try have HCXR := Lib.hid (Kd.C_below HCXR.out hB)); (try have HCXS := Lib.hid (Kd.C_below HCXS.out hB)); (try have HCYG := Lib.hid (Kd.C_below HCYG.out hB)); (try have HCYR := Lib.hid (Kd.C_below HCYR.out hB)); (try have HCYS := Lib.hid (Kd.C_below HCYS.out hB)); (try have HCQG := Lib.hid (Kd.C_below HCQG.out hB)); (try have HCQR := Lib.hid (Kd.C_below HCQR.out hB)); (try have HCQS := Lib.hid (Kd.C_below HCQS.out hB)); (try have HMG := Lib.hid (HMG.out.below hB)); (try have HMR := Lib.hid (HMR.out.below hB)); (try have HMS := Lib.hid (HMS.out.below hB)); (try have HRG := Lib.hid (Kd.R_below HRG.out hB)); (try have HH := Lib.hid (HH.out.below hB)); (try have HC9 := Lib.hid (Kd.C_below HC9.out hB)); have HCYS := Lib.hid hC; clear HKYS hC hB) | (go_at_call 16; with_reducible refine (HKQG.out _ HW.out).mono ?_; rintro e wQG ⟨bQG, rfl, hC, hB⟩; have HW := Lib.hid (HW.out.trans (hB.mono HW.out.size)); (try have HWS := Lib.hid (HWS.out.trans (hB.mono HWS.out.size))); (try have HCPG := Lib.hid (Kd.C_below HCPG.out hB)); (try have HCPR := Lib.hid (Kd.C_below HCPR.out hB)); (try have HCPS := Lib.hid (Kd.C_below HCPS.out hB)); (try have HCXG := Lib.hid (Kd.C_below HCXG.out hB)); (try have HCXR := Lib.hid (Kd.C_below HCXR.out hB)); (try have HCXS := Lib.hid (Kd.C_below HCXS.out hB)); (try have HCYG := Lib.hid (Kd.C_below HCYG.out hB)); (try have HCYR := Lib.hid (Kd.C_below HCYR.out hB)); (try have HCYS := Lib.hid (Kd.C_below HCYS.out hB)); (try have HCQG := Lib.hid (Kd.C_below HCQG.out hB)); (try have HCQR := Lib.hid (Kd.C_below HCQR.out hB)); (try have HCQS := Lib.hid (Kd.C_below HCQS.out hB)); (try have HMG := Lib.hid (HMG.out.below hB)); (try have HMR := Lib.hid (HMR.out.below hB)); (try have HMS := Lib.hid (HMS.out.below hB)); (try have HRG := Lib.hid (Kd.R_below HRG.out hB)); (try have HH := Lib.hid (HH.out.below hB)); (try have HC9 := Lib.hid (Kd.C_below HC9.out hB)); have HCQG := Lib.hid hC; clear HKQG hC hB) | (go_at_call 17; with_reducible refine (HKQR.out _ HW.out).mono ?_; rintro e wQR ⟨bQR, rfl, hC, hB⟩; have HW := Lib.hid (HW.out.trans (hB.mono HW.out.size)); (try have HWS := Lib.hid (HWS.out.trans (hB.mono HWS.out.size))); (try have HCPG := Lib.hid (Kd.C_below HCPG.out hB)); (try have HCPR := Lib.hid (Kd.C_below HCPR.out hB)); (try have HCPS := Lib.hid (Kd.C_below HCPS.out hB)); (try have HCXG := Lib.hid (Kd.C_below HCXG.out hB)); (try have HCXR := Lib.hid (Kd.C_below HCXR.out hB)); (try have HCXS := Lib.hid (Kd.C_below HCXS.out hB)); (try have HCYG := Lib.hid (Kd.C_below HCYG.out hB)); (try have HCYR := Lib.hid (Kd.C_below HCYR.out hB)); (try have HCYS := Lib.hid (Kd.C_below HCYS.out hB)); (try have HCQG := Lib.hid (Kd.C_below HCQG.out hB)); (try have HCQR := Lib.hid (Kd.C_below HCQR.out hB)); (try have HCQS := Lib.hid (Kd.C_below HCQS.out hB)); (try have HMG := Lib.hid (HMG.out.below hB)); (try have HMR := Lib.hid (HMR.out.below hB)); (try have HMS := Lib.hid (HMS.out.below hB)); (try have HRG := Lib.hid (Kd.R_below HRG.out hB)); (try have HH := Lib.hid (HH.out.below hB)); (try have HC9 := Lib.hid (Kd.C_below HC9.out hB)); have HCQR := Lib.hid hC; clear HKQR hC hB) | (go_at_call 17; with_reducible refine (HKQS.out _ HW.out).mono ?_; rintro e wQS ⟨bQS, rfl, hC, hB⟩; have HW := Lib.hid (HW.out.trans (hB.mono HW.out.size)); (try have HWS := Lib.hid (HWS.out.trans (hB.mono HWS.out.size))); (try have HCPG := Lib.hid (Kd.C_below HCPG.out hB)); (try have HCPR := Lib.hid (Kd.C_below HCPR.out hB)); (try have HCPS := Lib.hid (Kd.C_below HCPS.out hB)); (try have HCXG := Lib.hid (Kd.C_below HCXG.out hB)); (try have HCXR := Lib.hid (Kd.C_below HCXR.out hB)); (try have HCXS := Lib.hid (Kd.C_below HCXS.out hB)); (try have HCYG := Lib.hid (Kd.C_below HCYG.out hB)); (try have HCYR := Lib.hid (Kd.C_below HCYR.out hB)); (try have HCYS := Lib.hid (Kd.C_below HCYS.out hB)); (try have HCQG := Lib.hid (Kd.C_below HCQG.out hB)); (try have HCQR := Lib.hid (Kd.C_below HCQR.out hB)); (try have HCQS := Lib.hid (Kd.C_below HCQS.out hB)); (try have HMG := Lib.hid (HMG.out.below hB)); (try have HMR := Lib.hid (HMR.out.below hB)); (try have HMS := Lib.hid (HMS.out.below hB)); (try have HRG := Lib.hid (Kd.R_below HRG.out hB)); (try have HH := Lib.hid (HH.out.below hB)); (try have HC9 := Lib.hid (Kd.C_below HC9.out hB)); have HCQS := Lib.hid hC; clear HKQS hC hB) | (go_at_call 34; refine (HS.out _ _ _ _ _ _ _ HCPG.out HCPR.out HCPS.out).mono ?_; rintro e wS ⟨v0, rfl, hR, hB⟩; obtain ⟨A0, c0, rfl, _, hC⟩ := Kd.R_reads hR; have HW := Lib.hid (HW.out.trans (hB.mono HW.out.size)); (try have HWS := Lib.hid (HWS.out.trans (hB.mono HWS.out.size))); (try have HCPG := Lib.hid (Kd.C_below HCPG.out hB)); (try have HCPR := Lib.hid (Kd.C_below HCPR.out hB)); (try have HCPS := Lib.hid (Kd.C_below HCPS.out hB)); (try have HCXG := Lib.hid (Kd.C_below HCXG.out hB)); (try have HCXR := Lib.hid (Kd.C_below HCXR.out hB)); (try have HCXS := Lib.hid (Kd.C_below HCXS.out hB)); (try have HCYG := Lib.hid (Kd.C_below HCYG.out hB)); (try have HCYR := Lib.hid (Kd.C_below HCYR.out hB)); (try have HCYS := Lib.hid (Kd.C_below HCYS.out hB)); (try have HCQG := Lib.hid (Kd.C_below HCQG.out hB)); (try have HCQR := Lib.hid (Kd.C_below HCQR.out hB)); (try have HCQS := Lib.hid (Kd.C_below HCQS.out hB)); (try have HMG := Lib.hid (HMG.out.below hB)); (try have HMR := Lib.hid (HMR.out.below hB)); (try have HMS := Lib.hid (HMS.out.below hB)); (try have HRG := Lib.hid (Kd.R_below HRG.out hB)); (try have HH := Lib.hid (HH.out.below hB)); (try have HC9 := Lib.hid (Kd.C_below HC9.out hB)); have HWS := Lib.hid (Below.refl wS.heap.size wS); have HC0 := Lib.hid hC; have HLO := Lib.hid HW.out.size; clear HS hR hC hB) | (go_at_call 35; refine (HI.out _ _ _ _ _ _ _ HCXG.out HCXR.out HCXS.out (HTW.out _ HW.out)).mono ?_; rintro e wI ⟨vG, rfl, hR, hB⟩; obtain ⟨AG, cG, rfl, _, _⟩ := Kd.R_reads hR; have HLB := Lib.hid HWS.out.size; have HW := Lib.hid (HW.out.trans (hB.mono HW.out.size)); (try have HWS := Lib.hid (HWS.out.trans (hB.mono HWS.out.size))); (try have HCPG := Lib.hid (Kd.C_below HCPG.out hB)); (try have HCPR := Lib.hid (Kd.C_below HCPR.out hB)); (try have HCPS := Lib.hid (Kd.C_below HCPS.out hB)); (try have HCXG := Lib.hid (Kd.C_below HCXG.out hB)); (try have HCXR := Lib.hid (Kd.C_below HCXR.out hB)); (try have HCXS := Lib.hid (Kd.C_below HCXS.out hB)); (try have HCYG := Lib.hid (Kd.C_below HCYG.out hB)); (try have HCYR := Lib.hid (Kd.C_below HCYR.out hB)); (try have HCYS := Lib.hid (Kd.C_below HCYS.out hB)); (try have HCQG := Lib.hid (Kd.C_below HCQG.out hB)); (try have HCQR := Lib.hid (Kd.C_below HCQR.out hB)); (try have HCQS := Lib.hid (Kd.C_below HCQS.out hB)); (try have HMG := Lib.hid (HMG.out.below hB)); (try have HMR := Lib.hid (HMR.out.below hB)); (try have HMS := Lib.hid (HMS.out.below hB)); (try have HRG := Lib.hid (Kd.R_below HRG.out hB)); (try have HH := Lib.hid (HH.out.below hB)); (try have HC9 := Lib.hid (Kd.C_below HC9.out hB)); have HRG := Lib.hid (R_ge hR); clear HI hR hB) | (go_at_call 35; refine (HI2.out _ _ _ _ _ _ _ HCQG.out HCQR.out HCQS.out (HTW.out _ HW.out)).mono ?_; rintro e wJ ⟨vJ, rfl, hR, hB⟩; obtain ⟨AJ, cJ, rfl, _, hC⟩ := Kd.R_reads hR; have HW := Lib.hid (HW.out.trans (hB.mono HW.out.size)); (try have HWS := Lib.hid (HWS.out.trans (hB.mono HWS.out.size))); (try have HCPG := Lib.hid (Kd.C_below HCPG.out hB)); (try have HCPR := Lib.hid (Kd.C_below HCPR.out hB)); (try have HCPS := Lib.hid (Kd.C_below HCPS.out hB)); (try have HCXG := Lib.hid (Kd.C_below HCXG.out hB)); (try have HCXR := Lib.hid (Kd.C_below HCXR.out hB)); (try have HCXS := Lib.hid (Kd.C_below HCXS.out hB)); (try have HCYG := Lib.hid (Kd.C_below HCYG.out hB)); (try have HCYR := Lib.hid (Kd.C_below HCYR.out hB)); (try have HCYS := Lib.hid (Kd.C_below HCYS.out hB)); (try have HCQG := Lib.hid (Kd.C_below HCQG.out hB)); (try have HCQR := Lib.hid (Kd.C_below HCQR.out hB)); (try have HCQS := Lib.hid (Kd.C_below HCQS.out hB)); (try have HMG := Lib.hid (HMG.out.below hB)); (try have HMR := Lib.hid (HMR.out.below hB)); (try have HMS := Lib.hid (HMS.out.below hB)); (try have HRG := Lib.hid (Kd.R_below HRG.out hB)); (try have HH := Lib.hid (HH.out.below hB)); (try have HC9 := Lib.hid (Kd.C_below HC9.out hB)); have HC9 := Lib.hid hC; clear HI2 hR hB hC) | (go_at_call 20; with_reducible refine (eqIntS_same _ _ v _ _ _ (Kd.R_reads' HRG.out).2.2 (Kd.C_below HC0.out HWS.out)).mono ?_; rintro e wE ⟨rfl, hB⟩; have HW := Lib.hid (HW.out.trans (hB.mono HW.out.size)); (try have HWS := Lib.hid (HWS.out.trans (hB.mono HWS.out.size))); (try have HCPG := Lib.hid (Kd.C_below HCPG.out hB)); (try have HCPR := Lib.hid (Kd.C_below HCPR.out hB)); (try have HCPS := Lib.hid (Kd.C_below HCPS.out hB)); (try have HCXG := Lib.hid (Kd.C_below HCXG.out hB)); (try have HCXR := Lib.hid (Kd.C_below HCXR.out hB)); (try have HCXS := Lib.hid (Kd.C_below HCXS.out hB)); (try have HCYG := Lib.hid (Kd.C_below HCYG.out hB)); (try have HCYR := Lib.hid (Kd.C_below HCYR.out hB)); (try have HCYS := Lib.hid (Kd.C_below HCYS.out hB)); (try have HCQG := Lib.hid (Kd.C_below HCQG.out hB)); (try have HCQR := Lib.hid (Kd.C_below HCQR.out hB)); (try have HCQS := Lib.hid (Kd.C_below HCQS.out hB)); (try have HMG := Lib.hid (HMG.out.below hB)); (try have HMR := Lib.hid (HMR.out.below hB)); (try have HMS := Lib.hid (HMS.out.below hB)); (try have HRG := Lib.hid (Kd.R_below HRG.out hB)); (try have HH := Lib.hid (HH.out.below hB)); (try have HC9 := Lib.hid (Kd.C_below HC9.out hB)); clear hB) | (go_at_call 20; with_reducible refine (eqIntS_same _ _ v _ _ _ HC9.out (Kd.C_below HC0.out HWS.out)).mono ?_; rintro e wE ⟨rfl, hB⟩; have HW := Lib.hid (HW.out.trans (hB.mono HW.out.size)); (try have HWS := Lib.hid (HWS.out.trans (hB.mono HWS.out.size))); (try have HCPG := Lib.hid (Kd.C_below HCPG.out hB)); (try have HCPR := Lib.hid (Kd.C_below HCPR.out hB)); (try have HCPS := Lib.hid (Kd.C_below HCPS.out hB)); (try have HCXG := Lib.hid (Kd.C_below HCXG.out hB)); (try have HCXR := Lib.hid (Kd.C_below HCXR.out hB)); (try have HCXS := Lib.hid (Kd.C_below HCXS.out hB)); (try have HCYG := Lib.hid (Kd.C_below HCYG.out hB)); (try have HCYR := Lib.hid (Kd.C_below HCYR.out hB)); (try have HCYS := Lib.hid (Kd.C_below HCYS.out hB)); (try have HCQG := Lib.hid (Kd.C_below HCQG.out hB)); (try have HCQR := Lib.hid (Kd.C_below HCQR.out hB)); (try have HCQS := Lib.hid (Kd.C_below HCQS.out hB)); (try have HMG := Lib.hid (HMG.out.below hB)); (try have HMR := Lib.hid (HMR.out.below hB)); (try have HMS := Lib.hid (HMS.out.below hB)); (try have HRG := Lib.hid (Kd.R_below HRG.out hB)); (try have HH := Lib.hid (HH.out.below hB)); (try have HC9 := Lib.hid (Kd.C_below HC9.out hB)); clear hB) | (go_at_call 19; with_reducible refine (eqTaskS_same _ _ g _ _ _ HCXG.out HCYG.out).mono ?_; rintro e wE ⟨rfl, hB⟩; have HW := Lib.hid (HW.out.trans (hB.mono HW.out.size)); (try have HWS := Lib.hid (HWS.out.trans (hB.mono HWS.out.size))); (try have HCPG := Lib.hid (Kd.C_below HCPG.out hB)); (try have HCPR := Lib.hid (Kd.C_below HCPR.out hB)); (try have HCPS := Lib.hid (Kd.C_below HCPS.out hB)); (try have HCXG := Lib.hid (Kd.C_below HCXG.out hB)); (try have HCXR := Lib.hid (Kd.C_below HCXR.out hB)); (try have HCXS := Lib.hid (Kd.C_below HCXS.out hB)); (try have HCYG := Lib.hid (Kd.C_below HCYG.out hB)); (try have HCYR := Lib.hid (Kd.C_below HCYR.out hB)); (try have HCYS := Lib.hid (Kd.C_below HCYS.out hB)); (try have HCQG := Lib.hid (Kd.C_below HCQG.out hB)); (try have HCQR := Lib.hid (Kd.C_below HCQR.out hB)); (try have HCQS := Lib.hid (Kd.C_below HCQS.out hB)); (try have HMG := Lib.hid (HMG.out.below hB)); (try have HMR := Lib.hid (HMR.out.below hB)); (try have HMS := Lib.hid (HMS.out.below hB)); (try have HRG := Lib.hid (Kd.R_below HRG.out hB)); (try have HH := Lib.hid (HH.out.below hB)); (try have HC9 := Lib.hid (Kd.C_below HC9.out hB)); clear hB) | (go_at_call 20; with_reducible refine (eqIntS_same _ _ rm _ _ _ HCXR.out HCYR.out).mono ?_; rintro e wE ⟨rfl, hB⟩; have HW := Lib.hid (HW.out.trans (hB.mono HW.out.size)); (try have HWS := Lib.hid (HWS.out.trans (hB.mono HWS.out.size))); (try have HCPG := Lib.hid (Kd.C_below HCPG.out hB)); (try have HCPR := Lib.hid (Kd.C_below HCPR.out hB)); (try have HCPS := Lib.hid (Kd.C_below HCPS.out hB)); (try have HCXG := Lib.hid (Kd.C_below HCXG.out hB)); (try have HCXR := Lib.hid (Kd.C_below HCXR.out hB)); (try have HCXS := Lib.hid (Kd.C_below HCXS.out hB)); (try have HCYG := Lib.hid (Kd.C_below HCYG.out hB)); (try have HCYR := Lib.hid (Kd.C_below HCYR.out hB)); (try have HCYS := Lib.hid (Kd.C_below HCYS.out hB)); (try have HCQG := Lib.hid (Kd.C_below HCQG.out hB)); (try have HCQR := Lib.hid (Kd.C_below HCQR.out hB)); (try have HCQS := Lib.hid (Kd.C_below HCQS.out hB)); (try have HMG := Lib.hid (HMG.out.below hB)); (try have HMR := Lib.hid (HMR.out.below hB)); (try have HMS := Lib.hid (HMS.out.below hB)); (try have HRG := Lib.hid (Kd.R_below HRG.out hB)); (try have HH := Lib.hid (HH.out.below hB)); (try have HC9 := Lib.hid (Kd.C_below HC9.out hB)); clear hB) | (go_at_call 20; with_reducible refine (eqIntS_same _ _ st _ _ _ HCXS.out HCYS.out).mono ?_; rintro e wE ⟨rfl, hB⟩; have HW := Lib.hid (HW.out.trans (hB.mono HW.out.size)); (try have HWS := Lib.hid (HWS.out.trans (hB.mono HWS.out.size))); (try have HCPG := Lib.hid (Kd.C_below HCPG.out hB)); (try have HCPR := Lib.hid (Kd.C_below HCPR.out hB)); (try have HCPS := Lib.hid (Kd.C_below HCPS.out hB)); (try have HCXG := Lib.hid (Kd.C_below HCXG.out hB)); (try have HCXR := Lib.hid (Kd.C_below HCXR.out hB)); (try have HCXS := Lib.hid (Kd.C_below HCXS.out hB)); (try have HCYG := Lib.hid (Kd.C_below HCYG.out hB)); (try have HCYR := Lib.hid (Kd.C_below HCYR.out hB)); (try have HCYS := Lib.hid (Kd.C_below HCYS.out hB)); (try have HCQG := Lib.hid (Kd.C_below HCQG.out hB)); (try have HCQR := Lib.hid (Kd.C_below HCQR.out hB)); (try have HCQS := Lib.hid (Kd.C_below HCQS.out hB)); (try have HMG := Lib.hid (HMG.out.below hB)); (try have HMR := Lib.hid (HMR.out.below hB)); (try have HMS := Lib.hid (HMS.out.below hB)); (try have HRG := Lib.hid (Kd.R_below HRG.out hB)); (try have HH := Lib.hid (HH.out.below hB)); (try have HC9 := Lib.hid (Kd.C_below HC9.out hB)); clear hB) | (go_at_call 14; refine (HSZ.out _ HW.out).mono ?_; rintro e wZ ⟨rfl, hB⟩; have HW := Lib.hid (HW.out.trans (hB.mono HW.out.size)); clear HSZ hB) | (go_at_call 23; refine (markTaskS_calls _ _ _ 1 wS.heap.size wXS.heap.size _ HMG.out HGL.out ⟨by decide, by decide⟩).mono ?_; rintro e wMG ⟨K, rfl, hK, hO⟩; (try clear HCPG HCXG HCYG HCPR HCXR HCYR HCPS HCXS HCYS); have HW := Lib.hid (HW.out.trans (hO.below (fun q hq => Nat.le_trans HLO.out hq.1))); have HWS := Lib.hid (HWS.out.trans (hO.below (fun q hq => hq.1))); have HRG := Lib.hid (R_only HRG.out hO (fun q hq => hq.2)); have HMR := Lib.hid (HMR.out.only hO); have HMS := Lib.hid (HMS.out.only hO); have HK := Lib.hid hK; have dk : decide (K + (rm.length : Int) + (st.length : Int) < 0) = false := decide_eq_false (by have h1 := HB1.out; omega); clear HMG hO hK) | (go_at_call 24; with_reducible refine (markIntS_calls _ _ _ (K) wS.heap.size wXS.heap.size _ HMR.out ⟨by have h0 := HK.out; omega, by have h0 := HK.out; have h1 := HB1.out; have h2 := HB2.out; omega⟩).mono ?_; rintro e wMR ⟨rfl, _, hO⟩; have HW := Lib.hid (HW.out.trans (hO.below (fun q hq => Nat.le_trans HLO.out (by obtain ⟨_, _, _, h, _⟩ := hq; exact h)))); have HWS := Lib.hid (HWS.out.trans (hO.below (fun q hq => (by obtain ⟨_, _, _, h, _⟩ := hq; exact h)))); have HRG := Lib.hid (R_only HRG.out hO (fun q hq => by obtain ⟨_, _, _, _, h⟩ := hq; exact h)); have HMS := Lib.hid (HMS.out.only hO); clear HMR hO) | (go_at_call 24; with_reducible refine (markIntS_calls _ _ _ (K + (rm.length : Int)) wS.heap.size wXS.heap.size _ HMS.out ⟨by have h0 := HK.out; omega, by have h0 := HK.out; have h1 := HB1.out; have h2 := HB2.out; omega⟩).mono ?_; rintro e wMS ⟨rfl, _, hO⟩; have HW := Lib.hid (HW.out.trans (hO.below (fun q hq => Nat.le_trans HLO.out (by obtain ⟨_, _, _, h, _⟩ := hq; exact h)))); have HWS := Lib.hid (HWS.out.trans (hO.below (fun q hq => (by obtain ⟨_, _, _, h, _⟩ := hq; exact h)))); have HRG := Lib.hid (R_only HRG.out hO (fun q hq => by obtain ⟨_, _, _, _, h⟩ := hq; exact h)); clear HMS hO) | (go_at_call 24; with_reducible refine (markIntS_calls _ _ _ 1 wXS.heap.size _ _ (MRow.of_R HRG.out) ⟨by decide, by have h0 := HLL.out; omega⟩).mono ?_; rintro e wMR ⟨rfl, hH, hO⟩; have HW := Lib.hid (HW.out.trans (hO.below (fun q hq => Nat.le_trans HLO.out (by obtain ⟨_, _, _, h, _⟩ := hq; exact Nat.le_trans HLB.out h)))); have HWS := Lib.hid (HWS.out.trans (hO.below (fun q hq => (by obtain ⟨_, _, _, h, _⟩ := hq; exact Nat.le_trans HLB.out h)))); have HH := Lib.hid hH; clear HRG hO hH) | (go_at_call 25; refine (heldIntS_calls _ _ _ 1 _ HH.out ⟨by decide, by have h0 := HLL.out; omega⟩).mono ?_; rintro e wHD ⟨rfl, hB⟩; have HW := Lib.hid (HW.out.trans (hB.mono HW.out.size)); (try have HWS := Lib.hid (HWS.out.trans (hB.mono HWS.out.size))); (try have HCPG := Lib.hid (Kd.C_below HCPG.out hB)); (try have HCPR := Lib.hid (Kd.C_below HCPR.out hB)); (try have HCPS := Lib.hid (Kd.C_below HCPS.out hB)); (try have HCXG := Lib.hid (Kd.C_below HCXG.out hB)); (try have HCXR := Lib.hid (Kd.C_below HCXR.out hB)); (try have HCXS := Lib.hid (Kd.C_below HCXS.out hB)); (try have HCYG := Lib.hid (Kd.C_below HCYG.out hB)); (try have HCYR := Lib.hid (Kd.C_below HCYR.out hB)); (try have HCYS := Lib.hid (Kd.C_below HCYS.out hB)); (try have HCQG := Lib.hid (Kd.C_below HCQG.out hB)); (try have HCQR := Lib.hid (Kd.C_below HCQR.out hB)); (try have HCQS := Lib.hid (Kd.C_below HCQS.out hB)); (try have HMG := Lib.hid (HMG.out.below hB)); (try have HMR := Lib.hid (HMR.out.below hB)); (try have HMS := Lib.hid (HMS.out.below hB)); (try have HRG := Lib.hid (Kd.R_below HRG.out hB)); (try have HH := Lib.hid (HH.out.below hB)); (try have HC9 := Lib.hid (Kd.C_below HC9.out hB)); clear hB))
 go_ret
 exact ⟨rfl, HW.out⟩
end Go.Proofs.YtdjdfbfcjajlkaaDoor
