/- Parts of the proof, laid as one text by a program of mine. -/
import Derived.Test.YtdjdfbfcjajlkaaDoorKac5
import Derived.Test.YtdjdfbfcjajlkaaDoorKac14
namespace Go.Proofs.YtdjdfbfcjajlkaaDoor
set_option linter.unusedVariables false
set_option linter.unusedSimpArgs false
open Go.RowKit Go.Shelf Bits
open Go.Proofs.YtdjdfbfcjajlkaaDoorW.PrintWords Go.Proofs.YtdjdfbfcjajlkaaDoorW.PrintLast Go.Proofs.YtdjdfbfcjajlkaaDoorW.PrintMore
attribute [local go_sem] Oper.semAt_some
set_option maxRecDepth 100000 in
set_option maxHeartbeats 4000000 in
theorem FnExactWorkersFor_walk (A : Option Addr) (c : Nat) (g : List Tk) (A1 : Option Addr) (c1 : Nat) (rm : List Int) (dl : Int) (w : World) (hT : Tab w) (hr : kTk.C w A g.length g) (hr1 : (Kd.int .i64).C w A1 rm.length rm) :
  Calls Tryd.prog 3 #[.slice A g.length c, .slice A1 rm.length c1, .int .i64 dl] w fun e w' => e = .returned (.bool true) ∧ Below w.heap.size w w' := by
 by_cases hb1 : ¬ rm.length ≤ 1048576
 ·
  have d : decide ((1048576 : Int) < (rm.length : Int)) = true := decide_eq_true (by omega)
  clear hb1 hr hr1 hT
  go_enter Tryd.func3, Tryd.ntmps3
  go_wp2
  go_ret
  exact ⟨rfl, by repeat (first | exact Below.refl _ _ | apply pw_below_drewN)⟩
 have hb1 : rm.length ≤ 1048576 := by omega
 have d1 : decide ((1048576 : Int) < (rm.length : Int)) = false := decide_eq_false (by omega)
 have HSZ := Lib.hid (fun (W : World) (hW : Below w.heap.size w W) => szTaskS_calls A c g W (Kd.C_below hr hW))
 by_cases hsz : szF g g.length < 0
 ·
  have dn : decide (szF g g.length < 0) = true := decide_eq_true hsz
  generalize szF g g.length = r at HSZ dn
  clear hb1 hr hr1 hT hsz
  go_enter Tryd.func3, Tryd.ntmps3
  go_wp2_with (go_at_call 14; refine (HSZ.out _ (Below.refl _ _)).mono ?_; rintro e w1 ⟨rfl, hB⟩)
  go_ret
  exact ⟨rfl, hB⟩
 have dn : decide (szF g g.length < 0) = false := decide_eq_false hsz
 obtain ⟨hgl, hnl⟩ := szF_small (g := g) (by omega)
 have hgen : ∀ r, r = szF g g.length → True := fun _ _ => trivial
 clear hgen
 have HKPG := Lib.hid (fun (W : World) (hW : Below w.heap.size w W) => toTaskS_C A c g hgl hnl W (Kd.C_below hr hW))
 have HKPR := Lib.hid (fun (W : World) (hW : Below w.heap.size w W) => toIntS_C A1 c1 rm hb1 W (Kd.C_below hr1 hW))
 have HKXG := Lib.hid (fun (W : World) (hW : Below w.heap.size w W) => toTaskS_C A c g hgl hnl W (Kd.C_below hr hW))
 have HKXR := Lib.hid (fun (W : World) (hW : Below w.heap.size w W) => toIntS_C A1 c1 rm hb1 W (Kd.C_below hr1 hW))
 have HKYG := Lib.hid (fun (W : World) (hW : Below w.heap.size w W) => toTaskS_C A c g hgl hnl W (Kd.C_below hr hW))
 have HKYR := Lib.hid (fun (W : World) (hW : Below w.heap.size w W) => toIntS_C A1 c1 rm hb1 W (Kd.C_below hr1 hW))
 have HTW := Lib.hid (fun (W : World) (hW : Below w.heap.size w W) => hT.keep hT.lt hW)
 have HW := Lib.hid (Below.refl w.heap.size w)
 have HS := Lib.hid (fun (BG : Option Addr) (kG : Nat) (BR : Option Addr) (kR : Nat) (W : World) (hG : kTk.C W BG g.length g) (hR : (Kd.int .i64).C W BR rm.length rm) => sWorkersFor_calls BG kG g BR kR rm dl W hG hR)
 have HI := Lib.hid (fun (BG : Option Addr) (kG : Nat) (BR : Option Addr) (kR : Nat) (W : World) (hG : kTk.C W BG g.length g) (hR : (Kd.int .i64).C W BR rm.length rm) (hT : Tab W) => WorkersFor_impl BG kG g BR kR rm dl W hG hR hT)
 generalize wfS g rm dl = v at HS HI
 have dv : (v != v) = false := bne_self_eq_false _
 generalize szF g g.length = r at HSZ dn hsz
 clear hr hr1 hT hsz hgl hnl hb1
 go_enter Tryd.func3, Tryd.ntmps3
 go_wp2_with (first | (go_at_call 16; with_reducible refine (HKPG.out _ HW.out).mono ?_; rintro e wPG ⟨bPG, rfl, hC, hB⟩; have HW := Lib.hid (HW.out.trans (hB.mono HW.out.size)); (try have HCPG := Lib.hid (Kd.C_below HCPG.out hB)); (try have HCPR := Lib.hid (Kd.C_below HCPR.out hB)); (try have HCXG := Lib.hid (Kd.C_below HCXG.out hB)); (try have HCXR := Lib.hid (Kd.C_below HCXR.out hB)); (try have HCYG := Lib.hid (Kd.C_below HCYG.out hB)); (try have HCYR := Lib.hid (Kd.C_below HCYR.out hB)); have HCPG := Lib.hid hC; clear HKPG hC hB) | (go_at_call 17; with_reducible refine (HKPR.out _ HW.out).mono ?_; rintro e wPR ⟨bPR, rfl, hC, hB⟩; have HW := Lib.hid (HW.out.trans (hB.mono HW.out.size)); (try have HCPG := Lib.hid (Kd.C_below HCPG.out hB)); (try have HCPR := Lib.hid (Kd.C_below HCPR.out hB)); (try have HCXG := Lib.hid (Kd.C_below HCXG.out hB)); (try have HCXR := Lib.hid (Kd.C_below HCXR.out hB)); (try have HCYG := Lib.hid (Kd.C_below HCYG.out hB)); (try have HCYR := Lib.hid (Kd.C_below HCYR.out hB)); have HCPR := Lib.hid hC; clear HKPR hC hB) | (go_at_call 16; with_reducible refine (HKXG.out _ HW.out).mono ?_; rintro e wXG ⟨bXG, rfl, hC, hB⟩; have HW := Lib.hid (HW.out.trans (hB.mono HW.out.size)); (try have HCPG := Lib.hid (Kd.C_below HCPG.out hB)); (try have HCPR := Lib.hid (Kd.C_below HCPR.out hB)); (try have HCXG := Lib.hid (Kd.C_below HCXG.out hB)); (try have HCXR := Lib.hid (Kd.C_below HCXR.out hB)); (try have HCYG := Lib.hid (Kd.C_below HCYG.out hB)); (try have HCYR := Lib.hid (Kd.C_below HCYR.out hB)); have HCXG := Lib.hid hC; clear HKXG hC hB) | (go_at_call 17; with_reducible refine (HKXR.out _ HW.out).mono ?_; rintro e wXR ⟨bXR, rfl, hC, hB⟩; have HW := Lib.hid (HW.out.trans (hB.mono HW.out.size)); (try have HCPG := Lib.hid (Kd.C_below HCPG.out hB)); (try have HCPR := Lib.hid (Kd.C_below HCPR.out hB)); (try have HCXG := Lib.hid (Kd.C_below HCXG.out hB)); (try have HCXR := Lib.hid (Kd.C_below HCXR.out hB)); (try have HCYG := Lib.hid (Kd.C_below HCYG.out hB)); (try have HCYR := Lib.hid (Kd.C_below HCYR.out hB)); have HCXR := Lib.hid hC; clear HKXR hC hB) | (go_at_call 16; with_reducible refine (HKYG.out _ HW.out).mono ?_; rintro e wYG ⟨bYG, rfl, hC, hB⟩; have HW := Lib.hid (HW.out.trans (hB.mono HW.out.size)); (try have HCPG := Lib.hid (Kd.C_below HCPG.out hB)); (try have HCPR := Lib.hid (Kd.C_below HCPR.out hB)); (try have HCXG := Lib.hid (Kd.C_below HCXG.out hB)); (try have HCXR := Lib.hid (Kd.C_below HCXR.out hB)); (try have HCYG := Lib.hid (Kd.C_below HCYG.out hB)); (try have HCYR := Lib.hid (Kd.C_below HCYR.out hB)); have HCYG := Lib.hid hC; clear HKYG hC hB) | (go_at_call 17; with_reducible refine (HKYR.out _ HW.out).mono ?_; rintro e wYR ⟨bYR, rfl, hC, hB⟩; have HW := Lib.hid (HW.out.trans (hB.mono HW.out.size)); (try have HCPG := Lib.hid (Kd.C_below HCPG.out hB)); (try have HCPR := Lib.hid (Kd.C_below HCPR.out hB)); (try have HCXG := Lib.hid (Kd.C_below HCXG.out hB)); (try have HCXR := Lib.hid (Kd.C_below HCXR.out hB)); (try have HCYG := Lib.hid (Kd.C_below HCYG.out hB)); (try have HCYR := Lib.hid (Kd.C_below HCYR.out hB)); have HCYR := Lib.hid hC; clear HKYR hC hB) | (go_at_call 15; refine (HS.out _ _ _ _ _ HCPG.out HCPR.out).mono ?_; rintro e wS ⟨rfl, hB⟩; have HW := Lib.hid (HW.out.trans (hB.mono HW.out.size)); (try have HCPG := Lib.hid (Kd.C_below HCPG.out hB)); (try have HCPR := Lib.hid (Kd.C_below HCPR.out hB)); (try have HCXG := Lib.hid (Kd.C_below HCXG.out hB)); (try have HCXR := Lib.hid (Kd.C_below HCXR.out hB)); (try have HCYG := Lib.hid (Kd.C_below HCYG.out hB)); (try have HCYR := Lib.hid (Kd.C_below HCYR.out hB)); clear HS hB) | (go_at_call 18; refine (HI.out _ _ _ _ _ HCXG.out HCXR.out (HTW.out _ HW.out)).mono ?_; rintro e wI ⟨rfl, hB⟩; have HW := Lib.hid (HW.out.trans (hB.mono HW.out.size)); (try have HCPG := Lib.hid (Kd.C_below HCPG.out hB)); (try have HCPR := Lib.hid (Kd.C_below HCPR.out hB)); (try have HCXG := Lib.hid (Kd.C_below HCXG.out hB)); (try have HCXR := Lib.hid (Kd.C_below HCXR.out hB)); (try have HCYG := Lib.hid (Kd.C_below HCYG.out hB)); (try have HCYR := Lib.hid (Kd.C_below HCYR.out hB)); clear HI hB) | (go_at_call 19; with_reducible refine (eqTaskS_same _ _ g _ _ _ HCXG.out HCYG.out).mono ?_; rintro e wE ⟨rfl, hB⟩; have HW := Lib.hid (HW.out.trans (hB.mono HW.out.size)); (try have HCPG := Lib.hid (Kd.C_below HCPG.out hB)); (try have HCPR := Lib.hid (Kd.C_below HCPR.out hB)); (try have HCXG := Lib.hid (Kd.C_below HCXG.out hB)); (try have HCXR := Lib.hid (Kd.C_below HCXR.out hB)); (try have HCYG := Lib.hid (Kd.C_below HCYG.out hB)); (try have HCYR := Lib.hid (Kd.C_below HCYR.out hB)); clear hB) | (go_at_call 20; with_reducible refine (eqIntS_same _ _ rm _ _ _ HCXR.out HCYR.out).mono ?_; rintro e wE ⟨rfl, hB⟩; have HW := Lib.hid (HW.out.trans (hB.mono HW.out.size)); (try have HCPG := Lib.hid (Kd.C_below HCPG.out hB)); (try have HCPR := Lib.hid (Kd.C_below HCPR.out hB)); (try have HCXG := Lib.hid (Kd.C_below HCXG.out hB)); (try have HCXR := Lib.hid (Kd.C_below HCXR.out hB)); (try have HCYG := Lib.hid (Kd.C_below HCYG.out hB)); (try have HCYR := Lib.hid (Kd.C_below HCYR.out hB)); clear hB) | (go_at_call 14; refine (HSZ.out _ HW.out).mono ?_; rintro e wZ ⟨rfl, hB⟩; have HW := Lib.hid (HW.out.trans (hB.mono HW.out.size)); clear hB))
 go_ret
 exact ⟨rfl, HW.out⟩
end Go.Proofs.YtdjdfbfcjajlkaaDoor
