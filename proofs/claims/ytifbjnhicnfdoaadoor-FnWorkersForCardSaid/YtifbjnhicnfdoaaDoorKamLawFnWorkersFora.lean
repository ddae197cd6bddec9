/- Parts of the proof, laid as one text by a program of mine. -/
import Derived.Test.YtifbjnhicnfdoaaDoorKac17
import Derived.Test.YtifbjnhicnfdoaaDoorKac20
import Derived.Test.YtifbjnhicnfdoaaDoorKac21
import Derived.Test.YtifbjnhicnfdoaaDoorKac19
import Derived.Test.YtifbjnhicnfdoaaDoorKac13
namespace Go.Proofs.YtifbjnhicnfdoaaDoor
set_option linter.unusedVariables false
set_option linter.unusedSimpArgs false
open Go.RowKit Go.Shelf Bits
open Go.Proofs.YtifbjnhicnfdoaaDoorW.PrintWords Go.Proofs.YtifbjnhicnfdoaaDoorW.PrintLast Go.Proofs.YtifbjnhicnfdoaaDoorW.PrintMore
set_option maxRecDepth 1000000 in
set_option maxHeartbeats 8000000 in
theorem FnWorkersFor_walk (A : Option Addr) (c : Nat) (l : List Int) (hb : ∀ x ∈ l, 0 ≤ x ∧ x < 256) (w : World) (hT : Tab w) (hr : (Kd.int .u8).C w A l.length l) (hc : l.length ≤ c) :
  Calls Tryd.prog 13 #[.slice A l.length c] w fun e w' => e = .returned (.bool true) ∧ Below w.heap.size w w' := by
 have HT := Lib.hid hT
 have hll := (C_len hr).2
 have HD := Lib.hid (DrawWorkersFor_any A c l hb w hr hc)
 clear hb hr hc hT
 by_cases hbig : 1048576 < l.length
 ·
  have db : decide ((1048576 : Int) < (l.length : Int)) = true := decide_eq_true (by omega)
  clear hbig
  go_enter Tryd.func13, Tryd.ntmps13
  go_wp2
  go_ret
  exact ⟨rfl, Below.refl _ _⟩
 ·
  have db : decide ((1048576 : Int) < (l.length : Int)) = false := decide_eq_false (by omega)
  clear hbig
  go_enter Tryd.func13, Tryd.ntmps13
  go_upto_region 4 with (go_at_call 40; refine HD.out.mono ?_; rintro e w1 ⟨A1, c1, g, A2, c2, rm, dl, rfl, h1, h2, hg16, hwk, hB1⟩; have H1 := Lib.hid h1; have H2 := Lib.hid h2; have HB1 := Lib.hid hB1; clear h1 h2 hB1)
  have HTW := Lib.hid (fun (W : World) (h : Below w1.heap.size w1 W) => HT.out.keep HT.out.lt (HB1.out.trans (h.mono HB1.out.size)))
  have HW := Lib.hid (Below.refl w1.heap.size w1)
  have HN := Lib.hid (fun (W : World) (hW : Below w1.heap.size w1 W) => WorkersFor_impl A1 c1 g A2 c2 rm dl W (Kd.C_below H1.out hW) (Kd.C_below H2.out hW) (HTW.out W hW))
  have HS := Lib.hid (fun (W : World) (hW : Below w1.heap.size w1 W) => sWorkersFor_calls A1 c1 g A2 c2 rm dl W (Kd.C_below H1.out hW) (Kd.C_below H2.out hW))
  have hlaw := wf_law (g := g) (rm := rm) (dl := dl)
  generalize wfS g rm dl = n at HN HS hlaw
  by_cases hn : n < 0
  ·
   have dn : decide (n < 0) = true := decide_eq_true hn
   clear hlaw hn
   go_wp2_with (first | (go_at_call 41; refine (HN.out _ HW.out).mono ?_; rintro e wv ⟨rfl, hB⟩; have HW := Lib.hid (HW.out.trans (hB.mono HW.out.size)); clear hB) | (go_at_call 42; refine (HS.out _ HW.out).mono ?_; rintro e wv ⟨rfl, hB⟩; have HW := Lib.hid (HW.out.trans (hB.mono HW.out.size)); clear hB))
   go_ret
   exact ⟨rfl, HB1.out.trans (HW.out.mono HB1.out.size)⟩
  ·
   have dn : decide (n < 0) = false := decide_eq_false hn
   obtain ⟨m, rfl, m1, m4, hmd⟩ := hlaw (by omega)
   have HMD := Lib.hid hmd
   have HPL := Lib.hid (fun (k : Int) (W : World) (hW : Below w1.heap.size w1 W) => PlanStarts_impl A1 c1 g A2 c2 rm k W (Kd.C_below H1.out hW) (Kd.C_below H2.out hW) (HTW.out W hW))
   have HME := Lib.hid (fun (k : Int) (x : List Int) (AO : Option Addr) (cO : Nat) (W : World) (hW : Below w1.heap.size w1 W) hO => MeetsDeadline_impl A1 c1 g A2 c2 rm k AO cO x dl W (Kd.C_below H1.out hW) (Kd.C_below H2.out hW) hO (HTW.out W hW))
   clear hn hmd hlaw
   go_upto_region 7 with (first | (go_at_call 41; refine (HN.out _ HW.out).mono ?_; rintro e wv ⟨rfl, hB⟩; have HW := Lib.hid (HW.out.trans (hB.mono HW.out.size)); clear hB) | (go_at_call 42; refine (HS.out _ HW.out).mono ?_; rintro e wv ⟨rfl, hB⟩; have HW := Lib.hid (HW.out.trans (hB.mono HW.out.size)); clear hB))
   go_wp2
   go_loopw [7] (fun t wr => ∃ j : Nat, 1 ≤ j ∧ j ≤ m + 1 ∧ t = .int .i64 (j : Nat) ∧ Below w1.heap.size w1 wr) (fun t _ => m + 1 - (intOf t).toNat)
   case atStart => exact ⟨1, Nat.le_refl _, by omega, rfl, HW.out⟩
   case round =>
    clear HW
    obtain ⟨j, hj1, hj, rfl, hB⟩ := hrel
    have HW := Lib.hid hB
    by_cases hjl : j ≤ m
    ·
     have hjj : decide ((j : Int) ≤ (m : Int)) = true := decide_eq_true (by omega)
     have hjj' : decide (j ≤ m) = true := decide_eq_true hjl
     have HM := Lib.hid (HMD.out j hj1 hjl)
     have HP := Lib.hid (HPL.out (j : Nat))
     have HE := Lib.hid (HME.out (j : Nat) (pS g rm (j : Nat)))
     rw [HM.out] at HE
     generalize pS g rm (j : Nat) = x at HP HE
     clear HM hB
     by_cases he : j = m
     ·
      have de : ((j : Int) == (m : Int)) = true := by rw [he]; exact beq_self_eq_true _
      rw [decide_eq_true he] at HE
      clear he
      go_wp2_with (first | (go_at_call 36; refine (HP.out _ HW.out).mono ?_; rintro e wl ⟨vX, rfl, hR, hB⟩; obtain ⟨AX, cX, rfl, hcX, hC⟩ := Kd.R_reads hR; have HW := Lib.hid (HW.out.trans (hB.mono HW.out.size)); (try (have HcX := Lib.hid (Kd.C_below HcX.out hB))); have HcX := Lib.hid hC; clear hR hC hB) | (go_at_call 27; refine (HE.out AX cX _ HW.out HcX.out).mono ?_; rintro e wv ⟨rfl, hB⟩; have HW := Lib.hid (HW.out.trans (hB.mono HW.out.size)); clear hB))
      go_roundw
      case rel => exact ⟨j + 1, by omega, by omega, by go_num, HW.out⟩
      case measure => simp [intOf]; omega
     ·
      have de : ((j : Int) == (m : Int)) = false := by rw [beq_eq_false_iff_ne]; omega
      rw [decide_eq_false he] at HE
      clear he
      go_wp2_with (first | (go_at_call 36; refine (HP.out _ HW.out).mono ?_; rintro e wl ⟨vX, rfl, hR, hB⟩; obtain ⟨AX, cX, rfl, hcX, hC⟩ := Kd.R_reads hR; have HW := Lib.hid (HW.out.trans (hB.mono HW.out.size)); (try (have HcX := Lib.hid (Kd.C_below HcX.out hB))); have HcX := Lib.hid hC; clear hR hC hB) | (go_at_call 27; refine (HE.out AX cX _ HW.out HcX.out).mono ?_; rintro e wv ⟨rfl, hB⟩; have HW := Lib.hid (HW.out.trans (hB.mono HW.out.size)); clear hB))
      go_roundw
      case rel => exact ⟨j + 1, by omega, by omega, by go_num, HW.out⟩
      case measure => simp [intOf]; omega
    ·
     obtain rfl : j = m + 1 := by omega
     have hjj : decide (((m + 1 : Nat) : Int) ≤ (m : Int)) = false := decide_eq_false (by omega)
     have hjj' : decide ((m : Int) + 1 ≤ (m : Int)) = false := decide_eq_false (by omega)
     have d4 : decide ((m : Int) ≤ 4) = true := decide_eq_true (by omega)
     have d4' : decide (m ≤ 4) = true := decide_eq_true m4
     clear hB
     go_wp2
     go_ret
     exact ⟨rfl, HB1.out.trans (HW.out.mono HB1.out.size)⟩
end Go.Proofs.YtifbjnhicnfdoaaDoor
