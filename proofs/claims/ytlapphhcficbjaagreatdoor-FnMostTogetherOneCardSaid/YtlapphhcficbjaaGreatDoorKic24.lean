/- Parts of the proof, laid as one text by a program of mine. -/
import Derived.Test.YtlapphhcficbjaaGreatDoorKic22
import Derived.Test.YtlapphhcficbjaaGreatDoorKic23
import Derived.Test.YtlapphhcficbjaaGreatDoorKic20
import Derived.Test.YtlapphhcficbjaaGreatDoorKic14
namespace Go.Proofs.YtlapphhcficbjaaGreatDoor
set_option linter.unusedVariables false
set_option linter.unusedSimpArgs false
open Go.RowKit Go.Shelf Bits
open Go.Proofs.YtlapphhcficbjaaGreatDoorW.PrintWords Go.Proofs.YtlapphhcficbjaaGreatDoorW.PrintLast Go.Proofs.YtlapphhcficbjaaGreatDoorW.PrintMore
set_option maxRecDepth 1000000 in
set_option maxHeartbeats 8000000 in
theorem FnMostTogetherOne_walk (A : Option Addr) (c : Nat) (l : List Int) (hb : ∀ x ∈ l, 0 ≤ x ∧ x < 256) (w : World) (hT : Tab w) (hr : (Kd.int .u8).C w A l.length l) (hc : l.length ≤ c) :
  Calls Tryz.prog 5 #[.slice A l.length c] w fun e w' => e = .returned (.bool true) ∧ Below w.heap.size w w' := by
 have HT := Lib.hid hT
 have hll := (C_len hr).2
 have HD := Lib.hid (DrawMostTogether_any A c l hb w hr hc)
 clear hb hr hc hT
 by_cases hbig : 1048576 < l.length
 ·
  have db : decide ((1048576 : Int) < (l.length : Int)) = true := decide_eq_true (by omega)
  clear hbig
  go_enter Tryz.func5, Tryz.ntmps5
  go_wp2
  go_ret
  exact ⟨rfl, Below.refl _ _⟩
 ·
  have db : decide ((1048576 : Int) < (l.length : Int)) = false := decide_eq_false (by omega)
  clear hbig
  go_enter Tryz.func5, Tryz.ntmps5
  go_upto_region 4 with (go_at_call 17; refine HD.out.mono ?_; rintro e w1 ⟨A1, c1, g, A2, c2, lg, rfl, h1, h2, hg16, hl16, hB1⟩; have H1 := Lib.hid h1; have H2 := Lib.hid h2; have HB1 := Lib.hid hB1; clear h1 h2 hB1)
  have HTW := Lib.hid (fun (W : World) (h : Below w1.heap.size w1 W) => HT.out.keep HT.out.lt (HB1.out.trans (h.mono HB1.out.size)))
  have HW := Lib.hid (Below.refl w1.heap.size w1)
  have HMI := Lib.hid (fun (W : World) (hW : Below w1.heap.size w1 W) => MostTogether_impl A1 c1 g A2 c2 lg W (Kd.C_below H1.out hW) (Kd.C_below H2.out hW) (HTW.out W hW))
  have HMS := Lib.hid (fun (W : World) (hW : Below w1.heap.size w1 W) => sMostTogether_calls A1 c1 g A2 c2 lg W (Kd.C_below H1.out hW) (Kd.C_below H2.out hW))
  have HVV := Lib.hid (fun (b : Bool) (hb : specValid g = b) (W : World) (hW : Below w1.heap.size w1 W) => ValidGraph_is b A1 c1 g (Lib.hid hb) W (Kd.C_below H1.out hW) (HTW.out W hW))
  cases hv : specValid g with
  | false =>
   have HVG := Lib.hid (HVV.out false hv)
   generalize mostB g lg = n at HMI HMS
   have dn : (n != n) = false := bne_self_eq_false _
   have de : (n == n) = true := beq_self_eq_true _
   clear hv
   go_wp2_with (first | (go_at_call 18; refine (HMI.out _ HW.out).mono ?_; rintro e wv ⟨rfl, hB⟩; have HW := Lib.hid (HW.out.trans (hB.mono HW.out.size)); clear hB) | (go_at_call 19; refine (HMS.out _ HW.out).mono ?_; rintro e wv ⟨rfl, hB⟩; have HW := Lib.hid (HW.out.trans (hB.mono HW.out.size)); clear hB) | (go_at_call 20; refine (HVG.out _ HW.out).mono ?_; rintro e wv ⟨rfl, hB⟩; have HW := Lib.hid (HW.out.trans (hB.mono HW.out.size)); clear hB))
   go_ret
   exact ⟨rfl, HB1.out.trans (HW.out.mono HB1.out.size)⟩
  | true =>
   have HVG := Lib.hid (HVV.out true hv)
   by_cases hg0 : g.length = 0
   ·
    have dl : ((g.length : Int) == 0) = true := by rw [hg0]; rfl
    have dl2 : (g.length == 0) = true := by rw [hg0]; rfl
    generalize mostB g lg = n at HMI HMS
    have dn : (n != n) = false := bne_self_eq_false _
    have de : (n == n) = true := beq_self_eq_true _
    clear hv hg0
    go_wp2_with (first | (go_at_call 18; refine (HMI.out _ HW.out).mono ?_; rintro e wv ⟨rfl, hB⟩; have HW := Lib.hid (HW.out.trans (hB.mono HW.out.size)); clear hB) | (go_at_call 19; refine (HMS.out _ HW.out).mono ?_; rintro e wv ⟨rfl, hB⟩; have HW := Lib.hid (HW.out.trans (hB.mono HW.out.size)); clear hB) | (go_at_call 20; refine (HVG.out _ HW.out).mono ?_; rintro e wv ⟨rfl, hB⟩; have HW := Lib.hid (HW.out.trans (hB.mono HW.out.size)); clear hB))
    go_ret
    exact ⟨rfl, HB1.out.trans (HW.out.mono HB1.out.size)⟩
   ·
    have dl : ((g.length : Int) == 0) = false := by rw [beq_eq_false_iff_ne]; omega
    have dl2 : (g.length == 0) = false := by rw [beq_eq_false_iff_ne]; exact hg0
    have HONE := Lib.hid (one_most (rm := [4, 4, 4]) hv (by decide) (by omega))
    have HMT := Lib.hid (fun (AO : Option Addr) (cO : Nat) (log : List Ev) (W : World) (hG : kTk.C W A1 g.length g) (hO : kEv.C W AO log.length log) (hT : Tab W) => MostTogether_impl A1 c1 g AO cO log W hG hO hT)
    have HVL := Lib.hid (fun (AO : Option Addr) (cO : Nat) (log : List Ev) (W : World) (hG : kTk.C W A1 g.length g) (hO : kEv.C W AO log.length log) (hT : Tab W) => ValidLog_impl A1 c1 g AO cO log W hG hO hT)
    generalize mostB g lg = n at HMI HMS
    have dn : (n != n) = false := bne_self_eq_false _
    have de : (n == n) = true := beq_self_eq_true _
    clear hv hg0
    go_upto_region 8 with (first | (go_at_call 18; refine (HMI.out _ HW.out).mono ?_; rintro e wv ⟨rfl, hB⟩; have HW := Lib.hid (HW.out.trans (hB.mono HW.out.size)); clear hB) | (go_at_call 19; refine (HMS.out _ HW.out).mono ?_; rintro e wv ⟨rfl, hB⟩; have HW := Lib.hid (HW.out.trans (hB.mono HW.out.size)); clear hB) | (go_at_call 20; refine (HVG.out _ HW.out).mono ?_; rintro e wv ⟨rfl, hB⟩; have HW := Lib.hid (HW.out.trans (hB.mono HW.out.size)); clear hB))
    have hlit := (Kd.R_reads' (lit_R wv [4, 4, 4] (by simp))).2.2
    have hBa : Below wv.heap.size wv (wv.alloc (.cells (encs (Value.int .i64) [4, 4, 4]).toArray 3)) := (Below.refl _ _).alloc (Nat.le_refl _) _
    obtain ⟨w5, hw5⟩ : ∃ w5, w5 = wv.alloc (.cells (encs (Value.int .i64) [4, 4, 4]).toArray 3) := ⟨_, rfl⟩
    rw [← hw5] at hlit hBa
    have HW5 : Hid (Below w1.heap.size w1 w5) := Lib.hid (HW.out.trans (hBa.mono HW.out.size))
    have HRM := Lib.hid hlit
    have HG5 := Lib.hid (Kd.C_below H1.out HW5.out)
    have HT5 := Lib.hid (HTW.out w5 HW5.out)
    have hw5' : wv.alloc (.cells #[.int .i64 4, .int .i64 4, .int .i64 4] 3) = w5 := hw5.symm
    rw [hw5']
    generalize wv.heap.size = bb at HRM ⊢
    have HX := Lib.hid (Below.refl w5.heap.size w5)
    clear hlit hBa hw5 hw5' HW HMI HMS HVG HVV
    go_wp2_with (first
     | (go_at_call 15; refine (PlanStarts_impl A1 c1 g (some ⟨bb, 0, none⟩) 3 [4, 4, 4] 1 _ (Kd.C_below HG5.out HX.out) (Kd.C_below HRM.out HX.out) (HT5.out.keep HT5.out.lt HX.out)).mono ?_; rintro e w6 ⟨vP, rfl, hR, hB⟩; obtain ⟨AP, cP, rfl, _, hC⟩ := Kd.R_reads hR; have HcP := Lib.hid hC; have HX := Lib.hid (HX.out.trans (hB.mono HX.out.size)); clear hR hB hC)
     | (go_at_call 21; refine (LogOf_impl A1 c1 g (some ⟨bb, 0, none⟩) 3 [4, 4, 4] 1 AP cP (pS g [4, 4, 4] 1) _ (Kd.C_below HG5.out HX.out) (Kd.C_below HRM.out HX.out) HcP.out (HT5.out.keep HT5.out.lt HX.out)).mono ?_; rintro e w7 ⟨vO, rfl, hR, hB⟩; obtain ⟨AO, cO, rfl, _, hC⟩ := Kd.R_reads hR; have HX := Lib.hid (HX.out.trans (hB.mono HX.out.size)); obtain ⟨ho1, ho2⟩ := HONE.out; have HcO := Lib.hid hC; have HV7 := Lib.hid (fun (W : World) hG hO hT => HVL.out AO cO (lgS g [4, 4, 4] 1 (pS g [4, 4, 4] 1)) W hG hO hT); have HM7 := Lib.hid (fun (W : World) hG hO hT => HMT.out AO cO (lgS g [4, 4, 4] 1 (pS g [4, 4, 4] 1)) W hG hO hT); rw [ho1] at HV7; rw [ho2] at HM7; clear hR hB hC ho1 ho2)
     | (go_at_call 22; refine (HV7.out _ (Kd.C_below HG5.out HX.out) HcO.out (HT5.out.keep HT5.out.lt HX.out)).mono ?_; rintro e w8 ⟨rfl, hB⟩; have HcO := Lib.hid (Kd.C_below HcO.out hB); have HX := Lib.hid (HX.out.trans (hB.mono HX.out.size)); clear hB)
     | (go_at_call 18; refine (HM7.out _ (Kd.C_below HG5.out HX.out) HcO.out (HT5.out.keep HT5.out.lt HX.out)).mono ?_; rintro e w9 ⟨rfl, hB⟩; have HX := Lib.hid (HX.out.trans (hB.mono HX.out.size)); clear hB))
    go_ret
    exact ⟨rfl, HB1.out.trans ((HW5.out.trans (HX.out.mono HW5.out.size)).mono HB1.out.size)⟩
end Go.Proofs.YtlapphhcficbjaaGreatDoor
