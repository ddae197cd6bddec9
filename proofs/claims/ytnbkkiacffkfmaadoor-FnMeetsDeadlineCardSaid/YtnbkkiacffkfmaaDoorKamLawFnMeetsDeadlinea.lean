/- Parts of the proof, laid as one text by a program of mine. -/
import Derived.Test.YtnbkkiacffkfmaaDoorKac12
import Derived.Test.YtnbkkiacffkfmaaDoorKac16
import Derived.Test.YtnbkkiacffkfmaaDoorKac17
import Derived.Test.YtnbkkiacffkfmaaDoorKac10
namespace Go.Proofs.YtnbkkiacffkfmaaDoor
set_option linter.unusedVariables false
set_option linter.unusedSimpArgs false
open Go.RowKit Go.Shelf Bits
open Go.Proofs.YtnbkkiacffkfmaaDoorW.PrintWords Go.Proofs.YtnbkkiacffkfmaaDoorW.PrintLast Go.Proofs.YtnbkkiacffkfmaaDoorW.PrintMore
set_option maxRecDepth 1000000 in
set_option maxHeartbeats 8000000 in
theorem FnMeetsDeadline_walk (A : Option Addr) (c : Nat) (l : List Int) (hb : ∀ x ∈ l, 0 ≤ x ∧ x < 256) (w : World) (hT : Tab w) (hr : (Kd.int .u8).C w A l.length l) (hc : l.length ≤ c) :
  Calls Tryd.prog 10 #[.slice A l.length c] w fun e w' => e = .returned (.bool true) ∧ Below w.heap.size w w' := by
 have HT := Lib.hid hT
 have hll := (C_len hr).2
 have HD := Lib.hid (DrawMeetsDeadline_any A c l hb w hr hc)
 clear hb hr hc hT
 by_cases hbig : 1048576 < l.length
 ·
  have db : decide ((1048576 : Int) < (l.length : Int)) = true := decide_eq_true (by omega)
  clear hbig
  go_enter Tryd.func10, Tryd.ntmps10
  go_wp2
  go_ret
  exact ⟨rfl, Below.refl _ _⟩
 ·
  have db : decide ((1048576 : Int) < (l.length : Int)) = false := decide_eq_false (by omega)
  clear hbig
  go_enter Tryd.func10, Tryd.ntmps10
  go_upto_region 4 with (go_at_call 27; refine HD.out.mono ?_; rintro e w1 ⟨A1, c1, g, A2, c2, rm, wk, A3, c3, st, dl, rfl, h1, h2, h3, hg16, hs8, hwk, hso, hnow, hB1⟩; have H1 := Lib.hid h1; have H2 := Lib.hid h2; have H3 := Lib.hid h3; have HSO := Lib.hid hso; have HB1 := Lib.hid hB1; clear h1 h2 h3 hso hB1)
  have HTW := Lib.hid (fun (W : World) (h : Below w1.heap.size w1 W) => HT.out.keep HT.out.lt (HB1.out.trans (h.mono HB1.out.size)))
  have HW := Lib.hid (Below.refl w1.heap.size w1)
  have HMD := Lib.hid (fun (W : World) (hW : Below w1.heap.size w1 W) => MeetsDeadline_impl A1 c1 g A2 c2 rm wk A3 c3 st dl W (Kd.C_below H1.out hW) (Kd.C_below H2.out hW) (Kd.C_below H3.out hW) (HTW.out W hW))
  have HSM := Lib.hid (fun (W : World) (hW : Below w1.heap.size w1 W) => sMeetsDeadline_calls A1 c1 g A2 c2 rm wk A3 c3 st dl W (Kd.C_below H1.out hW) (Kd.C_below H2.out hW) (Kd.C_below H3.out hW))
  have HET := Lib.hid (fun (W : World) (hW : Below w1.heap.size w1 W) => EndTime_impl A1 c1 g A2 c2 rm wk A3 c3 st W (Kd.C_below H1.out hW) (Kd.C_below H2.out hW) (Kd.C_below H3.out hW) (HTW.out W hW))
  obtain ⟨d1, hd1⟩ : ∃ d1, d1 = dl + 1 := ⟨_, rfl⟩
  have HM2 := Lib.hid (fun (W : World) (hW : Below w1.heap.size w1 W) => MeetsDeadline_impl A1 c1 g A2 c2 rm wk A3 c3 st d1 W (Kd.C_below H1.out hW) (Kd.C_below H2.out hW) (Kd.C_below H3.out hW) (HTW.out W hW))
  have hcase := etS_cases g rm wk st
  have hmd : Valid g rm wk st → 0 ≤ dl ∧ dl ≤ 200 → mdS g rm wk st dl = decide (etS g rm wk st ≤ dl) := fun h hd => mdS_is h hd
  have hm2 : Valid g rm wk st → 0 ≤ d1 ∧ d1 ≤ 200 → mdS g rm wk st d1 = decide (etS g rm wk st ≤ d1) := fun h hd => mdS_is h hd
  generalize etS g rm wk st = en at HET hcase hmd hm2
  generalize mdS g rm wk st dl = ok at HMD HSM hmd
  generalize mdS g rm wk st d1 = ok2 at HM2 hm2
  by_cases h0 : en < 0
  ·
   have dn : decide (en < 0) = true := decide_eq_true h0
   clear hcase h0 hmd hm2
   go_wp2_with (first | (go_at_call 28; refine (HMD.out _ HW.out).mono ?_; rintro e wv ⟨rfl, hB⟩; have HW := Lib.hid (HW.out.trans (hB.mono HW.out.size)); clear hB; clear HMD) | (go_at_call 29; refine (HSM.out _ HW.out).mono ?_; rintro e wv ⟨rfl, hB⟩; have HW := Lib.hid (HW.out.trans (hB.mono HW.out.size)); clear hB) | (go_at_call 25; refine (HET.out _ HW.out).mono ?_; rintro e wv ⟨rfl, hB⟩; have HW := Lib.hid (HW.out.trans (hB.mono HW.out.size)); clear hB) | (go_at_call 28; refine (HM2.out _ HW.out).mono ?_; rintro e wv ⟨rfl, hB⟩; have HW := Lib.hid (HW.out.trans (hB.mono HW.out.size)); clear hB))
   go_ret
   exact ⟨rfl, HB1.out.trans (HW.out.mono HB1.out.size)⟩
  ·
   have dn : decide (en < 0) = false := decide_eq_false h0
   have hv : Valid g rm wk st := by
    rcases hcase with h | h
    ·
     omega
    ·
     exact h.2
   by_cases h1 : dl < 0
   ·
    have d1' : decide (dl < 0) = true := decide_eq_true h1
    clear hcase h0 hmd hm2 hv h1
    go_wp2_with (first | (go_at_call 28; refine (HMD.out _ HW.out).mono ?_; rintro e wv ⟨rfl, hB⟩; have HW := Lib.hid (HW.out.trans (hB.mono HW.out.size)); clear hB; clear HMD) | (go_at_call 29; refine (HSM.out _ HW.out).mono ?_; rintro e wv ⟨rfl, hB⟩; have HW := Lib.hid (HW.out.trans (hB.mono HW.out.size)); clear hB) | (go_at_call 25; refine (HET.out _ HW.out).mono ?_; rintro e wv ⟨rfl, hB⟩; have HW := Lib.hid (HW.out.trans (hB.mono HW.out.size)); clear hB) | (go_at_call 28; refine (HM2.out _ HW.out).mono ?_; rintro e wv ⟨rfl, hB⟩; have HW := Lib.hid (HW.out.trans (hB.mono HW.out.size)); clear hB))
    go_ret
    exact ⟨rfl, HB1.out.trans (HW.out.mono HB1.out.size)⟩
   ·
    have d1' : decide (dl < 0) = false := decide_eq_false h1
    by_cases h2 : 200 < dl
    ·
     have d2' : decide (200 < dl) = true := decide_eq_true h2
     clear hcase h0 hmd hm2 hv h1 h2
     go_wp2_with (first | (go_at_call 28; refine (HMD.out _ HW.out).mono ?_; rintro e wv ⟨rfl, hB⟩; have HW := Lib.hid (HW.out.trans (hB.mono HW.out.size)); clear hB; clear HMD) | (go_at_call 29; refine (HSM.out _ HW.out).mono ?_; rintro e wv ⟨rfl, hB⟩; have HW := Lib.hid (HW.out.trans (hB.mono HW.out.size)); clear hB) | (go_at_call 25; refine (HET.out _ HW.out).mono ?_; rintro e wv ⟨rfl, hB⟩; have HW := Lib.hid (HW.out.trans (hB.mono HW.out.size)); clear hB) | (go_at_call 28; refine (HM2.out _ HW.out).mono ?_; rintro e wv ⟨rfl, hB⟩; have HW := Lib.hid (HW.out.trans (hB.mono HW.out.size)); clear hB))
     go_ret
     exact ⟨rfl, HB1.out.trans (HW.out.mono HB1.out.size)⟩
    ·
     have d2' : decide (200 < dl) = false := decide_eq_false h2
     replace hmd := hmd hv (by omega)
     by_cases h3 : en ≤ dl
     ·
      have d3' : decide (en ≤ dl) = true := decide_eq_true h3
      rw [d3'] at hmd
      subst hmd
      by_cases h4 : dl = 200
      ·
       have d4' : (dl == 200) = true := beq_iff_eq.2 h4
       clear hcase h0 hm2 hv h1 h2 h3 h4
       go_wp2_with (first | (go_at_call 28; refine (HMD.out _ HW.out).mono ?_; rintro e wv ⟨rfl, hB⟩; have HW := Lib.hid (HW.out.trans (hB.mono HW.out.size)); clear hB; clear HMD) | (go_at_call 29; refine (HSM.out _ HW.out).mono ?_; rintro e wv ⟨rfl, hB⟩; have HW := Lib.hid (HW.out.trans (hB.mono HW.out.size)); clear hB) | (go_at_call 25; refine (HET.out _ HW.out).mono ?_; rintro e wv ⟨rfl, hB⟩; have HW := Lib.hid (HW.out.trans (hB.mono HW.out.size)); clear hB) | (go_at_call 28; refine (HM2.out _ HW.out).mono ?_; rintro e wv ⟨rfl, hB⟩; have HW := Lib.hid (HW.out.trans (hB.mono HW.out.size)); clear hB))
       go_ret
       exact ⟨rfl, HB1.out.trans (HW.out.mono HB1.out.size)⟩
      ·
       have d4' : (dl == 200) = false := beq_eq_false_iff_ne.2 h4
       replace hm2 := hm2 hv (by omega)
       rw [decide_eq_true (show en ≤ d1 by omega)] at hm2
       subst hm2
       have hwr : IntKind.i64.wrap (dl + 1) = d1 := by rw [hd1]; exact IntWalk.i64_in _ (by omega)
       clear hcase h0 hv h1 h2 h3 h4 hd1
       go_wp2_with (first | (go_at_call 28; refine (HMD.out _ HW.out).mono ?_; rintro e wv ⟨rfl, hB⟩; have HW := Lib.hid (HW.out.trans (hB.mono HW.out.size)); clear hB; clear HMD) | (go_at_call 29; refine (HSM.out _ HW.out).mono ?_; rintro e wv ⟨rfl, hB⟩; have HW := Lib.hid (HW.out.trans (hB.mono HW.out.size)); clear hB) | (go_at_call 25; refine (HET.out _ HW.out).mono ?_; rintro e wv ⟨rfl, hB⟩; have HW := Lib.hid (HW.out.trans (hB.mono HW.out.size)); clear hB) | (go_at_call 28; refine (HM2.out _ HW.out).mono ?_; rintro e wv ⟨rfl, hB⟩; have HW := Lib.hid (HW.out.trans (hB.mono HW.out.size)); clear hB))
       go_ret
       exact ⟨rfl, HB1.out.trans (HW.out.mono HB1.out.size)⟩
     ·
      have d3' : decide (en ≤ dl) = false := decide_eq_false h3
      rw [d3'] at hmd
      subst hmd
      clear hcase h0 hm2 hv h1 h2 h3
      go_wp2_with (first | (go_at_call 28; refine (HMD.out _ HW.out).mono ?_; rintro e wv ⟨rfl, hB⟩; have HW := Lib.hid (HW.out.trans (hB.mono HW.out.size)); clear hB; clear HMD) | (go_at_call 29; refine (HSM.out _ HW.out).mono ?_; rintro e wv ⟨rfl, hB⟩; have HW := Lib.hid (HW.out.trans (hB.mono HW.out.size)); clear hB) | (go_at_call 25; refine (HET.out _ HW.out).mono ?_; rintro e wv ⟨rfl, hB⟩; have HW := Lib.hid (HW.out.trans (hB.mono HW.out.size)); clear hB) | (go_at_call 28; refine (HM2.out _ HW.out).mono ?_; rintro e wv ⟨rfl, hB⟩; have HW := Lib.hid (HW.out.trans (hB.mono HW.out.size)); clear hB))
      go_ret
      exact ⟨rfl, HB1.out.trans (HW.out.mono HB1.out.size)⟩
end Go.Proofs.YtnbkkiacffkfmaaDoor
