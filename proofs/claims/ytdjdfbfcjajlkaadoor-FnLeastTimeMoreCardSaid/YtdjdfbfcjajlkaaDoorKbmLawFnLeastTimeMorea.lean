/- Parts of the proof, laid as one text by a program of mine. -/
import Derived.Test.YtdjdfbfcjajlkaaDoorKbc15
import Derived.Test.YtdjdfbfcjajlkaaDoorKbc20
import Derived.Test.YtdjdfbfcjajlkaaDoorKbc19
import Derived.Test.YtdjdfbfcjajlkaaDoorKbc18
namespace Go.Proofs.YtdjdfbfcjajlkaaDoor
set_option linter.unusedVariables false
set_option linter.unusedSimpArgs false
open Go.RowKit Go.Shelf Bits
open Go.Proofs.YtdjdfbfcjajlkaaDoorW.PrintWords Go.Proofs.YtdjdfbfcjajlkaaDoorW.PrintLast Go.Proofs.YtdjdfbfcjajlkaaDoorW.PrintMore
theorem DrawLeastTime_any (A : Option Addr) (c : Nat) (l : List Int) (hb : ∀ x ∈ l, 0 ≤ x ∧ x < 256) (w : World) (hr : (Kd.int .u8).C w A l.length l) (hc : l.length ≤ c) :
  Calls Tryd.prog 45 #[.slice A l.length c] w fun e w' => ∃ A1 c1 g A2 c2 d wk, e = .returned (.tuple #[.slice A1 g.length c1, .slice A2 d.length c2, .int .i64 wk]) ∧ kTk.C w' A1 g.length g ∧ (Kd.int .i64).C w' A2 d.length d ∧ g.length ≤ 16 ∧ (0 ≤ wk ∧ wk ≤ 5) ∧ Below w.heap.size w w' := by
 have HD := Lib.hid (DrawPlanStarts_any A c l hb w hr hc)
 clear hb hr hc
 go_enter Tryd.func45, Tryd.ntmps45
 go_wp2_with (go_at_call 76; refine HD.out.mono ?_; rintro e w1 ⟨A1, c1, g, A2, c2, d, wk, rfl, h1, h2, h3, h4, h5⟩)
 go_ret3
 exact ⟨A1, c1, g, A2, c2, d, wk, rfl, h1, h2, h3, h4, h5⟩
set_option maxRecDepth 1000000 in
set_option maxHeartbeats 8000000 in
theorem FnLeastTimeMore_walk (A : Option Addr) (c : Nat) (l : List Int) (hb : ∀ x ∈ l, 0 ≤ x ∧ x < 256) (w : World) (hT : Tab w) (hr : (Kd.int .u8).C w A l.length l) (hc : l.length ≤ c) :
  Calls Tryd.prog 13 #[.slice A l.length c] w fun e w' => e = .returned (.bool true) ∧ Below w.heap.size w w' := by
 have HT := Lib.hid hT
 have hll := (C_len hr).2
 have HD := Lib.hid (DrawLeastTime_any A c l hb w hr hc)
 clear hb hr hc hT
 by_cases hbig : 1048576 < l.length
 ·
  have db : decide ((1048576 : Int) < (l.length : Int)) = true := decide_eq_true (by omega)
  clear hbig
  go_enter Tryd.func13, Tryd.ntmps13
  go_wp2
  go_ret
  exact ⟨rfl, Below.refl _ _⟩
 ·
  have db : decide ((1048576 : Int) < (l.length : Int)) = false := decide_eq_false (by omega)
  clear hbig
  go_enter Tryd.func13, Tryd.ntmps13
  go_upto_region 4 with (go_at_call 45; refine HD.out.mono ?_; rintro e w1 ⟨A1, c1, g, A2, c2, rm, wk, rfl, h1, h2, hg16, hwk, hB1⟩; have H1 := Lib.hid h1; have H2 := Lib.hid h2; have HB1 := Lib.hid hB1; clear h1 h2 hB1)
  have HTW := Lib.hid (fun (W : World) (h : Below w1.heap.size w1 W) => HT.out.keep HT.out.lt (HB1.out.trans (h.mono HB1.out.size)))
  have HW := Lib.hid (Below.refl w1.heap.size w1)
  have HLE := Lib.hid (fun (W : World) (hW : Below w1.heap.size w1 W) => LeastTime_impl A1 c1 g A2 c2 rm wk W (Kd.C_below H1.out hW) (Kd.C_below H2.out hW) (HTW.out W hW))
  have HSL := Lib.hid (fun (W : World) (hW : Below w1.heap.size w1 W) => sLeastTime_calls A1 c1 g A2 c2 rm wk W (Kd.C_below H1.out hW) (Kd.C_below H2.out hW))
  have HPS := Lib.hid (fun (W : World) (hW : Below w1.heap.size w1 W) => PlanStarts_impl A1 c1 g A2 c2 rm wk W (Kd.C_below H1.out hW) (Kd.C_below H2.out hW) (HTW.out W hW))
  have HET := Lib.hid (fun (AO : Option Addr) (cO : Nat) (W : World) (hW : Below w1.heap.size w1 W) hO => EndTime_impl A1 c1 g A2 c2 rm wk AO cO (pS g rm wk) W (Kd.C_below H1.out hW) (Kd.C_below H2.out hW) hO (HTW.out W hW))
  obtain ⟨k1, hk1⟩ : ∃ k1, k1 = wk + 1 := ⟨_, rfl⟩
  have HL2 := Lib.hid (fun (W : World) (hW : Below w1.heap.size w1 W) => LeastTime_impl A1 c1 g A2 c2 rm k1 W (Kd.C_below H1.out hW) (Kd.C_below H2.out hW) (HTW.out W hW))
  have hend := plan_end_least (g := g) (rm := rm) (wk := wk)
  have hmore : 0 ≤ leS g rm wk → wk ≠ 4 → leS g rm k1 ≤ leS g rm wk := fun h h4 => by
   obtain ⟨hv, hp⟩ := leS_nonneg h
   rw [hk1]
   exact least_more hv hp h4
  generalize etS g rm wk (pS g rm wk) = en at HET hend
  generalize pS g rm wk = x at HPS HET
  generalize leS g rm wk = n at HLE HSL hend hmore
  generalize leS g rm k1 = n2 at HL2 hmore
  by_cases h0 : n < 0
  ·
   have dn : decide (n < 0) = true := decide_eq_true h0
   clear hend hmore h0 hk1
   go_wp2_with (first | (go_at_call 44; refine (HLE.out _ HW.out).mono ?_; rintro e wv ⟨rfl, hB⟩; have HW := Lib.hid (HW.out.trans (hB.mono HW.out.size)); clear hB; clear HLE) | (go_at_call 46; refine (HSL.out _ HW.out).mono ?_; rintro e wv ⟨rfl, hB⟩; have HW := Lib.hid (HW.out.trans (hB.mono HW.out.size)); clear hB))
   go_ret
   exact ⟨rfl, HB1.out.trans (HW.out.mono HB1.out.size)⟩
  ·
   have dn : decide (n < 0) = false := decide_eq_false h0
   have d1 : decide (n ≤ en) = true := decide_eq_true (hend (by omega))
   by_cases h4 : wk = 4
   ·
    have d4 : (wk == 4) = true := beq_iff_eq.2 h4
    clear hend hmore h0 hk1 h4
    go_wp2_with (first | (go_at_call 44; refine (HLE.out _ HW.out).mono ?_; rintro e wv ⟨rfl, hB⟩; have HW := Lib.hid (HW.out.trans (hB.mono HW.out.size)); clear hB; clear HLE) | (go_at_call 46; refine (HSL.out _ HW.out).mono ?_; rintro e wv ⟨rfl, hB⟩; have HW := Lib.hid (HW.out.trans (hB.mono HW.out.size)); clear hB) | (go_at_call 22; refine (HPS.out _ HW.out).mono ?_; rintro e wl ⟨vX, rfl, hR, hB⟩; obtain ⟨AX, cX, rfl, hcX, hC⟩ := Kd.R_reads hR; have HW := Lib.hid (HW.out.trans (hB.mono HW.out.size)); (try (have HcX := Lib.hid (Kd.C_below HcX.out hB))); have HcX := Lib.hid hC; clear hR hC hB) | (go_at_call 31; refine (HET.out AX cX _ HW.out HcX.out).mono ?_; rintro e wv ⟨rfl, hB⟩; have HW := Lib.hid (HW.out.trans (hB.mono HW.out.size)); (try (have HcX := Lib.hid (Kd.C_below HcX.out hB))); clear hB))
    go_ret
    exact ⟨rfl, HB1.out.trans (HW.out.mono HB1.out.size)⟩
   ·
    have d4 : (wk == 4) = false := beq_eq_false_iff_ne.2 h4
    have d2 : decide (n2 ≤ n) = true := decide_eq_true (hmore (by omega) h4)
    have hwr : IntKind.i64.wrap (wk + 1) = k1 := by rw [hk1]; exact IntWalk.i64_in _ (by omega)
    clear hend hmore h0 hk1 h4
    go_wp2_with (first | (go_at_call 44; refine (HLE.out _ HW.out).mono ?_; rintro e wv ⟨rfl, hB⟩; have HW := Lib.hid (HW.out.trans (hB.mono HW.out.size)); clear hB; clear HLE) | (go_at_call 46; refine (HSL.out _ HW.out).mono ?_; rintro e wv ⟨rfl, hB⟩; have HW := Lib.hid (HW.out.trans (hB.mono HW.out.size)); clear hB) | (go_at_call 22; refine (HPS.out _ HW.out).mono ?_; rintro e wl ⟨vX, rfl, hR, hB⟩; obtain ⟨AX, cX, rfl, hcX, hC⟩ := Kd.R_reads hR; have HW := Lib.hid (HW.out.trans (hB.mono HW.out.size)); (try (have HcX := Lib.hid (Kd.C_below HcX.out hB))); have HcX := Lib.hid hC; clear hR hC hB) | (go_at_call 31; refine (HET.out AX cX _ HW.out HcX.out).mono ?_; rintro e wv ⟨rfl, hB⟩; have HW := Lib.hid (HW.out.trans (hB.mono HW.out.size)); (try (have HcX := Lib.hid (Kd.C_below HcX.out hB))); clear hB) | (go_at_call 44; refine (HL2.out _ HW.out).mono ?_; rintro e wv ⟨rfl, hB⟩; have HW := Lib.hid (HW.out.trans (hB.mono HW.out.size)); (try (have HcX := Lib.hid (Kd.C_below HcX.out hB))); clear hB))
    go_ret
    exact ⟨rfl, HB1.out.trans (HW.out.mono HB1.out.size)⟩
end Go.Proofs.YtdjdfbfcjajlkaaDoor
