/- Parts of the proof, laid as one text by a program of mine. -/
import Derived.Test.YtifbjnhicnfdoaaDoorKac24
import Derived.Test.YtifbjnhicnfdoaaDoorKac25
import Derived.Test.YtifbjnhicnfdoaaDoorKac23
import Derived.Test.YtifbjnhicnfdoaaDoorKac13
import Derived.Test.YtifbjnhicnfdoaaDoorKac12
import Derived.Test.YtifbjnhicnfdoaaDoorKac21
namespace Go.Proofs.YtifbjnhicnfdoaaDoor
set_option linter.unusedVariables false
set_option linter.unusedSimpArgs false
open Go.RowKit Go.Shelf Bits
open Go.Proofs.YtifbjnhicnfdoaaDoorW.PrintWords Go.Proofs.YtifbjnhicnfdoaaDoorW.PrintLast Go.Proofs.YtifbjnhicnfdoaaDoorW.PrintMore
set_option maxRecDepth 1000000 in
set_option maxHeartbeats 8000000 in
theorem FnDoneByEnd_walk (A : Option Addr) (c : Nat) (l : List Int) (hb : ∀ x ∈ l, 0 ≤ x ∧ x < 256) (w : World) (hT : Tab w) (hr : (Kd.int .u8).C w A l.length l) (hc : l.length ≤ c) :
  Calls Tryd.prog 11 #[.slice A l.length c] w fun e w' => e = .returned (.bool true) ∧ Below w.heap.size w w' := by
 have HT := Lib.hid hT
 have hll := (C_len hr).2
 have HD := Lib.hid (DrawLogOf_any A c l hb w hr hc)
 clear hb hr hc hT
 by_cases hbig : 1048576 < l.length
 ·
  have db : decide ((1048576 : Int) < (l.length : Int)) = true := decide_eq_true (by omega)
  clear hbig
  go_enter Tryd.func11, Tryd.ntmps11
  go_wp2
  go_ret
  exact ⟨rfl, Below.refl _ _⟩
 ·
  have db : decide ((1048576 : Int) < (l.length : Int)) = false := decide_eq_false (by omega)
  clear hbig
  go_enter Tryd.func11, Tryd.ntmps11
  go_upto_region 4 with (go_at_call 16; refine HD.out.mono ?_; rintro e w1 ⟨rb, A1, c1, g, A2, c2, rm, wk, A3, c3, st, rfl, hG, hR, hS, hrb, hg16, hs8, hwk, hso, hB1⟩; have H1 := Lib.hid hG.now; have H2 := Lib.hid hR.now; have H3 := Lib.hid hS.now; have HSO := Lib.hid hso; have HB1 := Lib.hid hB1; clear hG hR hS hrb hso hB1)
  have HTW := Lib.hid (fun (W : World) (h : Below w1.heap.size w1 W) => HT.out.keep HT.out.lt (HB1.out.trans (h.mono HB1.out.size)))
  have HW := Lib.hid (Below.refl w1.heap.size w1)
  have HLG := Lib.hid (fun (W : World) (hW : Below w1.heap.size w1 W) => LogOf_impl A1 c1 g A2 c2 rm wk A3 c3 st W (Kd.C_below H1.out hW) (Kd.C_below H2.out hW) (Kd.C_below H3.out hW) (HTW.out W hW))
  have HSG := Lib.hid (fun (W : World) (hW : Below w1.heap.size w1 W) => sLogOf_calls A1 c1 g A2 c2 rm wk A3 c3 st W (Kd.C_below H1.out hW) (Kd.C_below H2.out hW) (Kd.C_below H3.out hW))
  have HET := Lib.hid (fun (W : World) (hW : Below w1.heap.size w1 W) => EndTime_impl A1 c1 g A2 c2 rm wk A3 c3 st W (Kd.C_below H1.out hW) (Kd.C_below H2.out hW) (Kd.C_below H3.out hW) (HTW.out W hW))
  have HVL := Lib.hid (fun (AO : Option Addr) (cO : Nat) (W : World) (hW : Below w1.heap.size w1 W) hO => ValidLog_impl A1 c1 g AO cO (lgS g rm wk st) W (Kd.C_below H1.out hW) hO (HTW.out W hW))
  by_cases h0 : (lgS g rm wk st).length = 0
  ·
   have dl : (((lgS g rm wk st).length : Int) == 0) = true := by rw [h0]; rfl
   clear h0
   clear HVL
   generalize lgS g rm wk st = o at HLG HSG dl
   go_wp2_with (first | (go_at_call 17; refine (HLG.out _ HW.out).mono ?_; rintro e wl ⟨vO, rfl, hR, hB⟩; obtain ⟨AO, cO, rfl, hcO, hC⟩ := Kd.R_reads hR; have HW := Lib.hid (HW.out.trans (hB.mono HW.out.size)); (try (have HcO := Lib.hid (Kd.C_below HcO.out hB))); (try (have HcP := Lib.hid (Kd.C_below HcP.out hB))); have HcO := Lib.hid hC; clear hR hC hB; clear HLG) | (go_at_call 19; refine (HSG.out _ HW.out).mono ?_; rintro e wl ⟨vP, rfl, hR, hB⟩; obtain ⟨AP, cP, rfl, hcP, hC⟩ := Kd.R_reads hR; have HW := Lib.hid (HW.out.trans (hB.mono HW.out.size)); (try (have HcO := Lib.hid (Kd.C_below HcO.out hB))); (try (have HcP := Lib.hid (Kd.C_below HcP.out hB))); have HcP := Lib.hid hC; clear hR hC hB) | (go_at_call 18; refine (equalEvents_same _ _ _ _ _ _ HcO.out HcP.out).mono ?_; rintro e wv ⟨rfl, hB⟩; have HW := Lib.hid (HW.out.trans (hB.mono HW.out.size)); (try (have HcO := Lib.hid (Kd.C_below HcO.out hB))); (try (have HcP := Lib.hid (Kd.C_below HcP.out hB))); clear hB))
   go_ret
   exact ⟨rfl, HB1.out.trans (HW.out.mono HB1.out.size)⟩
  ·
   have dl : (((lgS g rm wk st).length : Int) == 0) = false := by rw [beq_eq_false_iff_ne]; omega
   obtain ⟨hV, hlen⟩ := lg_yes h0
   have HV := Lib.hid hV
   by_cases hy : (replayB g (lgS g rm wk st)).isSome = true
   ·
    obtain ⟨f1, f2, f3⟩ := lg_done hV (by omega) hy
    have hok := hV.ok
    have HAT := Lib.hid (fun (W : World) (hW : Below w1.heap.size w1 W) => ((allTime_calls A1 c1 g hg16 (fun i => by have := hok.2.1 i; omega) W (Kd.C_below H1.out hW)).mono fun e w' h => (⟨h.1, by rw [h.2]; exact Below.refl _ _⟩ : _ ∧ Below W.heap.size W w')))
    have hen := etS_bound g rm wk st
    have HD1 := Lib.hid (fun (AO : Option Addr) (cO : Nat) (W : World) (hW : Below w1.heap.size w1 W) hO => DoneBy_impl A1 c1 g AO cO (lgS g rm wk st) (etS g rm wk st) W (Kd.C_below H1.out hW) hO (HTW.out W hW))
    obtain ⟨d1, hd1⟩ : ∃ d1, d1 = etS g rm wk st - 1 := ⟨_, rfl⟩
    rw [← hd1] at f2
    have HD2 := Lib.hid (fun (AO : Option Addr) (cO : Nat) (W : World) (hW : Below w1.heap.size w1 W) hO => DoneBy_impl A1 c1 g AO cO (lgS g rm wk st) d1 W (Kd.C_below H1.out hW) hO (HTW.out W hW))
    have HBT := Lib.hid (fun (AO : Option Addr) (cO : Nat) (W : World) (hW : Below w1.heap.size w1 W) hO => BusyTime_impl A1 c1 g AO cO (lgS g rm wk st) W (Kd.C_below H1.out hW) hO (HTW.out W hW))
    rw [f3] at HBT
    have dy1 : (((doneB g (lgS g rm wk st) (etS g rm wk st)).length : Int) == (g.length : Int)) = true := by rw [f1]; exact beq_self_eq_true _
    have dy2 : decide (((doneB g (lgS g rm wk st) d1).length : Int) < (g.length : Int)) = true := decide_eq_true (by omega)
    have dy2' : decide ((doneB g (lgS g rm wk st) d1).length < g.length) = true := decide_eq_true f2
    have hwr : IntKind.i64.wrap (etS g rm wk st - 1) = d1 := by rw [hd1]; exact IntWalk.i64_in _ (by omega)
    rw [hy] at HVL
    clear h0 hV hlen hy f1 f2 f3 hok hd1
    generalize doneB g (lgS g rm wk st) d1 = y at HD2 dy2 dy2'
    generalize doneB g (lgS g rm wk st) (etS g rm wk st) = x at HD1 dy1
    generalize etS g rm wk st = en at HET HD1 hwr hen
    generalize timeS g = tm at HBT HAT
    generalize lgS g rm wk st = o at HLG HSG dl HVL HD1 HD2 HBT
    go_wp2_with (first | (go_at_call 17; refine (HLG.out _ HW.out).mono ?_; rintro e wl ⟨vO, rfl, hR, hB⟩; obtain ⟨AO, cO, rfl, hcO, hC⟩ := Kd.R_reads hR; have HW := Lib.hid (HW.out.trans (hB.mono HW.out.size)); (try (have HcO := Lib.hid (Kd.C_below HcO.out hB))); (try (have HcP := Lib.hid (Kd.C_below HcP.out hB))); (try (have HcX := Lib.hid (Kd.C_below HcX.out hB))); (try (have HcY := Lib.hid (Kd.C_below HcY.out hB))); have HcO := Lib.hid hC; clear hR hC hB; clear HLG) | (go_at_call 19; refine (HSG.out _ HW.out).mono ?_; rintro e wl ⟨vP, rfl, hR, hB⟩; obtain ⟨AP, cP, rfl, hcP, hC⟩ := Kd.R_reads hR; have HW := Lib.hid (HW.out.trans (hB.mono HW.out.size)); (try (have HcO := Lib.hid (Kd.C_below HcO.out hB))); (try (have HcP := Lib.hid (Kd.C_below HcP.out hB))); (try (have HcX := Lib.hid (Kd.C_below HcX.out hB))); (try (have HcY := Lib.hid (Kd.C_below HcY.out hB))); have HcP := Lib.hid hC; clear hR hC hB) | (go_at_call 18; refine (equalEvents_same _ _ _ _ _ _ HcO.out HcP.out).mono ?_; rintro e wv ⟨rfl, hB⟩; have HW := Lib.hid (HW.out.trans (hB.mono HW.out.size)); (try (have HcO := Lib.hid (Kd.C_below HcO.out hB))); (try (have HcP := Lib.hid (Kd.C_below HcP.out hB))); (try (have HcX := Lib.hid (Kd.C_below HcX.out hB))); (try (have HcY := Lib.hid (Kd.C_below HcY.out hB))); clear hB) | (go_at_call 20; refine (HVL.out AO cO _ HW.out HcO.out).mono ?_; rintro e wv ⟨rfl, hB⟩; have HW := Lib.hid (HW.out.trans (hB.mono HW.out.size)); (try (have HcO := Lib.hid (Kd.C_below HcO.out hB))); (try (have HcP := Lib.hid (Kd.C_below HcP.out hB))); (try (have HcX := Lib.hid (Kd.C_below HcX.out hB))); (try (have HcY := Lib.hid (Kd.C_below HcY.out hB))); clear hB) | (go_at_call 28; refine (HET.out _ HW.out).mono ?_; rintro e wv ⟨rfl, hB⟩; have HW := Lib.hid (HW.out.trans (hB.mono HW.out.size)); (try (have HcO := Lib.hid (Kd.C_below HcO.out hB))); (try (have HcP := Lib.hid (Kd.C_below HcP.out hB))); (try (have HcX := Lib.hid (Kd.C_below HcX.out hB))); (try (have HcY := Lib.hid (Kd.C_below HcY.out hB))); clear hB) | (go_at_call 34; refine (HD1.out AO cO _ HW.out HcO.out).mono ?_; rintro e wl ⟨vX, rfl, hR, hB⟩; obtain ⟨AX, cX, rfl, hcX, hC⟩ := Kd.R_reads hR; have HW := Lib.hid (HW.out.trans (hB.mono HW.out.size)); (try (have HcO := Lib.hid (Kd.C_below HcO.out hB))); (try (have HcP := Lib.hid (Kd.C_below HcP.out hB))); have HcX := Lib.hid hC; clear hR hC hB; clear HD1) | (go_at_call 34; refine (HD2.out AO cO _ HW.out HcO.out).mono ?_; rintro e wl ⟨vY, rfl, hR, hB⟩; obtain ⟨AY, cY, rfl, hcY, hC⟩ := Kd.R_reads hR; have HW := Lib.hid (HW.out.trans (hB.mono HW.out.size)); (try (have HcO := Lib.hid (Kd.C_below HcO.out hB))); (try (have HcP := Lib.hid (Kd.C_below HcP.out hB))); (try (have HcX := Lib.hid (Kd.C_below HcX.out hB))); have HcY := Lib.hid hC; clear hR hC hB; clear HD2) | (go_at_call 38; refine (HBT.out AO cO _ HW.out HcO.out).mono ?_; rintro e wv ⟨rfl, hB⟩; have HW := Lib.hid (HW.out.trans (hB.mono HW.out.size)); (try (have HcO := Lib.hid (Kd.C_below HcO.out hB))); (try (have HcP := Lib.hid (Kd.C_below HcP.out hB))); (try (have HcX := Lib.hid (Kd.C_below HcX.out hB))); (try (have HcY := Lib.hid (Kd.C_below HcY.out hB))); clear hB) | (go_at_call 39; refine (HAT.out _ HW.out).mono ?_; rintro e wv ⟨rfl, hB⟩; have HW := Lib.hid (HW.out.trans (hB.mono HW.out.size)); (try (have HcO := Lib.hid (Kd.C_below HcO.out hB))); (try (have HcP := Lib.hid (Kd.C_below HcP.out hB))); (try (have HcX := Lib.hid (Kd.C_below HcX.out hB))); (try (have HcY := Lib.hid (Kd.C_below HcY.out hB))); clear hB))
    go_ret
    exact ⟨rfl, HB1.out.trans (HW.out.mono HB1.out.size)⟩
   ·
    have hy2 : (replayB g (lgS g rm wk st)).isSome = false := by simpa using hy
    rw [hy2] at HVL
    clear h0 hV hlen hy hy2
    generalize lgS g rm wk st = o at HLG HSG dl HVL
    go_wp2_with (first | (go_at_call 17; refine (HLG.out _ HW.out).mono ?_; rintro e wl ⟨vO, rfl, hR, hB⟩; obtain ⟨AO, cO, rfl, hcO, hC⟩ := Kd.R_reads hR; have HW := Lib.hid (HW.out.trans (hB.mono HW.out.size)); (try (have HcO := Lib.hid (Kd.C_below HcO.out hB))); (try (have HcP := Lib.hid (Kd.C_below HcP.out hB))); have HcO := Lib.hid hC; clear hR hC hB; clear HLG) | (go_at_call 19; refine (HSG.out _ HW.out).mono ?_; rintro e wl ⟨vP, rfl, hR, hB⟩; obtain ⟨AP, cP, rfl, hcP, hC⟩ := Kd.R_reads hR; have HW := Lib.hid (HW.out.trans (hB.mono HW.out.size)); (try (have HcO := Lib.hid (Kd.C_below HcO.out hB))); (try (have HcP := Lib.hid (Kd.C_below HcP.out hB))); have HcP := Lib.hid hC; clear hR hC hB) | (go_at_call 18; refine (equalEvents_same _ _ _ _ _ _ HcO.out HcP.out).mono ?_; rintro e wv ⟨rfl, hB⟩; have HW := Lib.hid (HW.out.trans (hB.mono HW.out.size)); (try (have HcO := Lib.hid (Kd.C_below HcO.out hB))); (try (have HcP := Lib.hid (Kd.C_below HcP.out hB))); clear hB) | (go_at_call 20; refine (HVL.out AO cO _ HW.out HcO.out).mono ?_; rintro e wv ⟨rfl, hB⟩; have HW := Lib.hid (HW.out.trans (hB.mono HW.out.size)); (try (have HcO := Lib.hid (Kd.C_below HcO.out hB))); (try (have HcP := Lib.hid (Kd.C_below HcP.out hB))); clear hB))
    go_ret
    exact ⟨rfl, HB1.out.trans (HW.out.mono HB1.out.size)⟩
end Go.Proofs.YtifbjnhicnfdoaaDoor
