/- Parts of the proof, laid as one text by a program of mine. -/
import Derived.Test.YtifbjnhicnfdoaaDoorKac24
import Derived.Test.YtifbjnhicnfdoaaDoorKac25
import Derived.Test.YtifbjnhicnfdoaaDoorKac23
import Derived.Test.YtifbjnhicnfdoaaDoorKac13
import Derived.Test.YtifbjnhicnfdoaaDoorKac12
namespace Go.Proofs.YtifbjnhicnfdoaaDoor
set_option linter.unusedVariables false
set_option linter.unusedSimpArgs false
open Go.RowKit Go.Shelf Bits
open Go.Proofs.YtifbjnhicnfdoaaDoorW.PrintWords Go.Proofs.YtifbjnhicnfdoaaDoorW.PrintLast Go.Proofs.YtifbjnhicnfdoaaDoorW.PrintMore
set_option maxRecDepth 1000000 in
set_option maxHeartbeats 8000000 in
theorem FnLogOf_walk (A : Option Addr) (c : Nat) (l : List Int) (hb : ∀ x ∈ l, 0 ≤ x ∧ x < 256) (w : World) (hT : Tab w) (hr : (Kd.int .u8).C w A l.length l) (hc : l.length ≤ c) :
  Calls Tryd.prog 4 #[.slice A l.length c] w fun e w' => e = .returned (.bool true) ∧ Below w.heap.size w w' := by
 have HT := Lib.hid hT
 have hll := (C_len hr).2
 have HD := Lib.hid (DrawLogOf_any A c l hb w hr hc)
 clear hb hr hc hT
 by_cases hbig : 1048576 < l.length
 ·
  have db : decide ((1048576 : Int) < (l.length : Int)) = true := decide_eq_true (by omega)
  clear hbig
  go_enter Tryd.func4, Tryd.ntmps4
  go_wp2
  go_ret
  exact ⟨rfl, Below.refl _ _⟩
 ·
  have db : decide ((1048576 : Int) < (l.length : Int)) = false := decide_eq_false (by omega)
  clear hbig
  go_enter Tryd.func4, Tryd.ntmps4
  go_upto_region 4 with (go_at_call 16; refine HD.out.mono ?_; rintro e w1 ⟨rb, A1, c1, g, A2, c2, rm, wk, A3, c3, st, rfl, hG, hR, hS, hrb, hg16, hs8, hwk, hso, hB1⟩; have H1 := Lib.hid hG.now; have H2 := Lib.hid hR.now; have H3 := Lib.hid hS.now; have HSO := Lib.hid hso; have HB1 := Lib.hid hB1; clear hG hR hS hrb hso hB1)
  have HTW := Lib.hid (fun (W : World) (h : Below w1.heap.size w1 W) => HT.out.keep HT.out.lt (HB1.out.trans (h.mono HB1.out.size)))
  have HW := Lib.hid (Below.refl w1.heap.size w1)
  have HLG := Lib.hid (fun (W : World) (hW : Below w1.heap.size w1 W) => LogOf_impl A1 c1 g A2 c2 rm wk A3 c3 st W (Kd.C_below H1.out hW) (Kd.C_below H2.out hW) (Kd.C_below H3.out hW) (HTW.out W hW))
  have HSG := Lib.hid (fun (W : World) (hW : Below w1.heap.size w1 W) => sLogOf_calls A1 c1 g A2 c2 rm wk A3 c3 st W (Kd.C_below H1.out hW) (Kd.C_below H2.out hW) (Kd.C_below H3.out hW))
  by_cases h0 : (lgS g rm wk st).length = 0
  ·
   have dl : (((lgS g rm wk st).length : Int) == 0) = true := by rw [h0]; rfl
   clear h0
   generalize lgS g rm wk st = o at HLG HSG dl
   go_wp2_with (first | (go_at_call 17; refine (HLG.out _ HW.out).mono ?_; rintro e wl ⟨vO, rfl, hR, hB⟩; obtain ⟨AO, cO, rfl, hcO, hC⟩ := Kd.R_reads hR; have HW := Lib.hid (HW.out.trans (hB.mono HW.out.size)); (try (have HcO := Lib.hid (Kd.C_below HcO.out hB))); (try (have HcP := Lib.hid (Kd.C_below HcP.out hB))); have HcO := Lib.hid hC; clear hR hC hB; clear HLG) | (go_at_call 19; refine (HSG.out _ HW.out).mono ?_; rintro e wl ⟨vP, rfl, hR, hB⟩; obtain ⟨AP, cP, rfl, hcP, hC⟩ := Kd.R_reads hR; have HW := Lib.hid (HW.out.trans (hB.mono HW.out.size)); (try (have HcO := Lib.hid (Kd.C_below HcO.out hB))); (try (have HcP := Lib.hid (Kd.C_below HcP.out hB))); have HcP := Lib.hid hC; clear hR hC hB) | (go_at_call 18; refine (equalEvents_same _ _ _ _ _ _ HcO.out HcP.out).mono ?_; rintro e wv ⟨rfl, hB⟩; have HW := Lib.hid (HW.out.trans (hB.mono HW.out.size)); (try (have HcO := Lib.hid (Kd.C_below HcO.out hB))); (try (have HcP := Lib.hid (Kd.C_below HcP.out hB))); clear hB))
   go_ret
   exact ⟨rfl, HB1.out.trans (HW.out.mono HB1.out.size)⟩
  ·
   have dl : (((lgS g rm wk st).length : Int) == 0) = false := by rw [beq_eq_false_iff_ne]; omega
   obtain ⟨hV, hlen⟩ := lg_yes h0
   have HV := Lib.hid hV
   have HVL := Lib.hid (fun (AO : Option Addr) (cO : Nat) (W : World) (hW : Below w1.heap.size w1 W) hO => ValidLog_impl A1 c1 g AO cO (lgS g rm wk st) W (Kd.C_below H1.out hW) hO (HTW.out W hW))
   have HOK : Hid ((∀ k, k < st.length → st.getD k 0 ≤ 180) → (replayB g (lgS g rm wk st)).isSome = true) := Lib.hid (fun h => lg_replay hV (fun i hi => by
    have h1 := h i (by rw [hV.len]; exact hi)
    have := hV.ok.2.1 i
    omega))
   have HWM : Hid (IntKind.i64.wrap (2 * (g.length : Int)) = 2 * (g.length : Int)) := Lib.hid (IntWalk.i64_in _ (by omega))
   have dle : (((lgS g rm wk st).length : Int) == 2 * (g.length : Int)) = true := by rw [hlen]; simp
   clear h0 hV hlen
   generalize lgS g rm wk st = o at HLG HSG dl HVL HOK dle
   go_upto_region 7 with (first | (go_at_call 17; refine (HLG.out _ HW.out).mono ?_; rintro e wl ⟨vO, rfl, hR, hB⟩; obtain ⟨AO, cO, rfl, hcO, hC⟩ := Kd.R_reads hR; have HW := Lib.hid (HW.out.trans (hB.mono HW.out.size)); (try (have HcO := Lib.hid (Kd.C_below HcO.out hB))); (try (have HcP := Lib.hid (Kd.C_below HcP.out hB))); have HcO := Lib.hid hC; clear hR hC hB; clear HLG) | (go_at_call 19; refine (HSG.out _ HW.out).mono ?_; rintro e wl ⟨vP, rfl, hR, hB⟩; obtain ⟨AP, cP, rfl, hcP, hC⟩ := Kd.R_reads hR; have HW := Lib.hid (HW.out.trans (hB.mono HW.out.size)); (try (have HcO := Lib.hid (Kd.C_below HcO.out hB))); (try (have HcP := Lib.hid (Kd.C_below HcP.out hB))); have HcP := Lib.hid hC; clear hR hC hB) | (go_at_call 18; refine (equalEvents_same _ _ _ _ _ _ HcO.out HcP.out).mono ?_; rintro e wv ⟨rfl, hB⟩; have HW := Lib.hid (HW.out.trans (hB.mono HW.out.size)); (try (have HcO := Lib.hid (Kd.C_below HcO.out hB))); (try (have HcP := Lib.hid (Kd.C_below HcP.out hB))); clear hB))
   obtain ⟨w2, rfl⟩ : ∃ w2 : World, w2 = wv := ⟨_, rfl⟩
   go_wp2
   go_loopw [8] (fun i wr => ∃ j, j ≤ st.length ∧ i = .int .i64 (j : Nat) ∧ Hid (∀ k, k < j → st.getD k 0 ≤ 180) ∧ Below w2.heap.size w2 wr) (fun i _ => st.length - (intOf i).toNat)
   case atStart => exact ⟨0, Nat.zero_le _, rfl, Lib.hid fun k h => absurd h (Nat.not_lt_zero _), Below.refl _ _⟩
   case round =>
    obtain ⟨j, hj, rfl, HNE, hB2⟩ := hrel
    have hB := HW.out.trans (hB2.mono HW.out.size)
    by_cases hjl : j < st.length
    ·
     have hjj : decide ((j : Int) < (st.length : Int)) = true := decide_eq_true (by omega)
     have hjsi : (j : Int) < (st.length : Int) := by omega
     obtain ⟨ads, rfl, cs⟩ := at_num (Kd.C_below H3.out hB) j hjl
     have hsj := HSO.out j
     have HN2 : Hid (st.getD j 0 ≤ 180 → ∀ k, k < j + 1 → st.getD k 0 ≤ 180) := Lib.hid (fun hn k hk => by
      by_cases e : k = j
      ·
       rw [e]; exact hn
      ·
       exact HNE.out k (by omega))
     generalize st.getD j 0 = s at cs hsj HN2
     have HB2 := Lib.hid hB2
     by_cases h2 : 180 < s
     ·
      have d2 : decide (180 < s) = true := decide_eq_true h2
      clear h2 HN2 hB2
      go_wp2
      go_ret
      exact ⟨rfl, HB1.out.trans (hB.mono HB1.out.size)⟩
     ·
      have d2 : decide (180 < s) = false := decide_eq_false h2
      have HN3 := Lib.hid (HN2.out (by omega))
      clear h2 HN2 hB hB2
      go_wp2
      go_roundw
      case rel => exact ⟨j + 1, by omega, by go_num, HN3, HB2.out⟩
      case measure => simp [intOf]; omega
    ·
     obtain rfl : j = st.length := by omega
     have hjj : decide ((st.length : Int) < (st.length : Int)) = false := decide_eq_false (by omega)
     have HVY := Lib.hid (HVL.out AO cO wr hB (Kd.C_below HcO.out hB2))
     rw [HOK.out HNE.out] at HVY
     have HBB := Lib.hid hB
     have hwm := HWM.out
     clear hB hB2
     go_wp2_with (go_at_call 20; refine HVY.out.mono ?_; rintro e wz ⟨rfl, hB9⟩)
     go_ret
     exact ⟨rfl, HB1.out.trans ((HBB.out.trans (hB9.mono HBB.out.size)).mono HB1.out.size)⟩
end Go.Proofs.YtifbjnhicnfdoaaDoor
