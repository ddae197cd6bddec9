/- Parts of the proof, laid as one text by a program of mine. -/
import Derived.Test.YtnbkkiacffkfmaaDoorKac12
import Derived.Test.YtnbkkiacffkfmaaDoorKac16
import Derived.Test.YtnbkkiacffkfmaaDoorKac17
import Derived.Test.YtnbkkiacffkfmaaDoorKac10
namespace Go.Proofs.YtnbkkiacffkfmaaDoor
set_option linter.unusedVariables false
set_option linter.unusedSimpArgs false
open Go.RowKit Go.Shelf Bits
open Go.Proofs.YtnbkkiacffkfmaaDoorW.PrintWords Go.Proofs.YtnbkkiacffkfmaaDoorW.PrintLast Go.Proofs.YtnbkkiacffkfmaaDoorW.PrintMore
set_option maxRecDepth 1000000 in
set_option maxHeartbeats 8000000 in
theorem FnValidStartsMore_walk (A : Option Addr) (c : Nat) (l : List Int) (hb : ∀ x ∈ l, 0 ≤ x ∧ x < 256) (w : World) (hT : Tab w) (hr : (Kd.int .u8).C w A l.length l) (hc : l.length ≤ c) :
  Calls Tryd.prog 4 #[.slice A l.length c] w fun e w' => e = .returned (.bool true) ∧ Below w.heap.size w w' := by
 have HT := Lib.hid hT
 have hll := (C_len hr).2
 have HD := Lib.hid (DrawValidStarts_any A c l hb w hr hc)
 clear hb hr hc hT
 by_cases hbig : 1048576 < l.length
 ·
  have db : decide ((1048576 : Int) < (l.length : Int)) = true := decide_eq_true (by omega)
  clear hbig
  go_enter Tryd.func4, Tryd.ntmps4
  go_wp2
  go_ret
  exact ⟨rfl, Below.refl _ _⟩
 ·
  have db : decide ((1048576 : Int) < (l.length : Int)) = false := decide_eq_false (by omega)
  clear hbig
  go_enter Tryd.func4, Tryd.ntmps4
  go_upto_region 4 with (go_at_call 17; refine HD.out.mono ?_; rintro e w1 ⟨rb, A1, c1, g, A2, c2, rm, wk, A3, c3, st, rfl, hG, hR, hS, hrb, hg16, hs8, hwk, hso, hB1⟩; have H1 := Lib.hid hG.now; have H2 := Lib.hid hR.now; have H3 := Lib.hid hS.now; have HSO := Lib.hid hso; have HB1 := Lib.hid hB1; clear hG hR hS hrb hso hB1)
  have HTW := Lib.hid (fun (W : World) (h : Below w1.heap.size w1 W) => HT.out.keep HT.out.lt (HB1.out.trans (h.mono HB1.out.size)))
  have HW := Lib.hid (Below.refl w1.heap.size w1)
  have HVS := Lib.hid (fun (W : World) (hW : Below w1.heap.size w1 W) => ValidStarts_impl A1 c1 g A2 c2 rm wk A3 c3 st W (Kd.C_below H1.out hW) (Kd.C_below H2.out hW) (Kd.C_below H3.out hW) (HTW.out W hW))
  have HSV := Lib.hid (fun (W : World) (hW : Below w1.heap.size w1 W) => sValidStarts_calls A1 c1 g A2 c2 rm wk A3 c3 st W (Kd.C_below H1.out hW) (Kd.C_below H2.out hW) (Kd.C_below H3.out hW))
  cases hv : vStB g rm wk st with
  | false =>
   rw [hv] at HVS HSV
   clear hv
   go_wp2_with (first | (go_at_call 18; refine (HVS.out _ HW.out).mono ?_; rintro e wv ⟨rfl, hB⟩; have HW := Lib.hid (HW.out.trans (hB.mono HW.out.size)); clear hB) | (go_at_call 19; refine (HSV.out _ HW.out).mono ?_; rintro e wv ⟨rfl, hB⟩; have HW := Lib.hid (HW.out.trans (hB.mono HW.out.size)); clear hB))
   go_ret
   exact ⟨rfl, HB1.out.trans (HW.out.mono HB1.out.size)⟩
  | true =>
   rw [hv] at HVS HSV
   have HV := Lib.hid (vSt_valid hv)
   clear hv
   have HR3 := Lib.hid (roomB_facts (placeB_facts HV.out.p).1).1
   have hr3 : rm.length ≤ 3 := by rw [HR3.out]; exact Nat.le_refl _
   go_upto_region 7 with (first | (go_at_call 18; refine (HVS.out _ HW.out).mono ?_; rintro e wv ⟨rfl, hB⟩; have HW := Lib.hid (HW.out.trans (hB.mono HW.out.size)); clear hB) | (go_at_call 19; refine (HSV.out _ HW.out).mono ?_; rintro e wv ⟨rfl, hB⟩; have HW := Lib.hid (HW.out.trans (hB.mono HW.out.size)); clear hB))
   have HO : Kd.R (Kd.int .i64) 3 (wv.alloc (.cells #[] 3)) w1.heap.size (fun _ => True) (.slice (some ⟨wv.heap.size, 0, none⟩) 0 0) (List.replicate 0 8) := Kd.R_of_own (World.ownsRow_lit (base := w1.heap.size) (size := 1) wv #[] 0 HW.out.size (by simp [maxLen]) rfl) (fun _ _ => trivial)
   have HBa : Below w1.heap.size w1 (wv.alloc (.cells #[] 3)) := HW.out.alloc HW.out.size _
   go_wp2
   go_loopw [8, 9] (fun lt i wr => ∃ j, j ≤ rm.length ∧ i = .int .i64 (j : Nat) ∧ Kd.R (Kd.int .i64) 3 wr w1.heap.size (fun _ => True) lt (List.replicate j 8) ∧ Below w1.heap.size w1 wr) (fun _ i _ => rm.length - (intOf i).toNat)
   case atStart => exact ⟨0, Nat.zero_le _, rfl, HO, HBa⟩
   case round =>
    clear HO HBa
    obtain ⟨j, hj, rfl, hO, hB⟩ := hrel
    by_cases hjl : j < rm.length
    ·
     have hjj : decide ((j : Int) < (rm.length : Int)) = true := decide_eq_true (by omega)
     have HL := Lib.hid (rep_snoc j 8)
     have hll : (List.replicate j (8 : Int)).length = j := List.length_replicate
     generalize List.replicate j (8 : Int) = fl at hO HL hll
     go_wp2_with (at_builtin; refine ap_int (w0 := w1) w1.heap.size rfl _ _ rfl u8 fl (8) rfl rfl rfl hO hB hB.size (by omega) ?_; intro v3 w3 hO3 hB3 hg3 hat3; clear hg3 hat3)
     go_roundw
     case rel => exact ⟨j + 1, by omega, by go_num, by rw [HL.out]; exact hO3, hB3⟩
     case measure => simp [intOf]; omega
    ·
     obtain rfl : j = rm.length := by omega
     have hjj : decide ((rm.length : Int) < (rm.length : Int)) = false := decide_eq_false (by omega)
     have hv2 := valid_vSt (large_valid HV.out)
     generalize List.replicate rm.length (8 : Int) = lt at hO hv2
     obtain ⟨A4, c4, rfl, hc4, hC4⟩ := Kd.R_reads hO
     have HC4 := Lib.hid hC4
     have HV2 := Lib.hid (ValidStarts_impl A1 c1 g A4 c4 lt 4 A3 c3 st wr (Kd.C_below H1.out hB) HC4.out (Kd.C_below H3.out hB) (HTW.out _ hB))
     rw [hv2] at HV2
     clear hv2 hC4 HVS
     go_wp2_with (go_at_call 18; refine HV2.out.mono ?_; rintro e wz ⟨rfl, hB9⟩)
     go_ret
     exact ⟨rfl, HB1.out.trans ((hB.trans (hB9.mono hB.size)).mono HB1.out.size)⟩
end Go.Proofs.YtnbkkiacffkfmaaDoor
