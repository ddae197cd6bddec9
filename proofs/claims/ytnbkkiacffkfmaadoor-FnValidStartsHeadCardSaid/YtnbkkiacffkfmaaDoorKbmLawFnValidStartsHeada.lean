/- Parts of the proof, laid as one text by a program of mine. -/
import Derived.Test.YtnbkkiacffkfmaaDoorKbc12
import Derived.Test.YtnbkkiacffkfmaaDoorKbc16
import Derived.Test.YtnbkkiacffkfmaaDoorKbc17
import Derived.Test.YtnbkkiacffkfmaaDoorKbc10
import Derived.Test.YtnbkkiacffkfmaaDoorKbc19
namespace Go.Proofs.YtnbkkiacffkfmaaDoor
set_option linter.unusedVariables false
set_option linter.unusedSimpArgs false
open Go.RowKit Go.Shelf Bits
open Go.Proofs.YtnbkkiacffkfmaaDoorW.PrintWords Go.Proofs.YtnbkkiacffkfmaaDoorW.PrintLast Go.Proofs.YtnbkkiacffkfmaaDoorW.PrintMore
set_option maxRecDepth 1000000 in
set_option maxHeartbeats 8000000 in
theorem FnValidStartsHead_walk (A : Option Addr) (c : Nat) (l : List Int) (hb : ∀ x ∈ l, 0 ≤ x ∧ x < 256) (w : World) (hT : Tab w) (hr : (Kd.int .u8).C w A l.length l) (hc : l.length ≤ c) :
  Calls Tryd.prog 6 #[.slice A l.length c] w fun e w' => e = .returned (.bool true) ∧ Below w.heap.size w w' := by
 have HT := Lib.hid hT
 have hll := (C_len hr).2
 have HD := Lib.hid (DrawValidStarts_any A c l hb w hr hc)
 clear hb hr hc hT
 by_cases hbig : 1048576 < l.length
 ·
  have db : decide ((1048576 : Int) < (l.length : Int)) = true := decide_eq_true (by omega)
  clear hbig
  go_enter Tryd.func6, Tryd.ntmps6
  go_wp2
  go_ret
  exact ⟨rfl, Below.refl _ _⟩
 ·
  have db : decide ((1048576 : Int) < (l.length : Int)) = false := decide_eq_false (by omega)
  clear hbig
  go_enter Tryd.func6, Tryd.ntmps6
  go_upto_region 4 with (go_at_call 17; refine HD.out.mono ?_; rintro e w1 ⟨rb, A1, c1, g, A2, c2, rm, wk, A3, c3, st, rfl, hG, hR, hS, hrb, hg16, hs8, hwk, hso, hB1⟩; have H1 := Lib.hid hG.now; have H2 := Lib.hid hR.now; have H3 := Lib.hid hS.now; have HSO := Lib.hid hso; have HB1 := Lib.hid hB1; clear hG hR hS hrb hso hB1)
  have HTW := Lib.hid (fun (W : World) (h : Below w1.heap.size w1 W) => HT.out.keep HT.out.lt (HB1.out.trans (h.mono HB1.out.size)))
  have HW := Lib.hid (Below.refl w1.heap.size w1)
  have HVS := Lib.hid (fun (W : World) (hW : Below w1.heap.size w1 W) => ValidStarts_impl A1 c1 g A2 c2 rm wk A3 c3 st W (Kd.C_below H1.out hW) (Kd.C_below H2.out hW) (Kd.C_below H3.out hW) (HTW.out W hW))
  have HSV := Lib.hid (fun (W : World) (hW : Below w1.heap.size w1 W) => sValidStarts_calls A1 c1 g A2 c2 rm wk A3 c3 st W (Kd.C_below H1.out hW) (Kd.C_below H2.out hW) (Kd.C_below H3.out hW))
  have HHT := Lib.hid (fun (W : World) (hW : Below w1.heap.size w1 W) => HeadTimes_impl A1 c1 g W (Kd.C_below H1.out hW) (HTW.out W hW))
  cases hv : vStB g rm wk st with
  | false =>
   rw [hv] at HVS HSV
   clear hv
   go_wp2_with (first | (go_at_call 18; refine (HVS.out _ HW.out).mono ?_; rintro e wv ⟨rfl, hB⟩; have HW := Lib.hid (HW.out.trans (hB.mono HW.out.size)); clear hB) | (go_at_call 19; refine (HSV.out _ HW.out).mono ?_; rintro e wv ⟨rfl, hB⟩; have HW := Lib.hid (HW.out.trans (hB.mono HW.out.size)); clear hB))
   go_ret
   exact ⟨rfl, HB1.out.trans (HW.out.mono HB1.out.size)⟩
  | true =>
   rw [hv] at HVS HSV
   have HV := Lib.hid (vSt_valid hv)
   clear hv
   obtain ⟨l1, l2⟩ := head_law HV.out
   have HL2 := Lib.hid l2
   generalize headTimesN g = x at HHT l1 HL2
   have HL1 := Lib.hid l1
   clear l1 l2
   go_upto_region 7 with (first | (go_at_call 18; refine (HVS.out _ HW.out).mono ?_; rintro e wv ⟨rfl, hB⟩; have HW := Lib.hid (HW.out.trans (hB.mono HW.out.size)); (try (have HcX := Lib.hid (Kd.C_below HcX.out hB))); clear hB) | (go_at_call 19; refine (HSV.out _ HW.out).mono ?_; rintro e wv ⟨rfl, hB⟩; have HW := Lib.hid (HW.out.trans (hB.mono HW.out.size)); (try (have HcX := Lib.hid (Kd.C_below HcX.out hB))); clear hB) | (go_at_call 23; refine (HHT.out _ HW.out).mono ?_; rintro e wl ⟨vX, rfl, hR, hB⟩; obtain ⟨AX, cX, rfl, hcX, hC⟩ := Kd.R_reads hR; have HW := Lib.hid (HW.out.trans (hB.mono HW.out.size)); (try (have HcX := Lib.hid (Kd.C_below HcX.out hB))); have HcX := Lib.hid hC; clear hR hC hB))
   go_wp2_with (first | (go_at_call 18; refine (HVS.out _ HW.out).mono ?_; rintro e wv ⟨rfl, hB⟩; have HW := Lib.hid (HW.out.trans (hB.mono HW.out.size)); (try (have HcX := Lib.hid (Kd.C_below HcX.out hB))); clear hB) | (go_at_call 19; refine (HSV.out _ HW.out).mono ?_; rintro e wv ⟨rfl, hB⟩; have HW := Lib.hid (HW.out.trans (hB.mono HW.out.size)); (try (have HcX := Lib.hid (Kd.C_below HcX.out hB))); clear hB) | (go_at_call 23; refine (HHT.out _ HW.out).mono ?_; rintro e wl ⟨vX, rfl, hR, hB⟩; obtain ⟨AX, cX, rfl, hcX, hC⟩ := Kd.R_reads hR; have HW := Lib.hid (HW.out.trans (hB.mono HW.out.size)); (try (have HcX := Lib.hid (Kd.C_below HcX.out hB))); have HcX := Lib.hid hC; clear hR hC hB))
   obtain ⟨w2, rfl⟩ : ∃ w2 : World, w2 = wl := ⟨_, rfl⟩
   go_loopw [9] (fun i wr => ∃ j, j ≤ st.length ∧ i = .int .i64 (j : Nat) ∧ Below w2.heap.size w2 wr) (fun i _ => st.length - (intOf i).toNat)
   case atStart => exact ⟨0, Nat.zero_le _, rfl, Below.refl _ _⟩
   case round =>
    obtain ⟨j, hj, rfl, hB2⟩ := hrel
    have hB := HW.out.trans (hB2.mono HW.out.size)
    by_cases hjl : j < st.length
    ·
     obtain ⟨ads, rfl, cs⟩ := at_num (Kd.C_below H3.out hB) j hjl
     obtain ⟨adx, rfl, cx⟩ := at_num (Kd.C_below HcX.out hB2) j (by rw [HL1.out]; exact hjl)
     have hjj : decide ((j : Int) < (st.length : Int)) = true := decide_eq_true (by omega)
     have hjsi : (j : Int) < (st.length : Int) := by omega
     have hjx : (j : Int) < (x.length : Int) := by rw [HL1.out]; omega
     have dge : decide ((x.length : Int) ≤ (j : Int)) = false := decide_eq_false (by omega)
     have dge' : decide (x.length ≤ j) = false := decide_eq_false (by omega)
     have h5 := HL2.out j hjl
     generalize st.getD j 0 = s at cs h5
     generalize x.getD j 0 = h at cx h5
     have d5 : decide (s < h) = false := decide_eq_false (by omega)
     have HB2 := Lib.hid hB2
     clear hB hB2 h5
     go_wp2
     (try go_quiet (fail))
     (try go_wp2)
     go_roundw
     case rel => exact ⟨j + 1, by omega, by go_num, by repeat (first | exact HB2.out | apply pw_below_drewN)⟩
     case measure => simp [intOf]; omega
    ·
     obtain rfl : j = st.length := by omega
     have hjj : decide ((st.length : Int) < (st.length : Int)) = false := decide_eq_false (by omega)
     go_wp2
     go_ret
     exact ⟨rfl, HB1.out.trans (hB.mono HB1.out.size)⟩
end Go.Proofs.YtnbkkiacffkfmaaDoor
