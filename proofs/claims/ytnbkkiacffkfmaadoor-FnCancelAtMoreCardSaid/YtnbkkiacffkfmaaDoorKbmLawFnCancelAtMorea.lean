/- Parts of the proof, laid as one text by a program of mine. -/
import Derived.Test.YtnbkkiacffkfmaaDoorKbc12
import Derived.Test.YtnbkkiacffkfmaaDoorKbc16
import Derived.Test.YtnbkkiacffkfmaaDoorKbc17
import Derived.Test.YtnbkkiacffkfmaaDoorKbc10
namespace Go.Proofs.YtnbkkiacffkfmaaDoor
set_option linter.unusedVariables false
set_option linter.unusedSimpArgs false
open Go.RowKit Go.Shelf Bits
open Go.Proofs.YtnbkkiacffkfmaaDoorW.PrintWords Go.Proofs.YtnbkkiacffkfmaaDoorW.PrintLast Go.Proofs.YtnbkkiacffkfmaaDoorW.PrintMore
set_option maxRecDepth 1000000 in
set_option maxHeartbeats 8000000 in
theorem FnCancelAtMore_walk (A : Option Addr) (c : Nat) (l : List Int) (hb : ∀ x ∈ l, 0 ≤ x ∧ x < 256) (w : World) (hT : Tab w) (hr : (Kd.int .u8).C w A l.length l) (hc : l.length ≤ c) :
  Calls Tryd.prog 12 #[.slice A l.length c] w fun e w' => e = .returned (.bool true) ∧ Below w.heap.size w w' := by
 have HT := Lib.hid hT
 have hll := (C_len hr).2
 have HD := Lib.hid (DrawCancelAt_any A c l hb w hr hc)
 clear hb hr hc hT
 by_cases hbig : 1048576 < l.length
 ·
  have db : decide ((1048576 : Int) < (l.length : Int)) = true := decide_eq_true (by omega)
  clear hbig
  go_enter Tryd.func12, Tryd.ntmps12
  go_wp2
  go_ret
  exact ⟨rfl, Below.refl _ _⟩
 ·
  have db : decide ((1048576 : Int) < (l.length : Int)) = false := decide_eq_false (by omega)
  clear hbig
  go_enter Tryd.func12, Tryd.ntmps12
  go_upto_region 4 with (go_at_call 30; refine HD.out.mono ?_; rintro e w1 ⟨A1, c1, g, A2, c2, rm, wk, A3, c3, st, now, rfl, h1, h2, h3, hg16, hs8, hwk, hso, hnow, hB1⟩; have H1 := Lib.hid h1; have H2 := Lib.hid h2; have H3 := Lib.hid h3; have HSO := Lib.hid hso; have HB1 := Lib.hid hB1; clear h1 h2 h3 hso hB1)
  have HTW := Lib.hid (fun (W : World) (h : Below w1.heap.size w1 W) => HT.out.keep HT.out.lt (HB1.out.trans (h.mono HB1.out.size)))
  have HW := Lib.hid (Below.refl w1.heap.size w1)
  have HCA := Lib.hid (fun (W : World) (hW : Below w1.heap.size w1 W) => CancelAt_impl A1 c1 g A2 c2 rm wk A3 c3 st now W (Kd.C_below H1.out hW) (Kd.C_below H2.out hW) (Kd.C_below H3.out hW) (HTW.out W hW))
  have HSC := Lib.hid (fun (W : World) (hW : Below w1.heap.size w1 W) => sCancelAt_calls A1 c1 g A2 c2 rm wk A3 c3 st now W (Kd.C_below H1.out hW) (Kd.C_below H2.out hW) (Kd.C_below H3.out hW))
  obtain ⟨d1, hd1⟩ : ∃ d1, d1 = now + 1 := ⟨_, rfl⟩
  have HCM := Lib.hid (fun (W : World) (hW : Below w1.heap.size w1 W) => CancelAt_impl A1 c1 g A2 c2 rm wk A3 c3 st d1 W (Kd.C_below H1.out hW) (Kd.C_below H2.out hW) (Kd.C_below H3.out hW) (HTW.out W hW))
  have hcase := caS_cases g rm wk st now
  by_cases h0 : (caS g rm wk st now).length = 0
  ·
   have dl : (((caS g rm wk st now).length : Int) == 0) = true := by rw [h0]; rfl
   clear hcase h0
   generalize caS g rm wk st now = o at HCA HSC dl
   go_wp2_with (first | (go_at_call 31; refine (HCA.out _ HW.out).mono ?_; rintro e wl ⟨vO, rfl, hR, hB⟩; obtain ⟨AO, cO, rfl, hcO, hC⟩ := Kd.R_reads hR; have HW := Lib.hid (HW.out.trans (hB.mono HW.out.size)); (try (have HcO := Lib.hid (Kd.C_below HcO.out hB))); (try (have HcP := Lib.hid (Kd.C_below HcP.out hB))); (try (have HcX := Lib.hid (Kd.C_below HcX.out hB))); have HcO := Lib.hid hC; clear hR hC hB; clear HCA) | (go_at_call 33; refine (HSC.out _ HW.out).mono ?_; rintro e wl ⟨vP, rfl, hR, hB⟩; obtain ⟨AP, cP, rfl, hcP, hC⟩ := Kd.R_reads hR; have HW := Lib.hid (HW.out.trans (hB.mono HW.out.size)); (try (have HcO := Lib.hid (Kd.C_below HcO.out hB))); (try (have HcP := Lib.hid (Kd.C_below HcP.out hB))); (try (have HcX := Lib.hid (Kd.C_below HcX.out hB))); have HcP := Lib.hid hC; clear hR hC hB) | (go_at_call 32; refine (equalInts_same _ _ _ _ _ _ HcO.out HcP.out).mono ?_; rintro e wv ⟨rfl, hB⟩; have HW := Lib.hid (HW.out.trans (hB.mono HW.out.size)); (try (have HcO := Lib.hid (Kd.C_below HcO.out hB))); (try (have HcP := Lib.hid (Kd.C_below HcP.out hB))); (try (have HcX := Lib.hid (Kd.C_below HcX.out hB))); clear hB) | (go_at_call 31; refine (HCM.out _ HW.out).mono ?_; rintro e wl ⟨vX, rfl, hR, hB⟩; obtain ⟨AX, cX, rfl, hcX, hC⟩ := Kd.R_reads hR; have HW := Lib.hid (HW.out.trans (hB.mono HW.out.size)); (try (have HcO := Lib.hid (Kd.C_below HcO.out hB))); (try (have HcP := Lib.hid (Kd.C_below HcP.out hB))); (try (have HcX := Lib.hid (Kd.C_below HcX.out hB))); have HcX := Lib.hid hC; clear hR hC hB))
   go_ret
   exact ⟨rfl, HB1.out.trans (HW.out.mono HB1.out.size)⟩
  ·
   have dl : (((caS g rm wk st now).length : Int) == 0) = false := by rw [beq_eq_false_iff_ne]; omega
   by_cases h2 : now = 200
   ·
    have d2 : (now == 200) = true := beq_iff_eq.2 h2
    clear hcase h0 h2
    generalize caS g rm wk st now = o at HCA HSC dl
    go_wp2_with (first | (go_at_call 31; refine (HCA.out _ HW.out).mono ?_; rintro e wl ⟨vO, rfl, hR, hB⟩; obtain ⟨AO, cO, rfl, hcO, hC⟩ := Kd.R_reads hR; have HW := Lib.hid (HW.out.trans (hB.mono HW.out.size)); (try (have HcO := Lib.hid (Kd.C_below HcO.out hB))); (try (have HcP := Lib.hid (Kd.C_below HcP.out hB))); (try (have HcX := Lib.hid (Kd.C_below HcX.out hB))); have HcO := Lib.hid hC; clear hR hC hB; clear HCA) | (go_at_call 33; refine (HSC.out _ HW.out).mono ?_; rintro e wl ⟨vP, rfl, hR, hB⟩; obtain ⟨AP, cP, rfl, hcP, hC⟩ := Kd.R_reads hR; have HW := Lib.hid (HW.out.trans (hB.mono HW.out.size)); (try (have HcO := Lib.hid (Kd.C_below HcO.out hB))); (try (have HcP := Lib.hid (Kd.C_below HcP.out hB))); (try (have HcX := Lib.hid (Kd.C_below HcX.out hB))); have HcP := Lib.hid hC; clear hR hC hB) | (go_at_call 32; refine (equalInts_same _ _ _ _ _ _ HcO.out HcP.out).mono ?_; rintro e wv ⟨rfl, hB⟩; have HW := Lib.hid (HW.out.trans (hB.mono HW.out.size)); (try (have HcO := Lib.hid (Kd.C_below HcO.out hB))); (try (have HcP := Lib.hid (Kd.C_below HcP.out hB))); (try (have HcX := Lib.hid (Kd.C_below HcX.out hB))); clear hB) | (go_at_call 31; refine (HCM.out _ HW.out).mono ?_; rintro e wl ⟨vX, rfl, hR, hB⟩; obtain ⟨AX, cX, rfl, hcX, hC⟩ := Kd.R_reads hR; have HW := Lib.hid (HW.out.trans (hB.mono HW.out.size)); (try (have HcO := Lib.hid (Kd.C_below HcO.out hB))); (try (have HcP := Lib.hid (Kd.C_below HcP.out hB))); (try (have HcX := Lib.hid (Kd.C_below HcX.out hB))); have HcX := Lib.hid hC; clear hR hC hB))
    go_ret
    exact ⟨rfl, HB1.out.trans (HW.out.mono HB1.out.size)⟩
   ·
    have d2 : (now == 200) = false := beq_eq_false_iff_ne.2 h2
    have hc : Valid g rm wk st ∧ (0 ≤ now ∧ now ≤ 200) ∧ caS g rm wk st now = (List.range g.length).map (cancF g st now) := by
     rcases hcase with h | h
     ·
      rw [h] at h0
      exact absurd rfl h0
     ·
      exact h
    obtain ⟨hv, hn, he⟩ := hc
    have he1 : caS g rm wk st d1 = (List.range g.length).map (cancF g st d1) := caS_yes hv (by omega)
    have HL1 : Hid ((caS g rm wk st now).length = g.length) := Lib.hid (by rw [he, canc_len])
    have HL2 : Hid ((caS g rm wk st d1).length = g.length) := Lib.hid (by rw [he1, canc_len])
    have hle : (caS g rm wk st d1).length = (caS g rm wk st now).length := by rw [HL1.out, HL2.out]
    have hl16 : (caS g rm wk st now).length ≤ 16 := by rw [HL1.out]; exact hg16
    have HX : Hid (∀ i, i < (caS g rm wk st now).length → ((caS g rm wk st now).getD i 0 = 0 → (caS g rm wk st d1).getD i 0 = 0) ∧ ((caS g rm wk st now).getD i 0 = 1 → (caS g rm wk st d1).getD i 0 ≠ 3) ∧ ((caS g rm wk st now).getD i 0 = 0 ∨ (caS g rm wk st now).getD i 0 = 1 ∨ (caS g rm wk st now).getD i 0 = 3)) := Lib.hid (fun i hi => by
     have hig : i < g.length := by rw [← HL1.out]; exact hi
     rw [he, he1, caS_get hig, caS_get hig, hd1]
     exact canc_more hv.ok hig)
    have hwr : IntKind.i64.wrap (now + 1) = d1 := by rw [hd1]; exact IntWalk.i64_in _ (by omega)
    clear hcase h0 h2 hv he he1 HL1 HL2 hd1 hn
    generalize caS g rm wk st now = o at HCA HSC dl hle hl16 HX
    generalize caS g rm wk st d1 = x at HCM hle HX
    have HLE := Lib.hid hle
    clear hle
    go_upto_region 7 with (first | (go_at_call 31; refine (HCA.out _ HW.out).mono ?_; rintro e wl ⟨vO, rfl, hR, hB⟩; obtain ⟨AO, cO, rfl, hcO, hC⟩ := Kd.R_reads hR; have HW := Lib.hid (HW.out.trans (hB.mono HW.out.size)); (try (have HcO := Lib.hid (Kd.C_below HcO.out hB))); (try (have HcP := Lib.hid (Kd.C_below HcP.out hB))); (try (have HcX := Lib.hid (Kd.C_below HcX.out hB))); have HcO := Lib.hid hC; clear hR hC hB; clear HCA) | (go_at_call 33; refine (HSC.out _ HW.out).mono ?_; rintro e wl ⟨vP, rfl, hR, hB⟩; obtain ⟨AP, cP, rfl, hcP, hC⟩ := Kd.R_reads hR; have HW := Lib.hid (HW.out.trans (hB.mono HW.out.size)); (try (have HcO := Lib.hid (Kd.C_below HcO.out hB))); (try (have HcP := Lib.hid (Kd.C_below HcP.out hB))); (try (have HcX := Lib.hid (Kd.C_below HcX.out hB))); have HcP := Lib.hid hC; clear hR hC hB) | (go_at_call 32; refine (equalInts_same _ _ _ _ _ _ HcO.out HcP.out).mono ?_; rintro e wv ⟨rfl, hB⟩; have HW := Lib.hid (HW.out.trans (hB.mono HW.out.size)); (try (have HcO := Lib.hid (Kd.C_below HcO.out hB))); (try (have HcP := Lib.hid (Kd.C_below HcP.out hB))); (try (have HcX := Lib.hid (Kd.C_below HcX.out hB))); clear hB) | (go_at_call 31; refine (HCM.out _ HW.out).mono ?_; rintro e wl ⟨vX, rfl, hR, hB⟩; obtain ⟨AX, cX, rfl, hcX, hC⟩ := Kd.R_reads hR; have HW := Lib.hid (HW.out.trans (hB.mono HW.out.size)); (try (have HcO := Lib.hid (Kd.C_below HcO.out hB))); (try (have HcP := Lib.hid (Kd.C_below HcP.out hB))); (try (have HcX := Lib.hid (Kd.C_below HcX.out hB))); have HcX := Lib.hid hC; clear hR hC hB))
    go_wp2_with (first | (go_at_call 31; refine (HCA.out _ HW.out).mono ?_; rintro e wl ⟨vO, rfl, hR, hB⟩; obtain ⟨AO, cO, rfl, hcO, hC⟩ := Kd.R_reads hR; have HW := Lib.hid (HW.out.trans (hB.mono HW.out.size)); (try (have HcO := Lib.hid (Kd.C_below HcO.out hB))); (try (have HcP := Lib.hid (Kd.C_below HcP.out hB))); (try (have HcX := Lib.hid (Kd.C_below HcX.out hB))); have HcO := Lib.hid hC; clear hR hC hB; clear HCA) | (go_at_call 33; refine (HSC.out _ HW.out).mono ?_; rintro e wl ⟨vP, rfl, hR, hB⟩; obtain ⟨AP, cP, rfl, hcP, hC⟩ := Kd.R_reads hR; have HW := Lib.hid (HW.out.trans (hB.mono HW.out.size)); (try (have HcO := Lib.hid (Kd.C_below HcO.out hB))); (try (have HcP := Lib.hid (Kd.C_below HcP.out hB))); (try (have HcX := Lib.hid (Kd.C_below HcX.out hB))); have HcP := Lib.hid hC; clear hR hC hB) | (go_at_call 32; refine (equalInts_same _ _ _ _ _ _ HcO.out HcP.out).mono ?_; rintro e wv ⟨rfl, hB⟩; have HW := Lib.hid (HW.out.trans (hB.mono HW.out.size)); (try (have HcO := Lib.hid (Kd.C_below HcO.out hB))); (try (have HcP := Lib.hid (Kd.C_below HcP.out hB))); (try (have HcX := Lib.hid (Kd.C_below HcX.out hB))); clear hB) | (go_at_call 31; refine (HCM.out _ HW.out).mono ?_; rintro e wl ⟨vX, rfl, hR, hB⟩; obtain ⟨AX, cX, rfl, hcX, hC⟩ := Kd.R_reads hR; have HW := Lib.hid (HW.out.trans (hB.mono HW.out.size)); (try (have HcO := Lib.hid (Kd.C_below HcO.out hB))); (try (have HcP := Lib.hid (Kd.C_below HcP.out hB))); (try (have HcX := Lib.hid (Kd.C_below HcX.out hB))); have HcX := Lib.hid hC; clear hR hC hB))
    clear hwr
    obtain ⟨w2, rfl⟩ : ∃ w2 : World, w2 = wl := ⟨_, rfl⟩
    go_loopw [10] (fun i wr => ∃ j, j ≤ o.length ∧ i = .int .i64 (j : Nat) ∧ Below w2.heap.size w2 wr) (fun i _ => o.length - (intOf i).toNat)
    case atStart => exact ⟨0, Nat.zero_le _, rfl, Below.refl _ _⟩
    case round =>
     obtain ⟨j, hj, rfl, hB2⟩ := hrel
     by_cases hjl : j < o.length
     ·
      obtain ⟨ado, rfl, co⟩ := at_num (Kd.C_below HcO.out hB2) j hjl
      obtain ⟨adx, rfl, cx⟩ := at_num (Kd.C_below HcX.out hB2) j (by rw [HLE.out]; exact hjl)
      have hjj : decide ((j : Int) < (o.length : Int)) = true := decide_eq_true (by omega)
      have hji : (j : Int) < (o.length : Int) := by omega
      have hjx : (j : Int) < (x.length : Int) := by rw [HLE.out]; omega
      have dge : decide ((x.length : Int) ≤ (j : Int)) = false := decide_eq_false (by rw [HLE.out]; omega)
      have dge' : decide (x.length ≤ j) = false := decide_eq_false (by rw [HLE.out]; omega)
      obtain ⟨f0, f1, f3⟩ := HX.out j hjl
      generalize o.getD j 0 = a at co f0 f1 f3
      generalize x.getD j 0 = b at cx f0 f1
      have HB2 := Lib.hid hB2
      clear hB2
      rcases f3 with rfl | rfl | rfl
      ·
       obtain rfl := f0 rfl
       clear f1
       go_wp2
       (try go_quiet (fail))
       (try go_wp2)
       go_roundw
       case rel => exact ⟨j + 1, by omega, by go_num, by repeat (first | exact HB2.out | apply pw_below_drewN)⟩
       case measure => simp [intOf]; omega
      ·
       have db : (b == 3) = false := beq_eq_false_iff_ne.2 (f1 rfl)
       clear f0 f1
       go_wp2
       (try go_quiet (fail))
       (try go_wp2)
       go_roundw
       case rel => exact ⟨j + 1, by omega, by go_num, by repeat (first | exact HB2.out | apply pw_below_drewN)⟩
       case measure => simp [intOf]; omega
      ·
       clear f0 f1
       go_wp2
       (try go_quiet (fail))
       (try go_wp2)
       go_roundw
       case rel => exact ⟨j + 1, by omega, by go_num, by repeat (first | exact HB2.out | apply pw_below_drewN)⟩
       case measure => simp [intOf]; omega
     ·
      obtain rfl : j = o.length := by omega
      have hjj : decide ((o.length : Int) < (o.length : Int)) = false := decide_eq_false (by omega)
      have dle : ((x.length : Int) == (o.length : Int)) = true := by rw [HLE.out]; exact beq_self_eq_true _
      have hB := HW.out.trans (hB2.mono HW.out.size)
      go_wp2
      go_ret
      exact ⟨rfl, HB1.out.trans (hB.mono HB1.out.size)⟩
end Go.Proofs.YtnbkkiacffkfmaaDoor
