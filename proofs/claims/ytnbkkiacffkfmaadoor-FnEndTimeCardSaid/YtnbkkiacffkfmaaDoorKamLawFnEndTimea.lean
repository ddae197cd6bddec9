/- Parts of the proof, laid as one text by a program of mine. -/
import Derived.Test.YtnbkkiacffkfmaaDoorKac12
import Derived.Test.YtnbkkiacffkfmaaDoorKac16
import Derived.Test.YtnbkkiacffkfmaaDoorKac17
import Derived.Test.YtnbkkiacffkfmaaDoorKac10
namespace Go.Proofs.YtnbkkiacffkfmaaDoor
set_option linter.unusedVariables false
set_option linter.unusedSimpArgs false
open Go.RowKit Go.Shelf Bits
open Go.Proofs.YtnbkkiacffkfmaaDoorW.PrintWords Go.Proofs.YtnbkkiacffkfmaaDoorW.PrintLast Go.Proofs.YtnbkkiacffkfmaaDoorW.PrintMore
set_option maxRecDepth 1000000 in
set_option maxHeartbeats 8000000 in
theorem FnEndTime_walk (A : Option Addr) (c : Nat) (l : List Int) (hb : ∀ x ∈ l, 0 ≤ x ∧ x < 256) (w : World) (hT : Tab w) (hr : (Kd.int .u8).C w A l.length l) (hc : l.length ≤ c) :
  Calls Tryd.prog 7 #[.slice A l.length c] w fun e w' => e = .returned (.bool true) ∧ Below w.heap.size w w' := by
 have HT := Lib.hid hT
 have hll := (C_len hr).2
 have HD := Lib.hid (DrawEndTime_any A c l hb w hr hc)
 clear hb hr hc hT
 by_cases hbig : 1048576 < l.length
 ·
  have db : decide ((1048576 : Int) < (l.length : Int)) = true := decide_eq_true (by omega)
  clear hbig
  go_enter Tryd.func7, Tryd.ntmps7
  go_wp2
  go_ret
  exact ⟨rfl, Below.refl _ _⟩
 ·
  have db : decide ((1048576 : Int) < (l.length : Int)) = false := decide_eq_false (by omega)
  clear hbig
  go_enter Tryd.func7, Tryd.ntmps7
  go_upto_region 4 with (go_at_call 24; refine HD.out.mono ?_; rintro e w1 ⟨rb, A1, c1, g, A2, c2, rm, wk, A3, c3, st, rfl, hG, hR, hS, hrb, hg16, hs8, hwk, hso, hB1⟩; have H1 := Lib.hid hG.now; have H2 := Lib.hid hR.now; have H3 := Lib.hid hS.now; have HSO := Lib.hid hso; have HB1 := Lib.hid hB1; clear hG hR hS hrb hso hB1)
  have HTW := Lib.hid (fun (W : World) (h : Below w1.heap.size w1 W) => HT.out.keep HT.out.lt (HB1.out.trans (h.mono HB1.out.size)))
  have HW := Lib.hid (Below.refl w1.heap.size w1)
  have HET := Lib.hid (fun (W : World) (hW : Below w1.heap.size w1 W) => EndTime_impl A1 c1 g A2 c2 rm wk A3 c3 st W (Kd.C_below H1.out hW) (Kd.C_below H2.out hW) (Kd.C_below H3.out hW) (HTW.out W hW))
  have HSE := Lib.hid (fun (W : World) (hW : Below w1.heap.size w1 W) => sEndTime_calls A1 c1 g A2 c2 rm wk A3 c3 st W (Kd.C_below H1.out hW) (Kd.C_below H2.out hW) (Kd.C_below H3.out hW))
  obtain ⟨n, hn⟩ : ∃ n, n = etS g rm wk st := ⟨_, rfl⟩
  rw [← hn] at HET HSE
  have hcase := etS_cases g rm wk st
  rw [← hn] at hcase
  by_cases h0 : n < 0
  ·
   have dn : decide (n < 0) = true := decide_eq_true h0
   clear hcase h0 hn
   go_wp2_with (first | (go_at_call 25; refine (HET.out _ HW.out).mono ?_; rintro e wv ⟨rfl, hB⟩; have HW := Lib.hid (HW.out.trans (hB.mono HW.out.size)); clear hB) | (go_at_call 26; refine (HSE.out _ HW.out).mono ?_; rintro e wv ⟨rfl, hB⟩; have HW := Lib.hid (HW.out.trans (hB.mono HW.out.size)); clear hB))
   go_ret
   exact ⟨rfl, HB1.out.trans (HW.out.mono HB1.out.size)⟩
  ·
   have dn : decide (n < 0) = false := decide_eq_false h0
   have hv : Valid g rm wk st := by
    rcases hcase with h | h
    ·
     omega
    ·
     exact h.2
   have HV := Lib.hid hv
   have HN := Lib.hid hn
   have dl : ((st.length : Int) != (g.length : Int)) = false := by rw [hv.len]; exact bne_self_eq_false _
   by_cases hg : g.length = 0
   ·
    have dg : ((g.length : Int) == 0) = true := by rw [hg]; rfl
    have dn0 : (n == 0) = true := by
     rw [hn, etS_valid hv, hg]
     rfl
    have hjj : decide ((0 : Int) < (g.length : Int)) = false := by rw [hg]; rfl
    have hjj' : decide (0 < g.length) = false := by rw [hg]; rfl
    clear hcase h0 hn hv hg
    go_upto_region 7 with (first | (go_at_call 25; refine (HET.out _ HW.out).mono ?_; rintro e wv ⟨rfl, hB⟩; have HW := Lib.hid (HW.out.trans (hB.mono HW.out.size)); clear hB) | (go_at_call 26; refine (HSE.out _ HW.out).mono ?_; rintro e wv ⟨rfl, hB⟩; have HW := Lib.hid (HW.out.trans (hB.mono HW.out.size)); clear hB))
    go_wp2
    go_loopw [8, 9] (fun sm i wr => i = .int .i64 0 ∧ sm = .bool true ∧ Below w1.heap.size w1 wr) (fun _ i _ => 0)
    case atStart => exact ⟨rfl, rfl, by repeat (first | exact hB | exact HW.out | apply pw_below_drewN)⟩
    case round =>
     clear HW
     obtain ⟨rfl, rfl, hB⟩ := hrel
     go_wp2
     go_ret
     exact ⟨rfl, HB1.out.trans (hB.mono HB1.out.size)⟩
   ·
    have dg : ((g.length : Int) == 0) = false := by rw [beq_eq_false_iff_ne]; omega
    have HGN : Hid (0 < g.length) := Lib.hid (by omega)
    clear hcase h0 hn hv hg
    go_upto_region 7 with (first | (go_at_call 25; refine (HET.out _ HW.out).mono ?_; rintro e wv ⟨rfl, hB⟩; have HW := Lib.hid (HW.out.trans (hB.mono HW.out.size)); clear hB) | (go_at_call 26; refine (HSE.out _ HW.out).mono ?_; rintro e wv ⟨rfl, hB⟩; have HW := Lib.hid (HW.out.trans (hB.mono HW.out.size)); clear hB))
    go_wp2
    go_loopw [8, 9] (fun sm i wr => ∃ j, j ≤ g.length ∧ i = .int .i64 (j : Nat) ∧ sm = .bool (someEnd g st n j) ∧ Below w1.heap.size w1 wr) (fun _ i _ => g.length - (intOf i).toNat)
    case atStart => exact ⟨0, Nat.zero_le _, rfl, rfl, by repeat (first | exact hB | exact HW.out | apply pw_below_drewN)⟩
    case round =>
     clear HW
     obtain ⟨j, hj, rfl, rfl, hB⟩ := hrel
     by_cases hjl : j < g.length
     ·
      have hjs : j < st.length := by rw [HV.out.len]; exact hjl
      obtain ⟨ad, A4, c4, rfl, hc0, _⟩ := at_Tk (Kd.C_below H1.out hB) j hjl
      obtain ⟨ads, rfl, cs⟩ := at_num (Kd.C_below H3.out hB) j hjs
      have hjj : decide ((j : Int) < (g.length : Int)) = true := decide_eq_true (by omega)
      have hji : (j : Int) < (g.length : Int) := by omega
      have hjsi : (j : Int) < (st.length : Int) := by omega
      have HS := Lib.hid (someEnd_snoc g st n j)
      have hge := etS_ge HV.out hjl
      rw [← HN.out] at hge
      have hsj := HSO.out j
      have htj := HV.out.ok.2.1 j
      generalize st.getD j 0 = s at cs hsj HS hge
      generalize (rdTk g j).f0 = tm at hc0 htj HS hge
      have d1 : decide (n < s + tm) = false := decide_eq_false (by omega)
      have hwr : IntKind.i64.wrap (s + tm) = s + tm := IntWalk.i64_in _ (by omega)
      generalize someEnd g st n j = sb at HS ⊢
      clear hge
      cases sb with
      | true =>
       go_wp2
       (try go_quiet (fail))
       (try go_wp2)
       (try go_quiet (fail))
       (try go_wp2)
       clear hwr
       go_roundw
       case rel => exact ⟨j + 1, by omega, by go_num, by rw [HS.out]; rfl, by repeat (first | exact hB | exact HW.out | apply pw_below_drewN)⟩
       case measure => simp [intOf]; omega
      | false =>
       by_cases he : s + tm = n
       ·
        have d2 : (s + tm == n) = true := beq_iff_eq.2 he
        have HS2 : Hid (someEnd g st n (j + 1) = true) := Lib.hid (by rw [HS.out, d2]; rfl)
        clear he HS
        go_wp2
        (try go_quiet (fail))
        (try go_wp2)
        (try go_quiet (fail))
        (try go_wp2)
        clear hwr
        go_roundw
        case rel => exact ⟨j + 1, by omega, by go_num, by rw [HS2.out], by repeat (first | exact hB | exact HW.out | apply pw_below_drewN)⟩
        case measure => simp [intOf]; omega
       ·
        have d2 : (s + tm == n) = false := beq_eq_false_iff_ne.2 he
        have HS2 : Hid (someEnd g st n (j + 1) = false) := Lib.hid (by rw [HS.out, d2]; rfl)
        clear he HS
        go_wp2
        (try go_quiet (fail))
        (try go_wp2)
        (try go_quiet (fail))
        (try go_wp2)
        clear hwr
        go_roundw
        case rel => exact ⟨j + 1, by omega, by go_num, by rw [HS2.out], by repeat (first | exact hB | exact HW.out | apply pw_below_drewN)⟩
        case measure => simp [intOf]; omega
     ·
      obtain rfl : j = g.length := by omega
      have hjj : decide ((g.length : Int) < (g.length : Int)) = false := decide_eq_false (by omega)
      have HA := Lib.hid (someEnd_all HV.out HGN.out)
      rw [← HN.out] at HA
      rw [HA.out]
      go_wp2
      go_ret
      exact ⟨rfl, HB1.out.trans (hB.mono HB1.out.size)⟩
end Go.Proofs.YtnbkkiacffkfmaaDoor
