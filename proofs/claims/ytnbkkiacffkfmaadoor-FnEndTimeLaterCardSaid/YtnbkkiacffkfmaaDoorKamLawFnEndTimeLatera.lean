/- Parts of the proof, laid as one text by a program of mine. -/
import Derived.Test.YtnbkkiacffkfmaaDoorKac12
import Derived.Test.YtnbkkiacffkfmaaDoorKac16
import Derived.Test.YtnbkkiacffkfmaaDoorKac17
import Derived.Test.YtnbkkiacffkfmaaDoorKac10
namespace Go.Proofs.YtnbkkiacffkfmaaDoor
set_option linter.unusedVariables false
set_option linter.unusedSimpArgs false
open Go.RowKit Go.Shelf Bits
open Go.Proofs.YtnbkkiacffkfmaaDoorW.PrintWords Go.Proofs.YtnbkkiacffkfmaaDoorW.PrintLast Go.Proofs.YtnbkkiacffkfmaaDoorW.PrintMore
set_option maxRecDepth 1000000 in
set_option maxHeartbeats 8000000 in
theorem FnEndTimeLater_walk (A : Option Addr) (c : Nat) (l : List Int) (hb : ∀ x ∈ l, 0 ≤ x ∧ x < 256) (w : World) (hT : Tab w) (hr : (Kd.int .u8).C w A l.length l) (hc : l.length ≤ c) :
  Calls Tryd.prog 8 #[.slice A l.length c] w fun e w' => e = .returned (.bool true) ∧ Below w.heap.size w w' := by
 have HT := Lib.hid hT
 have hll := (C_len hr).2
 have HD := Lib.hid (DrawEndTime_any A c l hb w hr hc)
 clear hb hr hc hT
 by_cases hbig : 1048576 < l.length
 ·
  have db : decide ((1048576 : Int) < (l.length : Int)) = true := decide_eq_true (by omega)
  clear hbig
  go_enter Tryd.func8, Tryd.ntmps8
  go_wp2
  go_ret
  exact ⟨rfl, Below.refl _ _⟩
 ·
  have db : decide ((1048576 : Int) < (l.length : Int)) = false := decide_eq_false (by omega)
  clear hbig
  go_enter Tryd.func8, Tryd.ntmps8
  go_upto_region 4 with (go_at_call 24; refine HD.out.mono ?_; rintro e w1 ⟨rb, A1, c1, g, A2, c2, rm, wk, A3, c3, st, rfl, hG, hR, hS, hrb, hg16, hs8, hwk, hso, hB1⟩; have H1 := Lib.hid hG.now; have H2 := Lib.hid hR.now; have H3 := Lib.hid hS.now; have HSO := Lib.hid hso; have HB1 := Lib.hid hB1; clear hG hR hS hrb hso hB1)
  have HTW := Lib.hid (fun (W : World) (h : Below w1.heap.size w1 W) => HT.out.keep HT.out.lt (HB1.out.trans (h.mono HB1.out.size)))
  have HW := Lib.hid (Below.refl w1.heap.size w1)
  have HET := Lib.hid (fun (W : World) (hW : Below w1.heap.size w1 W) => EndTime_impl A1 c1 g A2 c2 rm wk A3 c3 st W (Kd.C_below H1.out hW) (Kd.C_below H2.out hW) (Kd.C_below H3.out hW) (HTW.out W hW))
  have HSE := Lib.hid (fun (W : World) (hW : Below w1.heap.size w1 W) => sEndTime_calls A1 c1 g A2 c2 rm wk A3 c3 st W (Kd.C_below H1.out hW) (Kd.C_below H2.out hW) (Kd.C_below H3.out hW))
  obtain ⟨n, hn⟩ : ∃ n, n = etS g rm wk st := ⟨_, rfl⟩
  rw [← hn] at HET HSE
  have hcase := etS_cases g rm wk st
  rw [← hn] at hcase
  by_cases h0 : n < 0
  ·
   have dn : decide (n < 0) = true := decide_eq_true h0
   clear hcase h0 hn
   go_wp2_with (first | (go_at_call 25; refine (HET.out _ HW.out).mono ?_; rintro e wv ⟨rfl, hB⟩; have HW := Lib.hid (HW.out.trans (hB.mono HW.out.size)); clear hB) | (go_at_call 26; refine (HSE.out _ HW.out).mono ?_; rintro e wv ⟨rfl, hB⟩; have HW := Lib.hid (HW.out.trans (hB.mono HW.out.size)); clear hB))
   go_ret
   exact ⟨rfl, HB1.out.trans (HW.out.mono HB1.out.size)⟩
  ·
   have dn : decide (n < 0) = false := decide_eq_false h0
   have hv : Valid g rm wk st := by
    rcases hcase with h | h
    ·
     omega
    ·
     exact h.2
   have HV := Lib.hid hv
   have hnb : n ≤ 1020 := by rw [hn]; exact (etS_bound g rm wk st).2
   have hn0 : 0 ≤ n := by omega
   by_cases hg : g.length = 0
   ·
    have dg : ((g.length : Int) == 0) = true := by rw [hg]; rfl
    clear hcase h0 hn hv hg
    go_wp2_with (first | (go_at_call 25; refine (HET.out _ HW.out).mono ?_; rintro e wv ⟨rfl, hB⟩; have HW := Lib.hid (HW.out.trans (hB.mono HW.out.size)); clear hB) | (go_at_call 26; refine (HSE.out _ HW.out).mono ?_; rintro e wv ⟨rfl, hB⟩; have HW := Lib.hid (HW.out.trans (hB.mono HW.out.size)); clear hB))
    go_ret
    exact ⟨rfl, HB1.out.trans (HW.out.mono HB1.out.size)⟩
   ·
    have dg : ((g.length : Int) == 0) = false := by rw [beq_eq_false_iff_ne]; omega
    have HGN : Hid (0 < g.length) := Lib.hid (by omega)
    have HN := Lib.hid hn
    clear hcase h0 hn hv hg
    go_upto_region 7 with (first | (go_at_call 25; refine (HET.out _ HW.out).mono ?_; rintro e wv ⟨rfl, hB⟩; have HW := Lib.hid (HW.out.trans (hB.mono HW.out.size)); clear hB) | (go_at_call 26; refine (HSE.out _ HW.out).mono ?_; rintro e wv ⟨rfl, hB⟩; have HW := Lib.hid (HW.out.trans (hB.mono HW.out.size)); clear hB))
    have HO : Kd.R (Kd.int .i64) 3 (wv.alloc (.cells #[] 3)) w1.heap.size (fun _ => True) (.slice (some ⟨wv.heap.size, 0, none⟩) 0 0) (laterN 2 st 0) := Kd.R_of_own (World.ownsRow_lit (base := w1.heap.size) (size := 1) wv #[] 0 HW.out.size (by simp [maxLen]) rfl) (fun _ _ => trivial)
    have HBa : Below w1.heap.size w1 (wv.alloc (.cells #[] 3)) := HW.out.alloc HW.out.size _
    go_wp2
    go_loopw [8, 9] (fun lt i wr => ∃ j, j ≤ st.length ∧ i = .int .i64 (j : Nat) ∧ Hid (∀ k, k < j → st.getD k 0 + 2 ≤ 200) ∧ Kd.R (Kd.int .i64) 3 wr w1.heap.size (fun _ => True) lt (laterN 2 st j) ∧ Below w1.heap.size w1 wr) (fun _ i _ => st.length - (intOf i).toNat)
    case atStart => exact ⟨0, Nat.zero_le _, rfl, Lib.hid fun k h => absurd h (Nat.not_lt_zero _), HO, HBa⟩
    case round =>
     clear HO HBa
     obtain ⟨j, hj, rfl, HNE, hO, hB⟩ := hrel
     by_cases hjl : j < st.length
     ·
      have hjj : decide ((j : Int) < (st.length : Int)) = true := decide_eq_true (by omega)
      have hjsi : (j : Int) < (st.length : Int) := by omega
      have HL := Lib.hid (laterN_snoc (d := 2) hjl)
      have hsj := HSO.out j
      have hll : (laterN 2 st j).length = j := laterN_len (by omega)
      obtain ⟨ads, rfl, cs⟩ := at_num (Kd.C_below H3.out hB) j hjl
      have HN2 : Hid (st.getD j 0 + 2 ≤ 200 → ∀ k, k < j + 1 → st.getD k 0 + 2 ≤ 200) := Lib.hid (fun hn k hk => by
       by_cases e : k = j
       ·
        rw [e]; exact hn
       ·
        exact HNE.out k (by omega))
      generalize st.getD j 0 = s at cs hsj HL HN2
      generalize laterN 2 st j = fl at hO HL hll
      have hwr : IntKind.i64.wrap (s + 2) = s + 2 := IntWalk.i64_in _ (by omega)
      by_cases h2 : 200 < s + 2
      ·
       have d2 : decide (200 < s + 2) = true := decide_eq_true h2
       clear h2 HN2 HL
       go_wp2
       go_ret
       exact ⟨rfl, HB1.out.trans (hB.mono HB1.out.size)⟩
      ·
       have d2 : decide (200 < s + 2) = false := decide_eq_false h2
       have HN3 := Lib.hid (HN2.out (by omega))
       clear h2 HN2
       go_wp2_with (at_builtin; refine ap_int (w0 := w1) w1.heap.size rfl _ _ rfl u8 fl (s + 2) rfl rfl rfl hO hB hB.size (by omega) ?_; intro v3 w3 hO3 hB3 hg3 hat3; clear hg3 hat3)
       clear hwr
       go_roundw
       case rel => exact ⟨j + 1, by omega, by go_num, HN3, by rw [HL.out]; exact hO3, hB3⟩
       case measure => simp [intOf]; omega
     ·
      obtain rfl : j = st.length := by omega
      have hjj : decide ((st.length : Int) < (st.length : Int)) = false := decide_eq_false (by omega)
      have he2 := later_end (d := 2) HV.out (by omega) (fun k hk => HNE.out k hk) HGN.out
      rw [← HN.out] at he2
      generalize laterN 2 st st.length = lt at hO he2
      obtain ⟨A4, c4, rfl, hc4, hC4⟩ := Kd.R_reads hO
      have HC4 := Lib.hid hC4
      have HE2 := Lib.hid (EndTime_impl A1 c1 g A2 c2 rm wk A4 c4 lt wr (Kd.C_below H1.out hB) (Kd.C_below H2.out hB) HC4.out (HTW.out _ hB))
      rw [he2] at HE2
      have hwr : IntKind.i64.wrap (n + 2) = n + 2 := IntWalk.i64_in _ (by omega)
      clear he2 hC4 HET
      go_wp2_with (go_at_call 25; refine HE2.out.mono ?_; rintro e wz ⟨rfl, hB9⟩)
      go_ret
      exact ⟨rfl, HB1.out.trans ((hB.trans (hB9.mono hB.size)).mono HB1.out.size)⟩
end Go.Proofs.YtnbkkiacffkfmaaDoor
