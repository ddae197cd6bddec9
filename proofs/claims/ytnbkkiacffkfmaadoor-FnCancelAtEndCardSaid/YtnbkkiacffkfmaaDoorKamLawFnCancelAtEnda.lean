/- Parts of the proof, laid as one text by a program of mine. -/
import Derived.Test.YtnbkkiacffkfmaaDoorKac16
import Derived.Test.YtnbkkiacffkfmaaDoorKac19
import Derived.Test.YtnbkkiacffkfmaaDoorKac10
import Derived.Test.YtnbkkiacffkfmaaDoorKac12
import Derived.Test.YtnbkkiacffkfmaaDoorKac17
namespace Go.Proofs.YtnbkkiacffkfmaaDoor
set_option linter.unusedVariables false
set_option linter.unusedSimpArgs false
open Go.RowKit Go.Shelf Bits
open Go.Proofs.YtnbkkiacffkfmaaDoorW.PrintWords Go.Proofs.YtnbkkiacffkfmaaDoorW.PrintLast Go.Proofs.YtnbkkiacffkfmaaDoorW.PrintMore
attribute [local go_sem] Oper.semAt_some
def rowF (F : Nat → Int) (n j : Nat) : List Int := (List.range n).map fun i => if i < j then F i else 0
theorem rowF_len (F : Nat → Int) (n j : Nat) : (rowF F n j).length = n := by simp [rowF]
theorem rowF_zero (F : Nat → Int) (n : Nat) : rowF F n 0 = List.replicate n 0 := by
 unfold rowF
 apply List.ext_getElem (by simp)
 intro i h1 h2
 simp
theorem rowF_set (F : Nat → Int) (n j : Nat) : (rowF F n j).set j (F j) = rowF F n (j + 1) := by
 unfold rowF
 apply List.ext_getElem (by simp)
 intro i h1 h2
 simp only [List.getElem_set, List.getElem_map, List.getElem_range]
 by_cases h : j = i
 ·
  rw [if_pos h, if_pos (by omega), h]
 ·
  rw [if_neg h]
  by_cases h' : i < j
  ·
   rw [if_pos h', if_pos (by omega)]
  ·
   rw [if_neg h', if_neg (by omega)]
theorem rowF_end (F : Nat → Int) (n : Nat) : rowF F n n = (List.range n).map F := by
 unfold rowF
 apply List.map_congr_left
 intro i hi
 rw [if_pos (List.mem_range.1 hi)]
set_option maxRecDepth 100000 in
set_option maxHeartbeats 4000000 in
theorem CancelAt_impl (A : Option Addr) (c : Nat) (g : List Tk) (A1 : Option Addr) (c1 : Nat) (rm : List Int) (wk : Int) (A2 : Option Addr) (c2 : Nat) (st : List Int) (now : Int) (w : World) (hr : kTk.C w A g.length g) (hr1 : (Kd.int .i64).C w A1 rm.length rm) (hr2 : (Kd.int .i64).C w A2 st.length st) (hT : Tab w) :
  Calls Tryd.prog 31 #[.slice A g.length c, .slice A1 rm.length c1, .int .i64 wk, .slice A2 st.length c2, .int .i64 now] w fun e w' => ∃ v, e = .returned v ∧ Kd.R (Kd.int .i64) 3 w' w.heap.size (fun _ => True) v (caS g rm wk st now) ∧ Below w.heap.size w w' := by
 cases h : vStB g rm wk st with
 | true =>
  have HP := Lib.hid (startsIn_yes A c g A1 c1 rm wk A2 c2 st h w hr hr1 hr2 hT)
  have HV := Lib.hid (vSt_valid h)
  have HR2 := Lib.hid hr2
  have hgl8 := HV.out.ok.1
  have hl8 : st.length ≤ 8 := by rw [HV.out.len]; exact HV.out.ok.1
  cases h3 : inB now 0 200 with
  | true =>
   have HF : Hid (caS g rm wk st now = rowF (cancF g st now) g.length st.length) := Lib.hid (by unfold caS; rw [h, h3, Bool.and_self, if_pos rfl, HV.out.len, rowF_end])
   have H3 := Lib.hid h3
   have hmk := run_makeI g.length (by omega)
   clear hr hr1 hr2 hT h h3
   go_enter Tryd.func31, Tryd.ntmps31
   go_wp2_with (first | (go_at_call 44; refine HP.out.mono ?_; rintro e w1 ⟨C, ns, rfl, hg, hG, hB1⟩; have HB1 := Lib.hid hB1; have HG := Lib.hid hG; clear hg hB1 hG) | (go_at_call 47; refine (within_is _ _ _ _ H3 _).mono ?_; rintro e w2 ⟨rfl, rfl⟩) | (go_at_call 55; refine (size_calls _ C g ns HG.out).mono ?_; rintro e w3 ⟨rfl, rfl⟩))
   clear hmk
   obtain ⟨w1, rfl⟩ : ∃ w1 : World, w1 = w3 := ⟨_, rfl⟩
   have hI0 : IRow (w1.alloc (.cells (zeroI g.length) 3)) w1.heap.size (rowF (cancF g st now) g.length 0) := by
    rw [rowF_zero]
    exact World.alloc_heap_new w1 _
   have hB0 : Below w1.heap.size w1 (w1.alloc (.cells (zeroI g.length) 3)) := (Below.refl _ _).alloc (Nat.le_refl _) _
   go_loopw [36] (fun i wr => ∃ j, j ≤ st.length ∧ i = .int .i64 (j : Nat) ∧ IRow wr w1.heap.size (rowF (cancF g st now) g.length j) ∧ Below w1.heap.size w1 wr) (fun i _ => st.length - (intOf i).toNat)
   case atStart => exact ⟨0, Nat.zero_le _, rfl, hI0, hB0⟩
   case round =>
    clear hI0 hB0
    obtain ⟨j, hj, rfl, hI, hB⟩ := hrel
    by_cases hjl : j < st.length
    ·
     have hjg : j < g.length := by rw [← HV.out.len]; exact hjl
     obtain ⟨Ag, cg, An, cn, Ao, co, vb, va, h1, h2, _, _⟩ := HG.out.below hB
     have cC := blk_cell h1 0
     simp at cC
     obtain ⟨ad, A4, c4, rfl, hc0, _⟩ := at_Tk h2 j hjg
     obtain ⟨ads, rfl, cs⟩ := at_num (Kd.C_below HR2.out (HB1.out.trans (hB.mono HB1.out.size))) j hjl
     have hjj : decide ((j : Int) < (st.length : Int)) = true := decide_eq_true (by omega)
     have hji : (j : Int) < (g.length : Int) := by omega
     have hjsi : (j : Int) < (st.length : Int) := by omega
     have cr := hI.cell j (by rw [rowF_len]; exact hjg)
     have fr := hI.frozen j
     have HE : Hid ((rowF (cancF g st now) g.length j).set j (cancF g st now j) = rowF (cancF g st now) g.length (j + 1)) := Lib.hid (rowF_set _ _ _)
     have HBD : Hid (cancF g st now j = if st.getD j 0 + (rdTk g j).f0 ≤ now then 0 else if st.getD j 0 < now then 1 else 3) := Lib.hid rfl
     have hsj := HV.out.sok j
     have htj := HV.out.ok.2.1 j
     generalize st.getD j 0 = s at cs hsj HBD
     generalize (rdTk g j).f0 = tm at hc0 htj HBD
     generalize cancF g st now j = cj at HE HBD
     have hwr : IntKind.i64.wrap (s + tm) = s + tm := IntWalk.i64_in _ (by omega)
     have HI := Lib.hid hI
     have HBo := Lib.hid hB
     clear h1 h2 hI hB
     by_cases g1 : s + tm ≤ now
     ·
      have d1 : decide (s + tm ≤ now) = true := decide_eq_true g1
      rw [if_pos g1] at HBD
      clear g1
      go_wp2
      clear hwr
      go_roundw
      case rel => exact ⟨j + 1, by omega, by go_num, by rw [← HE.out, HBD.out]; exact HI.out.set j 0, HBo.out.setCell (p := ⟨w1.heap.size, j, none⟩) (Nat.le_refl _) _⟩
      case measure => simp [intOf]; omega
     ·
      have d1 : decide (s + tm ≤ now) = false := decide_eq_false g1
      rw [if_neg g1] at HBD
      clear g1
      by_cases g2 : s < now
      ·
       have d2 : decide (s < now) = true := decide_eq_true g2
       rw [if_pos g2] at HBD
       clear g2
       go_wp2
       clear hwr
       go_roundw
       case rel => exact ⟨j + 1, by omega, by go_num, by rw [← HE.out, HBD.out]; exact HI.out.set j 1, HBo.out.setCell (p := ⟨w1.heap.size, j, none⟩) (Nat.le_refl _) _⟩
       case measure => simp [intOf]; omega
      ·
       have d2 : decide (s < now) = false := decide_eq_false g2
       rw [if_neg g2] at HBD
       clear g2
       go_wp2
       clear hwr
       go_roundw
       case rel => exact ⟨j + 1, by omega, by go_num, by rw [← HE.out, HBD.out]; exact HI.out.set j 3, HBo.out.setCell (p := ⟨w1.heap.size, j, none⟩) (Nat.le_refl _) _⟩
       case measure => simp [intOf]; omega
    ·
     obtain rfl : j = st.length := by omega
     have hjj : decide ((st.length : Int) < (st.length : Int)) = false := decide_eq_false (by omega)
     go_wp2
     go_ret
     have hz := HB1.out.size
     have hO := hI.own (base := w.heap.size) hz (by rw [rowF_len]; omega)
     rw [rowF_len, ← HF.out] at hO
     exact ⟨_, rfl, hO, HB1.out.trans (hB.mono hz)⟩
  | false =>
   have HF : Hid (caS g rm wk st now = []) := Lib.hid (by unfold caS; rw [h3, Bool.and_false]; rfl)
   have H3 := Lib.hid h3
   clear hr hr1 hr2 hT h h3
   go_enter Tryd.func31, Tryd.ntmps31
   go_wp2_with (first | (go_at_call 44; refine HP.out.mono ?_; rintro e w1 ⟨C, ns, rfl, hg, hG, hB1⟩; have HB1 := Lib.hid hB1; have HG := Lib.hid hG; clear hg hB1 hG) | (go_at_call 47; refine (within_is _ _ _ _ H3 _).mono ?_; rintro e w2 ⟨rfl, rfl⟩))
   go_ret
   exact ⟨_, rfl, by rw [HF.out]; exact R_nilJ _ _, HB1.out⟩
 | false =>
  have HF : Hid (caS g rm wk st now = []) := Lib.hid (by unfold caS; rw [h]; rfl)
  have HP := Lib.hid (startsIn_no A c g A1 c1 rm wk A2 c2 st h w hr hr1 hr2 hT)
  clear hr hr1 hr2 hT h
  go_enter Tryd.func31, Tryd.ntmps31
  go_wp2_with (go_at_call 44; refine HP.out.mono ?_; rintro e w1 ⟨rfl, hB1⟩)
  go_ret
  exact ⟨_, rfl, by rw [HF.out]; exact R_nilJ _ _, hB1⟩
end Go.Proofs.YtnbkkiacffkfmaaDoor

namespace Go.Proofs.YtnbkkiacffkfmaaDoor
set_option linter.unusedVariables false
set_option linter.unusedSimpArgs false
open Go.RowKit Go.Shelf Bits
open Go.Proofs.YtnbkkiacffkfmaaDoorW.PrintWords Go.Proofs.YtnbkkiacffkfmaaDoorW.PrintLast Go.Proofs.YtnbkkiacffkfmaaDoorW.PrintMore
def sumI (l : List Int) (j : Nat) : Int := sumTo (fun i => l.getD i 0) j
theorem sumI_const {l : List Int} {c : Int} : ∀ j, j ≤ l.length → (∀ i, i < l.length → l.getD i 0 = c) → sumI l j = (j : Int) * c
 | 0, _, _ => by simp [sumI, sumTo]
 | j + 1, hj, h => by
  have ih := sumI_const (l := l) (c := c) j (by omega) h
  show sumI l j + l.getD j 0 = _
  rw [ih, h j (by omega), Int.natCast_add, Int.add_mul]
  simp
set_option maxRecDepth 100000 in
theorem sum_calls (A : Option Addr) (c : Nat) (l : List Int) (h16 : l.length ≤ 16) (hb : ∀ i, 0 ≤ l.getD i 0 ∧ l.getD i 0 ≤ 1000) (w : World) (hr : (Kd.int .i64).C w A l.length l) :
  Calls Tryd.prog 38 #[.slice A l.length c] w fun e w' => e = .returned (.int .i64 (sumI l l.length)) ∧ w' = w := by
 have HR := Lib.hid hr
 have HT := Lib.hid hb
 clear hr hb
 go_enter Tryd.func38, Tryd.ntmps38
 go_wp2
 go_loop [3, 4] (fun n i => ∃ (j : Nat), j ≤ l.length ∧ i = .int .i64 j ∧ n = .int .i64 (sumI l j)) (fun _ i => l.length - (intOf i).toNat)
 case atStart => exact ⟨0, Nat.zero_le _, rfl, rfl⟩
 case round =>
  obtain ⟨j, hj, rfl, rfl⟩ := hrel
  by_cases hjl : j < l.length
  ·
   obtain ⟨ad, rfl, hc0⟩ := at_num HR.out j hjl
   have hjj : decide ((j : Int) < (l.length : Int)) = true := decide_eq_true (by omega)
   have hji : (j : Int) < (l.length : Int) := by omega
   have HE : Hid (sumI l (j + 1) = sumI l j + l.getD j 0) := Lib.hid rfl
   have hb : 0 * j ≤ sumI l j ∧ sumI l j ≤ 1000 * j := sumTo_bound (f := fun i => l.getD i 0) (a := 0) (b := 1000) j (fun i _ => HT.out i)
   have htj := HT.out j
   generalize sumI l j = s at HE hb
   generalize l.getD j 0 = tm at hc0 htj HE
   have hwr : IntKind.i64.wrap (s + tm) = s + tm := IntWalk.i64_in _ (by omega)
   go_wp2
   clear hwr
   go_round
   case rel => exact ⟨j + 1, by omega, by go_num, by rw [HE.out]⟩
   case measure => simp [intOf]; omega
  ·
   obtain rfl : j = l.length := by omega
   have hjj : decide ((l.length : Int) < (l.length : Int)) = false := decide_eq_false (by omega)
   go_wp2
   go_ret
   exact ⟨rfl, rfl⟩
theorem sum_is (s : Int) (A : Option Addr) (c : Nat) (l : List Int) (hs : Hid (sumI l l.length = s)) (h16 : l.length ≤ 16) (hb : ∀ i, 0 ≤ l.getD i 0 ∧ l.getD i 0 ≤ 1000) (w : World) (hr : (Kd.int .i64).C w A l.length l) :
  Calls Tryd.prog 38 #[.slice A l.length c] w fun e w' => e = .returned (.int .i64 s) ∧ Below w.heap.size w w' :=
 (sum_calls A c l h16 hb w hr).mono fun e w' h => ⟨by rw [h.1, hs.out], by rw [h.2]; exact Below.refl _ _⟩
end Go.Proofs.YtnbkkiacffkfmaaDoor

namespace Go.Proofs.YtnbkkiacffkfmaaDoor
set_option linter.unusedVariables false
set_option linter.unusedSimpArgs false
open Go.RowKit Go.Shelf Bits
open Go.Proofs.YtnbkkiacffkfmaaDoorW.PrintWords Go.Proofs.YtnbkkiacffkfmaaDoorW.PrintLast Go.Proofs.YtnbkkiacffkfmaaDoorW.PrintMore
set_option maxRecDepth 1000000 in
set_option maxHeartbeats 8000000 in
theorem FnCancelAtEnd_walk (A : Option Addr) (c : Nat) (l : List Int) (hb : ∀ x ∈ l, 0 ≤ x ∧ x < 256) (w : World) (hT : Tab w) (hr : (Kd.int .u8).C w A l.length l) (hc : l.length ≤ c) :
  Calls Tryd.prog 15 #[.slice A l.length c] w fun e w' => e = .returned (.bool true) ∧ Below w.heap.size w w' := by
 have HT := Lib.hid hT
 have hll := (C_len hr).2
 have HD := Lib.hid (DrawCancelAt_any A c l hb w hr hc)
 clear hb hr hc hT
 by_cases hbig : 1048576 < l.length
 ·
  have db : decide ((1048576 : Int) < (l.length : Int)) = true := decide_eq_true (by omega)
  clear hbig
  go_enter Tryd.func15, Tryd.ntmps15
  go_wp2
  go_ret
  exact ⟨rfl, Below.refl _ _⟩
 ·
  have db : decide ((1048576 : Int) < (l.length : Int)) = false := decide_eq_false (by omega)
  clear hbig
  go_enter Tryd.func15, Tryd.ntmps15
  go_upto_region 4 with (go_at_call 30; refine HD.out.mono ?_; rintro e w1 ⟨A1, c1, g, A2, c2, rm, wk, A3, c3, st, now, rfl, h1, h2, h3, hg16, hs8, hwk, hso, hnow, hB1⟩; have H1 := Lib.hid h1; have H2 := Lib.hid h2; have H3 := Lib.hid h3; have HSO := Lib.hid hso; have HB1 := Lib.hid hB1; clear h1 h2 h3 hso hB1)
  have HTW := Lib.hid (fun (W : World) (h : Below w1.heap.size w1 W) => HT.out.keep HT.out.lt (HB1.out.trans (h.mono HB1.out.size)))
  have HW := Lib.hid (Below.refl w1.heap.size w1)
  have HCA := Lib.hid (fun (W : World) (hW : Below w1.heap.size w1 W) => CancelAt_impl A1 c1 g A2 c2 rm wk A3 c3 st now W (Kd.C_below H1.out hW) (Kd.C_below H2.out hW) (Kd.C_below H3.out hW) (HTW.out W hW))
  have HSC := Lib.hid (fun (W : World) (hW : Below w1.heap.size w1 W) => sCancelAt_calls A1 c1 g A2 c2 rm wk A3 c3 st now W (Kd.C_below H1.out hW) (Kd.C_below H2.out hW) (Kd.C_below H3.out hW))
  have HET := Lib.hid (fun (W : World) (hW : Below w1.heap.size w1 W) => EndTime_impl A1 c1 g A2 c2 rm wk A3 c3 st W (Kd.C_below H1.out hW) (Kd.C_below H2.out hW) (Kd.C_below H3.out hW) (HTW.out W hW))
  have hcase := caS_cases g rm wk st now
  by_cases h0 : (caS g rm wk st now).length = 0
  ·
   have dl : (((caS g rm wk st now).length : Int) == 0) = true := by rw [h0]; rfl
   clear hcase h0
   generalize caS g rm wk st now = o at HCA HSC dl
   go_wp2_with (first | (go_at_call 31; refine (HCA.out _ HW.out).mono ?_; rintro e wl ⟨vO, rfl, hR, hB⟩; obtain ⟨AO, cO, rfl, hcO, hC⟩ := Kd.R_reads hR; have HW := Lib.hid (HW.out.trans (hB.mono HW.out.size)); (try (have HcO := Lib.hid (Kd.C_below HcO.out hB))); (try (have HcP := Lib.hid (Kd.C_below HcP.out hB))); (try (have HcX := Lib.hid (Kd.C_below HcX.out hB))); (try (have HcY := Lib.hid (Kd.C_below HcY.out hB))); have HcO := Lib.hid hC; clear hR hC hB) | (go_at_call 33; refine (HSC.out _ HW.out).mono ?_; rintro e wl ⟨vP, rfl, hR, hB⟩; obtain ⟨AP, cP, rfl, hcP, hC⟩ := Kd.R_reads hR; have HW := Lib.hid (HW.out.trans (hB.mono HW.out.size)); (try (have HcO := Lib.hid (Kd.C_below HcO.out hB))); (try (have HcP := Lib.hid (Kd.C_below HcP.out hB))); (try (have HcX := Lib.hid (Kd.C_below HcX.out hB))); (try (have HcY := Lib.hid (Kd.C_below HcY.out hB))); have HcP := Lib.hid hC; clear hR hC hB) | (go_at_call 32; refine (equalInts_same _ _ _ _ _ _ HcO.out HcP.out).mono ?_; rintro e wv ⟨rfl, hB⟩; have HW := Lib.hid (HW.out.trans (hB.mono HW.out.size)); (try (have HcO := Lib.hid (Kd.C_below HcO.out hB))); (try (have HcP := Lib.hid (Kd.C_below HcP.out hB))); (try (have HcX := Lib.hid (Kd.C_below HcX.out hB))); (try (have HcY := Lib.hid (Kd.C_below HcY.out hB))); clear hB))
   go_ret
   exact ⟨rfl, HB1.out.trans (HW.out.mono HB1.out.size)⟩
  ·
   have dl : (((caS g rm wk st now).length : Int) == 0) = false := by rw [beq_eq_false_iff_ne]; omega
   have hv : Valid g rm wk st := by
    rcases hcase with h | h
    ·
     rw [h] at h0
     exact absurd rfl h0
    ·
     exact h.1
   have hen := etS_bound g rm wk st
   have hen0 : 0 ≤ etS g rm wk st := by rw [etS_valid hv]; exact endS_nonneg _ _ _
   have HCE := Lib.hid (fun (W : World) (hW : Below w1.heap.size w1 W) => CancelAt_impl A1 c1 g A2 c2 rm wk A3 c3 st (etS g rm wk st) W (Kd.C_below H1.out hW) (Kd.C_below H2.out hW) (Kd.C_below H3.out hW) (HTW.out W hW))
   have HC0 := Lib.hid (fun (W : World) (hW : Below w1.heap.size w1 W) => CancelAt_impl A1 c1 g A2 c2 rm wk A3 c3 st 0 W (Kd.C_below H1.out hW) (Kd.C_below H2.out hW) (Kd.C_below H3.out hW) (HTW.out W hW))
   have e0 : caS g rm wk st 0 = (List.range g.length).map (cancF g st 0) := caS_yes hv (by omega)
   have hwr : IntKind.i64.wrap ((g.length : Int) * 3) = (g.length : Int) * 3 := IntWalk.i64_in _ (by omega)
   have hy16 : (caS g rm wk st 0).length ≤ 16 := by rw [e0, canc_len]; exact hg16
   have HYB : Hid (∀ i, 0 ≤ (caS g rm wk st 0).getD i 0 ∧ (caS g rm wk st 0).getD i 0 ≤ 1000) := Lib.hid (fun i => by rw [e0]; exact canc_row_bound g st 0 i)
   have HYS : Hid (sumI (caS g rm wk st 0) (caS g rm wk st 0).length = (g.length : Int) * 3) := Lib.hid (by
    rw [sumI_const (c := 3) _ (Nat.le_refl _) (fun i hi => by rw [e0, canc_len] at hi; rw [e0, caS_get hi]; exact canc_zero hv hi), e0, canc_len])
   by_cases h2 : 200 < etS g rm wk st
   ·
    have d2 : decide (200 < etS g rm wk st) = true := decide_eq_true h2
    clear hcase h0 hv e0
    generalize etS g rm wk st = en at HET HCE hen hen0 h2 d2
    generalize caS g rm wk st 0 = y at HC0 hy16 HYB HYS
    generalize caS g rm wk st en = x at HCE
    generalize caS g rm wk st now = o at HCA HSC dl
    go_wp2_with (first | (go_at_call 31; refine (HCA.out _ HW.out).mono ?_; rintro e wl ⟨vO, rfl, hR, hB⟩; obtain ⟨AO, cO, rfl, hcO, hC⟩ := Kd.R_reads hR; have HW := Lib.hid (HW.out.trans (hB.mono HW.out.size)); (try (have HcO := Lib.hid (Kd.C_below HcO.out hB))); (try (have HcP := Lib.hid (Kd.C_below HcP.out hB))); (try (have HcX := Lib.hid (Kd.C_below HcX.out hB))); (try (have HcY := Lib.hid (Kd.C_below HcY.out hB))); have HcO := Lib.hid hC; clear hR hC hB; clear HCA) | (go_at_call 33; refine (HSC.out _ HW.out).mono ?_; rintro e wl ⟨vP, rfl, hR, hB⟩; obtain ⟨AP, cP, rfl, hcP, hC⟩ := Kd.R_reads hR; have HW := Lib.hid (HW.out.trans (hB.mono HW.out.size)); (try (have HcO := Lib.hid (Kd.C_below HcO.out hB))); (try (have HcP := Lib.hid (Kd.C_below HcP.out hB))); (try (have HcX := Lib.hid (Kd.C_below HcX.out hB))); (try (have HcY := Lib.hid (Kd.C_below HcY.out hB))); have HcP := Lib.hid hC; clear hR hC hB) | (go_at_call 32; refine (equalInts_same _ _ _ _ _ _ HcO.out HcP.out).mono ?_; rintro e wv ⟨rfl, hB⟩; have HW := Lib.hid (HW.out.trans (hB.mono HW.out.size)); (try (have HcO := Lib.hid (Kd.C_below HcO.out hB))); (try (have HcP := Lib.hid (Kd.C_below HcP.out hB))); (try (have HcX := Lib.hid (Kd.C_below HcX.out hB))); (try (have HcY := Lib.hid (Kd.C_below HcY.out hB))); clear hB) | (go_at_call 25; refine (HET.out _ HW.out).mono ?_; rintro e wv ⟨rfl, hB⟩; have HW := Lib.hid (HW.out.trans (hB.mono HW.out.size)); (try (have HcO := Lib.hid (Kd.C_below HcO.out hB))); (try (have HcP := Lib.hid (Kd.C_below HcP.out hB))); (try (have HcX := Lib.hid (Kd.C_below HcX.out hB))); (try (have HcY := Lib.hid (Kd.C_below HcY.out hB))); clear hB) | (go_at_call 31; refine (HCE.out _ HW.out).mono ?_; rintro e wl ⟨vX, rfl, hR, hB⟩; obtain ⟨AX, cX, rfl, hcX, hC⟩ := Kd.R_reads hR; have HW := Lib.hid (HW.out.trans (hB.mono HW.out.size)); (try (have HcO := Lib.hid (Kd.C_below HcO.out hB))); (try (have HcP := Lib.hid (Kd.C_below HcP.out hB))); (try (have HcX := Lib.hid (Kd.C_below HcX.out hB))); (try (have HcY := Lib.hid (Kd.C_below HcY.out hB))); have HcX := Lib.hid hC; clear hR hC hB; clear HCE) | (go_at_call 31; refine (HC0.out _ HW.out).mono ?_; rintro e wl ⟨vY, rfl, hR, hB⟩; obtain ⟨AY, cY, rfl, hcY, hC⟩ := Kd.R_reads hR; have HW := Lib.hid (HW.out.trans (hB.mono HW.out.size)); (try (have HcO := Lib.hid (Kd.C_below HcO.out hB))); (try (have HcP := Lib.hid (Kd.C_below HcP.out hB))); (try (have HcX := Lib.hid (Kd.C_below HcX.out hB))); (try (have HcY := Lib.hid (Kd.C_below HcY.out hB))); have HcY := Lib.hid hC; clear hR hC hB) | (go_at_call 38; refine (sum_is 0 AX cX x HXS hx16 HXB.out _ HcX.out).mono ?_; rintro e wv ⟨rfl, hB⟩; have HW := Lib.hid (HW.out.trans (hB.mono HW.out.size)); (try (have HcO := Lib.hid (Kd.C_below HcO.out hB))); (try (have HcP := Lib.hid (Kd.C_below HcP.out hB))); (try (have HcX := Lib.hid (Kd.C_below HcX.out hB))); (try (have HcY := Lib.hid (Kd.C_below HcY.out hB))); clear hB; clear HXS) | (go_at_call 38; refine (sum_is ((g.length : Int) * 3) AY cY y HYS hy16 HYB.out _ HcY.out).mono ?_; rintro e wv ⟨rfl, hB⟩; have HW := Lib.hid (HW.out.trans (hB.mono HW.out.size)); (try (have HcO := Lib.hid (Kd.C_below HcO.out hB))); (try (have HcP := Lib.hid (Kd.C_below HcP.out hB))); (try (have HcX := Lib.hid (Kd.C_below HcX.out hB))); (try (have HcY := Lib.hid (Kd.C_below HcY.out hB))); clear hB; clear HYS))
    go_ret
    exact ⟨rfl, HB1.out.trans (HW.out.mono HB1.out.size)⟩
   ·
    have d2 : decide (200 < etS g rm wk st) = false := decide_eq_false h2
    have e1 : caS g rm wk st (etS g rm wk st) = (List.range g.length).map (cancF g st (etS g rm wk st)) := caS_yes hv (by omega)
    have hx16 : (caS g rm wk st (etS g rm wk st)).length ≤ 16 := by rw [e1, canc_len]; exact hg16
    have dle : (((caS g rm wk st (etS g rm wk st)).length : Int) == (g.length : Int)) = true := by rw [e1, canc_len]; exact beq_self_eq_true _
    have HXB : Hid (∀ i, 0 ≤ (caS g rm wk st (etS g rm wk st)).getD i 0 ∧ (caS g rm wk st (etS g rm wk st)).getD i 0 ≤ 1000) := Lib.hid (fun i => by rw [e1]; exact canc_row_bound g st _ i)
    have HXS : Hid (sumI (caS g rm wk st (etS g rm wk st)) (caS g rm wk st (etS g rm wk st)).length = 0) := Lib.hid (by
     rw [sumI_const (c := 0) _ (Nat.le_refl _) (fun i hi => by rw [e1, canc_len] at hi; rw [e1, caS_get hi]; exact canc_end hv hi), Int.mul_zero])
    clear hcase h0 hv e0 e1
    generalize caS g rm wk st (etS g rm wk st) = x at HCE hx16 dle HXB HXS
    generalize etS g rm wk st = en at HET HCE hen hen0 h2 d2
    generalize caS g rm wk st 0 = y at HC0 hy16 HYB HYS
    generalize caS g rm wk st now = o at HCA HSC dl
    go_wp2_with (first | (go_at_call 31; refine (HCA.out _ HW.out).mono ?_; rintro e wl ⟨vO, rfl, hR, hB⟩; obtain ⟨AO, cO, rfl, hcO, hC⟩ := Kd.R_reads hR; have HW := Lib.hid (HW.out.trans (hB.mono HW.out.size)); (try (have HcO := Lib.hid (Kd.C_below HcO.out hB))); (try (have HcP := Lib.hid (Kd.C_below HcP.out hB))); (try (have HcX := Lib.hid (Kd.C_below HcX.out hB))); (try (have HcY := Lib.hid (Kd.C_below HcY.out hB))); have HcO := Lib.hid hC; clear hR hC hB; clear HCA) | (go_at_call 33; refine (HSC.out _ HW.out).mono ?_; rintro e wl ⟨vP, rfl, hR, hB⟩; obtain ⟨AP, cP, rfl, hcP, hC⟩ := Kd.R_reads hR; have HW := Lib.hid (HW.out.trans (hB.mono HW.out.size)); (try (have HcO := Lib.hid (Kd.C_below HcO.out hB))); (try (have HcP := Lib.hid (Kd.C_below HcP.out hB))); (try (have HcX := Lib.hid (Kd.C_below HcX.out hB))); (try (have HcY := Lib.hid (Kd.C_below HcY.out hB))); have HcP := Lib.hid hC; clear hR hC hB) | (go_at_call 32; refine (equalInts_same _ _ _ _ _ _ HcO.out HcP.out).mono ?_; rintro e wv ⟨rfl, hB⟩; have HW := Lib.hid (HW.out.trans (hB.mono HW.out.size)); (try (have HcO := Lib.hid (Kd.C_below HcO.out hB))); (try (have HcP := Lib.hid (Kd.C_below HcP.out hB))); (try (have HcX := Lib.hid (Kd.C_below HcX.out hB))); (try (have HcY := Lib.hid (Kd.C_below HcY.out hB))); clear hB) | (go_at_call 25; refine (HET.out _ HW.out).mono ?_; rintro e wv ⟨rfl, hB⟩; have HW := Lib.hid (HW.out.trans (hB.mono HW.out.size)); (try (have HcO := Lib.hid (Kd.C_below HcO.out hB))); (try (have HcP := Lib.hid (Kd.C_below HcP.out hB))); (try (have HcX := Lib.hid (Kd.C_below HcX.out hB))); (try (have HcY := Lib.hid (Kd.C_below HcY.out hB))); clear hB) | (go_at_call 31; refine (HCE.out _ HW.out).mono ?_; rintro e wl ⟨vX, rfl, hR, hB⟩; obtain ⟨AX, cX, rfl, hcX, hC⟩ := Kd.R_reads hR; have HW := Lib.hid (HW.out.trans (hB.mono HW.out.size)); (try (have HcO := Lib.hid (Kd.C_below HcO.out hB))); (try (have HcP := Lib.hid (Kd.C_below HcP.out hB))); (try (have HcX := Lib.hid (Kd.C_below HcX.out hB))); (try (have HcY := Lib.hid (Kd.C_below HcY.out hB))); have HcX := Lib.hid hC; clear hR hC hB; clear HCE) | (go_at_call 31; refine (HC0.out _ HW.out).mono ?_; rintro e wl ⟨vY, rfl, hR, hB⟩; obtain ⟨AY, cY, rfl, hcY, hC⟩ := Kd.R_reads hR; have HW := Lib.hid (HW.out.trans (hB.mono HW.out.size)); (try (have HcO := Lib.hid (Kd.C_below HcO.out hB))); (try (have HcP := Lib.hid (Kd.C_below HcP.out hB))); (try (have HcX := Lib.hid (Kd.C_below HcX.out hB))); (try (have HcY := Lib.hid (Kd.C_below HcY.out hB))); have HcY := Lib.hid hC; clear hR hC hB) | (go_at_call 38; refine (sum_is 0 AX cX x HXS hx16 HXB.out _ HcX.out).mono ?_; rintro e wv ⟨rfl, hB⟩; have HW := Lib.hid (HW.out.trans (hB.mono HW.out.size)); (try (have HcO := Lib.hid (Kd.C_below HcO.out hB))); (try (have HcP := Lib.hid (Kd.C_below HcP.out hB))); (try (have HcX := Lib.hid (Kd.C_below HcX.out hB))); (try (have HcY := Lib.hid (Kd.C_below HcY.out hB))); clear hB; clear HXS) | (go_at_call 38; refine (sum_is ((g.length : Int) * 3) AY cY y HYS hy16 HYB.out _ HcY.out).mono ?_; rintro e wv ⟨rfl, hB⟩; have HW := Lib.hid (HW.out.trans (hB.mono HW.out.size)); (try (have HcO := Lib.hid (Kd.C_below HcO.out hB))); (try (have HcP := Lib.hid (Kd.C_below HcP.out hB))); (try (have HcX := Lib.hid (Kd.C_below HcX.out hB))); (try (have HcY := Lib.hid (Kd.C_below HcY.out hB))); clear hB; clear HYS))
    go_ret
    exact ⟨rfl, HB1.out.trans (HW.out.mono HB1.out.size)⟩
end Go.Proofs.YtnbkkiacffkfmaaDoor
