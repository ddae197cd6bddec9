/- Parts of the proof, laid as one text by a program of mine. -/
import Derived.Test.YtkljcdghbefceaaDoorKordc3
import Derived.Test.YtkljcdghbefceaaDoorKordc7
import Derived.Test.YtkljcdghbefceaaDoorKordc17
import Derived.Test.YtkljcdghbefceaaDoorKordc18
import Derived.Test.YtkljcdghbefceaaDoorKordc20
import Derived.Test.YtkljcdghbefceaaDoorKordc21
import Derived.Test.YtkljcdghbefceaaDoorKordc11
namespace Go.Proofs.YtkljcdghbefceaaDoor
set_option linter.unusedVariables false
set_option linter.unusedSimpArgs false
open Go.RowKit Go.Shelf Bits
open Go.Proofs.YtkljcdghbefceaaDoorW.PrintWords Go.Proofs.YtkljcdghbefceaaDoorW.PrintLast Go.Proofs.YtkljcdghbefceaaDoorW.PrintMore
theorem TopOrder_yes (A : Option Addr) (c : Nat) (g : List Tk) (ns : List Nat) (w : World) (hr : kTk.C w A g.length g) (hT : Tab w) (hg : graphN g = some ns) :
  Calls Tryd.prog 13 #[.slice A g.length c] w fun e w' => ∃ Ao co, e = .returned (.slice Ao (topL g).length co) ∧ (∀ W', kTk.C W' A g.length g → (∀ k, w.heap.size ≤ k → k < w'.heap.size → W'.heap[k]? = w'.heap[k]?) → (Kd.int .i64).C W' Ao (topL g).length (ints (topL g))) ∧ Below w.heap.size w w' := by
 have HP := Lib.hid (graphOf_yes2 A c g ns w hr hT hg)
 have HTE := Lib.hid (topL_eq hg)
 clear hr hT hg
 go_enter Tryd.func13, Tryd.ntmps13
 go_wp2_with (go_at_call 40; refine HP.out.mono ?_; rintro e w1 ⟨C, rfl, hG, hB1, hS, hCl⟩; obtain ⟨Ag, cg, An, cn, Ao, co, vb, va, h1, h2, h3, h4⟩ := hG; have cC := blk_cell h1 2; simp at cC; have HH := Lib.hid (And.intro h1 (And.intro hS (And.intro hB1 hCl))); clear h1 h2 h3 h4 hS hB1 hCl)
 go_ret
 obtain ⟨h1, hS, hB1, hCl⟩ := HH.out
 refine ⟨Ao, co, by rw [HTE.out]; rfl, fun W' hA hk => ?_, hB1⟩
 obtain ⟨Ag', cg', An', cn', Ao', co', vb', va', h1', h2', h3', h4'⟩ := hS W' hA hk
 have he := (hk C hCl (blk_lt h1)).trans h1
 rw [h1'] at he
 simp only [Option.some.injEq, Obj.cells.injEq, Array.mk.injEq, List.cons.injEq, Value.slice.injEq] at he
 obtain rfl : Ao' = Ao := by simp_all
 rw [HTE.out]
 exact h4'
end Go.Proofs.YtkljcdghbefceaaDoor

namespace Go.Proofs.YtkljcdghbefceaaDoor
set_option linter.unusedVariables false
set_option linter.unusedSimpArgs false
open Go.RowKit Go.Shelf Bits
open Go.Proofs.YtkljcdghbefceaaDoorW.PrintWords Go.Proofs.YtkljcdghbefceaaDoorW.PrintLast Go.Proofs.YtkljcdghbefceaaDoorW.PrintMore
set_option maxRecDepth 1000000 in
set_option maxHeartbeats 8000000 in
theorem FnOrderStartsTop_walk (A : Option Addr) (c : Nat) (l : List Int) (hb : ∀ x ∈ l, 0 ≤ x ∧ x < 256) (w : World) (hT : Tab w) (hr : (Kd.int .u8).C w A l.length l) (hc : l.length ≤ c) :
  Calls Tryd.prog 4 #[.slice A l.length c] w fun e w' => e = .returned (.bool true) ∧ Below w.heap.size w w' := by
 have HT := Lib.hid hT
 have hll := (C_len hr).2
 have HD := Lib.hid (DrawOrderStarts_any A c l hb w hr hc)
 clear hb hr hc hT
 by_cases hbig : 1048576 < l.length
 ·
  have db : decide ((1048576 : Int) < (l.length : Int)) = true := decide_eq_true (by omega)
  clear hbig
  go_enter Tryd.func4, Tryd.ntmps4
  go_wp2
  go_ret
  exact ⟨rfl, Below.refl _ _⟩
 ·
  have db : decide ((1048576 : Int) < (l.length : Int)) = false := decide_eq_false (by omega)
  clear hbig
  go_enter Tryd.func4, Tryd.ntmps4
  go_upto_region 4 with (go_at_call 8; refine HD.out.mono ?_; rintro e w1 ⟨A1, c1, g, A2, c2, rm, wk, A3, c3, st, rfl, h1, h2, h3, hst, hg16, hwk, hB1⟩; have H1 := Lib.hid h1; have H2 := Lib.hid h2; have H3 := Lib.hid h3; have HB1 := Lib.hid hB1; clear h1 h2 h3 hB1)
  have HTW := Lib.hid (fun (W : World) (h : Below w1.heap.size w1 W) => HT.out.keep HT.out.lt (HB1.out.trans (h.mono HB1.out.size)))
  have HW := Lib.hid (Below.refl w1.heap.size w1)
  have HOS := Lib.hid (fun (W : World) (hW : Below w1.heap.size w1 W) => OrderStarts_impl A1 c1 g A2 c2 rm wk A3 c3 st W (Kd.C_below H1.out hW) (Kd.C_below H2.out hW) (Kd.C_below H3.out hW) (HTW.out W hW))
  have HSP := Lib.hid (fun (W : World) (hW : Below w1.heap.size w1 W) => sOrderStarts_calls A1 c1 g A2 c2 rm wk A3 c3 st hst W (Kd.C_below H1.out hW) (Kd.C_below H2.out hW) (Kd.C_below H3.out hW))
  by_cases ho : osN g rm wk st = []
  ·
   have dl : (((osN g rm wk st).length : Int) == 0) = true := by rw [ho]; rfl
   clear ho
   generalize osN g rm wk st = o at HOS HSP dl
   go_wp2_with (first | (go_at_call 9; refine (HOS.out _ HW.out).mono ?_; rintro e wl ⟨vO, rfl, hR, hB⟩; obtain ⟨AO, cO, rfl, hcO, hC⟩ := Kd.R_reads hR; have HW := Lib.hid (HW.out.trans (hB.mono HW.out.size)); (try (have HcO := Lib.hid (Kd.C_below HcO.out hB))); (try (have HcP := Lib.hid (Kd.C_below HcP.out hB))); have HcO := Lib.hid hC; clear hR hC hB; clear HOS) | (go_at_call 11; refine (HSP.out _ HW.out).mono ?_; rintro e wl ⟨vP, rfl, hR, hB⟩; obtain ⟨AP, cP, rfl, hcP, hC⟩ := Kd.R_reads hR; have HW := Lib.hid (HW.out.trans (hB.mono HW.out.size)); (try (have HcO := Lib.hid (Kd.C_below HcO.out hB))); (try (have HcP := Lib.hid (Kd.C_below HcP.out hB))); have HcP := Lib.hid hC; clear hR hC hB) | (go_at_call 10; refine (equalInts_same _ _ _ _ _ _ HcO.out HcP.out).mono ?_; rintro e wv ⟨rfl, hB⟩; have HW := Lib.hid (HW.out.trans (hB.mono HW.out.size)); (try (have HcO := Lib.hid (Kd.C_below HcO.out hB))); (try (have HcP := Lib.hid (Kd.C_below HcP.out hB))); clear hB))
   go_ret
   exact ⟨rfl, HB1.out.trans (HW.out.mono HB1.out.size)⟩
  ·
   have hpos : 0 < (osN g rm wk st).length := List.length_pos_iff.2 ho
   have dl : (((osN g rm wk st).length : Int) == 0) = false := by rw [beq_eq_false_iff_ne]; omega
   obtain ⟨o1, o2⟩ := top_law ho
   obtain ⟨ns, hgr⟩ := graphN_yes (seaB_facts (osN_yes ho).1).1
   have HTO := Lib.hid (fun (W : World) (hW : Below w1.heap.size w1 W) => (TopOrder_yes A1 c1 g ns W (Kd.C_below H1.out hW) (HTW.out W hW) hgr).mono fun e w' h => (show ∃ (v : Value), e = .returned v ∧ ∃ At ct, v = .slice At (ints (topL g)).length ct ∧ (Kd.int .i64).C w' At (ints (topL g)).length (ints (topL g)) ∧ Below W.heap.size W w' from by
    obtain ⟨At, ct, he, hC, hB⟩ := h
    rw [ints_length]
    exact ⟨_, he, At, ct, rfl, hC _ (Kd.C_below (Kd.C_below H1.out hW) hB) (fun _ _ _ => rfl), hB⟩))
   have HOT := Lib.hid (fun (AT : Option Addr) (cT : Nat) (W : World) (hW : Below w1.heap.size w1 W) hT => OrderStarts_impl A1 c1 g A2 c2 rm wk AT cT (ints (topL g)) W (Kd.C_below H1.out hW) (Kd.C_below H2.out hW) hT (HTW.out W hW))
   have HVX := Lib.hid (fun (AO : Option Addr) (cO : Nat) (W : World) (hW : Below w1.heap.size w1 W) hO => ValidStarts_impl A1 c1 g A2 c2 rm wk AO cO (osN g rm wk (ints (topL g))) W (Kd.C_below H1.out hW) (Kd.C_below H2.out hW) hO (HTW.out W hW))
   rw [o1] at HVX
   have dx : (((osN g rm wk (ints (topL g))).length : Int) == (g.length : Int)) = true := by rw [o2]; exact beq_self_eq_true _
   clear ho o1 o2 hpos
   generalize osN g rm wk (ints (topL g)) = x at HOT HVX dx
   generalize ints (topL g) = tl at HTO HOT
   generalize osN g rm wk st = o at HOS HSP dl
   go_wp2_with (first | (go_at_call 9; refine (HOS.out _ HW.out).mono ?_; rintro e wl ⟨vO, rfl, hR, hB⟩; obtain ⟨AO, cO, rfl, hcO, hC⟩ := Kd.R_reads hR; have HW := Lib.hid (HW.out.trans (hB.mono HW.out.size)); (try (have HcO := Lib.hid (Kd.C_below HcO.out hB))); (try (have HcP := Lib.hid (Kd.C_below HcP.out hB))); (try (have HcT := Lib.hid (Kd.C_below HcT.out hB))); (try (have HcX := Lib.hid (Kd.C_below HcX.out hB))); have HcO := Lib.hid hC; clear hR hC hB; clear HOS) | (go_at_call 11; refine (HSP.out _ HW.out).mono ?_; rintro e wl ⟨vP, rfl, hR, hB⟩; obtain ⟨AP, cP, rfl, hcP, hC⟩ := Kd.R_reads hR; have HW := Lib.hid (HW.out.trans (hB.mono HW.out.size)); (try (have HcO := Lib.hid (Kd.C_below HcO.out hB))); (try (have HcP := Lib.hid (Kd.C_below HcP.out hB))); (try (have HcT := Lib.hid (Kd.C_below HcT.out hB))); (try (have HcX := Lib.hid (Kd.C_below HcX.out hB))); have HcP := Lib.hid hC; clear hR hC hB) | (go_at_call 10; refine (equalInts_same _ _ _ _ _ _ HcO.out HcP.out).mono ?_; rintro e wv ⟨rfl, hB⟩; have HW := Lib.hid (HW.out.trans (hB.mono HW.out.size)); (try (have HcO := Lib.hid (Kd.C_below HcO.out hB))); (try (have HcP := Lib.hid (Kd.C_below HcP.out hB))); (try (have HcT := Lib.hid (Kd.C_below HcT.out hB))); (try (have HcX := Lib.hid (Kd.C_below HcX.out hB))); clear hB) | (go_at_call 13; refine (HTO.out _ HW.out).mono ?_; rintro e wv ⟨vT, rfl, AT, cT, rfl, hC, hB⟩; have HW := Lib.hid (HW.out.trans (hB.mono HW.out.size)); (try (have HcO := Lib.hid (Kd.C_below HcO.out hB))); (try (have HcP := Lib.hid (Kd.C_below HcP.out hB))); (try (have HcT := Lib.hid (Kd.C_below HcT.out hB))); (try (have HcX := Lib.hid (Kd.C_below HcX.out hB))); have HcT := Lib.hid hC; clear hC hB) | (go_at_call 9; refine (HOT.out AT cT _ HW.out HcT.out).mono ?_; rintro e wl ⟨vX, rfl, hR, hB⟩; obtain ⟨AX, cX, rfl, hcX, hC⟩ := Kd.R_reads hR; have HW := Lib.hid (HW.out.trans (hB.mono HW.out.size)); (try (have HcO := Lib.hid (Kd.C_below HcO.out hB))); (try (have HcP := Lib.hid (Kd.C_below HcP.out hB))); (try (have HcT := Lib.hid (Kd.C_below HcT.out hB))); (try (have HcX := Lib.hid (Kd.C_below HcX.out hB))); have HcX := Lib.hid hC; clear hR hC hB) | (go_at_call 14; refine (HVX.out AX cX _ HW.out HcX.out).mono ?_; rintro e wv ⟨rfl, hB⟩; have HW := Lib.hid (HW.out.trans (hB.mono HW.out.size)); (try (have HcO := Lib.hid (Kd.C_below HcO.out hB))); (try (have HcP := Lib.hid (Kd.C_below HcP.out hB))); (try (have HcT := Lib.hid (Kd.C_below HcT.out hB))); (try (have HcX := Lib.hid (Kd.C_below HcX.out hB))); clear hB))
   go_ret
   exact ⟨rfl, HB1.out.trans (HW.out.mono HB1.out.size)⟩
end Go.Proofs.YtkljcdghbefceaaDoor
