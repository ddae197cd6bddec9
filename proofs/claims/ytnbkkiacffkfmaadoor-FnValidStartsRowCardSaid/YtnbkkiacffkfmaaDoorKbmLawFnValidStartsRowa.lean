/- Parts of the proof, laid as one text by a program of mine. -/
import Derived.Test.YtnbkkiacffkfmaaDoorKbc10
import Derived.Test.YtnbkkiacffkfmaaDoorKbc3
import Derived.Test.YtnbkkiacffkfmaaDoorKbc12
import Derived.Test.YtnbkkiacffkfmaaDoorKbc16
import Derived.Test.YtnbkkiacffkfmaaDoorKbc17
import Derived.Test.YtnbkkiacffkfmaaDoorKbc19
namespace Go.Proofs.YtnbkkiacffkfmaaDoor
set_option linter.unusedVariables false
set_option linter.unusedSimpArgs false
open Go.RowKit Go.Shelf Bits
open Go.Proofs.YtnbkkiacffkfmaaDoorW.PrintWords Go.Proofs.YtnbkkiacffkfmaaDoorW.PrintLast Go.Proofs.YtnbkkiacffkfmaaDoorW.PrintMore
theorem C_nilI (w : World) : (Kd.int .i64).C w none 0 [] := ⟨rfl, by simp, fun hn => absurd hn (by simp)⟩
theorem ValidGraph_is (b : Bool) (A : Option Addr) (c : Nat) (g : List Tk) (h : Hid (specValid g = b)) (w : World) (hr : kTk.C w A g.length g) (hT : Tab w) :
  Calls Tryd.prog 20 #[.slice A g.length c] w fun e w' => e = .returned (.bool b) ∧ Below w.heap.size w w' := by
 have hv := h.out
 rw [specValid_eq] at hv
 cases hg : graphN g with
 | none =>
  rw [hg] at hv
  obtain rfl : b = false := hv.symm
  have HP := Lib.hid (graphOf_no A c g w hr hg)
  clear hr hT hg h hv
  go_enter Tryd.func20, Tryd.ntmps20
  go_wp2_with (go_at_call 46; refine HP.out.mono ?_; rintro e w1 ⟨rfl, hB1⟩)
  go_ret
  exact ⟨rfl, hB1⟩
 | some ns =>
  rw [hg] at hv
  obtain rfl : b = true := hv.symm
  have HP := Lib.hid (graphOf_yes A c g ns w hr hT hg)
  clear hr hT hg h hv
  go_enter Tryd.func20, Tryd.ntmps20
  go_wp2_with (go_at_call 46; refine HP.out.mono ?_; rintro e w1 ⟨C, rfl, hG, hB1⟩)
  go_ret
  exact ⟨rfl, hB1⟩
set_option maxRecDepth 100000 in
theorem allTime_calls (A : Option Addr) (c : Nat) (g : List Tk) (h16 : g.length ≤ 16) (ht : ∀ i, 0 ≤ (rdTk g i).f0 ∧ (rdTk g i).f0 ≤ 1000) (w : World) (hr : kTk.C w A g.length g) :
  Calls Tryd.prog 37 #[.slice A g.length c] w fun e w' => e = .returned (.int .i64 (timeS g)) ∧ w' = w := by
 have HR := Lib.hid hr
 have HT := Lib.hid ht
 clear hr ht
 go_enter Tryd.func37, Tryd.ntmps37
 go_wp2
 go_loop [3, 4] (fun n i => ∃ (j : Nat), j ≤ g.length ∧ i = .int .i64 j ∧ n = .int .i64 (sumTo (fun i => (rdTk g i).f0) j)) (fun _ i => g.length - (intOf i).toNat)
 case atStart => exact ⟨0, Nat.zero_le _, rfl, rfl⟩
 case round =>
  obtain ⟨j, hj, rfl, rfl⟩ := hrel
  by_cases hjl : j < g.length
  ·
   obtain ⟨ad, A1, c1, rfl, hc0, _⟩ := at_Tk HR.out j hjl
   have hjj : decide ((j : Int) < (g.length : Int)) = true := decide_eq_true (by omega)
   have hji : (j : Int) < (g.length : Int) := by omega
   have HE : Hid (sumTo (fun i => (rdTk g i).f0) (j + 1) = sumTo (fun i => (rdTk g i).f0) j + (rdTk g j).f0) := Lib.hid rfl
   have hb := sumTo_bound (f := fun i => (rdTk g i).f0) (a := 0) (b := 1000) j (fun i _ => HT.out i)
   have htj := HT.out j
   generalize sumTo (fun i => (rdTk g i).f0) j = s at HE hb
   generalize (rdTk g j).f0 = tm at hc0 htj HE
   have hwr : IntKind.i64.wrap (s + tm) = s + tm := IntWalk.i64_in _ (by omega)
   go_wp2
   clear hwr
   go_round
   case rel => exact ⟨j + 1, by omega, by go_num, by rw [HE.out]⟩
   case measure => simp [intOf]; omega
  ·
   obtain rfl : j = g.length := by omega
   have hjj : decide ((g.length : Int) < (g.length : Int)) = false := decide_eq_false (by omega)
   go_wp2
   go_ret
   exact ⟨rfl, rfl⟩
end Go.Proofs.YtnbkkiacffkfmaaDoor

namespace Go.Proofs.YtnbkkiacffkfmaaDoor
set_option linter.unusedVariables false
set_option linter.unusedSimpArgs false
open Go.RowKit Go.Shelf Bits
open Go.Proofs.YtnbkkiacffkfmaaDoorW.PrintWords Go.Proofs.YtnbkkiacffkfmaaDoorW.PrintLast Go.Proofs.YtnbkkiacffkfmaaDoorW.PrintMore
theorem TopOrder_yes (A : Option Addr) (c : Nat) (g : List Tk) (ns : List Nat) (w : World) (hr : kTk.C w A g.length g) (hT : Tab w) (hg : graphN g = some ns) :
  Calls Tryd.prog 22 #[.slice A g.length c] w fun e w' => ∃ Ao co, e = .returned (.slice Ao (topL g).length co) ∧ (∀ W', kTk.C W' A g.length g → (∀ k, w.heap.size ≤ k → k < w'.heap.size → W'.heap[k]? = w'.heap[k]?) → (Kd.int .i64).C W' Ao (topL g).length (ints (topL g))) ∧ Below w.heap.size w w' := by
 have HP := Lib.hid (graphOf_yes2 A c g ns w hr hT hg)
 have HTE := Lib.hid (topL_eq hg)
 clear hr hT hg
 go_enter Tryd.func22, Tryd.ntmps22
 go_wp2_with (go_at_call 46; refine HP.out.mono ?_; rintro e w1 ⟨C, rfl, hG, hB1, hS, hCl⟩; obtain ⟨Ag, cg, An, cn, Ao, co, vb, va, h1, h2, h3, h4⟩ := hG; have cC := blk_cell h1 2; simp at cC; have HH := Lib.hid (And.intro h1 (And.intro hS (And.intro hB1 hCl))); clear h1 h2 h3 h4 hS hB1 hCl)
 go_ret
 obtain ⟨h1, hS, hB1, hCl⟩ := HH.out
 refine ⟨Ao, co, by rw [HTE.out]; rfl, fun W' hA hk => ?_, hB1⟩
 obtain ⟨Ag', cg', An', cn', Ao', co', vb', va', h1', h2', h3', h4'⟩ := hS W' hA hk
 have he := (hk C hCl (blk_lt h1)).trans h1
 rw [h1'] at he
 simp only [Option.some.injEq, Obj.cells.injEq, Array.mk.injEq, List.cons.injEq, Value.slice.injEq] at he
 obtain rfl : Ao' = Ao := by simp_all
 rw [HTE.out]
 exact h4'
end Go.Proofs.YtnbkkiacffkfmaaDoor

namespace Go.Proofs.YtnbkkiacffkfmaaDoor
set_option linter.unusedVariables false
set_option linter.unusedSimpArgs false
open Go.RowKit Go.Shelf Bits
open Go.Proofs.YtnbkkiacffkfmaaDoorW.PrintWords Go.Proofs.YtnbkkiacffkfmaaDoorW.PrintLast Go.Proofs.YtnbkkiacffkfmaaDoorW.PrintMore
set_option maxRecDepth 1000000 in
set_option maxHeartbeats 8000000 in
theorem FnValidStartsRow_walk (A : Option Addr) (c : Nat) (l : List Int) (hb : ∀ x ∈ l, 0 ≤ x ∧ x < 256) (w : World) (hT : Tab w) (hr : (Kd.int .u8).C w A l.length l) (hc : l.length ≤ c) :
  Calls Tryd.prog 5 #[.slice A l.length c] w fun e w' => e = .returned (.bool true) ∧ Below w.heap.size w w' := by
 have HT := Lib.hid hT
 have hll := (C_len hr).2
 have HD := Lib.hid (DrawValidStarts_any A c l hb w hr hc)
 clear hb hr hc hT
 by_cases hbig : 1048576 < l.length
 ·
  have db : decide ((1048576 : Int) < (l.length : Int)) = true := decide_eq_true (by omega)
  clear hbig
  go_enter Tryd.func5, Tryd.ntmps5
  go_wp2
  go_ret
  exact ⟨rfl, Below.refl _ _⟩
 ·
  have db : decide ((1048576 : Int) < (l.length : Int)) = false := decide_eq_false (by omega)
  clear hbig
  go_enter Tryd.func5, Tryd.ntmps5
  go_upto_region 4 with (go_at_call 17; refine HD.out.mono ?_; rintro e w1 ⟨rb, A1, c1, g, A2, c2, rm, wk, A3, c3, st, rfl, hG, hR, hS, hrb, hg16, hs8, hwk, hso, hB1⟩; have H1 := Lib.hid hG.now; have H2 := Lib.hid hR.now; have H3 := Lib.hid hS.now; have HSO := Lib.hid hso; have HB1 := Lib.hid hB1; clear hG hR hS hrb hso hB1)
  have HTW := Lib.hid (fun (W : World) (h : Below w1.heap.size w1 W) => HT.out.keep HT.out.lt (HB1.out.trans (h.mono HB1.out.size)))
  have HW := Lib.hid (Below.refl w1.heap.size w1)
  have HVS := Lib.hid (fun (W : World) (hW : Below w1.heap.size w1 W) => ValidStarts_impl A1 c1 g A2 c2 rm wk A3 c3 st W (Kd.C_below H1.out hW) (Kd.C_below H2.out hW) (Kd.C_below H3.out hW) (HTW.out W hW))
  have HSV := Lib.hid (fun (W : World) (hW : Below w1.heap.size w1 W) => sValidStarts_calls A1 c1 g A2 c2 rm wk A3 c3 st W (Kd.C_below H1.out hW) (Kd.C_below H2.out hW) (Kd.C_below H3.out hW))
  have HV0 := Lib.hid (fun (W : World) (hW : Below w1.heap.size w1 W) (b : Bool) (hb : Hid (specValid g = b)) => ValidGraph_is b A1 c1 g hb W (Kd.C_below H1.out hW) (HTW.out W hW))
  have HRM0 := Lib.hid (fun (W : World) (hW : Below w1.heap.size w1 W) (b : Bool) (hb : Hid (roomB rm = b)) => (ValidRoom_is b A2 c2 rm hb W (Kd.C_below H2.out hW)).mono fun e w' h => (⟨h.1, by rw [h.2]; exact Below.refl _ _⟩ : e = .returned (.bool b) ∧ Below W.heap.size W w') )
  generalize vStB g rm wk st = b at HVS HSV
  cases hv : specValid g with
  | false =>
   have HV := Lib.hid (fun W hW => HV0.out W hW false (Lib.hid hv))
   clear HV0 HRM0 hv
   go_wp2_with (first | (go_at_call 18; refine (HVS.out _ HW.out).mono ?_; rintro e wv ⟨rfl, hB⟩; have HW := Lib.hid (HW.out.trans (hB.mono HW.out.size)); clear hB) | (go_at_call 19; refine (HSV.out _ HW.out).mono ?_; rintro e wv ⟨rfl, hB⟩; have HW := Lib.hid (HW.out.trans (hB.mono HW.out.size)); clear hB) | (go_at_call 20; refine (HV.out _ HW.out).mono ?_; rintro e wv ⟨rfl, hB⟩; have HW := Lib.hid (HW.out.trans (hB.mono HW.out.size)); clear hB) | (go_at_call 21; refine (HRM.out _ HW.out).mono ?_; rintro e wv ⟨rfl, hB⟩; have HW := Lib.hid (HW.out.trans (hB.mono HW.out.size)); clear hB))
   go_ret
   exact ⟨rfl, HB1.out.trans (HW.out.mono HB1.out.size)⟩
  | true =>
   have HV := Lib.hid (fun W hW => HV0.out W hW true (Lib.hid hv))
   cases hm : roomB rm with
   | false =>
    have HRM := Lib.hid (fun W hW => HRM0.out W hW false (Lib.hid hm))
    clear HV0 HRM0 hv hm
    go_wp2_with (first | (go_at_call 18; refine (HVS.out _ HW.out).mono ?_; rintro e wv ⟨rfl, hB⟩; have HW := Lib.hid (HW.out.trans (hB.mono HW.out.size)); clear hB) | (go_at_call 19; refine (HSV.out _ HW.out).mono ?_; rintro e wv ⟨rfl, hB⟩; have HW := Lib.hid (HW.out.trans (hB.mono HW.out.size)); clear hB) | (go_at_call 20; refine (HV.out _ HW.out).mono ?_; rintro e wv ⟨rfl, hB⟩; have HW := Lib.hid (HW.out.trans (hB.mono HW.out.size)); clear hB) | (go_at_call 21; refine (HRM.out _ HW.out).mono ?_; rintro e wv ⟨rfl, hB⟩; have HW := Lib.hid (HW.out.trans (hB.mono HW.out.size)); clear hB))
    go_ret
    exact ⟨rfl, HB1.out.trans (HW.out.mono HB1.out.size)⟩
   | true =>
    have HRM := Lib.hid (fun W hW => HRM0.out W hW true (Lib.hid hm))
    have hok := specValid_TOk hv
    obtain ⟨ns, hg⟩ := graphN_yes hv
    have HTO := Lib.hid (fun (W : World) (hW : Below w1.heap.size w1 W) => TopOrder_yes A1 c1 g ns W (Kd.C_below H1.out hW) (HTW.out W hW) hg)
    have hrow := valid_vSt (row_valid hv hm)
    have HV2 := Lib.hid (fun (AO : Option Addr) (cO : Nat) (x : List Int) (hx : x = (rowT g (topL g) (topL g).length).2) (W : World) (hW : Below w1.heap.size w1 W) hO => ValidStarts_impl A1 c1 g A2 c2 rm 1 AO cO x W (Kd.C_below H1.out hW) (Kd.C_below H2.out hW) hO (HTW.out W hW))
    have HROW := Lib.hid hrow
    have hmk := run_makeI g.length (by omega)
    have HLT : Hid (∀ k, k < (topL g).length → (topL g).getD k 0 < g.length) := Lib.hid (fun k hk => by
     apply (topN_facts g g.length).2.1
     show (topL g).getD k 0 ∈ topL g
     rw [List.getD_eq_getElem?_getD, List.getElem?_eq_getElem hk]
     exact List.getElem_mem _)
    have HTM := Lib.hid (rowT_time hok (topL g))
    have HRL := Lib.hid (rowT_len g (topL g))
    have HSTP : Hid (∀ k, rowT g (topL g) (k + 1) = ((rowT g (topL g) k).1 + (rdTk g ((topL g).getD k 0)).f0, (rowT g (topL g) k).2.set ((topL g).getD k 0) (rowT g (topL g) k).1)) := Lib.hid (fun k => rfl)
    have hol : (topL g).length = g.length := topL_len hv
    have h8 := hok.1
    have HT2 := Lib.hid hok.2.1
    clear HV0 HRM0 hv hm hg hrow hok
    have HR0 : Hid ((rowT g (topL g) 0) = (0, List.replicate g.length 0)) := Lib.hid rfl
    generalize topL g = ol at HTO HV2 HROW HLT HTM HRL HSTP hol HR0
    go_upto_region 7 with (first | (go_at_call 18; refine (HVS.out _ HW.out).mono ?_; rintro e wv ⟨rfl, hB⟩; have HW := Lib.hid (HW.out.trans (hB.mono HW.out.size)); clear hB) | (go_at_call 19; refine (HSV.out _ HW.out).mono ?_; rintro e wv ⟨rfl, hB⟩; have HW := Lib.hid (HW.out.trans (hB.mono HW.out.size)); clear hB) | (go_at_call 20; refine (HV.out _ HW.out).mono ?_; rintro e wv ⟨rfl, hB⟩; have HW := Lib.hid (HW.out.trans (hB.mono HW.out.size)); clear hB) | (go_at_call 21; refine (HRM.out _ HW.out).mono ?_; rintro e wv ⟨rfl, hB⟩; have HW := Lib.hid (HW.out.trans (hB.mono HW.out.size)); clear hB))
    obtain ⟨w3, rfl⟩ : ∃ w3 : World, w3 = wv := ⟨_, rfl⟩
    go_wp2_with (go_at_call 22; refine (HTO.out _ (HW.out.alloc HW.out.size _)).mono ?_; rintro e w2 ⟨Ao, co, rfl, hS, hB⟩; have HS := Lib.hid hS; have HB2 := Lib.hid hB; clear hS hB)
    clear hmk
    obtain ⟨b3, hb3⟩ : ∃ b3, b3 = w3.heap.size := ⟨_, rfl⟩
    have hI0 : IRow w2 w3.heap.size (rowT g ol 0).2 := by
     rw [HR0.out]
     exact IRow.below (World.alloc_heap_new w3 _) HB2.out
    have hB0 : Below w1.heap.size w1 w2 := (HW.out.alloc HW.out.size _).trans (HB2.out.mono (by have := HW.out.size; simp; omega))
    have hz2 : w3.heap.size + 1 ≤ w2.heap.size := by have := HB2.out.size; simp at this; omega
    have hz3 : w1.heap.size ≤ w3.heap.size := HW.out.size
    have HNK : Hid (∀ k, (w3.alloc (.cells (zeroI g.length) 3)).heap.size ≤ k → k ≠ w3.heap.size) := Lib.hid (fun k hk => by simp at hk; omega)
    go_loopw [10, 11] (fun t i wr => ∃ j, j ≤ ol.length ∧ i = .int .i64 (j : Nat) ∧ t = .int .i64 (rowT g ol j).1 ∧ IRow wr w3.heap.size (rowT g ol j).2 ∧ Below w1.heap.size w1 wr ∧ (∀ k, w3.heap.size + 1 ≤ k → k < w2.heap.size → wr.heap[k]? = w2.heap[k]?)) (fun _ i _ => ol.length - (intOf i).toNat)
    case atStart => exact ⟨0, Nat.zero_le _, rfl, by rw [HR0.out], hI0, hB0, fun _ _ _ => rfl⟩
    case round =>
     clear hI0 hB0
     obtain ⟨j, hj, rfl, rfl, hI, hB, hK⟩ := hrel
     have hCO := HS.out wr (Kd.C_below H1.out hB) (fun k hk1 hk2 => hK k (by simpa using hk1) hk2)
     rw [← ints_length ol] at hCO
     by_cases hjl : j < ol.length
     ·
      have hxl := HLT.out j hjl
      obtain ⟨ado, rfl, co1⟩ := at_num hCO j (by rw [ints_length]; exact hjl)
      rw [ints_getD] at co1
      have HSJ := HSTP.out j
      have hB' : ∀ v, Below w1.heap.size w1 (wr.setCell ⟨w3.heap.size, ol.getD j 0, none⟩ v) := fun v => hB.setCell (p := ⟨w3.heap.size, ol.getD j 0, none⟩) hz3 _
      have co2 : ∀ v, (wr.setCell ⟨w3.heap.size, ol.getD j 0, none⟩ v).cell? (ado.add j) = some (.int .i64 (ol.getD j 0 : Nat)) := fun v => by
       have hCO' := HS.out _ (Kd.C_below H1.out (hB' v)) (fun k hk1 hk2 => (Below.heap_setCell wr ⟨w3.heap.size, ol.getD j 0, none⟩ v k (HNK.out k hk1)).trans (hK k (by simpa using hk1) hk2))
       rw [← ints_length ol] at hCO'
       obtain ⟨ado', e7, c7⟩ := at_num hCO' j (by rw [ints_length]; exact hjl)
       rw [ints_getD] at c7
       cases e7
       exact c7
      generalize ol.getD j 0 = x at co1 hxl HSJ hB' co2
      obtain ⟨ad, A4, c4, rfl, hc0, _⟩ := at_Tk (Kd.C_below H1.out hB) x hxl
      have hc2 : ∀ v, (wr.setCell ⟨w3.heap.size, x, none⟩ v).cell? (ad.add (x * 4)) = some (.int .i64 (rdTk g x).f0) := fun v => by
       obtain ⟨ad', A', c', e, h, _⟩ := at_Tk (Kd.C_below H1.out (hB' v)) x hxl
       cases e
       exact h
      have hjj : decide ((j : Int) < (ol.length : Int)) = true := decide_eq_true (by omega)
      have hji : (j : Int) < (ol.length : Int) := by omega
      have hxi : (x : Int) < (g.length : Int) := by omega
      have dge : decide ((g.length : Int) ≤ (x : Int)) = false := decide_eq_false (by omega)
      have dge' : decide (g.length ≤ x) = false := decide_eq_false (by omega)
      have htm := HTM.out j
      have htx := HT2.out x
      have hll := HRL.out j
      have cr := hI.cell x (by rw [hll]; exact hxl)
      have fr := hI.frozen x
      generalize hrow : rowT g ol j = row at HSJ htm hll cr hI
      obtain ⟨now, rw0⟩ := row
      replace htm : 0 ≤ now ∧ now ≤ 20 * (j : Int) := htm
      generalize (rdTk g x).f0 = tm at hc0 hc2 htx HSJ
      have hwr : IntKind.i64.wrap (now + tm) = now + tm := IntWalk.i64_in _ (by omega)
      have HE := Lib.hid HSJ
      have HI := Lib.hid hI
      have HBo := Lib.hid hB
      have HK := Lib.hid hK
      clear hI hB hB' hK hCO HSJ hrow
      go_wp2
      (try go_quiet (fail))
      (try go_wp2)
      (try go_quiet (fail))
      (try go_wp2)
      clear hwr
      go_roundw
      case rel => exact ⟨j + 1, by omega, by go_num, by rw [HE.out], by rw [HE.out]; exact HI.out.set x now, HBo.out.setCell (p := ⟨w3.heap.size, x, none⟩) hz3 _, fun k hk1 hk2 => by rw [Below.heap_setCell _ ⟨w3.heap.size, x, none⟩ _ k (by show k ≠ w3.heap.size; omega)]; exact HK.out k hk1 hk2⟩
      case measure => simp [intOf]; omega
     ·
      obtain rfl : j = ol.length := by omega
      have hjj : decide ((ol.length : Int) < (ol.length : Int)) = false := decide_eq_false (by omega)
      have hO : (Kd.int .i64).C wr (some ⟨w3.heap.size, 0, none⟩) (rowT g ol ol.length).2.length (rowT g ol ol.length).2 := by
       obtain ⟨A9, c9, e9, _, h9⟩ := Kd.R_reads (hI.own (base := w3.heap.size) (Nat.le_refl _) (by rw [HRL.out]; omega))
       cases e9
       exact h9
      have HC := Lib.hid (HV2.out (some ⟨w3.heap.size, 0, none⟩) g.length _ rfl wr hB hO)
      rw [HROW.out, HRL.out] at HC
      have HBo := Lib.hid hB
      clear hI hB hK hCO hO
      go_wp2_with (go_at_call 18; refine HC.out.mono ?_; rintro e wz ⟨rfl, hB9⟩)
      go_ret
      exact ⟨rfl, HB1.out.trans ((HBo.out.trans (hB9.mono HBo.out.size)).mono HB1.out.size)⟩
end Go.Proofs.YtnbkkiacffkfmaaDoor
