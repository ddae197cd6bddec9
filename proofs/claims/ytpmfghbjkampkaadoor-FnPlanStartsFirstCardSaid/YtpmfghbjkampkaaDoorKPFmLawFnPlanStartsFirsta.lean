/- The law FnPlanStartsFirst returns true for all bytes: the tied card of its row. No condition but the row's own. -/
import Derived.Test.YtpmfghbjkampkaaDoorKPFc17
import Derived.Test.YtpmfghbjkampkaaDoorKPFc19
import Derived.Test.YtpmfghbjkampkaaDoorKPFc16
import Derived.Test.YtpmfghbjkampkaaDoorKPFc0
import Derived.Test.YtpmfghbjkampkaaDoorCards
import Derived.Test.YtpmfghbjkampkaaDoorTie
namespace Go.Proofs.YtpmfghbjkampkaaDoor
set_option linter.unusedVariables false
set_option linter.unusedSimpArgs false
open Go.RowKit Go.Shelf Bits
open Go.Proofs.YtpmfghbjkampkaaDoorW.PrintWords Go.Proofs.YtpmfghbjkampkaaDoorW.PrintLast Go.Proofs.YtpmfghbjkampkaaDoorW.PrintMore
theorem first_law {g : List Tk} {rm : List Int} {wk : Int} (h : pS g rm wk ≠ []) : ∃ y, 0 < (rdOrdN g []).length ∧ (rdOrdN g []).getD 0 0 = ((y : Nat) : Int) ∧ y < (pS g rm wk).length ∧ (pS g rm wk).getD y 0 = 0 := by
 unfold pS at h ⊢
 by_cases hc : (specValid g && placeB rm wk) = true
 ·
  rw [if_pos hc] at h ⊢
  rw [Bool.and_eq_true] at hc
  obtain ⟨h1, h2, _⟩ := placeB_facts hc.2
  have hl := (planS_ok g rm wk).1
  have hg : 0 < g.length := by rw [← hl]; exact List.length_pos_iff.2 h
  rw [hl]
  exact first_zero hc.1 h1 h2 hg
 ·
  rw [if_neg hc] at h
  exact absurd rfl h
set_option maxRecDepth 1000000 in
set_option maxHeartbeats 8000000 in
theorem FnPlanStartsFirst_walk (A : Option Addr) (c : Nat) (l : List Int) (hb : ∀ x ∈ l, 0 ≤ x ∧ x < 256) (w : World) (hT : Tab w) (hr : (Kd.int .u8).C w A l.length l) (hc : l.length ≤ c) :
  Calls Tryd.prog 7 #[.slice A l.length c] w fun e w' => e = .returned (.bool true) ∧ Below w.heap.size w w' := by
 have HT := Lib.hid hT
 have hll := (C_len hr).2
 have HD := Lib.hid (DrawPlanStarts_any A c l hb w hr hc)
 clear hb hr hc hT
 by_cases hbig : 1048576 < l.length
 ·
  have db : decide ((1048576 : Int) < (l.length : Int)) = true := decide_eq_true (by omega)
  clear hbig
  go_enter Tryd.func7, Tryd.ntmps7
  go_wp2
  go_ret
  exact ⟨rfl, Below.refl _ _⟩
 ·
  have db : decide ((1048576 : Int) < (l.length : Int)) = false := decide_eq_false (by omega)
  clear hbig
  go_enter Tryd.func7, Tryd.ntmps7
  go_upto_region 4 with (go_at_call 30; refine HD.out.mono ?_; rintro e w1 ⟨A1, c1, g, A2, c2, rm, wk, rfl, h1, h2, h3, h4, hB1⟩; have H1 := Lib.hid h1; have H2 := Lib.hid h2; have HB1 := Lib.hid hB1; clear h1 h2 hB1)
  have HTW := Lib.hid (fun (W : World) (h : Below w1.heap.size w1 W) => HT.out.keep HT.out.lt (HB1.out.trans (h.mono HB1.out.size)))
  have HW := Lib.hid (Below.refl w1.heap.size w1)
  have HPS := Lib.hid (fun (W : World) (hW : Below w1.heap.size w1 W) => PlanStarts_impl A1 c1 g A2 c2 rm wk W (Kd.C_below H1.out hW) (Kd.C_below H2.out hW) (HTW.out W hW))
  have HSP := Lib.hid (fun (W : World) (hW : Below w1.heap.size w1 W) => sPlanStarts_calls A1 c1 g A2 c2 rm wk W (Kd.C_below H1.out hW) (Kd.C_below H2.out hW))
  have HRO := Lib.hid (fun (W : World) (hW : Below w1.heap.size w1 W) => ReadyOrder_impl A1 c1 g none 0 [] W (Kd.C_below H1.out hW) (C_nilI W) (HTW.out W hW))
  have HF := Lib.hid (first_law (g := g) (rm := rm) (wk := wk))
  generalize pS g rm wk = o at HPS HSP HF
  generalize rdOrdN g [] = L at HRO HF
  by_cases ho : o = []
  ·
   have dl : ((o.length : Int) == 0) = true := by rw [ho]; rfl
   clear HF ho
   go_wp2_with (first | (go_at_call 18; refine (HPS.out _ HW.out).mono ?_; rintro e wl ⟨vO, rfl, hR, hB⟩; obtain ⟨AO, cO, rfl, hcO, hC⟩ := Kd.R_reads hR; have HW := Lib.hid (HW.out.trans (hB.mono HW.out.size)); (try (have HcO := Lib.hid (Kd.C_below HcO.out hB))); (try (have HcP := Lib.hid (Kd.C_below HcP.out hB))); (try (have HcL := Lib.hid (Kd.C_below HcL.out hB))); have HcO := Lib.hid hC; clear hR hC hB) | (go_at_call 17; refine (HSP.out _ HW.out).mono ?_; rintro e wl ⟨vP, rfl, hR, hB⟩; obtain ⟨AP, cP, rfl, hcP, hC⟩ := Kd.R_reads hR; have HW := Lib.hid (HW.out.trans (hB.mono HW.out.size)); (try (have HcO := Lib.hid (Kd.C_below HcO.out hB))); (try (have HcP := Lib.hid (Kd.C_below HcP.out hB))); (try (have HcL := Lib.hid (Kd.C_below HcL.out hB))); have HcP := Lib.hid hC; clear hR hC hB) | (go_at_call 25; refine (equalInts_same _ _ _ _ _ _ HcO.out HcP.out).mono ?_; rintro e wv ⟨rfl, hB⟩; have HW := Lib.hid (HW.out.trans (hB.mono HW.out.size)); (try (have HcO := Lib.hid (Kd.C_below HcO.out hB))); (try (have HcP := Lib.hid (Kd.C_below HcP.out hB))); (try (have HcL := Lib.hid (Kd.C_below HcL.out hB))); clear hB) | (go_at_call 31; refine (HRO.out _ HW.out).mono ?_; rintro e wl ⟨vL, rfl, hR, hB⟩; obtain ⟨AL, cL, rfl, hcL, hC⟩ := Kd.R_reads hR; have HW := Lib.hid (HW.out.trans (hB.mono HW.out.size)); (try (have HcO := Lib.hid (Kd.C_below HcO.out hB))); (try (have HcP := Lib.hid (Kd.C_below HcP.out hB))); (try (have HcL := Lib.hid (Kd.C_below HcL.out hB))); have HcL := Lib.hid hC; clear hR hC hB))
   go_ret
   exact ⟨rfl, HB1.out.trans (HW.out.mono HB1.out.size)⟩
  ·
   have hpos : 0 < o.length := List.length_pos_iff.2 ho
   have dl : ((o.length : Int) == 0) = false := by rw [beq_eq_false_iff_ne]; omega
   obtain ⟨y, f1, f2, f3, f4⟩ := HF.out ho
   clear HF ho
   go_upto_region 8 with (first | (go_at_call 18; refine (HPS.out _ HW.out).mono ?_; rintro e wl ⟨vO, rfl, hR, hB⟩; obtain ⟨AO, cO, rfl, hcO, hC⟩ := Kd.R_reads hR; have HW := Lib.hid (HW.out.trans (hB.mono HW.out.size)); (try (have HcO := Lib.hid (Kd.C_below HcO.out hB))); (try (have HcP := Lib.hid (Kd.C_below HcP.out hB))); (try (have HcL := Lib.hid (Kd.C_below HcL.out hB))); have HcO := Lib.hid hC; clear hR hC hB) | (go_at_call 17; refine (HSP.out _ HW.out).mono ?_; rintro e wl ⟨vP, rfl, hR, hB⟩; obtain ⟨AP, cP, rfl, hcP, hC⟩ := Kd.R_reads hR; have HW := Lib.hid (HW.out.trans (hB.mono HW.out.size)); (try (have HcO := Lib.hid (Kd.C_below HcO.out hB))); (try (have HcP := Lib.hid (Kd.C_below HcP.out hB))); (try (have HcL := Lib.hid (Kd.C_below HcL.out hB))); have HcP := Lib.hid hC; clear hR hC hB) | (go_at_call 25; refine (equalInts_same _ _ _ _ _ _ HcO.out HcP.out).mono ?_; rintro e wv ⟨rfl, hB⟩; have HW := Lib.hid (HW.out.trans (hB.mono HW.out.size)); (try (have HcO := Lib.hid (Kd.C_below HcO.out hB))); (try (have HcP := Lib.hid (Kd.C_below HcP.out hB))); (try (have HcL := Lib.hid (Kd.C_below HcL.out hB))); clear hB) | (go_at_call 31; refine (HRO.out _ HW.out).mono ?_; rintro e wl ⟨vL, rfl, hR, hB⟩; obtain ⟨AL, cL, rfl, hcL, hC⟩ := Kd.R_reads hR; have HW := Lib.hid (HW.out.trans (hB.mono HW.out.size)); (try (have HcO := Lib.hid (Kd.C_below HcO.out hB))); (try (have HcP := Lib.hid (Kd.C_below HcP.out hB))); (try (have HcL := Lib.hid (Kd.C_below HcL.out hB))); have HcL := Lib.hid hC; clear hR hC hB))
   obtain ⟨ad, rfl, cx⟩ := at_num HcL.out 0 f1
   obtain ⟨ad2, rfl, cy⟩ := at_num HcO.out y f3
   rw [f2, show ad.add 0 = ad from by cases ad; rfl] at cx
   rw [f4] at cy
   have d1 : decide ((0 : Int) < (L.length : Int)) = true := decide_eq_true (by omega)
   have d1' : decide (0 < L.length) = true := decide_eq_true (by omega)
   have d2 : (0 : Int) < (L.length : Int) := by omega
   have d3 : decide ((y : Int) < (o.length : Int)) = true := decide_eq_true (by omega)
   have d3' : decide (y < o.length) = true := decide_eq_true (by omega)
   have d4 : (y : Int) < (o.length : Int) := by omega
   clear f1 f2 f3 f4 hpos
   go_wp2
   go_ret
   exact ⟨rfl, HB1.out.trans (HW.out.mono HB1.out.size)⟩
end Go.Proofs.YtpmfghbjkampkaaDoor

set_option linter.unusedVariables false
set_option linter.unusedSimpArgs false
namespace Go.Proofs.YtpmfghbjkampkaaDoor.fnPlanStartsFirst
open Go.ChangeShapes Go.WideShapes Go.ChangeAt Go.RowKit
open Go.Proofs.YtpmfghbjkampkaaDoorW.PrintWords
def IsRow (k : IntKind) (w : World) (a : Option Addr) (len cap : Nat) (zs : List Int) : Prop :=
 (a = none ∧ len = 0 ∧ cap = 0 ∧ zs = []) ∨
 ∃ x, a = some x ∧ len ≤ cap ∧ cap ≤ maxLen ∧ zs.length = cap ∧ (∀ i, i < zs.length → w.cell? (x.add i) = some (.int k (zs.getD i 0))) ∧ ∀ n ∈ zs, (Lit.int k n).wf = true
theorem walk (a0 : Option Addr) (len0 cap0 : Nat) (z0 : List Int) (w : World) (hT : Tab w) (w0 : IsRow .u8 w a0 len0 cap0 z0) :
  Calls Tryd.prog 7 #[.slice a0 len0 cap0] w fun e w' => e = .returned (.bool true) ∧ Below w.heap.size w w' := by
 obtain ⟨l0, rfl, hr0, hm0, hw0, hc0⟩ := ReadsInt.ofRowC w0
 exact FnPlanStartsFirst_walk _ _ l0 (fun x hx => by
  have := hw0 x hx
  simp [Lit.wf, IntKind.min, IntKind.max, IntKind.signed, IntKind.bits] at this
  omega) w hT (Kd.C_of_reads (d := (0 : Int)) (h1 := fun _ => rfl) hr0) hc0
set_option maxRecDepth 100000 in
theorem lifted (os : Os) (started : os.Started) (H : Type) (enc : TypeId × Value → H) :
  ReturnsInHanded {} Tryd.checked os 7 .any (fun w args => (Rows.fnPlanStartsFirstSpec.pre enc Tryd.prog Tryd.f7 [] false w args ∧ laidMetH Tryd.prog Rows.fnPlanStartsFirstRow.laid w) ∧ sizedMet enc Tryd.prog Tryd.f7 (OpenSpec.ofChange Rows.fnPlanStartsFirstSpec) false w args)
   (Rows.fnPlanStartsFirstSpec.post enc Tryd.prog Tryd.f7 false true false false) := by
 refine returnsInHanded_of_change_and (C := Tryd.checked) (X := fun w _ => laidMetH Tryd.prog Rows.fnPlanStartsFirstRow.laid w) (fun _ _ _ hh h => h.of_heap hh) own started (by kernel_rfl) Tryd.func7
  (ChangeSpec.witness_at (enc := enc) (C := Tryd.checked) (os := os) (X := fun w _ => laidMetH Tryd.prog Rows.fnPlanStartsFirstRow.laid w) false (laidWorld os) #[.slice none 0 0] 8 rfl (by kernel_rfl) (by kernel_rfl) (by kernel_rfl) (by kernel_rfl) (by kernel_rfl) (laid_met os _)) ?_
 intro W base args ds gs before hval0 hW hcnd _ hL _
 have hT : Tab W := tab_of_laid hL
 have hval : ∀ (j : Nat) t v, Tryd.f7.params[j]? = some t → args[j]? = some v → Value.okWide Tryd.prog W .any base t v := hval0
 have hW' := hW
 obtain ⟨p, q, hA0, hV, rfl, hfz, hnd⟩ := hW
 have hA : DataW.TrodAll enc Tryd.prog W 0 (fun _ => true) true Tryd.f7.params.toList args.toList ds p := hA0
 rw [Tryd.params7] at hA hval
 obtain ⟨v0, vs0, d0, ds0, p0, q0, hargs, rfl, rfl, h0, r0⟩ := trodAll_cons hA
 obtain ⟨rfl, rfl, rfl⟩ := trodAll_nil r0
 obtain rfl : args = #[v0] := by cases args; simp_all
 obtain ⟨rfl, rfl⟩ := trodVars_none hV
 obtain ⟨a0, len0, cap0, rfl⟩ := okWide_slice Tryd.underlying35 (hval 0 35 v0 rfl rfl)
 have k0 := h0
 have lt0 : ∀ x ∈ p0, x.block < W.heap.size := by obtain ⟨m, hm⟩ := k0; exact DataW.trod_lt m _ _ _ hm
 obtain ⟨z0, w0⟩ : ∃ zs, IsRow .u8 W a0 len0 cap0 zs := by
  obtain ⟨fuel, hf⟩ := h0
  rcases open_ints Tryd.underlying35 Tryd.underlying5 (by kernel_rfl) hf with ⟨hcs, _⟩ | ⟨x, l, c, zs, hcs, _, hl, hm, hz, _, hcell, hwz⟩
  ·
   simp [Value.cells] at hcs
   obtain ⟨rfl, rfl, rfl⟩ := hcs
   exact ⟨[], .inl ⟨rfl, rfl, rfl, rfl⟩⟩
  ·
   simp [Value.cells] at hcs
   obtain ⟨rfl, rfl, rfl⟩ := hcs
   exact ⟨zs, .inr ⟨_, rfl, hl, hm, by simpa using hz, hcell, hwz⟩⟩
 clear hA0 hval0
 refine (walk a0 len0 cap0 z0 W hT w0).mono fun e W' ⟨he, bel⟩ => ?_
 subst he
 exact ⟨_, rfl, _, _, _, [], _, [], hW', trodAll_mk1 (shut_bool Tryd.underlying4 _), (trodAll_cons_mk (Below.trod laidOut (by kernel_rfl) (of_decide_eq_true (by kernel_rfl)) k0 bel lt0) trodAll_mk0), rfl, bel.frame _, fun h => by cases h⟩
theorem row : Rows.FnPlanStartsFirstSaid :=
 OpenClaim.holds_of_wide 7 Tryd.f7 rfl rfl rfl rfl rfl rfl rfl ⟨rfl, rfl, rfl, rfl, rfl⟩ rfl rfl rfl rfl rfl (by kernel_rfl) Tryd.func7 (by kernel_rfl)
  (of_decide_eq_true (by kernel_rfl)) (by unfold Func.isWrapper; first | (rw [if_pos (by decide +kernel)]; kernel_rfl) | (rw [if_neg (by decide +kernel)]; exact ⟨rfl, rfl⟩))
  (fun os started H enc _ => lifted os started H enc)
end Go.Proofs.YtpmfghbjkampkaaDoor.fnPlanStartsFirst
namespace Go.Proofs.YtpmfghbjkampkaaDoor
theorem fnPlanStartsFirst_card_holds : Rows.FnPlanStartsFirstCardSaid :=
 Claim7.holds_tied_plain_at .later [] [.data] true (true, "9627d39cf004ce2ddc2025a53aa459164e0b7894b5fa9f4f19b15777cdfb39e0") true
  fnPlanStartsFirst.row (fun _ h => by cases h) (by kernel_rfl) (fun _ h => by cases h) fnPlanStartsFirst_row_tie rfl ⟨rfl, rfl⟩ (by kernel_rfl) rfl
  (fun f fn hf hfn => by
   obtain rfl : f = 7 := Option.some.inj ((show Tryd.prog.funcNamed "loop.example/buildscheduler/laws.FnPlanStartsFirst" = some 7 by kernel_rfl).symm.trans hf) |>.symm
   obtain rfl : fn = Tryd.f7 := (Option.some.inj (Tryd.func7.symm.trans hfn)).symm
   exact ⟨by kernel_rfl, fun j t ht => by
    rw [Tryd.params7] at ht
    have h3 : t = 35 := by
     rcases j with _ | j
     ·
      simpa using ht.symm
     ·
      simp at ht
    subst h3
    exact (show Tryd.prog.wantsStandIn 35 = false by kernel_rfl)⟩)
  (by kernel_rfl)
#print axioms fnPlanStartsFirst_card_holds
end Go.Proofs.YtpmfghbjkampkaaDoor
