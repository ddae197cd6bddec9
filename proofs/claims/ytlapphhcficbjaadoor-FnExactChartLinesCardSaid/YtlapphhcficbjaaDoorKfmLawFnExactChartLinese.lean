/- The law FnExactChartLines returns true for all arguments: the tied card of its row. No condition but the row's own. -/
import Derived.Test.YtlapphhcficbjaaDoorKfc0
import Derived.Test.YtlapphhcficbjaaDoorKfmLawFnExactChartLinesb
import Derived.Test.YtlapphhcficbjaaDoorKfmLawFnExactChartLinesc
import Derived.Test.YtlapphhcficbjaaDoorKfmLawFnExactChartLinesd
import Derived.Test.YtlapphhcficbjaaDoorCards
import Derived.Test.YtlapphhcficbjaaDoorTie
set_option linter.unusedVariables false
set_option linter.unusedSimpArgs false
namespace Go.Proofs.YtlapphhcficbjaaDoor.fnExactChartLines
open Go.ChangeShapes Go.WideShapes Go.ChangeAt Go.RowKit
open Go.Proofs.YtlapphhcficbjaaDoorW.PrintWords
set_option maxRecDepth 100000 in
theorem lifted (os : Os) (started : os.Started) (H : Type) (enc : TypeId × Value → H) :
  ReturnsInHanded {} Tryd.checked os 9 .any (fun w args => (Rows.fnExactChartLinesSpec.pre enc Tryd.prog Tryd.f9 [] false w args ∧ laidMetH Tryd.prog Rows.fnExactChartLinesRow.laid w) ∧ sizedMet enc Tryd.prog Tryd.f9 (OpenSpec.ofChange Rows.fnExactChartLinesSpec) false w args)
   (Rows.fnExactChartLinesSpec.post enc Tryd.prog Tryd.f9 false true false false) := by
 refine returnsInHanded_of_change_and (C := Tryd.checked) (X := fun w _ => laidMetH Tryd.prog Rows.fnExactChartLinesRow.laid w) (fun _ _ _ hh h => h.of_heap hh) own started (by kernel_rfl) Tryd.func9
  (ChangeSpec.witness_at (enc := enc) (C := Tryd.checked) (os := os) (X := fun w _ => laidMetH Tryd.prog Rows.fnExactChartLinesRow.laid w) false (laidWorld os) #[.slice none 0 0, .slice none 0 0, .int .i64 0, .slice none 0 0] 8 rfl (by kernel_rfl) (by kernel_rfl) (by kernel_rfl) (by kernel_rfl) (by kernel_rfl) (laid_met os _)) ?_
 intro W base args ds gs before hval0 hW hcnd _ hL _
 have hT : Tab W := tab_of_laid hL
 have hval : ∀ (j : Nat) t v, Tryd.f9.params[j]? = some t → args[j]? = some v → Value.okWide Tryd.prog W .any base t v := hval0
 have hW' := hW
 obtain ⟨p, q, hA0, hV, rfl, hfz, hnd⟩ := hW
 have hA : DataW.TrodAll enc Tryd.prog W 0 (fun _ => true) true Tryd.f9.params.toList args.toList ds p := hA0
 rw [Tryd.params9] at hA hval
 obtain ⟨v0, vs0, d0, ds0, p0, q0, hargs, rfl, rfl, h0, r0⟩ := trodAll_cons hA
 obtain ⟨v1, vs1, d1, ds1, p1, q1, rfl, rfl, rfl, h1, r1⟩ := trodAll_cons r0
 obtain ⟨v2, vs2, d2, ds2, p2, q2, rfl, rfl, rfl, h2, r2⟩ := trodAll_cons r1
 obtain ⟨v3, vs3, d3, ds3, p3, q3, rfl, rfl, rfl, h3, r3⟩ := trodAll_cons r2
 obtain ⟨rfl, rfl, rfl⟩ := trodAll_nil r3
 obtain rfl : args = #[v0, v1, v2, v3] := by cases args; simp_all
 obtain ⟨rfl, rfl⟩ := trodVars_none hV
 obtain ⟨a0, len0, cap0, rfl⟩ := okWide_slice Tryd.underlying45 (hval 0 45 v0 rfl rfl)
 have lt0 : ∀ x ∈ p0, x.block < W.heap.size := by obtain ⟨m, hm⟩ := h0; exact DataW.trod_lt m _ _ _ hm
 obtain ⟨a1, len1, cap1, rfl⟩ := okWide_slice Tryd.underlying24 (hval 1 24 v1 rfl rfl)
 have lt1 : ∀ x ∈ p1, x.block < W.heap.size := by obtain ⟨m, hm⟩ := h1; exact DataW.trod_lt m _ _ _ hm
 obtain ⟨n2, rfl⟩ := okWide_int Tryd.underlying3 (hval 2 3 v2 rfl rfl)
 have lt2 : ∀ x ∈ p2, x.block < W.heap.size := by obtain ⟨m, hm⟩ := h2; exact DataW.trod_lt m _ _ _ hm
 obtain ⟨a3, len3, cap3, rfl⟩ := okWide_slice Tryd.underlying24 (hval 3 24 v3 rfl rfl)
 have lt3 : ∀ x ∈ p3, x.block < W.heap.size := by obtain ⟨m, hm⟩ := h3; exact DataW.trod_lt m _ _ _ hm
 have o0 : ∃ g, g.length = len0 ∧ kTk.C W a0 g.length g := by
  obtain ⟨fuel, hf⟩ := h0
  obtain ⟨A, c, g, e, _, hC⟩ := open_tasksC hf
  simp [Value.cells] at e
  obtain ⟨rfl, rfl, rfl⟩ := e
  exact ⟨g, rfl, hC⟩
 obtain ⟨g0, rfl, hC0⟩ := o0
 have o1 : ∃ g, g.length = len1 ∧ (Kd.int .i64).C W a1 g.length g := by
  obtain ⟨fuel, hf⟩ := h1
  obtain ⟨A, c, g, e, _, hC⟩ := open_intsC hf
  simp [Value.cells] at e
  obtain ⟨rfl, rfl, rfl⟩ := e
  exact ⟨g, rfl, hC⟩
 obtain ⟨g1, rfl, hC1⟩ := o1
 have o3 : ∃ g, g.length = len3 ∧ (Kd.int .i64).C W a3 g.length g := by
  obtain ⟨fuel, hf⟩ := h3
  obtain ⟨A, c, g, e, _, hC⟩ := open_intsC hf
  simp [Value.cells] at e
  obtain ⟨rfl, rfl, rfl⟩ := e
  exact ⟨g, rfl, hC⟩
 obtain ⟨g3, rfl, hC3⟩ := o3
 clear hA0 hval0
 refine (FnExactChartLines_walk _ _ g0 _ _ g1 n2 _ _ g3 W hT hC0 hC1 hC3).mono fun e W' ⟨he, bel⟩ => ?_
 subst he
 exact ⟨_, rfl, _, _, _, [], _, [], hW', trodAll_mk1 (shut_bool Tryd.underlying4 _), (trodAll_cons_mk (Below.trod laidOut (by kernel_rfl) (of_decide_eq_true (by kernel_rfl)) h0 bel lt0) (trodAll_cons_mk (Below.trod laidOut (by kernel_rfl) (of_decide_eq_true (by kernel_rfl)) h1 bel lt1) (trodAll_cons_mk (Below.trod laidOut (by kernel_rfl) (of_decide_eq_true (by kernel_rfl)) h2 bel lt2) (trodAll_cons_mk (Below.trod laidOut (by kernel_rfl) (of_decide_eq_true (by kernel_rfl)) h3 bel lt3) trodAll_mk0)))), rfl, bel.frame _, fun h => by cases h⟩
theorem row : Rows.FnExactChartLinesSaid :=
 OpenClaim.holds_of_wide 9 Tryd.f9 rfl rfl rfl rfl rfl rfl rfl ⟨rfl, rfl, rfl, rfl, rfl⟩ rfl rfl rfl rfl rfl (by kernel_rfl) Tryd.func9 rowClosed
  (of_decide_eq_true (by kernel_rfl)) (by unfold Func.isWrapper; first | (rw [if_pos (by decide +kernel)]; kernel_rfl) | (rw [if_neg (by decide +kernel)]; exact ⟨rfl, rfl⟩))
  (fun os started H enc _ => lifted os started H enc)
end Go.Proofs.YtlapphhcficbjaaDoor.fnExactChartLines
namespace Go.Proofs.YtlapphhcficbjaaDoor
theorem fnExactChartLines_card_holds : Rows.FnExactChartLinesCardSaid :=
 Claim7.holds_tied_plain_at .later [] [.data] true (true, "1b5795ec53c907a5802001cf7d7ee82e1fcb965da5921e59e6cbe3372e8d9fbc") true
  fnExactChartLines.row (fun _ h => by cases h) fnExactChartLines.rowG2 (fun _ h => by cases h) fnExactChartLines_row_tie rfl ⟨rfl, rfl⟩ seatMain rfl
  (fun f fn hf hfn => by
   obtain rfl : f = 9 := Option.some.inj (fnExactChartLines.rowG5.symm.trans hf) |>.symm
   obtain rfl : fn = Tryd.f9 := (Option.some.inj (Tryd.func9.symm.trans hfn)).symm
   exact ⟨seatLooks, fun j t ht => by
    rw [Tryd.params9] at ht
    rcases j with _ | _ | _ | _ | j
    ·
     obtain rfl : t = 45 := by simpa using ht.symm
     exact (show Tryd.prog.wantsStandIn 45 = false by kernel_rfl)
    ·
     obtain rfl : t = 24 := by simpa using ht.symm
     exact (show Tryd.prog.wantsStandIn 24 = false by kernel_rfl)
    ·
     obtain rfl : t = 3 := by simpa using ht.symm
     exact (show Tryd.prog.wantsStandIn 3 = false by kernel_rfl)
    ·
     obtain rfl : t = 24 := by simpa using ht.symm
     exact (show Tryd.prog.wantsStandIn 24 = false by kernel_rfl)
    ·
     simp at ht⟩)
  fnExactChartLines.rowG1
#print axioms fnExactChartLines_card_holds
end Go.Proofs.YtlapphhcficbjaaDoor
