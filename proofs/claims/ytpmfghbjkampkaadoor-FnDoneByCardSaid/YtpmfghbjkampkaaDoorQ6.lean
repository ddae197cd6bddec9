/- Draws. Cut down, by a program of mine, from what print.sh printed for this seat. -/
import Derived.Test.YtpmfghbjkampkaaDoorQ5
namespace Go.Proofs.YtpmfghbjkampkaaDoor.PFnValidLog
open Go.RowKit Go.Proofs.YtpmfghbjkampkaaDoorW.PrintWords Go.Proofs.YtpmfghbjkampkaaDoorW.PrintLast Go.Proofs.YtpmfghbjkampkaaDoorW.PrintMore
attribute [local go_sem] max2_int min2_int max_two min_two max_three min_three max_four min_four
set_option linter.unusedVariables false
set_option linter.unusedSimpArgs false
/-! spec_validStarts -/
mutual
def spec_validStarts.j0 : Nat → List (S41) → List Int → Int → List Int → Bool → Option (Bool)
 | 0, _, _, _, _, _ => none
 | k + 1, x0, x1, x2, x3, x37 => if x37 = true then (some false) else (spec_validStarts.l0 k x0 x1 x2 x3 0)
def spec_validStarts.l0 : Nat → List (S41) → List Int → Int → List Int → Int → Option (Bool)
 | 0, _, _, _, _, _ => none
 | k + 1, x0, x1, x2, x3, x9 => if x9 < (x0.length : Int) then (spec_validStarts.l1 k x0 x1 x2 x3 x9 0) else (some true)
def spec_validStarts.l1 : Nat → List (S41) → List Int → Int → List Int → Int → Int → Option (Bool)
 | 0, _, _, _, _, _, _ => none
 | k + 1, x0, x1, x2, x3, x9, x10 => if 0 ≤ x9 then (if x9 < (x0.length : Int) then (if x10 < (((rd_T41 x0 x9).f1).length : Int) then (if 0 ≤ x10 then (if 0 ≤ (rd ((rd_T41 x0 x9).f1) x10) then (if (rd ((rd_T41 x0 x9).f1) x10) < (x3.length : Int) then (if (rd ((rd_T41 x0 x9).f1) x10) < (x0.length : Int) then (if x9 < (x3.length : Int) then (if (wrap64 ((rd x3 (rd ((rd_T41 x0 x9).f1) x10)) + ((rd_T41 x0 (rd ((rd_T41 x0 x9).f1) x10)).f0))) > (rd x3 x9) then (some false) else (spec_validStarts.l1 k x0 x1 x2 x3 x9 (wrap64 (x10 + 1)))) else (none)) else (none)) else (none)) else (none)) else (none)) else (if x9 < (x3.length : Int) then ((spec_runningAt.f k x0 x3 (rd x3 x9)).bind fun t416 => (if (t416.length : Int) > x2 then (some false) else ((spec_validRunning.f k x0 x1 t416).bind fun t419 => (if t419 = true then (spec_validStarts.l0 k x0 x1 x2 x3 (wrap64 (x9 + 1))) else (some false))))) else (none))) else (none)) else (none)
end
def spec_validStarts.f (k : Nat) (l0 : List (S41)) (l1 : List Int) (a2 : Int) (l3 : List Int) : Option (Bool) := (spec_validGraph.f k l0).bind fun t405 => (if t405 = true then ((spec_validRoom.f k l1).bind fun t406 => (if t406 = true then ((spec_inRange.f a2 1 4).bind fun t407 => (if t407 = true then (if (l3.length : Int) = (l0.length : Int) then ((spec_allIn.f k l3 0 200).bind fun t408 => (spec_validStarts.j0 k l0 l1 a2 l3 (!t408))) else (spec_validStarts.j0 k l0 l1 a2 l3 true)) else (spec_validStarts.j0 k l0 l1 a2 l3 true))) else (spec_validStarts.j0 k l0 l1 a2 l3 true))) else (spec_validStarts.j0 k l0 l1 a2 l3 true))
set_option maxHeartbeats 8000000 in
set_option maxRecDepth 100000 in
theorem spec_validStarts.calls (k : Nat) (A0 : Option Addr) (c0 : Nat) (l0 : List (S41)) (A1 : Option Addr) (c1 : Nat) (l1 : List Int) (a2 : Int) (A3 : Option Addr) (c3 : Nat) (l3 : List Int) (r : Bool) (w : World) (hr0 : Kd.C k41 w A0 l0.length l0) (hc0 : l0.length ≤ c0) (hr1 : Kd.C (Kd.int .i64) w A1 l1.length l1) (hc1 : l1.length ≤ c1) (hr3 : Kd.C (Kd.int .i64) w A3 l3.length l3) (hc3 : l3.length ≤ c3) (h : spec_validStarts.f k l0 l1 a2 l3 = some r) :
  Calls Tryd.prog 117 #[.slice A0 l0.length c0, .slice A1 l1.length c1, .int .i64 a2, .slice A3 l3.length c3] w fun e w' => e = .returned (.bool r) ∧ Below w.heap.size w w' := by
 have HR0 := mk0 hr0
 have HC0 := mk0 hc0
 clear hr0 hc0
 have HR1 := mk0 hr1
 have HC1 := mk0 hc1
 clear hr1 hc1
 have HR3 := mk0 hr3
 have HC3 := mk0 hc3
 clear hr3 hc3
 have HB := mk0 (Below.refl w.heap.size w)
 have H : ((spec_validGraph.f k l0).bind fun t405 => (if t405 = true then ((spec_validRoom.f k l1).bind fun t406 => (if t406 = true then ((spec_inRange.f a2 1 4).bind fun t407 => (if t407 = true then (if (l3.length : Int) = (l0.length : Int) then ((spec_allIn.f k l3 0 200).bind fun t408 => (spec_validStarts.j0 k l0 l1 a2 l3 (!t408))) else (spec_validStarts.j0 k l0 l1 a2 l3 true)) else (spec_validStarts.j0 k l0 l1 a2 l3 true))) else (spec_validStarts.j0 k l0 l1 a2 l3 true))) else (spec_validStarts.j0 k l0 l1 a2 l3 true))) = some r := h
 clear h
 have HC5 := mk0 H
 clear H
 go_enter Tryd.func117, Tryd.ntmps117
 go_upto_region 1 with (fail)
 repeat (go_quiet (fail); go_upto_region 1 with (fail))
 go_cut [37] (fun v37 wc => ∃ (kq : Nat) (x37_4 : Bool), v37 = .bool x37_4 ∧ Aside0 (spec_validStarts.j0 kq l0 l1 a2 l3 x37_4 = some r) ∧ Aside0 (kq ≤ k) ∧ Aside0 (Below w.heap.size w wc))
 case first =>
  have H := HC5.out
  clear HC5
  replace H := bE_ H
  obtain ⟨t405, A60, H⟩ := H
  have A6 := mk0 A60
  clear A60
  by_cases c7 : t405 = true
  ·
   subst c7
   rw [if_pos rfl] at H
   replace H := bE_ H
   obtain ⟨t406, A80, H⟩ := H
   have A8 := mk0 A80
   clear A80
   by_cases c9 : t406 = true
   ·
    subst c9
    rw [if_pos rfl] at H
    replace H := bE_ H
    obtain ⟨t407, A100, H⟩ := H
    have A10 := mk0 A100
    clear A100
    by_cases c11 : t407 = true
    ·
     subst c11
     rw [if_pos rfl] at H
     by_cases c12 : (l3.length : Int) = (l0.length : Int)
     ·
      rw [if_pos c12] at H
      have c12b0 : ((l3.length : Int) == (l0.length : Int)) = true := beq_iff_eq.mpr c12
      have c12b1 : ((l3.length : Int) != (l0.length : Int)) = false := bne_eq_false_iff_eq.mpr c12
      have c12b2 : (l3.length == l0.length) = true := by first | simpa using c12 | (simp at c12 ⊢; omega)
      clear c12
      (first | rw [c12b0] | (simp only [i64_w, i32_w]; rw [c12b0]) | skip)
      replace H := bE_ H
      obtain ⟨t408, A130, H⟩ := H
      have A13 := mk0 A130
      clear A130
      have H' := mk0 H
      clear H
      go_wp2_with (first | (go_at_call 40; (with_reducible refine (spec_validGraph.calls k _ _ l0 true _ ?side1 ?side2 A6.out).mono ?_); (case side1 => repeat (first | exact (Kd.C_below HR0.out HB.out) | (with_reducible first | refine Ca_ ?_ _ | refine Cn_ ?_ _ | refine Cd_ ?_))); (case side2 => exact HC0.out); rintro e w14 ⟨rfl, hb⟩; replace HB := mk0 (below_step (by with_reducible repeat (first | exact HB.out | apply ba_ | apply bn_ | apply bd_)) hb); clear hb) | (go_at_call 41; (with_reducible refine (spec_validRoom.calls k _ _ l1 true _ ?side1 ?side2 A8.out).mono ?_); (case side1 => repeat (first | exact (Kd.C_below HR1.out HB.out) | (with_reducible first | refine Ca_ ?_ _ | refine Cn_ ?_ _ | refine Cd_ ?_))); (case side2 => exact HC1.out); rintro e w' ⟨rfl, ⟨nd, rfl⟩⟩; (try first | exact ⟨rfl, _, World.drewN_drewN _ _ _⟩ | exact ⟨rfl, _, Eq.trans (World.drewN_drewN _ _ _) (congrArg (World.drewN _) (Nat.add_assoc _ _ _))⟩)) | (go_at_call 42; (with_reducible refine (spec_inRange.calls a2 1 4 true _ A10.out).mono ?_); rintro e w' ⟨rfl, ⟨nd, rfl⟩⟩; (try first | exact ⟨rfl, _, World.drewN_drewN _ _ _⟩ | exact ⟨rfl, _, Eq.trans (World.drewN_drewN _ _ _) (congrArg (World.drewN _) (Nat.add_assoc _ _ _))⟩)) | (go_at_call 85; (with_reducible refine (spec_allIn.calls k _ _ l3 0 200 t408 _ ?side1 ?side2 A13.out).mono ?_); (case side1 => repeat (first | exact (Kd.C_below HR3.out (by with_reducible repeat (first | exact HB.out | apply ba_ | apply bn_ | apply bd_))) | (with_reducible first | refine Ca_ ?_ _ | refine Cn_ ?_ _ | refine Cd_ ?_))); (case side2 => exact HC3.out); rintro e w' ⟨rfl, ⟨nd, rfl⟩⟩; (try first | exact ⟨rfl, _, World.drewN_drewN _ _ _⟩ | exact ⟨rfl, _, Eq.trans (World.drewN_drewN _ _ _) (congrArg (World.drewN _) (Nat.add_assoc _ _ _))⟩)))
      repeat (go_quiet (first | (go_at_call 40; (with_reducible refine (spec_validGraph.calls k _ _ l0 true _ ?side1 ?side2 A6.out).mono ?_); (case side1 => repeat (first | exact (Kd.C_below HR0.out HB.out) | (with_reducible first | refine Ca_ ?_ _ | refine Cn_ ?_ _ | refine Cd_ ?_))); (case side2 => exact HC0.out); rintro e w14 ⟨rfl, hb⟩; replace HB := mk0 (below_step (by with_reducible repeat (first | exact HB.out | apply ba_ | apply bn_ | apply bd_)) hb); clear hb) | (go_at_call 41; (with_reducible refine (spec_validRoom.calls k _ _ l1 true _ ?side1 ?side2 A8.out).mono ?_); (case side1 => repeat (first | exact (Kd.C_below HR1.out HB.out) | (with_reducible first | refine Ca_ ?_ _ | refine Cn_ ?_ _ | refine Cd_ ?_))); (case side2 => exact HC1.out); rintro e w' ⟨rfl, ⟨nd, rfl⟩⟩; (try first | exact ⟨rfl, _, World.drewN_drewN _ _ _⟩ | exact ⟨rfl, _, Eq.trans (World.drewN_drewN _ _ _) (congrArg (World.drewN _) (Nat.add_assoc _ _ _))⟩)) | (go_at_call 42; (with_reducible refine (spec_inRange.calls a2 1 4 true _ A10.out).mono ?_); rintro e w' ⟨rfl, ⟨nd, rfl⟩⟩; (try first | exact ⟨rfl, _, World.drewN_drewN _ _ _⟩ | exact ⟨rfl, _, Eq.trans (World.drewN_drewN _ _ _) (congrArg (World.drewN _) (Nat.add_assoc _ _ _))⟩)) | (go_at_call 85; (with_reducible refine (spec_allIn.calls k _ _ l3 0 200 t408 _ ?side1 ?side2 A13.out).mono ?_); (case side1 => repeat (first | exact (Kd.C_below HR3.out (by with_reducible repeat (first | exact HB.out | apply ba_ | apply bn_ | apply bd_))) | (with_reducible first | refine Ca_ ?_ _ | refine Cn_ ?_ _ | refine Cd_ ?_))); (case side2 => exact HC3.out); rintro e w' ⟨rfl, ⟨nd, rfl⟩⟩; (try first | exact ⟨rfl, _, World.drewN_drewN _ _ _⟩ | exact ⟨rfl, _, Eq.trans (World.drewN_drewN _ _ _) (congrArg (World.drewN _) (Nat.add_assoc _ _ _))⟩))); try go_wp2_with (first | (go_at_call 40; (with_reducible refine (spec_validGraph.calls k _ _ l0 true _ ?side1 ?side2 A6.out).mono ?_); (case side1 => repeat (first | exact (Kd.C_below HR0.out HB.out) | (with_reducible first | refine Ca_ ?_ _ | refine Cn_ ?_ _ | refine Cd_ ?_))); (case side2 => exact HC0.out); rintro e w14 ⟨rfl, hb⟩; replace HB := mk0 (below_step (by with_reducible repeat (first | exact HB.out | apply ba_ | apply bn_ | apply bd_)) hb); clear hb) | (go_at_call 41; (with_reducible refine (spec_validRoom.calls k _ _ l1 true _ ?side1 ?side2 A8.out).mono ?_); (case side1 => repeat (first | exact (Kd.C_below HR1.out HB.out) | (with_reducible first | refine Ca_ ?_ _ | refine Cn_ ?_ _ | refine Cd_ ?_))); (case side2 => exact HC1.out); rintro e w' ⟨rfl, ⟨nd, rfl⟩⟩; (try first | exact ⟨rfl, _, World.drewN_drewN _ _ _⟩ | exact ⟨rfl, _, Eq.trans (World.drewN_drewN _ _ _) (congrArg (World.drewN _) (Nat.add_assoc _ _ _))⟩)) | (go_at_call 42; (with_reducible refine (spec_inRange.calls a2 1 4 true _ A10.out).mono ?_); rintro e w' ⟨rfl, ⟨nd, rfl⟩⟩; (try first | exact ⟨rfl, _, World.drewN_drewN _ _ _⟩ | exact ⟨rfl, _, Eq.trans (World.drewN_drewN _ _ _) (congrArg (World.drewN _) (Nat.add_assoc _ _ _))⟩)) | (go_at_call 85; (with_reducible refine (spec_allIn.calls k _ _ l3 0 200 t408 _ ?side1 ?side2 A13.out).mono ?_); (case side1 => repeat (first | exact (Kd.C_below HR3.out (by with_reducible repeat (first | exact HB.out | apply ba_ | apply bn_ | apply bd_))) | (with_reducible first | refine Ca_ ?_ _ | refine Cn_ ?_ _ | refine Cd_ ?_))); (case side2 => exact HC3.out); rintro e w' ⟨rfl, ⟨nd, rfl⟩⟩; (try first | exact ⟨rfl, _, World.drewN_drewN _ _ _⟩ | exact ⟨rfl, _, Eq.trans (World.drewN_drewN _ _ _) (congrArg (World.drewN _) (Nat.add_assoc _ _ _))⟩))))
      go_meet
      case rel => exact ⟨_, (!t408), (by first | rfl | (simp; done) | (simp [*]; done)), H', ⟨by first | omega | exact Nat.le_refl _⟩, ⟨by with_reducible repeat (first | exact HB.out | apply ba_ | apply bn_ | apply bd_)⟩⟩
     ·
      rw [if_neg c12] at H
      have c12b0 : ((l3.length : Int) == (l0.length : Int)) = false := beq_eq_false_iff_ne.mpr c12
      have c12b1 : ((l3.length : Int) != (l0.length : Int)) = true := bne_iff_ne.mpr c12
      have c12b2 : (l3.length == l0.length) = false := by first | simpa using c12 | (simp at c12 ⊢; omega)
      (first | rw [c12b0] | (simp only [i64_w, i32_w]; rw [c12b0]) | skip)
      have H' := mk0 H
      clear H
      go_wp2_with (first | (go_at_call 40; (with_reducible refine (spec_validGraph.calls k _ _ l0 true _ ?side1 ?side2 A6.out).mono ?_); (case side1 => repeat (first | exact (Kd.C_below HR0.out HB.out) | (with_reducible first | refine Ca_ ?_ _ | refine Cn_ ?_ _ | refine Cd_ ?_))); (case side2 => exact HC0.out); rintro e w15 ⟨rfl, hb⟩; replace HB := mk0 (below_step (by with_reducible repeat (first | exact HB.out | apply ba_ | apply bn_ | apply bd_)) hb); clear hb) | (go_at_call 41; (with_reducible refine (spec_validRoom.calls k _ _ l1 true _ ?side1 ?side2 A8.out).mono ?_); (case side1 => repeat (first | exact (Kd.C_below HR1.out HB.out) | (with_reducible first | refine Ca_ ?_ _ | refine Cn_ ?_ _ | refine Cd_ ?_))); (case side2 => exact HC1.out); rintro e w' ⟨rfl, ⟨nd, rfl⟩⟩; (try first | exact ⟨rfl, _, World.drewN_drewN _ _ _⟩ | exact ⟨rfl, _, Eq.trans (World.drewN_drewN _ _ _) (congrArg (World.drewN _) (Nat.add_assoc _ _ _))⟩)) | (go_at_call 42; (with_reducible refine (spec_inRange.calls a2 1 4 true _ A10.out).mono ?_); rintro e w' ⟨rfl, ⟨nd, rfl⟩⟩; (try first | exact ⟨rfl, _, World.drewN_drewN _ _ _⟩ | exact ⟨rfl, _, Eq.trans (World.drewN_drewN _ _ _) (congrArg (World.drewN _) (Nat.add_assoc _ _ _))⟩)))
      repeat (go_quiet (first | (go_at_call 40; (with_reducible refine (spec_validGraph.calls k _ _ l0 true _ ?side1 ?side2 A6.out).mono ?_); (case side1 => repeat (first | exact (Kd.C_below HR0.out HB.out) | (with_reducible first | refine Ca_ ?_ _ | refine Cn_ ?_ _ | refine Cd_ ?_))); (case side2 => exact HC0.out); rintro e w15 ⟨rfl, hb⟩; replace HB := mk0 (below_step (by with_reducible repeat (first | exact HB.out | apply ba_ | apply bn_ | apply bd_)) hb); clear hb) | (go_at_call 41; (with_reducible refine (spec_validRoom.calls k _ _ l1 true _ ?side1 ?side2 A8.out).mono ?_); (case side1 => repeat (first | exact (Kd.C_below HR1.out HB.out) | (with_reducible first | refine Ca_ ?_ _ | refine Cn_ ?_ _ | refine Cd_ ?_))); (case side2 => exact HC1.out); rintro e w' ⟨rfl, ⟨nd, rfl⟩⟩; (try first | exact ⟨rfl, _, World.drewN_drewN _ _ _⟩ | exact ⟨rfl, _, Eq.trans (World.drewN_drewN _ _ _) (congrArg (World.drewN _) (Nat.add_assoc _ _ _))⟩)) | (go_at_call 42; (with_reducible refine (spec_inRange.calls a2 1 4 true _ A10.out).mono ?_); rintro e w' ⟨rfl, ⟨nd, rfl⟩⟩; (try first | exact ⟨rfl, _, World.drewN_drewN _ _ _⟩ | exact ⟨rfl, _, Eq.trans (World.drewN_drewN _ _ _) (congrArg (World.drewN _) (Nat.add_assoc _ _ _))⟩))); try go_wp2_with (first | (go_at_call 40; (with_reducible refine (spec_validGraph.calls k _ _ l0 true _ ?side1 ?side2 A6.out).mono ?_); (case side1 => repeat (first | exact (Kd.C_below HR0.out HB.out) | (with_reducible first | refine Ca_ ?_ _ | refine Cn_ ?_ _ | refine Cd_ ?_))); (case side2 => exact HC0.out); rintro e w15 ⟨rfl, hb⟩; replace HB := mk0 (below_step (by with_reducible repeat (first | exact HB.out | apply ba_ | apply bn_ | apply bd_)) hb); clear hb) | (go_at_call 41; (with_reducible refine (spec_validRoom.calls k _ _ l1 true _ ?side1 ?side2 A8.out).mono ?_); (case side1 => repeat (first | exact (Kd.C_below HR1.out HB.out) | (with_reducible first | refine Ca_ ?_ _ | refine Cn_ ?_ _ | refine Cd_ ?_))); (case side2 => exact HC1.out); rintro e w' ⟨rfl, ⟨nd, rfl⟩⟩; (try first | exact ⟨rfl, _, World.drewN_drewN _ _ _⟩ | exact ⟨rfl, _, Eq.trans (World.drewN_drewN _ _ _) (congrArg (World.drewN _) (Nat.add_assoc _ _ _))⟩)) | (go_at_call 42; (with_reducible refine (spec_inRange.calls a2 1 4 true _ A10.out).mono ?_); rintro e w' ⟨rfl, ⟨nd, rfl⟩⟩; (try first | exact ⟨rfl, _, World.drewN_drewN _ _ _⟩ | exact ⟨rfl, _, Eq.trans (World.drewN_drewN _ _ _) (congrArg (World.drewN _) (Nat.add_assoc _ _ _))⟩))))
      go_meet
      case rel => exact ⟨_, (true), (by first | rfl | (simp; done) | (simp [*]; done)), H', ⟨by first | omega | exact Nat.le_refl _⟩, ⟨by with_reducible repeat (first | exact HB.out | apply ba_ | apply bn_ | apply bd_)⟩⟩
    ·
     replace c11 := Bool.eq_false_iff.mpr c11
     subst c11
     rw [if_neg (show ¬ (false = true) by decide)] at H
     have H' := mk0 H
     clear H
     go_wp2_with (first | (go_at_call 40; (with_reducible refine (spec_validGraph.calls k _ _ l0 true _ ?side1 ?side2 A6.out).mono ?_); (case side1 => repeat (first | exact (Kd.C_below HR0.out HB.out) | (with_reducible first | refine Ca_ ?_ _ | refine Cn_ ?_ _ | refine Cd_ ?_))); (case side2 => exact HC0.out); rintro e w16 ⟨rfl, hb⟩; replace HB := mk0 (below_step (by with_reducible repeat (first | exact HB.out | apply ba_ | apply bn_ | apply bd_)) hb); clear hb) | (go_at_call 41; (with_reducible refine (spec_validRoom.calls k _ _ l1 true _ ?side1 ?side2 A8.out).mono ?_); (case side1 => repeat (first | exact (Kd.C_below HR1.out HB.out) | (with_reducible first | refine Ca_ ?_ _ | refine Cn_ ?_ _ | refine Cd_ ?_))); (case side2 => exact HC1.out); rintro e w' ⟨rfl, ⟨nd, rfl⟩⟩; (try first | exact ⟨rfl, _, World.drewN_drewN _ _ _⟩ | exact ⟨rfl, _, Eq.trans (World.drewN_drewN _ _ _) (congrArg (World.drewN _) (Nat.add_assoc _ _ _))⟩)) | (go_at_call 42; (with_reducible refine (spec_inRange.calls a2 1 4 false _ A10.out).mono ?_); rintro e w' ⟨rfl, ⟨nd, rfl⟩⟩; (try first | exact ⟨rfl, _, World.drewN_drewN _ _ _⟩ | exact ⟨rfl, _, Eq.trans (World.drewN_drewN _ _ _) (congrArg (World.drewN _) (Nat.add_assoc _ _ _))⟩)))
     repeat (go_quiet (first | (go_at_call 40; (with_reducible refine (spec_validGraph.calls k _ _ l0 true _ ?side1 ?side2 A6.out).mono ?_); (case side1 => repeat (first | exact (Kd.C_below HR0.out HB.out) | (with_reducible first | refine Ca_ ?_ _ | refine Cn_ ?_ _ | refine Cd_ ?_))); (case side2 => exact HC0.out); rintro e w16 ⟨rfl, hb⟩; replace HB := mk0 (below_step (by with_reducible repeat (first | exact HB.out | apply ba_ | apply bn_ | apply bd_)) hb); clear hb) | (go_at_call 41; (with_reducible refine (spec_validRoom.calls k _ _ l1 true _ ?side1 ?side2 A8.out).mono ?_); (case side1 => repeat (first | exact (Kd.C_below HR1.out HB.out) | (with_reducible first | refine Ca_ ?_ _ | refine Cn_ ?_ _ | refine Cd_ ?_))); (case side2 => exact HC1.out); rintro e w' ⟨rfl, ⟨nd, rfl⟩⟩; (try first | exact ⟨rfl, _, World.drewN_drewN _ _ _⟩ | exact ⟨rfl, _, Eq.trans (World.drewN_drewN _ _ _) (congrArg (World.drewN _) (Nat.add_assoc _ _ _))⟩)) | (go_at_call 42; (with_reducible refine (spec_inRange.calls a2 1 4 false _ A10.out).mono ?_); rintro e w' ⟨rfl, ⟨nd, rfl⟩⟩; (try first | exact ⟨rfl, _, World.drewN_drewN _ _ _⟩ | exact ⟨rfl, _, Eq.trans (World.drewN_drewN _ _ _) (congrArg (World.drewN _) (Nat.add_assoc _ _ _))⟩))); try go_wp2_with (first | (go_at_call 40; (with_reducible refine (spec_validGraph.calls k _ _ l0 true _ ?side1 ?side2 A6.out).mono ?_); (case side1 => repeat (first | exact (Kd.C_below HR0.out HB.out) | (with_reducible first | refine Ca_ ?_ _ | refine Cn_ ?_ _ | refine Cd_ ?_))); (case side2 => exact HC0.out); rintro e w16 ⟨rfl, hb⟩; replace HB := mk0 (below_step (by with_reducible repeat (first | exact HB.out | apply ba_ | apply bn_ | apply bd_)) hb); clear hb) | (go_at_call 41; (with_reducible refine (spec_validRoom.calls k _ _ l1 true _ ?side1 ?side2 A8.out).mono ?_); (case side1 => repeat (first | exact (Kd.C_below HR1.out HB.out) | (with_reducible first | refine Ca_ ?_ _ | refine Cn_ ?_ _ | refine Cd_ ?_))); (case side2 => exact HC1.out); rintro e w' ⟨rfl, ⟨nd, rfl⟩⟩; (try first | exact ⟨rfl, _, World.drewN_drewN _ _ _⟩ | exact ⟨rfl, _, Eq.trans (World.drewN_drewN _ _ _) (congrArg (World.drewN _) (Nat.add_assoc _ _ _))⟩)) | (go_at_call 42; (with_reducible refine (spec_inRange.calls a2 1 4 false _ A10.out).mono ?_); rintro e w' ⟨rfl, ⟨nd, rfl⟩⟩; (try first | exact ⟨rfl, _, World.drewN_drewN _ _ _⟩ | exact ⟨rfl, _, Eq.trans (World.drewN_drewN _ _ _) (congrArg (World.drewN _) (Nat.add_assoc _ _ _))⟩))))
     go_meet
     case rel => exact ⟨_, (true), (by first | rfl | (simp; done) | (simp [*]; done)), H', ⟨by first | omega | exact Nat.le_refl _⟩, ⟨by with_reducible repeat (first | exact HB.out | apply ba_ | apply bn_ | apply bd_)⟩⟩
   ·
    replace c9 := Bool.eq_false_iff.mpr c9
    subst c9
    rw [if_neg (show ¬ (false = true) by decide)] at H
    have H' := mk0 H
    clear H
    go_wp2_with (first | (go_at_call 40; (with_reducible refine (spec_validGraph.calls k _ _ l0 true _ ?side1 ?side2 A6.out).mono ?_); (case side1 => repeat (first | exact (Kd.C_below HR0.out HB.out) | (with_reducible first | refine Ca_ ?_ _ | refine Cn_ ?_ _ | refine Cd_ ?_))); (case side2 => exact HC0.out); rintro e w17 ⟨rfl, hb⟩; replace HB := mk0 (below_step (by with_reducible repeat (first | exact HB.out | apply ba_ | apply bn_ | apply bd_)) hb); clear hb) | (go_at_call 41; (with_reducible refine (spec_validRoom.calls k _ _ l1 false _ ?side1 ?side2 A8.out).mono ?_); (case side1 => repeat (first | exact (Kd.C_below HR1.out HB.out) | (with_reducible first | refine Ca_ ?_ _ | refine Cn_ ?_ _ | refine Cd_ ?_))); (case side2 => exact HC1.out); rintro e w' ⟨rfl, ⟨nd, rfl⟩⟩; (try first | exact ⟨rfl, _, World.drewN_drewN _ _ _⟩ | exact ⟨rfl, _, Eq.trans (World.drewN_drewN _ _ _) (congrArg (World.drewN _) (Nat.add_assoc _ _ _))⟩)))
    repeat (go_quiet (first | (go_at_call 40; (with_reducible refine (spec_validGraph.calls k _ _ l0 true _ ?side1 ?side2 A6.out).mono ?_); (case side1 => repeat (first | exact (Kd.C_below HR0.out HB.out) | (with_reducible first | refine Ca_ ?_ _ | refine Cn_ ?_ _ | refine Cd_ ?_))); (case side2 => exact HC0.out); rintro e w17 ⟨rfl, hb⟩; replace HB := mk0 (below_step (by with_reducible repeat (first | exact HB.out | apply ba_ | apply bn_ | apply bd_)) hb); clear hb) | (go_at_call 41; (with_reducible refine (spec_validRoom.calls k _ _ l1 false _ ?side1 ?side2 A8.out).mono ?_); (case side1 => repeat (first | exact (Kd.C_below HR1.out HB.out) | (with_reducible first | refine Ca_ ?_ _ | refine Cn_ ?_ _ | refine Cd_ ?_))); (case side2 => exact HC1.out); rintro e w' ⟨rfl, ⟨nd, rfl⟩⟩; (try first | exact ⟨rfl, _, World.drewN_drewN _ _ _⟩ | exact ⟨rfl, _, Eq.trans (World.drewN_drewN _ _ _) (congrArg (World.drewN _) (Nat.add_assoc _ _ _))⟩))); try go_wp2_with (first | (go_at_call 40; (with_reducible refine (spec_validGraph.calls k _ _ l0 true _ ?side1 ?side2 A6.out).mono ?_); (case side1 => repeat (first | exact (Kd.C_below HR0.out HB.out) | (with_reducible first | refine Ca_ ?_ _ | refine Cn_ ?_ _ | refine Cd_ ?_))); (case side2 => exact HC0.out); rintro e w17 ⟨rfl, hb⟩; replace HB := mk0 (below_step (by with_reducible repeat (first | exact HB.out | apply ba_ | apply bn_ | apply bd_)) hb); clear hb) | (go_at_call 41; (with_reducible refine (spec_validRoom.calls k _ _ l1 false _ ?side1 ?side2 A8.out).mono ?_); (case side1 => repeat (first | exact (Kd.C_below HR1.out HB.out) | (with_reducible first | refine Ca_ ?_ _ | refine Cn_ ?_ _ | refine Cd_ ?_))); (case side2 => exact HC1.out); rintro e w' ⟨rfl, ⟨nd, rfl⟩⟩; (try first | exact ⟨rfl, _, World.drewN_drewN _ _ _⟩ | exact ⟨rfl, _, Eq.trans (World.drewN_drewN _ _ _) (congrArg (World.drewN _) (Nat.add_assoc _ _ _))⟩))))
    go_meet
    case rel => exact ⟨_, (true), (by first | rfl | (simp; done) | (simp [*]; done)), H', ⟨by first | omega | exact Nat.le_refl _⟩, ⟨by with_reducible repeat (first | exact HB.out | apply ba_ | apply bn_ | apply bd_)⟩⟩
  ·
   replace c7 := Bool.eq_false_iff.mpr c7
   subst c7
   rw [if_neg (show ¬ (false = true) by decide)] at H
   have H' := mk0 H
   clear H
   go_wp2_with (first | (go_at_call 40; (with_reducible refine (spec_validGraph.calls k _ _ l0 false _ ?side1 ?side2 A6.out).mono ?_); (case side1 => repeat (first | exact (Kd.C_below HR0.out HB.out) | (with_reducible first | refine Ca_ ?_ _ | refine Cn_ ?_ _ | refine Cd_ ?_))); (case side2 => exact HC0.out); rintro e w18 ⟨rfl, hb⟩; replace HB := mk0 (below_step (by with_reducible repeat (first | exact HB.out | apply ba_ | apply bn_ | apply bd_)) hb); clear hb))
   repeat (go_quiet (first | (go_at_call 40; (with_reducible refine (spec_validGraph.calls k _ _ l0 false _ ?side1 ?side2 A6.out).mono ?_); (case side1 => repeat (first | exact (Kd.C_below HR0.out HB.out) | (with_reducible first | refine Ca_ ?_ _ | refine Cn_ ?_ _ | refine Cd_ ?_))); (case side2 => exact HC0.out); rintro e w18 ⟨rfl, hb⟩; replace HB := mk0 (below_step (by with_reducible repeat (first | exact HB.out | apply ba_ | apply bn_ | apply bd_)) hb); clear hb)); try go_wp2_with (first | (go_at_call 40; (with_reducible refine (spec_validGraph.calls k _ _ l0 false _ ?side1 ?side2 A6.out).mono ?_); (case side1 => repeat (first | exact (Kd.C_below HR0.out HB.out) | (with_reducible first | refine Ca_ ?_ _ | refine Cn_ ?_ _ | refine Cd_ ?_))); (case side2 => exact HC0.out); rintro e w18 ⟨rfl, hb⟩; replace HB := mk0 (below_step (by with_reducible repeat (first | exact HB.out | apply ba_ | apply bn_ | apply bd_)) hb); clear hb)))
   go_meet
   case rel => exact ⟨_, (true), (by first | rfl | (simp; done) | (simp [*]; done)), H', ⟨by first | omega | exact Nat.le_refl _⟩, ⟨by with_reducible repeat (first | exact HB.out | apply ba_ | apply bn_ | apply bd_)⟩⟩
 case rest =>
  clear HC5
  try clear c1
  try clear p2
  try clear c3
  try clear c7
  try clear c9
  try clear c11
  try clear c12
  try clear c12b0
  try clear c12b1
  try clear c12b2
  obtain ⟨kq, x37_4, rfl, HA, HJ4, HB⟩ := hcut
  cases kq with
  | zero => exact absurd HA.out (by simp [spec_validStarts.j0])
  | succ kj4 =>
   have H := HA.out
   clear HA
   simp only [spec_validStarts.j0] at H
   by_cases c19 : x37_4 = true
   ·
    subst c19
    rw [if_pos rfl] at H
    obtain rfl := Option.some.inj H
    go_wp2
    repeat (go_quiet (fail); try go_wp2)
    go_ret
    exact ⟨by first | rfl | (simp [errW_none, errW_some] <;> rfl) | (simp [*, errW_none, errW_some] <;> rfl), by with_reducible repeat (first | exact HB.out | apply ba_ | apply bn_ | apply bd_)⟩
   ·
    replace c19 := Bool.eq_false_iff.mpr c19
    subst c19
    rw [if_neg (show ¬ (false = true) by decide)] at H
    have H' := mk0 H
    clear H
    go_wp2
    repeat (go_quiet (fail); try go_wp2)
    go_loopg [9] kj4 (fun kq v9 w' => ∃ (x9_2 : Int), v9 = .int .i64 x9_2 ∧ Aside0 (spec_validStarts.l0 kq l0 l1 a2 l3 x9_2 = some r) ∧ Aside0 (kq ≤ kj4) ∧ Aside0 (Below w.heap.size w w'))
    case atStart => exact ⟨(0), (by first | rfl | (simp; done) | (simp [*]; done)), H', ⟨Nat.le_refl _⟩, ⟨by with_reducible repeat (first | exact HB.out | apply ba_ | apply bn_ | apply bd_)⟩⟩
    case round =>
     clear H'
     try clear c1
     try clear p2
     try clear c3
     try clear c7
     try clear c9
     try clear c11
     try clear c12
     try clear c12b0
     try clear c12b1
     try clear c12b2
     try clear c19
     try clear p2
     obtain ⟨x9_2, rfl, HA, HK2, HB⟩ := hrel
     cases gk with
     | zero => exact absurd HA.out (by simp [spec_validStarts.l0])
     | succ k2 =>
      have H := HA.out
      clear HA
      simp only [spec_validStarts.l0] at H
      by_cases c20 : x9_2 < (l0.length : Int)
      ·
       rw [if_pos c20] at H
       have c20b0 : decide (x9_2 < (l0.length : Int)) = true := decide_eq_true c20
       clear c20
       have H' := mk0 H
       clear H
       go_wp2
       repeat (go_quiet (fail); try go_wp2)
       go_loopg [10] k2 (fun kq v10 w' => ∃ (x10_3 : Int), v10 = .int .i64 x10_3 ∧ Aside0 (spec_validStarts.l1 kq l0 l1 a2 l3 x9_2 x10_3 = some r) ∧ Aside0 (kq ≤ k2) ∧ Aside0 (Below w.heap.size w w'))
       case atStart => exact ⟨(0), (by first | rfl | (simp; done) | (simp [*]; done)), H', ⟨Nat.le_refl _⟩, ⟨by with_reducible repeat (first | exact HB.out | apply ba_ | apply bn_ | apply bd_)⟩⟩
       case round =>
        clear H'
        try clear c1
        try clear c2
        try clear p2
        try clear c3
        try clear c7
        try clear c9
        try clear c11
        try clear c12
        try clear c12b0
        try clear c12b1
        try clear c12b2
        try clear c19
        try clear c20
        try clear c20b0
        try clear p2
        obtain ⟨x10_3, rfl, HA, HK3, HB⟩ := hrel
        cases gk with
        | zero => exact absurd HA.out (by simp [spec_validStarts.l1])
        | succ k3 =>
         have H := HA.out
         clear HA
         simp only [spec_validStarts.l1] at H
         by_cases c21 : 0 ≤ x9_2
         ·
          rw [if_pos c21] at H
          have c21b0 : decide (0 ≤ x9_2) = true := decide_eq_true c21
          clear c21
          by_cases c22 : x9_2 < (l0.length : Int)
          ·
           rw [if_pos c22] at H
           have c22b0 : decide (x9_2 < (l0.length : Int)) = true := decide_eq_true c22
           clear c22
           by_cases c23 : x10_3 < (((rd_T41 l0 x9_2).f1).length : Int)
           ·
            rw [if_pos c23] at H
            have c23b0 : decide (x10_3 < (((rd_T41 l0 x9_2).f1).length : Int)) = true := decide_eq_true c23
            clear c23
            by_cases c24 : 0 ≤ x10_3
            ·
             rw [if_pos c24] at H
             have c24b0 : decide (0 ≤ x10_3) = true := decide_eq_true c24
             clear c24
             by_cases c25 : 0 ≤ (rd ((rd_T41 l0 x9_2).f1) x10_3)
             ·
              rw [if_pos c25] at H
              have c25b0 : decide (0 ≤ (rd ((rd_T41 l0 x9_2).f1) x10_3)) = true := decide_eq_true c25
              clear c25
              by_cases c26 : (rd ((rd_T41 l0 x9_2).f1) x10_3) < (l3.length : Int)
              ·
               rw [if_pos c26] at H
               have c26b0 : decide ((rd ((rd_T41 l0 x9_2).f1) x10_3) < (l3.length : Int)) = true := decide_eq_true c26
               clear c26
               by_cases c27 : (rd ((rd_T41 l0 x9_2).f1) x10_3) < (l0.length : Int)
               ·
                rw [if_pos c27] at H
                have c27b0 : decide ((rd ((rd_T41 l0 x9_2).f1) x10_3) < (l0.length : Int)) = true := decide_eq_true c27
                clear c27
                by_cases c28 : x9_2 < (l3.length : Int)
                ·
                 rw [if_pos c28] at H
                 have c28b0 : decide (x9_2 < (l3.length : Int)) = true := decide_eq_true c28
                 clear c28
                 by_cases c29 : (wrap64 ((rd l3 (rd ((rd_T41 l0 x9_2).f1) x10_3)) + ((rd_T41 l0 (rd ((rd_T41 l0 x9_2).f1) x10_3)).f0))) > (rd l3 x9_2)
                 ·
                  rw [if_pos c29] at H
                  have c29b0 : decide ((rd l3 x9_2) < (wrap64 ((rd l3 (rd ((rd_T41 l0 x9_2).f1) x10_3)) + ((rd_T41 l0 (rd ((rd_T41 l0 x9_2).f1) x10_3)).f0)))) = true := decide_eq_true c29
                  clear c29
                  obtain rfl := Option.some.inj H
                  have p409 : 0 ≤ (x9_2 : Int) := od_ (by with_reducible assumption)
                  have q409 : x9_2 < (l0.length : Int) := od_ (by with_reducible assumption)
                  obtain ⟨ad409, A409_1, c409_1, e409, hx409_0, hx409_1, hx409_2, hx409_3, hl409_1, hi409_1⟩ := at_T41 HR0.out x9_2 p409 q409
                  cases e409
                  replace hx409_0 := (HB.out.cell (World.block_lt_of_cell? w _ hx409_0)).trans hx409_0
                  replace hx409_1 := (HB.out.cell (World.block_lt_of_cell? w _ hx409_1)).trans hx409_1
                  replace hx409_2 := (HB.out.cell (World.block_lt_of_cell? w _ hx409_2)).trans hx409_2
                  replace hx409_3 := (HB.out.cell (World.block_lt_of_cell? w _ hx409_3)).trans hx409_3
                  have HR409_1 := mk0 hi409_1
                  have HC409_1 := mk0 hl409_1
                  clear hi409_1 hl409_1
                  replace p409 := eq_true p409
                  replace q409 := eq_true q409
                  have p410 : 0 ≤ (x9_2 : Int) := od_ (by with_reducible assumption)
                  have q410 : x9_2 < (l0.length : Int) := od_ (by with_reducible assumption)
                  obtain ⟨ad410, A410_1, c410_1, e410, hx410_0, hx410_1, hx410_2, hx410_3, hl410_1, hi410_1⟩ := at_T41 HR0.out x9_2 p410 q410
                  obtain rfl : ad409 = ad410 := (by injection e410)
                  replace hx410_0 := (HB.out.cell (World.block_lt_of_cell? w _ hx410_0)).trans hx410_0
                  replace hx410_1 := (HB.out.cell (World.block_lt_of_cell? w _ hx410_1)).trans hx410_1
                  replace hx410_2 := (HB.out.cell (World.block_lt_of_cell? w _ hx410_2)).trans hx410_2
                  replace hx410_3 := (HB.out.cell (World.block_lt_of_cell? w _ hx410_3)).trans hx410_3
                  have HR410_1 := mk0 hi410_1
                  have HC410_1 := mk0 hl410_1
                  clear hi410_1 hl410_1
                  replace p410 := eq_true p410
                  replace q410 := eq_true q410
                  have ea_ := Option.some.inj (hx409_1.symm.trans hx410_1)
                  injection ea_ with ea_ en_ ec_
                  subst ea_
                  subst ec_
                  clear en_
                  have p411 : 0 ≤ (x10_3 : Int) := od_ (by with_reducible assumption)
                  have q411 : x10_3 < (((rd_T41 l0 x9_2).f1).length : Int) := od_ (by with_reducible assumption)
                  obtain ⟨ad411, e411, hx411_0⟩ := Kd.at_int HR410_1.out x10_3 p411 q411
                  cases e411
                  replace hx411_0 := (HB.out.cell (World.block_lt_of_cell? w _ hx411_0)).trans hx411_0
                  replace p411 := eq_true p411
                  replace q411 := eq_true q411
                  have p412 : 0 ≤ ((rd ((rd_T41 l0 x9_2).f1) x10_3) : Int) := od_ (by with_reducible assumption)
                  have q412 : (rd ((rd_T41 l0 x9_2).f1) x10_3) < (l3.length : Int) := od_ (by with_reducible assumption)
                  obtain ⟨ad412, e412, hx412_0⟩ := Kd.at_int HR3.out (rd ((rd_T41 l0 x9_2).f1) x10_3) p412 q412
                  cases e412
                  replace hx412_0 := (HB.out.cell (World.block_lt_of_cell? w _ hx412_0)).trans hx412_0
                  replace p412 := eq_true p412
                  replace q412 := eq_true q412
                  have p413 : 0 ≤ ((rd ((rd_T41 l0 x9_2).f1) x10_3) : Int) := od_ (by with_reducible assumption)
                  have q413 : (rd ((rd_T41 l0 x9_2).f1) x10_3) < (l0.length : Int) := od_ (by with_reducible assumption)
                  obtain ⟨ad413, A413_1, c413_1, e413, hx413_0, hx413_1, hx413_2, hx413_3, hl413_1, hi413_1⟩ := at_T41 HR0.out (rd ((rd_T41 l0 x9_2).f1) x10_3) p413 q413
                  obtain rfl : ad409 = ad413 := (by injection e413)
                  replace hx413_0 := (HB.out.cell (World.block_lt_of_cell? w _ hx413_0)).trans hx413_0
                  replace hx413_1 := (HB.out.cell (World.block_lt_of_cell? w _ hx413_1)).trans hx413_1
                  replace hx413_2 := (HB.out.cell (World.block_lt_of_cell? w _ hx413_2)).trans hx413_2
                  replace hx413_3 := (HB.out.cell (World.block_lt_of_cell? w _ hx413_3)).trans hx413_3
                  have HR413_1 := mk0 hi413_1
                  have HC413_1 := mk0 hl413_1
                  clear hi413_1 hl413_1
                  replace p413 := eq_true p413
                  replace q413 := eq_true q413
                  have p414 : 0 ≤ (x9_2 : Int) := od_ (by with_reducible assumption)
                  have q414 : x9_2 < (l3.length : Int) := od_ (by with_reducible assumption)
                  obtain ⟨ad414, e414, hx414_0⟩ := Kd.at_int HR3.out x9_2 p414 q414
                  obtain rfl : ad412 = ad414 := (by injection e414)
                  replace hx414_0 := (HB.out.cell (World.block_lt_of_cell? w _ hx414_0)).trans hx414_0
                  replace p414 := eq_true p414
                  replace q414 := eq_true q414
                  go_wp2
                  repeat (go_quiet (fail); try go_wp2)
                  go_ret
                  exact ⟨by first | rfl | (simp [errW_none, errW_some] <;> rfl) | (simp [*, errW_none, errW_some] <;> rfl), by with_reducible repeat (first | exact HB.out | apply ba_ | apply bn_ | apply bd_)⟩
                 ·
                  rw [if_neg c29] at H
                  have c29b0 : decide ((rd l3 x9_2) < (wrap64 ((rd l3 (rd ((rd_T41 l0 x9_2).f1) x10_3)) + ((rd_T41 l0 (rd ((rd_T41 l0 x9_2).f1) x10_3)).f0)))) = false := decide_eq_false c29
                  clear c29
                  have H' := mk0 H
                  clear H
                  have p409 : 0 ≤ (x9_2 : Int) := od_ (by with_reducible assumption)
                  have q409 : x9_2 < (l0.length : Int) := od_ (by with_reducible assumption)
                  obtain ⟨ad409, A409_1, c409_1, e409, hx409_0, hx409_1, hx409_2, hx409_3, hl409_1, hi409_1⟩ := at_T41 HR0.out x9_2 p409 q409
                  cases e409
                  replace hx409_0 := (HB.out.cell (World.block_lt_of_cell? w _ hx409_0)).trans hx409_0
                  replace hx409_1 := (HB.out.cell (World.block_lt_of_cell? w _ hx409_1)).trans hx409_1
                  replace hx409_2 := (HB.out.cell (World.block_lt_of_cell? w _ hx409_2)).trans hx409_2
                  replace hx409_3 := (HB.out.cell (World.block_lt_of_cell? w _ hx409_3)).trans hx409_3
                  have HR409_1 := mk0 hi409_1
                  have HC409_1 := mk0 hl409_1
                  clear hi409_1 hl409_1
                  replace p409 := eq_true p409
                  replace q409 := eq_true q409
                  have p410 : 0 ≤ (x9_2 : Int) := od_ (by with_reducible assumption)
                  have q410 : x9_2 < (l0.length : Int) := od_ (by with_reducible assumption)
                  obtain ⟨ad410, A410_1, c410_1, e410, hx410_0, hx410_1, hx410_2, hx410_3, hl410_1, hi410_1⟩ := at_T41 HR0.out x9_2 p410 q410
                  obtain rfl : ad409 = ad410 := (by injection e410)
                  replace hx410_0 := (HB.out.cell (World.block_lt_of_cell? w _ hx410_0)).trans hx410_0
                  replace hx410_1 := (HB.out.cell (World.block_lt_of_cell? w _ hx410_1)).trans hx410_1
                  replace hx410_2 := (HB.out.cell (World.block_lt_of_cell? w _ hx410_2)).trans hx410_2
                  replace hx410_3 := (HB.out.cell (World.block_lt_of_cell? w _ hx410_3)).trans hx410_3
                  have HR410_1 := mk0 hi410_1
                  have HC410_1 := mk0 hl410_1
                  clear hi410_1 hl410_1
                  replace p410 := eq_true p410
                  replace q410 := eq_true q410
                  have ea_ := Option.some.inj (hx409_1.symm.trans hx410_1)
                  injection ea_ with ea_ en_ ec_
                  subst ea_
                  subst ec_
                  clear en_
                  have p411 : 0 ≤ (x10_3 : Int) := od_ (by with_reducible assumption)
                  have q411 : x10_3 < (((rd_T41 l0 x9_2).f1).length : Int) := od_ (by with_reducible assumption)
                  obtain ⟨ad411, e411, hx411_0⟩ := Kd.at_int HR410_1.out x10_3 p411 q411
                  cases e411
                  replace hx411_0 := (HB.out.cell (World.block_lt_of_cell? w _ hx411_0)).trans hx411_0
                  replace p411 := eq_true p411
                  replace q411 := eq_true q411
                  have p412 : 0 ≤ ((rd ((rd_T41 l0 x9_2).f1) x10_3) : Int) := od_ (by with_reducible assumption)
                  have q412 : (rd ((rd_T41 l0 x9_2).f1) x10_3) < (l3.length : Int) := od_ (by with_reducible assumption)
                  obtain ⟨ad412, e412, hx412_0⟩ := Kd.at_int HR3.out (rd ((rd_T41 l0 x9_2).f1) x10_3) p412 q412
                  cases e412
                  replace hx412_0 := (HB.out.cell (World.block_lt_of_cell? w _ hx412_0)).trans hx412_0
                  replace p412 := eq_true p412
                  replace q412 := eq_true q412
                  have p413 : 0 ≤ ((rd ((rd_T41 l0 x9_2).f1) x10_3) : Int) := od_ (by with_reducible assumption)
                  have q413 : (rd ((rd_T41 l0 x9_2).f1) x10_3) < (l0.length : Int) := od_ (by with_reducible assumption)
                  obtain ⟨ad413, A413_1, c413_1, e413, hx413_0, hx413_1, hx413_2, hx413_3, hl413_1, hi413_1⟩ := at_T41 HR0.out (rd ((rd_T41 l0 x9_2).f1) x10_3) p413 q413
                  obtain rfl : ad409 = ad413 := (by injection e413)
                  replace hx413_0 := (HB.out.cell (World.block_lt_of_cell? w _ hx413_0)).trans hx413_0
                  replace hx413_1 := (HB.out.cell (World.block_lt_of_cell? w _ hx413_1)).trans hx413_1
                  replace hx413_2 := (HB.out.cell (World.block_lt_of_cell? w _ hx413_2)).trans hx413_2
                  replace hx413_3 := (HB.out.cell (World.block_lt_of_cell? w _ hx413_3)).trans hx413_3
                  have HR413_1 := mk0 hi413_1
                  have HC413_1 := mk0 hl413_1
                  clear hi413_1 hl413_1
                  replace p413 := eq_true p413
                  replace q413 := eq_true q413
                  have p414 : 0 ≤ (x9_2 : Int) := od_ (by with_reducible assumption)
                  have q414 : x9_2 < (l3.length : Int) := od_ (by with_reducible assumption)
                  obtain ⟨ad414, e414, hx414_0⟩ := Kd.at_int HR3.out x9_2 p414 q414
                  obtain rfl : ad412 = ad414 := (by injection e414)
                  replace hx414_0 := (HB.out.cell (World.block_lt_of_cell? w _ hx414_0)).trans hx414_0
                  replace p414 := eq_true p414
                  replace q414 := eq_true q414
                  go_wp2
                  repeat (go_quiet (fail); try go_wp2)
                  go_roundg k3
                  case measure => have := HJ4.out; have := HK2.out; have := HK3.out; omega
                  case rel => exact ⟨(wrap64 (x10_3 + 1)), (by first | rfl | (simp; done) | (simp [*]; done)), H', ⟨by have := HJ4.out; have := HK2.out; have := HK3.out; omega⟩, ⟨by with_reducible repeat (first | exact HB.out | apply ba_ | apply bn_ | apply bd_)⟩⟩
                ·
                 rw [if_neg c28] at H
                 exact nn_ H
               ·
                rw [if_neg c27] at H
                exact nn_ H
              ·
               rw [if_neg c26] at H
               exact nn_ H
             ·
              rw [if_neg c25] at H
              exact nn_ H
            ·
             rw [if_neg c24] at H
             exact nn_ H
           ·
            rw [if_neg c23] at H
            have c23b0 : decide (x10_3 < (((rd_T41 l0 x9_2).f1).length : Int)) = false := decide_eq_false c23
            clear c23
            by_cases c30 : x9_2 < (l3.length : Int)
            ·
             rw [if_pos c30] at H
             have c30b0 : decide (x9_2 < (l3.length : Int)) = true := decide_eq_true c30
             clear c30
             replace H := bE_ H
             obtain ⟨t416, A310, H⟩ := H
             have A31 := mk0 A310
             clear A310
             by_cases c32 : (t416.length : Int) > a2
             ·
              rw [if_pos c32] at H
              have c32b0 : decide (a2 < (t416.length : Int)) = true := decide_eq_true c32
              clear c32
              obtain rfl := Option.some.inj H
              have p409 : 0 ≤ (x9_2 : Int) := od_ (by with_reducible assumption)
              have q409 : x9_2 < (l0.length : Int) := od_ (by with_reducible assumption)
              obtain ⟨ad409, A409_1, c409_1, e409, hx409_0, hx409_1, hx409_2, hx409_3, hl409_1, hi409_1⟩ := at_T41 HR0.out x9_2 p409 q409
              cases e409
              replace hx409_0 := (HB.out.cell (World.block_lt_of_cell? w _ hx409_0)).trans hx409_0
              replace hx409_1 := (HB.out.cell (World.block_lt_of_cell? w _ hx409_1)).trans hx409_1
              replace hx409_2 := (HB.out.cell (World.block_lt_of_cell? w _ hx409_2)).trans hx409_2
              replace hx409_3 := (HB.out.cell (World.block_lt_of_cell? w _ hx409_3)).trans hx409_3
              have HR409_1 := mk0 hi409_1
              have HC409_1 := mk0 hl409_1
              clear hi409_1 hl409_1
              replace p409 := eq_true p409
              replace q409 := eq_true q409
              have p415 : 0 ≤ (x9_2 : Int) := od_ (by with_reducible assumption)
              have q415 : x9_2 < (l3.length : Int) := od_ (by with_reducible assumption)
              obtain ⟨ad415, e415, hx415_0⟩ := Kd.at_int HR3.out x9_2 p415 q415
              cases e415
              replace hx415_0 := (HB.out.cell (World.block_lt_of_cell? w _ hx415_0)).trans hx415_0
              replace p415 := eq_true p415
              replace q415 := eq_true q415
              go_wp2_with (first | (go_at_call 88; (with_reducible refine (spec_runningAt.calls k3 _ _ l0 _ _ l3 (rd l3 x9_2) t416 _ ?side1 ?side2 ?side3 ?side4 A31.out).mono ?_); (case side1 => repeat (first | exact (Kd.C_below HR0.out HB.out) | (with_reducible first | refine Ca_ ?_ _ | refine Cn_ ?_ _ | refine Cd_ ?_))); (case side2 => exact HC0.out); (case side3 => repeat (first | exact (Kd.C_below HR3.out HB.out) | (with_reducible first | refine Ca_ ?_ _ | refine Cn_ ?_ _ | refine Cd_ ?_))); (case side4 => exact HC3.out); rintro e w33 ⟨v417, rfl, ho0, hb⟩; have HO418 := mk0 (Kd.R_lower ho0 (below_size (by with_reducible repeat (first | exact HB.out | apply ba_ | apply bn_ | apply bd_)))); replace HB := mk0 (below_step (by with_reducible repeat (first | exact HB.out | apply ba_ | apply bn_ | apply bd_)) hb); clear hb ho0; obtain ⟨Ao34, co34, eo34⟩ := Kd.R_slice HO418.out; subst eo34))
              repeat (go_quiet (first | (go_at_call 88; (with_reducible refine (spec_runningAt.calls k3 _ _ l0 _ _ l3 (rd l3 x9_2) t416 _ ?side1 ?side2 ?side3 ?side4 A31.out).mono ?_); (case side1 => repeat (first | exact (Kd.C_below HR0.out HB.out) | (with_reducible first | refine Ca_ ?_ _ | refine Cn_ ?_ _ | refine Cd_ ?_))); (case side2 => exact HC0.out); (case side3 => repeat (first | exact (Kd.C_below HR3.out HB.out) | (with_reducible first | refine Ca_ ?_ _ | refine Cn_ ?_ _ | refine Cd_ ?_))); (case side4 => exact HC3.out); rintro e w33 ⟨v417, rfl, ho0, hb⟩; have HO418 := mk0 (Kd.R_lower ho0 (below_size (by with_reducible repeat (first | exact HB.out | apply ba_ | apply bn_ | apply bd_)))); replace HB := mk0 (below_step (by with_reducible repeat (first | exact HB.out | apply ba_ | apply bn_ | apply bd_)) hb); clear hb ho0; obtain ⟨Ao34, co34, eo34⟩ := Kd.R_slice HO418.out; subst eo34)); try go_wp2_with (first | (go_at_call 88; (with_reducible refine (spec_runningAt.calls k3 _ _ l0 _ _ l3 (rd l3 x9_2) t416 _ ?side1 ?side2 ?side3 ?side4 A31.out).mono ?_); (case side1 => repeat (first | exact (Kd.C_below HR0.out HB.out) | (with_reducible first | refine Ca_ ?_ _ | refine Cn_ ?_ _ | refine Cd_ ?_))); (case side2 => exact HC0.out); (case side3 => repeat (first | exact (Kd.C_below HR3.out HB.out) | (with_reducible first | refine Ca_ ?_ _ | refine Cn_ ?_ _ | refine Cd_ ?_))); (case side4 => exact HC3.out); rintro e w33 ⟨v417, rfl, ho0, hb⟩; have HO418 := mk0 (Kd.R_lower ho0 (below_size (by with_reducible repeat (first | exact HB.out | apply ba_ | apply bn_ | apply bd_)))); replace HB := mk0 (below_step (by with_reducible repeat (first | exact HB.out | apply ba_ | apply bn_ | apply bd_)) hb); clear hb ho0; obtain ⟨Ao34, co34, eo34⟩ := Kd.R_slice HO418.out; subst eo34)))
              go_ret
              exact ⟨by first | rfl | (simp [errW_none, errW_some] <;> rfl) | (simp [*, errW_none, errW_some] <;> rfl), by with_reducible repeat (first | exact HB.out | apply ba_ | apply bn_ | apply bd_)⟩
             ·
              rw [if_neg c32] at H
              have c32b0 : decide (a2 < (t416.length : Int)) = false := decide_eq_false c32
              clear c32
              replace H := bE_ H
              obtain ⟨t419, A350, H⟩ := H
              have A35 := mk0 A350
              clear A350
              by_cases c36 : t419 = true
              ·
               subst c36
               rw [if_pos rfl] at H
               have H' := mk0 H
               clear H
               have p409 : 0 ≤ (x9_2 : Int) := od_ (by with_reducible assumption)
               have q409 : x9_2 < (l0.length : Int) := od_ (by with_reducible assumption)
               obtain ⟨ad409, A409_1, c409_1, e409, hx409_0, hx409_1, hx409_2, hx409_3, hl409_1, hi409_1⟩ := at_T41 HR0.out x9_2 p409 q409
               cases e409
               replace hx409_0 := (HB.out.cell (World.block_lt_of_cell? w _ hx409_0)).trans hx409_0
               replace hx409_1 := (HB.out.cell (World.block_lt_of_cell? w _ hx409_1)).trans hx409_1
               replace hx409_2 := (HB.out.cell (World.block_lt_of_cell? w _ hx409_2)).trans hx409_2
               replace hx409_3 := (HB.out.cell (World.block_lt_of_cell? w _ hx409_3)).trans hx409_3
               have HR409_1 := mk0 hi409_1
               have HC409_1 := mk0 hl409_1
               clear hi409_1 hl409_1
               replace p409 := eq_true p409
               replace q409 := eq_true q409
               have p415 : 0 ≤ (x9_2 : Int) := od_ (by with_reducible assumption)
               have q415 : x9_2 < (l3.length : Int) := od_ (by with_reducible assumption)
               obtain ⟨ad415, e415, hx415_0⟩ := Kd.at_int HR3.out x9_2 p415 q415
               cases e415
               replace hx415_0 := (HB.out.cell (World.block_lt_of_cell? w _ hx415_0)).trans hx415_0
               replace p415 := eq_true p415
               replace q415 := eq_true q415
               go_wp2_with (first | (go_at_call 88; (with_reducible refine (spec_runningAt.calls k3 _ _ l0 _ _ l3 (rd l3 x9_2) t416 _ ?side1 ?side2 ?side3 ?side4 A31.out).mono ?_); (case side1 => repeat (first | exact (Kd.C_below HR0.out HB.out) | (with_reducible first | refine Ca_ ?_ _ | refine Cn_ ?_ _ | refine Cd_ ?_))); (case side2 => exact HC0.out); (case side3 => repeat (first | exact (Kd.C_below HR3.out HB.out) | (with_reducible first | refine Ca_ ?_ _ | refine Cn_ ?_ _ | refine Cd_ ?_))); (case side4 => exact HC3.out); rintro e w37 ⟨v417, rfl, ho0, hb⟩; have HO418 := mk0 (Kd.R_lower ho0 (below_size (by with_reducible repeat (first | exact HB.out | apply ba_ | apply bn_ | apply bd_)))); replace HB := mk0 (below_step (by with_reducible repeat (first | exact HB.out | apply ba_ | apply bn_ | apply bd_)) hb); clear hb ho0; obtain ⟨Ao38, co38, eo38⟩ := Kd.R_slice HO418.out; subst eo38) | (go_at_call 122; (with_reducible refine (spec_validRunning.calls k3 _ _ l0 _ _ l1 _ _ t416 true _ ?side1 ?side2 ?side3 ?side4 ?side5 ?side6 A35.out).mono ?_); (case side1 => repeat (first | exact (Kd.C_below HR0.out HB.out) | (with_reducible first | refine Ca_ ?_ _ | refine Cn_ ?_ _ | refine Cd_ ?_))); (case side2 => exact HC0.out); (case side3 => repeat (first | exact (Kd.C_below HR1.out HB.out) | (with_reducible first | refine Ca_ ?_ _ | refine Cn_ ?_ _ | refine Cd_ ?_))); (case side4 => exact HC1.out); (case side5 => repeat (first | exact (Kd.R_reads' HO418.out).2.2 | (with_reducible first | refine Ca_ ?_ _ | refine Cn_ ?_ _ | refine Cd_ ?_))); (case side6 => exact (Kd.R_reads' HO418.out).2.1); rintro e w39 ⟨rfl, hb⟩; replace HO418 := mk0 (Kd.R_below (by (with_reducible repeat (first | apply Ra_ | apply Rn_ | apply Rd_)); exact HO418.out) hb); replace HB := mk0 (below_step (by with_reducible repeat (first | exact HB.out | apply ba_ | apply bn_ | apply bd_)) hb); clear hb))
               repeat (go_quiet (first | (go_at_call 88; (with_reducible refine (spec_runningAt.calls k3 _ _ l0 _ _ l3 (rd l3 x9_2) t416 _ ?side1 ?side2 ?side3 ?side4 A31.out).mono ?_); (case side1 => repeat (first | exact (Kd.C_below HR0.out HB.out) | (with_reducible first | refine Ca_ ?_ _ | refine Cn_ ?_ _ | refine Cd_ ?_))); (case side2 => exact HC0.out); (case side3 => repeat (first | exact (Kd.C_below HR3.out HB.out) | (with_reducible first | refine Ca_ ?_ _ | refine Cn_ ?_ _ | refine Cd_ ?_))); (case side4 => exact HC3.out); rintro e w37 ⟨v417, rfl, ho0, hb⟩; have HO418 := mk0 (Kd.R_lower ho0 (below_size (by with_reducible repeat (first | exact HB.out | apply ba_ | apply bn_ | apply bd_)))); replace HB := mk0 (below_step (by with_reducible repeat (first | exact HB.out | apply ba_ | apply bn_ | apply bd_)) hb); clear hb ho0; obtain ⟨Ao38, co38, eo38⟩ := Kd.R_slice HO418.out; subst eo38) | (go_at_call 122; (with_reducible refine (spec_validRunning.calls k3 _ _ l0 _ _ l1 _ _ t416 true _ ?side1 ?side2 ?side3 ?side4 ?side5 ?side6 A35.out).mono ?_); (case side1 => repeat (first | exact (Kd.C_below HR0.out HB.out) | (with_reducible first | refine Ca_ ?_ _ | refine Cn_ ?_ _ | refine Cd_ ?_))); (case side2 => exact HC0.out); (case side3 => repeat (first | exact (Kd.C_below HR1.out HB.out) | (with_reducible first | refine Ca_ ?_ _ | refine Cn_ ?_ _ | refine Cd_ ?_))); (case side4 => exact HC1.out); (case side5 => repeat (first | exact (Kd.R_reads' HO418.out).2.2 | (with_reducible first | refine Ca_ ?_ _ | refine Cn_ ?_ _ | refine Cd_ ?_))); (case side6 => exact (Kd.R_reads' HO418.out).2.1); rintro e w39 ⟨rfl, hb⟩; replace HO418 := mk0 (Kd.R_below (by (with_reducible repeat (first | apply Ra_ | apply Rn_ | apply Rd_)); exact HO418.out) hb); replace HB := mk0 (below_step (by with_reducible repeat (first | exact HB.out | apply ba_ | apply bn_ | apply bd_)) hb); clear hb)); try go_wp2_with (first | (go_at_call 88; (with_reducible refine (spec_runningAt.calls k3 _ _ l0 _ _ l3 (rd l3 x9_2) t416 _ ?side1 ?side2 ?side3 ?side4 A31.out).mono ?_); (case side1 => repeat (first | exact (Kd.C_below HR0.out HB.out) | (with_reducible first | refine Ca_ ?_ _ | refine Cn_ ?_ _ | refine Cd_ ?_))); (case side2 => exact HC0.out); (case side3 => repeat (first | exact (Kd.C_below HR3.out HB.out) | (with_reducible first | refine Ca_ ?_ _ | refine Cn_ ?_ _ | refine Cd_ ?_))); (case side4 => exact HC3.out); rintro e w37 ⟨v417, rfl, ho0, hb⟩; have HO418 := mk0 (Kd.R_lower ho0 (below_size (by with_reducible repeat (first | exact HB.out | apply ba_ | apply bn_ | apply bd_)))); replace HB := mk0 (below_step (by with_reducible repeat (first | exact HB.out | apply ba_ | apply bn_ | apply bd_)) hb); clear hb ho0; obtain ⟨Ao38, co38, eo38⟩ := Kd.R_slice HO418.out; subst eo38) | (go_at_call 122; (with_reducible refine (spec_validRunning.calls k3 _ _ l0 _ _ l1 _ _ t416 true _ ?side1 ?side2 ?side3 ?side4 ?side5 ?side6 A35.out).mono ?_); (case side1 => repeat (first | exact (Kd.C_below HR0.out HB.out) | (with_reducible first | refine Ca_ ?_ _ | refine Cn_ ?_ _ | refine Cd_ ?_))); (case side2 => exact HC0.out); (case side3 => repeat (first | exact (Kd.C_below HR1.out HB.out) | (with_reducible first | refine Ca_ ?_ _ | refine Cn_ ?_ _ | refine Cd_ ?_))); (case side4 => exact HC1.out); (case side5 => repeat (first | exact (Kd.R_reads' HO418.out).2.2 | (with_reducible first | refine Ca_ ?_ _ | refine Cn_ ?_ _ | refine Cd_ ?_))); (case side6 => exact (Kd.R_reads' HO418.out).2.1); rintro e w39 ⟨rfl, hb⟩; replace HO418 := mk0 (Kd.R_below (by (with_reducible repeat (first | apply Ra_ | apply Rn_ | apply Rd_)); exact HO418.out) hb); replace HB := mk0 (below_step (by with_reducible repeat (first | exact HB.out | apply ba_ | apply bn_ | apply bd_)) hb); clear hb)))
               go_roundg k3
               case measure => have := HJ4.out; have := HK2.out; have := HK3.out; omega
               case rel => exact ⟨(wrap64 (x9_2 + 1)), (by first | rfl | (simp; done) | (simp [*]; done)), H', ⟨by have := HJ4.out; have := HK2.out; have := HK3.out; omega⟩, ⟨by with_reducible repeat (first | exact HB.out | apply ba_ | apply bn_ | apply bd_)⟩⟩
              ·
               replace c36 := Bool.eq_false_iff.mpr c36
               subst c36
               rw [if_neg (show ¬ (false = true) by decide)] at H
               obtain rfl := Option.some.inj H
               have p409 : 0 ≤ (x9_2 : Int) := od_ (by with_reducible assumption)
               have q409 : x9_2 < (l0.length : Int) := od_ (by with_reducible assumption)
               obtain ⟨ad409, A409_1, c409_1, e409, hx409_0, hx409_1, hx409_2, hx409_3, hl409_1, hi409_1⟩ := at_T41 HR0.out x9_2 p409 q409
               cases e409
               replace hx409_0 := (HB.out.cell (World.block_lt_of_cell? w _ hx409_0)).trans hx409_0
               replace hx409_1 := (HB.out.cell (World.block_lt_of_cell? w _ hx409_1)).trans hx409_1
               replace hx409_2 := (HB.out.cell (World.block_lt_of_cell? w _ hx409_2)).trans hx409_2
               replace hx409_3 := (HB.out.cell (World.block_lt_of_cell? w _ hx409_3)).trans hx409_3
               have HR409_1 := mk0 hi409_1
               have HC409_1 := mk0 hl409_1
               clear hi409_1 hl409_1
               replace p409 := eq_true p409
               replace q409 := eq_true q409
               have p415 : 0 ≤ (x9_2 : Int) := od_ (by with_reducible assumption)
               have q415 : x9_2 < (l3.length : Int) := od_ (by with_reducible assumption)
               obtain ⟨ad415, e415, hx415_0⟩ := Kd.at_int HR3.out x9_2 p415 q415
               cases e415
               replace hx415_0 := (HB.out.cell (World.block_lt_of_cell? w _ hx415_0)).trans hx415_0
               replace p415 := eq_true p415
               replace q415 := eq_true q415
               go_wp2_with (first | (go_at_call 88; (with_reducible refine (spec_runningAt.calls k3 _ _ l0 _ _ l3 (rd l3 x9_2) t416 _ ?side1 ?side2 ?side3 ?side4 A31.out).mono ?_); (case side1 => repeat (first | exact (Kd.C_below HR0.out HB.out) | (with_reducible first | refine Ca_ ?_ _ | refine Cn_ ?_ _ | refine Cd_ ?_))); (case side2 => exact HC0.out); (case side3 => repeat (first | exact (Kd.C_below HR3.out HB.out) | (with_reducible first | refine Ca_ ?_ _ | refine Cn_ ?_ _ | refine Cd_ ?_))); (case side4 => exact HC3.out); rintro e w40 ⟨v417, rfl, ho0, hb⟩; have HO418 := mk0 (Kd.R_lower ho0 (below_size (by with_reducible repeat (first | exact HB.out | apply ba_ | apply bn_ | apply bd_)))); replace HB := mk0 (below_step (by with_reducible repeat (first | exact HB.out | apply ba_ | apply bn_ | apply bd_)) hb); clear hb ho0; obtain ⟨Ao41, co41, eo41⟩ := Kd.R_slice HO418.out; subst eo41) | (go_at_call 122; (with_reducible refine (spec_validRunning.calls k3 _ _ l0 _ _ l1 _ _ t416 false _ ?side1 ?side2 ?side3 ?side4 ?side5 ?side6 A35.out).mono ?_); (case side1 => repeat (first | exact (Kd.C_below HR0.out HB.out) | (with_reducible first | refine Ca_ ?_ _ | refine Cn_ ?_ _ | refine Cd_ ?_))); (case side2 => exact HC0.out); (case side3 => repeat (first | exact (Kd.C_below HR1.out HB.out) | (with_reducible first | refine Ca_ ?_ _ | refine Cn_ ?_ _ | refine Cd_ ?_))); (case side4 => exact HC1.out); (case side5 => repeat (first | exact (Kd.R_reads' HO418.out).2.2 | (with_reducible first | refine Ca_ ?_ _ | refine Cn_ ?_ _ | refine Cd_ ?_))); (case side6 => exact (Kd.R_reads' HO418.out).2.1); rintro e w42 ⟨rfl, hb⟩; replace HO418 := mk0 (Kd.R_below (by (with_reducible repeat (first | apply Ra_ | apply Rn_ | apply Rd_)); exact HO418.out) hb); replace HB := mk0 (below_step (by with_reducible repeat (first | exact HB.out | apply ba_ | apply bn_ | apply bd_)) hb); clear hb))
               repeat (go_quiet (first | (go_at_call 88; (with_reducible refine (spec_runningAt.calls k3 _ _ l0 _ _ l3 (rd l3 x9_2) t416 _ ?side1 ?side2 ?side3 ?side4 A31.out).mono ?_); (case side1 => repeat (first | exact (Kd.C_below HR0.out HB.out) | (with_reducible first | refine Ca_ ?_ _ | refine Cn_ ?_ _ | refine Cd_ ?_))); (case side2 => exact HC0.out); (case side3 => repeat (first | exact (Kd.C_below HR3.out HB.out) | (with_reducible first | refine Ca_ ?_ _ | refine Cn_ ?_ _ | refine Cd_ ?_))); (case side4 => exact HC3.out); rintro e w40 ⟨v417, rfl, ho0, hb⟩; have HO418 := mk0 (Kd.R_lower ho0 (below_size (by with_reducible repeat (first | exact HB.out | apply ba_ | apply bn_ | apply bd_)))); replace HB := mk0 (below_step (by with_reducible repeat (first | exact HB.out | apply ba_ | apply bn_ | apply bd_)) hb); clear hb ho0; obtain ⟨Ao41, co41, eo41⟩ := Kd.R_slice HO418.out; subst eo41) | (go_at_call 122; (with_reducible refine (spec_validRunning.calls k3 _ _ l0 _ _ l1 _ _ t416 false _ ?side1 ?side2 ?side3 ?side4 ?side5 ?side6 A35.out).mono ?_); (case side1 => repeat (first | exact (Kd.C_below HR0.out HB.out) | (with_reducible first | refine Ca_ ?_ _ | refine Cn_ ?_ _ | refine Cd_ ?_))); (case side2 => exact HC0.out); (case side3 => repeat (first | exact (Kd.C_below HR1.out HB.out) | (with_reducible first | refine Ca_ ?_ _ | refine Cn_ ?_ _ | refine Cd_ ?_))); (case side4 => exact HC1.out); (case side5 => repeat (first | exact (Kd.R_reads' HO418.out).2.2 | (with_reducible first | refine Ca_ ?_ _ | refine Cn_ ?_ _ | refine Cd_ ?_))); (case side6 => exact (Kd.R_reads' HO418.out).2.1); rintro e w42 ⟨rfl, hb⟩; replace HO418 := mk0 (Kd.R_below (by (with_reducible repeat (first | apply Ra_ | apply Rn_ | apply Rd_)); exact HO418.out) hb); replace HB := mk0 (below_step (by with_reducible repeat (first | exact HB.out | apply ba_ | apply bn_ | apply bd_)) hb); clear hb)); try go_wp2_with (first | (go_at_call 88; (with_reducible refine (spec_runningAt.calls k3 _ _ l0 _ _ l3 (rd l3 x9_2) t416 _ ?side1 ?side2 ?side3 ?side4 A31.out).mono ?_); (case side1 => repeat (first | exact (Kd.C_below HR0.out HB.out) | (with_reducible first | refine Ca_ ?_ _ | refine Cn_ ?_ _ | refine Cd_ ?_))); (case side2 => exact HC0.out); (case side3 => repeat (first | exact (Kd.C_below HR3.out HB.out) | (with_reducible first | refine Ca_ ?_ _ | refine Cn_ ?_ _ | refine Cd_ ?_))); (case side4 => exact HC3.out); rintro e w40 ⟨v417, rfl, ho0, hb⟩; have HO418 := mk0 (Kd.R_lower ho0 (below_size (by with_reducible repeat (first | exact HB.out | apply ba_ | apply bn_ | apply bd_)))); replace HB := mk0 (below_step (by with_reducible repeat (first | exact HB.out | apply ba_ | apply bn_ | apply bd_)) hb); clear hb ho0; obtain ⟨Ao41, co41, eo41⟩ := Kd.R_slice HO418.out; subst eo41) | (go_at_call 122; (with_reducible refine (spec_validRunning.calls k3 _ _ l0 _ _ l1 _ _ t416 false _ ?side1 ?side2 ?side3 ?side4 ?side5 ?side6 A35.out).mono ?_); (case side1 => repeat (first | exact (Kd.C_below HR0.out HB.out) | (with_reducible first | refine Ca_ ?_ _ | refine Cn_ ?_ _ | refine Cd_ ?_))); (case side2 => exact HC0.out); (case side3 => repeat (first | exact (Kd.C_below HR1.out HB.out) | (with_reducible first | refine Ca_ ?_ _ | refine Cn_ ?_ _ | refine Cd_ ?_))); (case side4 => exact HC1.out); (case side5 => repeat (first | exact (Kd.R_reads' HO418.out).2.2 | (with_reducible first | refine Ca_ ?_ _ | refine Cn_ ?_ _ | refine Cd_ ?_))); (case side6 => exact (Kd.R_reads' HO418.out).2.1); rintro e w42 ⟨rfl, hb⟩; replace HO418 := mk0 (Kd.R_below (by (with_reducible repeat (first | apply Ra_ | apply Rn_ | apply Rd_)); exact HO418.out) hb); replace HB := mk0 (below_step (by with_reducible repeat (first | exact HB.out | apply ba_ | apply bn_ | apply bd_)) hb); clear hb)))
               go_ret
               exact ⟨by first | rfl | (simp [errW_none, errW_some] <;> rfl) | (simp [*, errW_none, errW_some] <;> rfl), by with_reducible repeat (first | exact HB.out | apply ba_ | apply bn_ | apply bd_)⟩
            ·
             rw [if_neg c30] at H
             exact nn_ H
          ·
           rw [if_neg c22] at H
           exact nn_ H
         ·
          rw [if_neg c21] at H
          exact nn_ H
      ·
       rw [if_neg c20] at H
       have c20b0 : decide (x9_2 < (l0.length : Int)) = false := decide_eq_false c20
       clear c20
       obtain rfl := Option.some.inj H
       go_wp2
       repeat (go_quiet (fail); try go_wp2)
       go_ret
       exact ⟨by first | rfl | (simp [errW_none, errW_some] <;> rfl) | (simp [*, errW_none, errW_some] <;> rfl), by with_reducible repeat (first | exact HB.out | apply ba_ | apply bn_ | apply bd_)⟩
/-! spec_LogOf -/
mutual
def spec_LogOf.l0 : Nat → List (S41) → List Int → List (S30) → Int → Option ((List (S30)))
 | 0, _, _, _, _ => none
 | k + 1, x0, x3, x9, x10 => if x10 ≤ 220 then (spec_LogOf.l1 k x0 x3 x9 x10 0) else (some x9)
def spec_LogOf.l1 : Nat → List (S41) → List Int → List (S30) → Int → Int → Option ((List (S30)))
 | 0, _, _, _, _, _ => none
 | k + 1, x0, x3, x9, x10, x11 => if x11 < (x0.length : Int) then (if 0 ≤ x11 then (if x11 < (x3.length : Int) then (if (wrap64 ((rd x3 x11) + ((rd_T41 x0 x11).f0))) = x10 then (if x9.length < 5864062014805 then (spec_LogOf.l1 k x0 x3 (x9 ++ [(⟨x10, x11, true⟩ : S30)]) x10 (wrap64 (x11 + 1))) else (none)) else (spec_LogOf.l1 k x0 x3 x9 x10 (wrap64 (x11 + 1)))) else (none)) else (none)) else (spec_LogOf.l2 k x0 x3 x9 x10 0)
def spec_LogOf.l2 : Nat → List (S41) → List Int → List (S30) → Int → Int → Option ((List (S30)))
 | 0, _, _, _, _, _ => none
 | k + 1, x0, x3, x9, x10, x12 => if x12 < (x0.length : Int) then (if 0 ≤ x12 then (if x12 < (x3.length : Int) then (if (rd x3 x12) = x10 then (if x9.length < 5864062014805 then (spec_LogOf.l2 k x0 x3 (x9 ++ [(⟨x10, x12, false⟩ : S30)]) x10 (wrap64 (x12 + 1))) else (none)) else (spec_LogOf.l2 k x0 x3 x9 x10 (wrap64 (x12 + 1)))) else (none)) else (none)) else (spec_LogOf.l0 k x0 x3 x9 (wrap64 (x10 + 1)))
end
def spec_LogOf.f (k : Nat) (l0 : List (S41)) (l1 : List Int) (a2 : Int) (l3 : List Int) : Option ((List (S30))) := (spec_validStarts.f k l0 l1 a2 l3).bind fun t423 => (if t423 = true then (spec_LogOf.l0 k l0 l3 (([] : List (S30))) 0) else (some ([] : List (S30))))
set_option maxHeartbeats 8000000 in
set_option maxRecDepth 100000 in
theorem spec_LogOf.calls (k : Nat) (A0 : Option Addr) (c0 : Nat) (l0 : List (S41)) (A1 : Option Addr) (c1 : Nat) (l1 : List Int) (a2 : Int) (A3 : Option Addr) (c3 : Nat) (l3 : List Int) (r : List (S30)) (w : World) (hr0 : Kd.C k41 w A0 l0.length l0) (hc0 : l0.length ≤ c0) (hr1 : Kd.C (Kd.int .i64) w A1 l1.length l1) (hc1 : l1.length ≤ c1) (hr3 : Kd.C (Kd.int .i64) w A3 l3.length l3) (hc3 : l3.length ≤ c3) (h : spec_LogOf.f k l0 l1 a2 l3 = some r) :
  Calls Tryd.prog 96 #[.slice A0 l0.length c0, .slice A1 l1.length c1, .int .i64 a2, .slice A3 l3.length c3] w fun e w' => ∃ v0_ : Value, e = .returned (v0_) ∧ Kd.R k30 75 w' w.heap.size (fun _ => True) v0_ r ∧ Below w.heap.size w w' := by
 have hu75 := Tryd.underlying75
 have HR0 := mk0 hr0
 have HC0 := mk0 hc0
 clear hr0 hc0
 have HR1 := mk0 hr1
 have HC1 := mk0 hc1
 clear hr1 hc1
 have HR3 := mk0 hr3
 have HC3 := mk0 hc3
 clear hr3 hc3
 have HB := mk0 (Below.refl w.heap.size w)
 have H : ((spec_validStarts.f k l0 l1 a2 l3).bind fun t423 => (if t423 = true then (spec_LogOf.l0 k l0 l3 (([] : List (S30))) 0) else (some ([] : List (S30))))) = some r := h
 clear h
 obtain ⟨y420, hy420⟩ : ∃ y_ : List (S30), y_ = (([] : List (S30))) := ⟨_, rfl⟩
 replace H : ((spec_validStarts.f k l0 l1 a2 l3).bind fun t423 => (if t423 = true then (spec_LogOf.l0 k l0 l3 y420 0) else (some ([] : List (S30))))) = some r := by first | (rw [hy420]; with_reducible exact H) | (rw [hy420]; exact (Option.bind_some _ _).symm.trans H) | (rw [hy420]; exact H) | exact H
 have Ny420 := mk0 hy420
 clear hy420
 replace H := bE_ H
 obtain ⟨t423, A50, H⟩ := H
 have A5 := mk0 A50
 clear A50
 by_cases c6 : t423 = true
 ·
  subst c6
  rw [if_pos rfl] at H
  have H' := mk0 H
  clear H
  go_enter Tryd.func96, Tryd.ntmps96
  go_wp2_with (first | ((with_reducible refine gate_dst (N := 13) rfl ?_); refine Kd.R_lit k30 _ 75 ?hg (N := 13) ?hd (xs := ([] : List (S30))) (inner := []) (ok := fun _ => True) (okp := fun _ => True) ?hr ?hp (fun _ hk => hk) trivial (Below.refl _ _) (Nat.le_refl _) (by simp) ?_; (case hd => rfl); (case hg => rfl); (case hr => first | (go_simp; done) | (go_simp; rfl)); (case hp => exact (Reps.none _ _)); intro v421 w7 ho8 hb hg_ hnew_; clear hg_ hnew_; (first | rw [← Ny420.out] at ho8 | (simp only [Int.reduceToNat] at ho8; rw [← Ny420.out] at ho8)); have HO422 := mk0 (Kd.R_lower ho8 (below_size (by with_reducible repeat (first | exact HB.out | apply ba_ | apply bn_ | apply bd_)))); replace HB := mk0 (below_step (by with_reducible repeat (first | exact HB.out | apply ba_ | apply bn_ | apply bd_)) hb); clear hb ho8) | (go_at_call 117; (with_reducible refine (spec_validStarts.calls k _ _ l0 _ _ l1 a2 _ _ l3 true _ ?side1 ?side2 ?side3 ?side4 ?side5 ?side6 A5.out).mono ?_); (case side1 => repeat (first | exact (Kd.C_below HR0.out HB.out) | (with_reducible first | refine Ca_ ?_ _ | refine Cn_ ?_ _ | refine Cd_ ?_))); (case side2 => exact HC0.out); (case side3 => repeat (first | exact (Kd.C_below HR1.out HB.out) | (with_reducible first | refine Ca_ ?_ _ | refine Cn_ ?_ _ | refine Cd_ ?_))); (case side4 => exact HC1.out); (case side5 => repeat (first | exact (Kd.C_below HR3.out HB.out) | (with_reducible first | refine Ca_ ?_ _ | refine Cn_ ?_ _ | refine Cd_ ?_))); (case side6 => exact HC3.out); rintro e w9 ⟨rfl, hb⟩; replace HO422 := mk0 (Kd.R_below (by (with_reducible repeat (first | apply Ra_ | apply Rn_ | apply Rd_)); exact HO422.out) hb); replace HB := mk0 (below_step (by with_reducible repeat (first | exact HB.out | apply ba_ | apply bn_ | apply bd_)) hb); clear hb))
  repeat (go_quiet (first | ((with_reducible refine gate_dst (N := 13) rfl ?_); refine Kd.R_lit k30 _ 75 ?hg (N := 13) ?hd (xs := ([] : List (S30))) (inner := []) (ok := fun _ => True) (okp := fun _ => True) ?hr ?hp (fun _ hk => hk) trivial (Below.refl _ _) (Nat.le_refl _) (by simp) ?_; (case hd => rfl); (case hg => rfl); (case hr => first | (go_simp; done) | (go_simp; rfl)); (case hp => exact (Reps.none _ _)); intro v421 w7 ho8 hb hg_ hnew_; clear hg_ hnew_; (first | rw [← Ny420.out] at ho8 | (simp only [Int.reduceToNat] at ho8; rw [← Ny420.out] at ho8)); have HO422 := mk0 (Kd.R_lower ho8 (below_size (by with_reducible repeat (first | exact HB.out | apply ba_ | apply bn_ | apply bd_)))); replace HB := mk0 (below_step (by with_reducible repeat (first | exact HB.out | apply ba_ | apply bn_ | apply bd_)) hb); clear hb ho8) | (go_at_call 117; (with_reducible refine (spec_validStarts.calls k _ _ l0 _ _ l1 a2 _ _ l3 true _ ?side1 ?side2 ?side3 ?side4 ?side5 ?side6 A5.out).mono ?_); (case side1 => repeat (first | exact (Kd.C_below HR0.out HB.out) | (with_reducible first | refine Ca_ ?_ _ | refine Cn_ ?_ _ | refine Cd_ ?_))); (case side2 => exact HC0.out); (case side3 => repeat (first | exact (Kd.C_below HR1.out HB.out) | (with_reducible first | refine Ca_ ?_ _ | refine Cn_ ?_ _ | refine Cd_ ?_))); (case side4 => exact HC1.out); (case side5 => repeat (first | exact (Kd.C_below HR3.out HB.out) | (with_reducible first | refine Ca_ ?_ _ | refine Cn_ ?_ _ | refine Cd_ ?_))); (case side6 => exact HC3.out); rintro e w9 ⟨rfl, hb⟩; replace HO422 := mk0 (Kd.R_below (by (with_reducible repeat (first | apply Ra_ | apply Rn_ | apply Rd_)); exact HO422.out) hb); replace HB := mk0 (below_step (by with_reducible repeat (first | exact HB.out | apply ba_ | apply bn_ | apply bd_)) hb); clear hb)); try go_wp2_with (first | ((with_reducible refine gate_dst (N := 13) rfl ?_); refine Kd.R_lit k30 _ 75 ?hg (N := 13) ?hd (xs := ([] : List (S30))) (inner := []) (ok := fun _ => True) (okp := fun _ => True) ?hr ?hp (fun _ hk => hk) trivial (Below.refl _ _) (Nat.le_refl _) (by simp) ?_; (case hd => rfl); (case hg => rfl); (case hr => first | (go_simp; done) | (go_simp; rfl)); (case hp => exact (Reps.none _ _)); intro v421 w7 ho8 hb hg_ hnew_; clear hg_ hnew_; (first | rw [← Ny420.out] at ho8 | (simp only [Int.reduceToNat] at ho8; rw [← Ny420.out] at ho8)); have HO422 := mk0 (Kd.R_lower ho8 (below_size (by with_reducible repeat (first | exact HB.out | apply ba_ | apply bn_ | apply bd_)))); replace HB := mk0 (below_step (by with_reducible repeat (first | exact HB.out | apply ba_ | apply bn_ | apply bd_)) hb); clear hb ho8) | (go_at_call 117; (with_reducible refine (spec_validStarts.calls k _ _ l0 _ _ l1 a2 _ _ l3 true _ ?side1 ?side2 ?side3 ?side4 ?side5 ?side6 A5.out).mono ?_); (case side1 => repeat (first | exact (Kd.C_below HR0.out HB.out) | (with_reducible first | refine Ca_ ?_ _ | refine Cn_ ?_ _ | refine Cd_ ?_))); (case side2 => exact HC0.out); (case side3 => repeat (first | exact (Kd.C_below HR1.out HB.out) | (with_reducible first | refine Ca_ ?_ _ | refine Cn_ ?_ _ | refine Cd_ ?_))); (case side4 => exact HC1.out); (case side5 => repeat (first | exact (Kd.C_below HR3.out HB.out) | (with_reducible first | refine Ca_ ?_ _ | refine Cn_ ?_ _ | refine Cd_ ?_))); (case side6 => exact HC3.out); rintro e w9 ⟨rfl, hb⟩; replace HO422 := mk0 (Kd.R_below (by (with_reducible repeat (first | apply Ra_ | apply Rn_ | apply Rd_)); exact HO422.out) hb); replace HB := mk0 (below_step (by with_reducible repeat (first | exact HB.out | apply ba_ | apply bn_ | apply bd_)) hb); clear hb)))
  go_loopg [9, 10] k (fun kq v9 v10 w' => ∃ (x9_1 : List (S30)) (x10_1 : Int), v10 = .int .i64 x10_1 ∧ Aside0 (spec_LogOf.l0 kq l0 l3 x9_1 x10_1 = some r) ∧ Aside0 (kq ≤ k) ∧ Aside0 (Kd.R k30 75 w' w.heap.size (fun _ => True) v9 x9_1) ∧ Aside0 (Below w.heap.size w w'))
  case atStart => exact ⟨(y420), (0), (by first | rfl | (simp; done) | (simp [*]; done)), H', ⟨Nat.le_refl _⟩, ⟨by (with_reducible repeat (first | apply Ra_ | apply Rn_ | apply Rd_)); exact HO422.out⟩, ⟨by with_reducible repeat (first | exact HB.out | apply ba_ | apply bn_ | apply bd_)⟩⟩
  case round =>
   clear H'
   try clear c1
   try clear p2
   try clear c3
   try clear c6
   try clear c9
   obtain ⟨x9_1, x10_1, rfl, HA, HK1, HO_9, HB⟩ := hrel
   cases gk with
   | zero => exact absurd HA.out (by simp [spec_LogOf.l0])
   | succ k1 =>
    have H := HA.out
    clear HA
    simp only [spec_LogOf.l0] at H
    by_cases c10 : x10_1 ≤ 220
    ·
     rw [if_pos c10] at H
     have c10b0 : decide (x10_1 ≤ 220) = true := decide_eq_true c10
     clear c10
     have H' := mk0 H
     clear H
     go_wp2
     repeat (go_quiet (fail); try go_wp2)
     go_loopg [9, 11] k1 (fun kq v9 v11 w' => ∃ (x9_2 : List (S30)) (x11_2 : Int), v11 = .int .i64 x11_2 ∧ Aside0 (spec_LogOf.l1 kq l0 l3 x9_2 x10_1 x11_2 = some r) ∧ Aside0 (kq ≤ k1) ∧ Aside0 (Kd.R k30 75 w' w.heap.size (fun _ => True) v9 x9_2) ∧ Aside0 (Below w.heap.size w w'))
     case atStart => exact ⟨(x9_1), (0), (by first | rfl | (simp; done) | (simp [*]; done)), H', ⟨Nat.le_refl _⟩, ⟨by (with_reducible repeat (first | apply Ra_ | apply Rn_ | apply Rd_)); exact HO_9.out⟩, ⟨by with_reducible repeat (first | exact HB.out | apply ba_ | apply bn_ | apply bd_)⟩⟩
     case round =>
      clear H'
      try clear c1
      try clear p2
      try clear c3
      try clear c6
      try clear c9
      try clear c10
      try clear c10b0
      try clear p2
      obtain ⟨x9_2, x11_2, rfl, HA, HK2, HO_9, HB⟩ := hrel
      cases gk with
      | zero => exact absurd HA.out (by simp [spec_LogOf.l1])
      | succ k2 =>
       have H := HA.out
       clear HA
       simp only [spec_LogOf.l1] at H
       by_cases c11 : x11_2 < (l0.length : Int)
       ·
        rw [if_pos c11] at H
        have c11b0 : decide (x11_2 < (l0.length : Int)) = true := decide_eq_true c11
        clear c11
        by_cases c12 : 0 ≤ x11_2
        ·
         rw [if_pos c12] at H
         have c12b0 : decide (0 ≤ x11_2) = true := decide_eq_true c12
         clear c12
         by_cases c13 : x11_2 < (l3.length : Int)
         ·
          rw [if_pos c13] at H
          have c13b0 : decide (x11_2 < (l3.length : Int)) = true := decide_eq_true c13
          clear c13
          by_cases c14 : (wrap64 ((rd l3 x11_2) + ((rd_T41 l0 x11_2).f0))) = x10_1
          ·
           rw [if_pos c14] at H
           have c14b0 : ((wrap64 ((rd l3 x11_2) + ((rd_T41 l0 x11_2).f0))) == x10_1) = true := beq_iff_eq.mpr c14
           have c14b1 : ((wrap64 ((rd l3 x11_2) + ((rd_T41 l0 x11_2).f0))) != x10_1) = false := bne_eq_false_iff_eq.mpr c14
           clear c14
           by_cases c15 : x9_2.length < 5864062014805
           ·
            rw [if_pos c15] at H
            have LMc15 := mk0 c15
            clear c15
            obtain ⟨y426, hy426⟩ : ∃ y_ : List (S30), y_ = (x9_2 ++ [(⟨x10_1, x11_2, true⟩ : S30)]) := ⟨_, rfl⟩
            replace H : (spec_LogOf.l1 k2 l0 l3 y426 x10_1 (wrap64 (x11_2 + 1))) = some r := by first | (rw [hy426]; with_reducible exact H) | (rw [hy426]; exact (Option.bind_some _ _).symm.trans H) | (rw [hy426]; exact H) | exact H
            have Ny426 := mk0 hy426
            clear hy426
            have H' := mk0 H
            clear H
            have p424 : 0 ≤ (x11_2 : Int) := od_ (by with_reducible assumption)
            have q424 : x11_2 < (l3.length : Int) := od_ (by with_reducible assumption)
            obtain ⟨ad424, e424, hx424_0⟩ := Kd.at_int HR3.out x11_2 p424 q424
            cases e424
            replace hx424_0 := (HB.out.cell (World.block_lt_of_cell? w _ hx424_0)).trans hx424_0
            replace p424 := eq_true p424
            replace q424 := eq_true q424
            have p425 : 0 ≤ (x11_2 : Int) := od_ (by with_reducible assumption)
            have q425 : x11_2 < (l0.length : Int) := od_ (by with_reducible assumption)
            obtain ⟨ad425, A425_1, c425_1, e425, hx425_0, hx425_1, hx425_2, hx425_3, hl425_1, hi425_1⟩ := at_T41 HR0.out x11_2 p425 q425
            cases e425
            replace hx425_0 := (HB.out.cell (World.block_lt_of_cell? w _ hx425_0)).trans hx425_0
            replace hx425_1 := (HB.out.cell (World.block_lt_of_cell? w _ hx425_1)).trans hx425_1
            replace hx425_2 := (HB.out.cell (World.block_lt_of_cell? w _ hx425_2)).trans hx425_2
            replace hx425_3 := (HB.out.cell (World.block_lt_of_cell? w _ hx425_3)).trans hx425_3
            have HR425_1 := mk0 hi425_1
            have HC425_1 := mk0 hl425_1
            clear hi425_1 hl425_1
            replace p425 := eq_true p425
            replace q425 := eq_true q425
            go_wp2_with (first | ((with_reducible refine gate_builtin (b := .append) (xs := #[.tmp 42, .tmp 46]) rfl ?_); at_builtin; refine Kd.R_append k30 (w0 := w) w.heap.size rfl (.tmp 42) (.tmp 46) 39 75 (.agg #[(.int .i64 0), (.int .i64 0), (.bool false)]) 24 rfl Tryd.underlying39 info75 rfl (by decide) (by omega) u9 x9_2 (⟨x10_1, x11_2, true⟩ : S30) [.int .i64 x10_1, .int .i64 x11_2, .bool true] (fun _ => True) (fun _ => False) rfl rfl ?aP (fun _ hk => hk.elim) ?aF ?aO ?aB ?aS ?aL ?_; (case aP => exact k30_mkM _ _ _ (⟨x10_1, x11_2, true⟩ : S30)); (case aB => exact (by with_reducible repeat (first | exact HB.out | apply ba_ | apply bn_ | apply bd_))); (case aF => exact (fun _ _ => trivial)); (case aO => exact (by (with_reducible repeat (first | apply Ra_ | apply Rn_ | apply Rd_)); exact HO_9.out)); (case aS => exact (below_size (by with_reducible repeat (first | exact HB.out | apply ba_ | apply bn_ | apply bd_)))); (case aL => have := LMc15.out; omega); intro v427 w16 ho hb hg hat; rw [← Ny426.out] at ho; replace HB := mk0 (hb); have HO428 := mk0 (ho); clear HO_9; clear ho hb hg hat))
            repeat (go_quiet (first | ((with_reducible refine gate_builtin (b := .append) (xs := #[.tmp 42, .tmp 46]) rfl ?_); at_builtin; refine Kd.R_append k30 (w0 := w) w.heap.size rfl (.tmp 42) (.tmp 46) 39 75 (.agg #[(.int .i64 0), (.int .i64 0), (.bool false)]) 24 rfl Tryd.underlying39 info75 rfl (by decide) (by omega) u9 x9_2 (⟨x10_1, x11_2, true⟩ : S30) [.int .i64 x10_1, .int .i64 x11_2, .bool true] (fun _ => True) (fun _ => False) rfl rfl ?aP (fun _ hk => hk.elim) ?aF ?aO ?aB ?aS ?aL ?_; (case aP => exact k30_mkM _ _ _ (⟨x10_1, x11_2, true⟩ : S30)); (case aB => exact (by with_reducible repeat (first | exact HB.out | apply ba_ | apply bn_ | apply bd_))); (case aF => exact (fun _ _ => trivial)); (case aO => exact (by (with_reducible repeat (first | apply Ra_ | apply Rn_ | apply Rd_)); exact HO_9.out)); (case aS => exact (below_size (by with_reducible repeat (first | exact HB.out | apply ba_ | apply bn_ | apply bd_)))); (case aL => have := LMc15.out; omega); intro v427 w16 ho hb hg hat; rw [← Ny426.out] at ho; replace HB := mk0 (hb); have HO428 := mk0 (ho); clear HO_9; clear ho hb hg hat)); try go_wp2_with (first | ((with_reducible refine gate_builtin (b := .append) (xs := #[.tmp 42, .tmp 46]) rfl ?_); at_builtin; refine Kd.R_append k30 (w0 := w) w.heap.size rfl (.tmp 42) (.tmp 46) 39 75 (.agg #[(.int .i64 0), (.int .i64 0), (.bool false)]) 24 rfl Tryd.underlying39 info75 rfl (by decide) (by omega) u9 x9_2 (⟨x10_1, x11_2, true⟩ : S30) [.int .i64 x10_1, .int .i64 x11_2, .bool true] (fun _ => True) (fun _ => False) rfl rfl ?aP (fun _ hk => hk.elim) ?aF ?aO ?aB ?aS ?aL ?_; (case aP => exact k30_mkM _ _ _ (⟨x10_1, x11_2, true⟩ : S30)); (case aB => exact (by with_reducible repeat (first | exact HB.out | apply ba_ | apply bn_ | apply bd_))); (case aF => exact (fun _ _ => trivial)); (case aO => exact (by (with_reducible repeat (first | apply Ra_ | apply Rn_ | apply Rd_)); exact HO_9.out)); (case aS => exact (below_size (by with_reducible repeat (first | exact HB.out | apply ba_ | apply bn_ | apply bd_)))); (case aL => have := LMc15.out; omega); intro v427 w16 ho hb hg hat; rw [← Ny426.out] at ho; replace HB := mk0 (hb); have HO428 := mk0 (ho); clear HO_9; clear ho hb hg hat)))
            go_roundg k2
            case measure => have := HK1.out; have := HK2.out; omega
            case rel => exact ⟨(y426), (wrap64 (x11_2 + 1)), (by first | rfl | (simp; done) | (simp [*]; done)), H', ⟨by have := HK1.out; have := HK2.out; omega⟩, ⟨by (with_reducible repeat (first | apply Ra_ | apply Rn_ | apply Rd_)); exact HO428.out⟩, ⟨by with_reducible repeat (first | exact HB.out | apply ba_ | apply bn_ | apply bd_)⟩⟩
           ·
            rw [if_neg c15] at H
            exact nn_ H
          ·
           rw [if_neg c14] at H
           have c14b0 : ((wrap64 ((rd l3 x11_2) + ((rd_T41 l0 x11_2).f0))) == x10_1) = false := beq_eq_false_iff_ne.mpr c14
           have c14b1 : ((wrap64 ((rd l3 x11_2) + ((rd_T41 l0 x11_2).f0))) != x10_1) = true := bne_iff_ne.mpr c14
           have H' := mk0 H
           clear H
           have p424 : 0 ≤ (x11_2 : Int) := od_ (by with_reducible assumption)
           have q424 : x11_2 < (l3.length : Int) := od_ (by with_reducible assumption)
           obtain ⟨ad424, e424, hx424_0⟩ := Kd.at_int HR3.out x11_2 p424 q424
           cases e424
           replace hx424_0 := (HB.out.cell (World.block_lt_of_cell? w _ hx424_0)).trans hx424_0
           replace p424 := eq_true p424
           replace q424 := eq_true q424
           have p425 : 0 ≤ (x11_2 : Int) := od_ (by with_reducible assumption)
           have q425 : x11_2 < (l0.length : Int) := od_ (by with_reducible assumption)
           obtain ⟨ad425, A425_1, c425_1, e425, hx425_0, hx425_1, hx425_2, hx425_3, hl425_1, hi425_1⟩ := at_T41 HR0.out x11_2 p425 q425
           cases e425
           replace hx425_0 := (HB.out.cell (World.block_lt_of_cell? w _ hx425_0)).trans hx425_0
           replace hx425_1 := (HB.out.cell (World.block_lt_of_cell? w _ hx425_1)).trans hx425_1
           replace hx425_2 := (HB.out.cell (World.block_lt_of_cell? w _ hx425_2)).trans hx425_2
           replace hx425_3 := (HB.out.cell (World.block_lt_of_cell? w _ hx425_3)).trans hx425_3
           have HR425_1 := mk0 hi425_1
           have HC425_1 := mk0 hl425_1
           clear hi425_1 hl425_1
           replace p425 := eq_true p425
           replace q425 := eq_true q425
           go_wp2
           repeat (go_quiet (fail); try go_wp2)
           go_roundg k2
           case measure => have := HK1.out; have := HK2.out; omega
           case rel => exact ⟨(x9_2), (wrap64 (x11_2 + 1)), (by first | rfl | (simp; done) | (simp [*]; done)), H', ⟨by have := HK1.out; have := HK2.out; omega⟩, ⟨by (with_reducible repeat (first | apply Ra_ | apply Rn_ | apply Rd_)); exact HO_9.out⟩, ⟨by with_reducible repeat (first | exact HB.out | apply ba_ | apply bn_ | apply bd_)⟩⟩
         ·
          rw [if_neg c13] at H
          exact nn_ H
        ·
         rw [if_neg c12] at H
         exact nn_ H
       ·
        rw [if_neg c11] at H
        have c11b0 : decide (x11_2 < (l0.length : Int)) = false := decide_eq_false c11
        clear c11
        have H' := mk0 H
        clear H
        go_wp2
        repeat (go_quiet (fail); try go_wp2)
        go_loopg [9, 12] k2 (fun kq v9 v12 w' => ∃ (x9_3 : List (S30)) (x12_3 : Int), v12 = .int .i64 x12_3 ∧ Aside0 (spec_LogOf.l2 kq l0 l3 x9_3 x10_1 x12_3 = some r) ∧ Aside0 (kq ≤ k2) ∧ Aside0 (Kd.R k30 75 w' w.heap.size (fun _ => True) v9 x9_3) ∧ Aside0 (Below w.heap.size w w'))
        case atStart => exact ⟨(x9_2), (0), (by first | rfl | (simp; done) | (simp [*]; done)), H', ⟨Nat.le_refl _⟩, ⟨by (with_reducible repeat (first | apply Ra_ | apply Rn_ | apply Rd_)); exact HO_9.out⟩, ⟨by with_reducible repeat (first | exact HB.out | apply ba_ | apply bn_ | apply bd_)⟩⟩
        case round =>
         clear H'
         try clear c1
         try clear p2
         try clear c3
         try clear c4
         try clear p4
         try clear q4
         try clear hx4
         try clear c6
         try clear p6
         try clear c9
         try clear c10
         try clear c10b0
         try clear c11
         try clear c11b0
         try clear c12
         try clear c12b0
         try clear c13
         try clear c13b0
         try clear c14
         try clear c14b0
         try clear c14b1
         try clear c15
         try clear hx424_0
         try clear hx425_0
         try clear hx425_1
         try clear hx425_2
         try clear hx425_3
         try clear p2
         try clear p424
         try clear p425
         try clear q424
         try clear q425
         obtain ⟨x9_3, x12_3, rfl, HA, HK3, HO_9, HB⟩ := hrel
         cases gk with
         | zero => exact absurd HA.out (by simp [spec_LogOf.l2])
         | succ k3 =>
          have H := HA.out
          clear HA
          simp only [spec_LogOf.l2] at H
          by_cases c17 : x12_3 < (l0.length : Int)
          ·
           rw [if_pos c17] at H
           have c17b0 : decide (x12_3 < (l0.length : Int)) = true := decide_eq_true c17
           clear c17
           by_cases c18 : 0 ≤ x12_3
           ·
            rw [if_pos c18] at H
            have c18b0 : decide (0 ≤ x12_3) = true := decide_eq_true c18
            clear c18
            by_cases c19 : x12_3 < (l3.length : Int)
            ·
             rw [if_pos c19] at H
             have c19b0 : decide (x12_3 < (l3.length : Int)) = true := decide_eq_true c19
             clear c19
             by_cases c20 : (rd l3 x12_3) = x10_1
             ·
              rw [if_pos c20] at H
              have c20b0 : ((rd l3 x12_3) == x10_1) = true := beq_iff_eq.mpr c20
              have c20b1 : ((rd l3 x12_3) != x10_1) = false := bne_eq_false_iff_eq.mpr c20
              clear c20
              by_cases c21 : x9_3.length < 5864062014805
              ·
               rw [if_pos c21] at H
               have LMc21 := mk0 c21
               clear c21
               obtain ⟨y430, hy430⟩ : ∃ y_ : List (S30), y_ = (x9_3 ++ [(⟨x10_1, x12_3, false⟩ : S30)]) := ⟨_, rfl⟩
               replace H : (spec_LogOf.l2 k3 l0 l3 y430 x10_1 (wrap64 (x12_3 + 1))) = some r := by first | (rw [hy430]; with_reducible exact H) | (rw [hy430]; exact (Option.bind_some _ _).symm.trans H) | (rw [hy430]; exact H) | exact H
               have Ny430 := mk0 hy430
               clear hy430
               have H' := mk0 H
               clear H
               have p429 : 0 ≤ (x12_3 : Int) := od_ (by with_reducible assumption)
               have q429 : x12_3 < (l3.length : Int) := od_ (by with_reducible assumption)
               obtain ⟨ad429, e429, hx429_0⟩ := Kd.at_int HR3.out x12_3 p429 q429
               cases e429
               replace hx429_0 := (HB.out.cell (World.block_lt_of_cell? w _ hx429_0)).trans hx429_0
               replace p429 := eq_true p429
               replace q429 := eq_true q429
               go_wp2_with (first | ((with_reducible refine gate_builtin (b := .append) (xs := #[.tmp 60, .tmp 64]) rfl ?_); at_builtin; refine Kd.R_append k30 (w0 := w) w.heap.size rfl (.tmp 60) (.tmp 64) 39 75 (.agg #[(.int .i64 0), (.int .i64 0), (.bool false)]) 24 rfl Tryd.underlying39 info75 rfl (by decide) (by omega) u9 x9_3 (⟨x10_1, x12_3, false⟩ : S30) [.int .i64 x10_1, .int .i64 x12_3, .bool false] (fun _ => True) (fun _ => False) rfl rfl ?aP (fun _ hk => hk.elim) ?aF ?aO ?aB ?aS ?aL ?_; (case aP => exact k30_mkM _ _ _ (⟨x10_1, x12_3, false⟩ : S30)); (case aB => exact (by with_reducible repeat (first | exact HB.out | apply ba_ | apply bn_ | apply bd_))); (case aF => exact (fun _ _ => trivial)); (case aO => exact (by (with_reducible repeat (first | apply Ra_ | apply Rn_ | apply Rd_)); exact HO_9.out)); (case aS => exact (below_size (by with_reducible repeat (first | exact HB.out | apply ba_ | apply bn_ | apply bd_)))); (case aL => have := LMc21.out; omega); intro v431 w22 ho hb hg hat; rw [← Ny430.out] at ho; replace HB := mk0 (hb); have HO432 := mk0 (ho); clear HO_9; clear ho hb hg hat))
               repeat (go_quiet (first | ((with_reducible refine gate_builtin (b := .append) (xs := #[.tmp 60, .tmp 64]) rfl ?_); at_builtin; refine Kd.R_append k30 (w0 := w) w.heap.size rfl (.tmp 60) (.tmp 64) 39 75 (.agg #[(.int .i64 0), (.int .i64 0), (.bool false)]) 24 rfl Tryd.underlying39 info75 rfl (by decide) (by omega) u9 x9_3 (⟨x10_1, x12_3, false⟩ : S30) [.int .i64 x10_1, .int .i64 x12_3, .bool false] (fun _ => True) (fun _ => False) rfl rfl ?aP (fun _ hk => hk.elim) ?aF ?aO ?aB ?aS ?aL ?_; (case aP => exact k30_mkM _ _ _ (⟨x10_1, x12_3, false⟩ : S30)); (case aB => exact (by with_reducible repeat (first | exact HB.out | apply ba_ | apply bn_ | apply bd_))); (case aF => exact (fun _ _ => trivial)); (case aO => exact (by (with_reducible repeat (first | apply Ra_ | apply Rn_ | apply Rd_)); exact HO_9.out)); (case aS => exact (below_size (by with_reducible repeat (first | exact HB.out | apply ba_ | apply bn_ | apply bd_)))); (case aL => have := LMc21.out; omega); intro v431 w22 ho hb hg hat; rw [← Ny430.out] at ho; replace HB := mk0 (hb); have HO432 := mk0 (ho); clear HO_9; clear ho hb hg hat)); try go_wp2_with (first | ((with_reducible refine gate_builtin (b := .append) (xs := #[.tmp 60, .tmp 64]) rfl ?_); at_builtin; refine Kd.R_append k30 (w0 := w) w.heap.size rfl (.tmp 60) (.tmp 64) 39 75 (.agg #[(.int .i64 0), (.int .i64 0), (.bool false)]) 24 rfl Tryd.underlying39 info75 rfl (by decide) (by omega) u9 x9_3 (⟨x10_1, x12_3, false⟩ : S30) [.int .i64 x10_1, .int .i64 x12_3, .bool false] (fun _ => True) (fun _ => False) rfl rfl ?aP (fun _ hk => hk.elim) ?aF ?aO ?aB ?aS ?aL ?_; (case aP => exact k30_mkM _ _ _ (⟨x10_1, x12_3, false⟩ : S30)); (case aB => exact (by with_reducible repeat (first | exact HB.out | apply ba_ | apply bn_ | apply bd_))); (case aF => exact (fun _ _ => trivial)); (case aO => exact (by (with_reducible repeat (first | apply Ra_ | apply Rn_ | apply Rd_)); exact HO_9.out)); (case aS => exact (below_size (by with_reducible repeat (first | exact HB.out | apply ba_ | apply bn_ | apply bd_)))); (case aL => have := LMc21.out; omega); intro v431 w22 ho hb hg hat; rw [← Ny430.out] at ho; replace HB := mk0 (hb); have HO432 := mk0 (ho); clear HO_9; clear ho hb hg hat)))
               go_roundg k3
               case measure => have := HK1.out; have := HK2.out; have := HK3.out; omega
               case rel => exact ⟨(y430), (wrap64 (x12_3 + 1)), (by first | rfl | (simp; done) | (simp [*]; done)), H', ⟨by have := HK1.out; have := HK2.out; have := HK3.out; omega⟩, ⟨by (with_reducible repeat (first | apply Ra_ | apply Rn_ | apply Rd_)); exact HO432.out⟩, ⟨by with_reducible repeat (first | exact HB.out | apply ba_ | apply bn_ | apply bd_)⟩⟩
              ·
               rw [if_neg c21] at H
               exact nn_ H
             ·
              rw [if_neg c20] at H
              have c20b0 : ((rd l3 x12_3) == x10_1) = false := beq_eq_false_iff_ne.mpr c20
              have c20b1 : ((rd l3 x12_3) != x10_1) = true := bne_iff_ne.mpr c20
              have H' := mk0 H
              clear H
              have p429 : 0 ≤ (x12_3 : Int) := od_ (by with_reducible assumption)
              have q429 : x12_3 < (l3.length : Int) := od_ (by with_reducible assumption)
              obtain ⟨ad429, e429, hx429_0⟩ := Kd.at_int HR3.out x12_3 p429 q429
              cases e429
              replace hx429_0 := (HB.out.cell (World.block_lt_of_cell? w _ hx429_0)).trans hx429_0
              replace p429 := eq_true p429
              replace q429 := eq_true q429
              go_wp2
              repeat (go_quiet (fail); try go_wp2)
              go_roundg k3
              case measure => have := HK1.out; have := HK2.out; have := HK3.out; omega
              case rel => exact ⟨(x9_3), (wrap64 (x12_3 + 1)), (by first | rfl | (simp; done) | (simp [*]; done)), H', ⟨by have := HK1.out; have := HK2.out; have := HK3.out; omega⟩, ⟨by (with_reducible repeat (first | apply Ra_ | apply Rn_ | apply Rd_)); exact HO_9.out⟩, ⟨by with_reducible repeat (first | exact HB.out | apply ba_ | apply bn_ | apply bd_)⟩⟩
            ·
             rw [if_neg c19] at H
             exact nn_ H
           ·
            rw [if_neg c18] at H
            exact nn_ H
          ·
           rw [if_neg c17] at H
           have c17b0 : decide (x12_3 < (l0.length : Int)) = false := decide_eq_false c17
           clear c17
           have H' := mk0 H
           clear H
           go_wp2
           repeat (go_quiet (fail); try go_wp2)
           go_roundg k3
           case measure => have := HK1.out; have := HK2.out; have := HK3.out; omega
           case rel => exact ⟨(x9_3), (wrap64 (x10_1 + 1)), (by first | rfl | (simp; done) | (simp [*]; done)), H', ⟨by have := HK1.out; have := HK2.out; have := HK3.out; omega⟩, ⟨by (with_reducible repeat (first | apply Ra_ | apply Rn_ | apply Rd_)); exact HO_9.out⟩, ⟨by with_reducible repeat (first | exact HB.out | apply ba_ | apply bn_ | apply bd_)⟩⟩
    ·
     rw [if_neg c10] at H
     have c10b0 : decide (x10_1 ≤ 220) = false := decide_eq_false c10
     clear c10
     obtain rfl := Option.some.inj H
     go_wp2
     repeat (go_quiet (fail); try go_wp2)
     go_ret
     exact ⟨_, by first | rfl | (simp [errW_none, errW_some] <;> rfl) | (simp [*, errW_none, errW_some] <;> rfl), by (with_reducible repeat (first | apply Ra_ | apply Rn_ | apply Rd_)); exact HO_9.out, by with_reducible repeat (first | exact HB.out | apply ba_ | apply bn_ | apply bd_)⟩
 ·
  replace c6 := Bool.eq_false_iff.mpr c6
  subst c6
  rw [if_neg (show ¬ (false = true) by decide)] at H
  obtain rfl := Option.some.inj H
  go_enter Tryd.func96, Tryd.ntmps96
  go_wp2_with (first | ((with_reducible refine gate_dst (N := 13) rfl ?_); refine Kd.R_lit k30 _ 75 ?hg (N := 13) ?hd (xs := ([] : List (S30))) (inner := []) (ok := fun _ => True) (okp := fun _ => True) ?hr ?hp (fun _ hk => hk) trivial (Below.refl _ _) (Nat.le_refl _) (by simp) ?_; (case hd => rfl); (case hg => rfl); (case hr => first | (go_simp; done) | (go_simp; rfl)); (case hp => exact (Reps.none _ _)); intro v421 w23 ho24 hb hg_ hnew_; clear hg_ hnew_; (first | rw [← Ny420.out] at ho24 | (simp only [Int.reduceToNat] at ho24; rw [← Ny420.out] at ho24)); have HO422 := mk0 (Kd.R_lower ho24 (below_size (by with_reducible repeat (first | exact HB.out | apply ba_ | apply bn_ | apply bd_)))); replace HB := mk0 (below_step (by with_reducible repeat (first | exact HB.out | apply ba_ | apply bn_ | apply bd_)) hb); clear hb ho24) | (go_at_call 117; (with_reducible refine (spec_validStarts.calls k _ _ l0 _ _ l1 a2 _ _ l3 false _ ?side1 ?side2 ?side3 ?side4 ?side5 ?side6 A5.out).mono ?_); (case side1 => repeat (first | exact (Kd.C_below HR0.out HB.out) | (with_reducible first | refine Ca_ ?_ _ | refine Cn_ ?_ _ | refine Cd_ ?_))); (case side2 => exact HC0.out); (case side3 => repeat (first | exact (Kd.C_below HR1.out HB.out) | (with_reducible first | refine Ca_ ?_ _ | refine Cn_ ?_ _ | refine Cd_ ?_))); (case side4 => exact HC1.out); (case side5 => repeat (first | exact (Kd.C_below HR3.out HB.out) | (with_reducible first | refine Ca_ ?_ _ | refine Cn_ ?_ _ | refine Cd_ ?_))); (case side6 => exact HC3.out); rintro e w25 ⟨rfl, hb⟩; replace HO422 := mk0 (Kd.R_below (by (with_reducible repeat (first | apply Ra_ | apply Rn_ | apply Rd_)); exact HO422.out) hb); replace HB := mk0 (below_step (by with_reducible repeat (first | exact HB.out | apply ba_ | apply bn_ | apply bd_)) hb); clear hb))
  repeat (go_quiet (first | ((with_reducible refine gate_dst (N := 13) rfl ?_); refine Kd.R_lit k30 _ 75 ?hg (N := 13) ?hd (xs := ([] : List (S30))) (inner := []) (ok := fun _ => True) (okp := fun _ => True) ?hr ?hp (fun _ hk => hk) trivial (Below.refl _ _) (Nat.le_refl _) (by simp) ?_; (case hd => rfl); (case hg => rfl); (case hr => first | (go_simp; done) | (go_simp; rfl)); (case hp => exact (Reps.none _ _)); intro v421 w23 ho24 hb hg_ hnew_; clear hg_ hnew_; (first | rw [← Ny420.out] at ho24 | (simp only [Int.reduceToNat] at ho24; rw [← Ny420.out] at ho24)); have HO422 := mk0 (Kd.R_lower ho24 (below_size (by with_reducible repeat (first | exact HB.out | apply ba_ | apply bn_ | apply bd_)))); replace HB := mk0 (below_step (by with_reducible repeat (first | exact HB.out | apply ba_ | apply bn_ | apply bd_)) hb); clear hb ho24) | (go_at_call 117; (with_reducible refine (spec_validStarts.calls k _ _ l0 _ _ l1 a2 _ _ l3 false _ ?side1 ?side2 ?side3 ?side4 ?side5 ?side6 A5.out).mono ?_); (case side1 => repeat (first | exact (Kd.C_below HR0.out HB.out) | (with_reducible first | refine Ca_ ?_ _ | refine Cn_ ?_ _ | refine Cd_ ?_))); (case side2 => exact HC0.out); (case side3 => repeat (first | exact (Kd.C_below HR1.out HB.out) | (with_reducible first | refine Ca_ ?_ _ | refine Cn_ ?_ _ | refine Cd_ ?_))); (case side4 => exact HC1.out); (case side5 => repeat (first | exact (Kd.C_below HR3.out HB.out) | (with_reducible first | refine Ca_ ?_ _ | refine Cn_ ?_ _ | refine Cd_ ?_))); (case side6 => exact HC3.out); rintro e w25 ⟨rfl, hb⟩; replace HO422 := mk0 (Kd.R_below (by (with_reducible repeat (first | apply Ra_ | apply Rn_ | apply Rd_)); exact HO422.out) hb); replace HB := mk0 (below_step (by with_reducible repeat (first | exact HB.out | apply ba_ | apply bn_ | apply bd_)) hb); clear hb)); try go_wp2_with (first | ((with_reducible refine gate_dst (N := 13) rfl ?_); refine Kd.R_lit k30 _ 75 ?hg (N := 13) ?hd (xs := ([] : List (S30))) (inner := []) (ok := fun _ => True) (okp := fun _ => True) ?hr ?hp (fun _ hk => hk) trivial (Below.refl _ _) (Nat.le_refl _) (by simp) ?_; (case hd => rfl); (case hg => rfl); (case hr => first | (go_simp; done) | (go_simp; rfl)); (case hp => exact (Reps.none _ _)); intro v421 w23 ho24 hb hg_ hnew_; clear hg_ hnew_; (first | rw [← Ny420.out] at ho24 | (simp only [Int.reduceToNat] at ho24; rw [← Ny420.out] at ho24)); have HO422 := mk0 (Kd.R_lower ho24 (below_size (by with_reducible repeat (first | exact HB.out | apply ba_ | apply bn_ | apply bd_)))); replace HB := mk0 (below_step (by with_reducible repeat (first | exact HB.out | apply ba_ | apply bn_ | apply bd_)) hb); clear hb ho24) | (go_at_call 117; (with_reducible refine (spec_validStarts.calls k _ _ l0 _ _ l1 a2 _ _ l3 false _ ?side1 ?side2 ?side3 ?side4 ?side5 ?side6 A5.out).mono ?_); (case side1 => repeat (first | exact (Kd.C_below HR0.out HB.out) | (with_reducible first | refine Ca_ ?_ _ | refine Cn_ ?_ _ | refine Cd_ ?_))); (case side2 => exact HC0.out); (case side3 => repeat (first | exact (Kd.C_below HR1.out HB.out) | (with_reducible first | refine Ca_ ?_ _ | refine Cn_ ?_ _ | refine Cd_ ?_))); (case side4 => exact HC1.out); (case side5 => repeat (first | exact (Kd.C_below HR3.out HB.out) | (with_reducible first | refine Ca_ ?_ _ | refine Cn_ ?_ _ | refine Cd_ ?_))); (case side6 => exact HC3.out); rintro e w25 ⟨rfl, hb⟩; replace HO422 := mk0 (Kd.R_below (by (with_reducible repeat (first | apply Ra_ | apply Rn_ | apply Rd_)); exact HO422.out) hb); replace HB := mk0 (below_step (by with_reducible repeat (first | exact HB.out | apply ba_ | apply bn_ | apply bd_)) hb); clear hb)))
  go_ret
  exact ⟨_, by first | rfl | (simp [errW_none, errW_some] <;> rfl) | (simp [*, errW_none, errW_some] <;> rfl), by first | exact Kd.R_nil _ _ _ _ _ | exact Kd.N_nil _ _ _ _ _ | exact Kd.V_nil _ _ _ _ _ | exact Kd.Q_nil _ _ _ _ _ | exact Kd.S_nil _ _ _ _ _, by with_reducible repeat (first | exact HB.out | apply ba_ | apply bn_ | apply bd_)⟩
/-! spec_anyLog -/
mutual
def spec_anyLog.j0 : Nat → List (S30) → Bool → List Int → Int → Option ((List (S30)) × Int)
 | 0, _, _, _, _ => none
 | k + 1, x8, x28, x1000, x1001 => if x28 = true then ((spec_reader_pick.f k x1000 x1001 (wrap64 ((x8.length : Int) + 1))).bind fun bt446 => (if 0 ≤ bt446.1 then (if bt446.1 ≤ (x8.length : Int) then (spec_anyLog.j1 k (x8.take (bt446.1 : Int).toNat) x1000 bt446.2) else (none)) else (none))) else (spec_anyLog.j1 k x8 x1000 x1001)
def spec_anyLog.j1 : Nat → List (S30) → List Int → Int → Option ((List (S30)) × Int)
 | 0, _, _, _ => none
 | k + 1, x8, x1000, x1001 => if (x8.length : Int) > 0 then ((spec_reader_pick.f k x1000 x1001 10).bind fun bt451 => (spec_anyLog.j2 k x8 (bt451.1 == 0) x1000 bt451.2)) else (spec_anyLog.j2 k x8 false x1000 x1001)
def spec_anyLog.j2 : Nat → List (S30) → Bool → List Int → Int → Option ((List (S30)) × Int)
 | 0, _, _, _, _ => none
 | k + 1, x8, x43, x1000, x1001 => if x43 = true then ((spec_reader_pick.f k x1000 x1001 (x8.length : Int)).bind fun bt453 => ((spec_reader_one.f k x1000 bt453.2 (([0, 5, 201] : List Int))).bind fun bt458 => ((spec_reader_pick.f k x1000 bt458.2 9).bind fun bt460 => ((spec_reader_pick.f k x1000 bt460.2 2).bind fun bt462 => (if 0 ≤ bt453.1 then (if bt453.1 < (x8.length : Int) then (some ((x8.set (bt453.1 : Int).toNat (⟨bt458.1, bt460.1, (bt462.1 == 0)⟩ : S30)), bt462.2)) else (none)) else (none)))))) else (some (x8, x1001))
end
def spec_anyLog.f (k : Nat) (s0_0 : List Int) (s0_1 : Int) (l1 : List (S41)) : Option ((List (S30)) × Int) := (spec_someStarts.f k s0_0 s0_1 l1).bind fun bt433 => ((spec_LogOf.f k l1 bt433.1 bt433.2.1 bt433.2.2.1).bind fun t441 => (if (t441.length : Int) > 0 then ((spec_reader_pick.f k s0_0 bt433.2.2.2 3).bind fun bt444 => (spec_anyLog.j0 k t441 (bt444.1 == 0) s0_0 bt444.2)) else (spec_anyLog.j0 k t441 false s0_0 bt433.2.2.2)))
set_option maxHeartbeats 8000000 in
set_option maxRecDepth 100000 in
theorem spec_anyLog.calls (k : Nat) (g : Nat) (s0_0 : List Int) (s0_1 : Int) (A1 : Option Addr) (c1 : Nat) (l1 : List (S41)) (r1 : List (S30)) (r2 : Int) (w0 w : World) (hI : IsS71 w0 w g s0_0 s0_1) (hB : Below w0.heap.size w0 w) (hr1 : ∀ W_, KeepBut w W_ g none → Kd.C k41 W_ A1 l1.length l1) (hc1 : l1.length ≤ c1) (h : spec_anyLog.f k s0_0 s0_1 l1 = some (r1, r2)) :
  Calls Tryd.prog 55 #[.pointer (some ⟨g, 0, none⟩), .slice A1 l1.length c1] w fun e w' => ∃ v0_ : Value, e = .returned (v0_) ∧ Kd.R k30 75 w' w.heap.size (fun _ => True) v0_ r1 ∧ IsS71 w0 w' g s0_0 r2 ∧ Below w0.heap.size w0 w' ∧ KeepBut w w' g none := by
 have hu75 := Tryd.underlying75
 have HR1 := mk0 hr1
 have HC1 := mk0 hc1
 clear hr1 hc1
 have HI0 := mk0 hI
 have HK := mk0 (KeepBut.refl w g none)
 have HL := mk0 hB.size
 clear hI
 have HW0 := mk0 hB.size
 have HB := mk0 hB
 clear hB
 have H : ((spec_someStarts.f k s0_0 s0_1 l1).bind fun bt433 => ((spec_LogOf.f k l1 bt433.1 bt433.2.1 bt433.2.2.1).bind fun t441 => (if (t441.length : Int) > 0 then ((spec_reader_pick.f k s0_0 bt433.2.2.2 3).bind fun bt444 => (spec_anyLog.j0 k t441 (bt444.1 == 0) s0_0 bt444.2)) else (spec_anyLog.j0 k t441 false s0_0 bt433.2.2.2)))) = some (r1, r2) := h
 clear h
 replace H := bE_ H
 obtain ⟨⟨t433, t436, t437, t440⟩, A30, H⟩ := H
 have A3 := mk0 A30
 clear A30
 replace H := bE_ H
 obtain ⟨t441, A40, H⟩ := H
 have A4 := mk0 A40
 clear A40
 have HC5 := mk0 H
 clear H
 go_enter Tryd.func55, Tryd.ntmps55
 go_upto_region 3 with (first | ((with_reducible refine gate_callee (f := 95) rfl ?_); refine goesL_ (some 12) rfl rfl Tryd.func95 (by kernel_rfl) rfl #[.pointer (some ⟨g, 0, none⟩), .slice A1 l1.length c1] rfl (by (try simp only [List.map_toArray, List.map_cons, List.map_nil]); first | done | rfl | (simp only [List.length_drop, List.length_take]; rfl)) ?_; (with_reducible refine (spec_someStarts.calls k g s0_0 s0_1 _ _ l1 t433 t436 t437 t440 w0 _ ?side1 ?side2 ?side3 ?side4 A3.out).mono ?_); (case side1 => with_reducible repeat (first | exact HI0.out | apply ia_ | apply in_ | apply id_ | apply is_)); (case side2 => with_reducible repeat (first | exact HB.out | apply ba_ | apply bn_ | apply bd_ | refine below_set ?_ (IsS71.ge HI0.out))); (case side3 => exact Kd.C_foot_step HR1.out (by with_reducible repeat (first | exact HK.out | apply ks_ | apply kn_ | apply kd_ | apply ka_))); (case side4 => exact HC1.out); rintro e w6 ⟨v434, v438, rfl, ho0, ho1, hi, hb, hk⟩; refine ⟨_, rfl, ?_⟩; have HO435 := mk0 (Kd.Q_lower ho0 (keep_size (w := w) (g := g) (row := none) (by with_reducible repeat (first | exact HK.out | apply ks_ | apply kn_ | apply kd_ | apply ka_)))); have HO439 := mk0 (Kd.R_lower ho1 (keep_size (w := w) (g := g) (row := none) (by with_reducible repeat (first | exact HK.out | apply ks_ | apply kn_ | apply kd_ | apply ka_)))); replace HK := mk0 (KeepBut.trans (by with_reducible repeat (first | exact HK.out | apply ks_ | apply kn_ | apply kd_ | apply ka_)) hk (.inl rfl)); replace HB := mk0 (hb); replace HI0 := mk0 (hi); clear hb hk hi ho0 ho1; obtain ⟨Ao7, co7, eo7, _⟩ := Kd.Q_slice HO435.out; subst eo7; obtain ⟨Ao8, co8, eo8⟩ := Kd.R_slice HO439.out; subst eo8) | ((with_reducible refine gate_callee (f := 96) rfl ?_); refine goesL_ (some 20) rfl rfl Tryd.func96 (by kernel_rfl) rfl #[.slice A1 l1.length c1, .slice Ao7 t433.length co7, .int .i64 t436, .slice Ao8 t437.length co8] rfl (by (try simp only [List.map_toArray, List.map_cons, List.map_nil]); first | done | rfl | (simp only [List.length_drop, List.length_take]; rfl)) ?_; (with_reducible refine (spec_LogOf.calls k _ _ l1 _ _ t433 t436 _ _ t437 t441 _ ?side1 ?side2 ?side3 ?side4 ?side5 ?side6 A4.out).mono ?_); (case side1 => exact Kd.C_foot_now HR1.out (by with_reducible repeat (first | exact HK.out | apply ks_ | apply kn_ | apply kd_ | apply ka_))); (case side2 => exact HC1.out); (case side3 => repeat (first | exact (Kd.Q_reads' HO435.out).2.2 | (with_reducible first | refine Ca_ ?_ _ | refine Cn_ ?_ _ | refine Cd_ ?_))); (case side4 => exact (Kd.Q_reads' HO435.out).2.1); (case side5 => repeat (first | exact (Kd.R_reads' HO439.out).2.2 | (with_reducible first | refine Ca_ ?_ _ | refine Cn_ ?_ _ | refine Cd_ ?_))); (case side6 => exact (Kd.R_reads' HO439.out).2.1); rintro e w9 ⟨v442, rfl, ho0, hb⟩; refine ⟨_, rfl, ?_⟩; replace HO435 := mk0 (Kd.Q_below (by (with_reducible repeat (first | apply Qa_ | apply Qn_ | apply Qd_)); exact HO435.out) hb); replace HO439 := mk0 (Kd.R_below (by (with_reducible repeat (first | apply Ra_ | apply Rn_ | apply Rd_)); exact HO439.out) hb); have HO443 := mk0 (Kd.R_lower ho0 (keep_size (w := w) (g := g) (row := none) (by with_reducible repeat (first | exact HK.out | apply ks_ | apply kn_ | apply kd_ | apply ka_)))); replace HK := mk0 (KeepBut.trans (by with_reducible repeat (first | exact HK.out | apply ks_ | apply kn_ | apply kd_ | apply ka_)) (KeepBut.of_below hb g none) (.inl rfl)); replace HB := mk0 (below_step (by with_reducible repeat (first | exact HB.out | apply ba_ | apply bn_ | apply bd_ | refine below_set ?_ (IsS71.ge HI0.out))) hb); replace HI0 := mk0 (IsS71.below (by with_reducible repeat (first | exact HI0.out | apply ia_ | apply in_ | apply id_ | apply is_)) hb); clear hb ho0))
 (try simp only [Act.put, List.setIfInBounds_toArray, List.set_cons_zero, List.set_cons_succ])
 go_cut [28] (fun v28 wc => ∃ (kq : Nat) (x28_4 : Bool) (x1001_4 : Int), v28 = .bool x28_4 ∧ Aside0 (spec_anyLog.j0 kq t441 x28_4 s0_0 x1001_4 = some (r1, r2)) ∧ Aside0 (kq ≤ k) ∧ Aside0 (Kd.R k30 75 wc w.heap.size (fun _ => True) v442 t441) ∧ Aside0 (IsS71 w0 wc g s0_0 x1001_4) ∧ Aside0 (KeepBut w wc g none) ∧ Aside0 (Below w0.heap.size w0 wc))
 case first =>
  have H := HC5.out
  clear HC5
  by_cases c10 : (t441.length : Int) > 0
  ·
   rw [if_pos c10] at H
   have c10b0 : decide (0 < (t441.length : Int)) = true := decide_eq_true c10
   have c10b1 : decide (0 < t441.length) = true := decide_eq_true (by omega)
   clear c10
   (first | rw [c10b0] | (simp only [i64_w, i32_w]; rw [c10b0]) | skip)
   replace H := bE_ H
   obtain ⟨⟨t444, t445⟩, A110, H⟩ := H
   have A11 := mk0 A110
   clear A110
   have H' := mk0 H
   clear H
   obtain ⟨Ao12, co12, eo12⟩ := Kd.R_slice HO443.out
   subst eo12
   go_wp2_with (first | (go_at_call 56; (with_reducible refine (spec_reader_pick.calls k g s0_0 t440 3 t444 t445 w0 _ ?side1 ?side2 A11.out).mono ?_); (case side1 => with_reducible repeat (first | exact HI0.out | apply ia_ | apply in_ | apply id_ | apply is_)); (case side2 => with_reducible repeat (first | exact HB.out | apply ba_ | apply bn_ | apply bd_ | refine below_set ?_ (IsS71.ge HI0.out))); rintro e w13 ⟨rfl, hi, hb, hk⟩; replace HO435 := mk0 (Kd.Q_mono (Kd.Q_keep (IsS71.apartQ (show IsS71 w0 _ g s0_0 t440 from by with_reducible repeat (first | exact HI0.out | apply ia_ | apply in_ | apply id_ | apply is_)) (by (with_reducible repeat (first | apply Qa_ | apply Qn_ | apply Qd_)); exact HO435.out) (by decide)) hk (fun _ h => h.2)) (fun _ h => h.1)); replace HO439 := mk0 (Kd.R_mono (Kd.R_keep (IsS71.apart (show IsS71 w0 _ g s0_0 t440 from by with_reducible repeat (first | exact HI0.out | apply ia_ | apply in_ | apply id_ | apply is_)) (by (with_reducible repeat (first | apply Ra_ | apply Rn_ | apply Rd_)); exact HO439.out) (by decide)) hk (fun _ h => h.2)) (fun _ h => h.1)); replace HO443 := mk0 (Kd.R_mono (Kd.R_keep (IsS71.apart (show IsS71 w0 _ g s0_0 t440 from by with_reducible repeat (first | exact HI0.out | apply ia_ | apply in_ | apply id_ | apply is_)) (by (with_reducible repeat (first | apply Ra_ | apply Rn_ | apply Rd_)); exact HO443.out) (by decide)) hk (fun _ h => h.2)) (fun _ h => h.1)); replace HK := mk0 (KeepBut.trans (by with_reducible repeat (first | exact HK.out | apply ks_ | apply kn_ | apply kd_ | apply ka_)) hk (.inl rfl)); replace HB := mk0 (hb); replace HI0 := mk0 (hi); clear hb hk hi))
   go_meet
   case rel => exact ⟨_, ((t444 == 0)), (t445), (by first | rfl | (simp; done) | (simp [*]; done)), H', ⟨by first | omega | exact Nat.le_refl _⟩, ⟨by (with_reducible repeat (first | apply Ra_ | apply Rn_ | apply Rd_)); exact HO443.out⟩, ⟨by with_reducible repeat (first | exact HI0.out | apply ia_ | apply in_ | apply id_ | apply is_)⟩, ⟨by with_reducible repeat (first | exact HK.out | apply ks_ | apply kn_ | apply kd_ | apply ka_)⟩, ⟨by with_reducible repeat (first | exact HB.out | apply ba_ | apply bn_ | apply bd_ | refine below_set ?_ (IsS71.ge HI0.out))⟩⟩
  ·
   rw [if_neg c10] at H
   have c10b0 : decide (0 < (t441.length : Int)) = false := decide_eq_false c10
   have c10b1 : decide (0 < t441.length) = false := decide_eq_false (by omega)
   clear c10
   (first | rw [c10b0] | (simp only [i64_w, i32_w]; rw [c10b0]) | skip)
   have H' := mk0 H
   clear H
   obtain ⟨Ao14, co14, eo14⟩ := Kd.R_slice HO443.out
   subst eo14
   go_wp2
   go_meet
   case rel => exact ⟨_, (false), (t440), (by first | rfl | (simp; done) | (simp [*]; done)), H', ⟨by first | omega | exact Nat.le_refl _⟩, ⟨by (with_reducible repeat (first | apply Ra_ | apply Rn_ | apply Rd_)); exact HO443.out⟩, ⟨by with_reducible repeat (first | exact HI0.out | apply ia_ | apply in_ | apply id_ | apply is_)⟩, ⟨by with_reducible repeat (first | exact HK.out | apply ks_ | apply kn_ | apply kd_ | apply ka_)⟩, ⟨by with_reducible repeat (first | exact HB.out | apply ba_ | apply bn_ | apply bd_ | refine below_set ?_ (IsS71.ge HI0.out))⟩⟩
 case rest =>
  clear HC5
  try clear c1
  try clear p2
  try clear c5
  try clear c9
  try clear c10
  try clear c10b0
  try clear c10b1
  obtain ⟨kq, x28_4, x1001_4, rfl, HA, HJ4, HO_8, HI0, HK, HB⟩ := hcut
  cases kq with
  | zero => exact absurd HA.out (by simp [spec_anyLog.j0])
  | succ kj4 =>
   have H := HA.out
   clear HA
   simp only [spec_anyLog.j0] at H
   have HC15 := mk0 H
   clear H
   go_upto_if 28 with (fail)
   go_cut [8] (fun v8 wc => ∃ (kq : Nat) (x8_14 : List (S30)) (x1001_14 : Int), Aside0 (spec_anyLog.j1 kq x8_14 s0_0 x1001_14 = some (r1, r2)) ∧ Aside0 (kq ≤ kj4) ∧ Aside0 (Kd.R k30 75 wc w.heap.size (fun _ => True) v8 x8_14) ∧ Aside0 (IsS71 w0 wc g s0_0 x1001_14) ∧ Aside0 (KeepBut w wc g none) ∧ Aside0 (Below w0.heap.size w0 wc))
   case first =>
    have H := HC15.out
    clear HC15
    by_cases c16 : x28_4 = true
    ·
     subst c16
     rw [if_pos rfl] at H
     replace H := bE_ H
     obtain ⟨⟨t446, t447⟩, A170, H⟩ := H
     have A17 := mk0 A170
     clear A170
     by_cases c18 : 0 ≤ t446
     ·
      rw [if_pos c18] at H
      have c18b0 := eq_true c18
      have c18b1 : decide (0 ≤ t446) = true := decide_eq_true c18
      clear c18
      by_cases c19 : t446 ≤ (t441.length : Int)
      ·
       rw [if_pos c19] at H
       have c19b0 := eq_true c19
       have c19b1 : decide (t446 ≤ (t441.length : Int)) = true := decide_eq_true c19
       clear c19
       obtain ⟨y448, hy448⟩ : ∃ y_ : List (S30), y_ = (t441.take (t446 : Int).toNat) := ⟨_, rfl⟩
       replace H : (spec_anyLog.j1 kj4 y448 s0_0 t447) = some (r1, r2) := by first | (rw [hy448]; with_reducible exact H) | (rw [hy448]; exact (Option.bind_some _ _).symm.trans H) | (rw [hy448]; exact H) | exact H
       have Ny448 := mk0 hy448
       clear hy448
       have H' := mk0 H
       clear H
       obtain ⟨Ao20, co20, eo20⟩ := Kd.R_slice HO_8.out
       subst eo20
       go_wp2_with (first | ((with_reducible refine gate_callee (f := 56) rfl ?_); refine goesL_ (some 34) rfl rfl Tryd.func56 (by kernel_rfl) rfl #[.pointer (some ⟨g, 0, none⟩), .int .i64 (wrap64 ((t441.length : Int) + 1))] rfl (by (try simp only [List.map_toArray, List.map_cons, List.map_nil]); first | done | rfl | (simp only [List.length_drop, List.length_take]; rfl)) ?_; (with_reducible refine (spec_reader_pick.calls kj4 g s0_0 x1001_4 (wrap64 ((t441.length : Int) + 1)) t446 t447 w0 _ ?side1 ?side2 A17.out).mono ?_); (case side1 => with_reducible repeat (first | exact HI0.out | apply ia_ | apply in_ | apply id_ | apply is_)); (case side2 => with_reducible repeat (first | exact HB.out | apply ba_ | apply bn_ | apply bd_ | refine below_set ?_ (IsS71.ge HI0.out))); rintro e w21 ⟨rfl, hi, hb, hk⟩; refine ⟨_, rfl, ?_⟩; replace HO_8 := mk0 (Kd.R_mono (Kd.R_keep (IsS71.apart (show IsS71 w0 _ g s0_0 x1001_4 from by with_reducible repeat (first | exact HI0.out | apply ia_ | apply in_ | apply id_ | apply is_)) (by (with_reducible repeat (first | apply Ra_ | apply Rn_ | apply Rd_)); exact HO_8.out) (by decide)) hk (fun _ h => h.2)) (fun _ h => h.1)); replace HK := mk0 (KeepBut.trans (by with_reducible repeat (first | exact HK.out | apply ks_ | apply kn_ | apply kd_ | apply ka_)) hk (.inl rfl)); replace HB := mk0 (hb); replace HI0 := mk0 (hi); clear hb hk hi; have q22 : (t446 : Int) ≤ ((t441.length : Int) : Int) := od_ (by with_reducible assumption); obtain ⟨i022, hi022, _, hsz22, _⟩ := info_parts info75; have hcut22 := cut_to (P := Tryd.prog) 39 75 .i64 Tryd.underlying39 hi022 Ao20 t441.length co20 t446 (od_ (by with_reducible assumption)) q22 (Kd.R_reads' HO_8.out).2.1; have hr22 := Kd.R_take (m := (t446 : Int).toNat) HO_8.out (by omega); have hy22 : y448.length = (t446 : Int).toNat := (by rw [Ny448.out, List.length_take]; omega); rw [← Ny448.out] at hr22; rw [← hy22] at hr22 hcut22; clear hy22 hi022 hsz22 HO_8; have HO450 := mk0 hr22; clear hr22; replace q22 := eq_true q22))
       go_meet
       case rel => exact ⟨_, (y448), (t447), H', ⟨by have := HJ4.out; first | omega | exact Nat.le_refl _⟩, ⟨by (with_reducible repeat (first | apply Ra_ | apply Rn_ | apply Rd_)); exact HO450.out⟩, ⟨by with_reducible repeat (first | exact HI0.out | apply ia_ | apply in_ | apply id_ | apply is_)⟩, ⟨by with_reducible repeat (first | exact HK.out | apply ks_ | apply kn_ | apply kd_ | apply ka_)⟩, ⟨by with_reducible repeat (first | exact HB.out | apply ba_ | apply bn_ | apply bd_ | refine below_set ?_ (IsS71.ge HI0.out))⟩⟩
      ·
       rw [if_neg c19] at H
       exact nn_ H
     ·
      rw [if_neg c18] at H
      exact nn_ H
    ·
     replace c16 := Bool.eq_false_iff.mpr c16
     subst c16
     rw [if_neg (show ¬ (false = true) by decide)] at H
     have H' := mk0 H
     clear H
     go_wp2
     go_meet
     case rel => exact ⟨_, (t441), (x1001_4), H', ⟨by have := HJ4.out; first | omega | exact Nat.le_refl _⟩, ⟨by (with_reducible repeat (first | apply Ra_ | apply Rn_ | apply Rd_)); exact HO_8.out⟩, ⟨by with_reducible repeat (first | exact HI0.out | apply ia_ | apply in_ | apply id_ | apply is_)⟩, ⟨by with_reducible repeat (first | exact HK.out | apply ks_ | apply kn_ | apply kd_ | apply ka_)⟩, ⟨by with_reducible repeat (first | exact HB.out | apply ba_ | apply bn_ | apply bd_ | refine below_set ?_ (IsS71.ge HI0.out))⟩⟩
   case rest =>
    clear HC15
    try clear c1
    try clear p2
    try clear q2
    try clear c5
    try clear p6
    try clear c9
    try clear c10
    try clear c10b0
    try clear c10b1
    try clear c16
    try clear c18
    try clear c18b0
    try clear c18b1
    try clear c19
    try clear c19b0
    try clear c19b1
    try clear q22
    try clear p2
    try clear q22
    obtain ⟨kq, x8_14, x1001_14, HA, HJ14, HO_8, HI0, HK, HB⟩ := hcut
    cases kq with
    | zero => exact absurd HA.out (by simp [spec_anyLog.j1])
    | succ kj14 =>
     have H := HA.out
     clear HA
     simp only [spec_anyLog.j1] at H
     have HC23 := mk0 H
     clear H
     go_upto_region 5 with (fail)
     go_cut [43] (fun v43 wc => ∃ (kq : Nat) (x43_22 : Bool) (x1001_22 : Int), v43 = .bool x43_22 ∧ Aside0 (spec_anyLog.j2 kq x8_14 x43_22 s0_0 x1001_22 = some (r1, r2)) ∧ Aside0 (kq ≤ kj14) ∧ Aside0 (Kd.R k30 75 wc w.heap.size (fun _ => True) u8 x8_14) ∧ Aside0 (IsS71 w0 wc g s0_0 x1001_22) ∧ Aside0 (KeepBut w wc g none) ∧ Aside0 (Below w0.heap.size w0 wc))
     case first =>
      have H := HC23.out
      clear HC23
      by_cases c24 : (x8_14.length : Int) > 0
      ·
       rw [if_pos c24] at H
       have c24b0 : decide (0 < (x8_14.length : Int)) = true := decide_eq_true c24
       have c24b1 : decide (0 < x8_14.length) = true := decide_eq_true (by omega)
       clear c24
       (first | rw [c24b0] | (simp only [i64_w, i32_w]; rw [c24b0]) | skip)
       replace H := bE_ H
       obtain ⟨⟨t451, t452⟩, A250, H⟩ := H
       have A25 := mk0 A250
       clear A250
       have H' := mk0 H
       clear H
       obtain ⟨Ao26, co26, eo26⟩ := Kd.R_slice HO_8.out
       subst eo26
       go_wp2_with (first | (go_at_call 56; (with_reducible refine (spec_reader_pick.calls kj14 g s0_0 x1001_14 10 t451 t452 w0 _ ?side1 ?side2 A25.out).mono ?_); (case side1 => with_reducible repeat (first | exact HI0.out | apply ia_ | apply in_ | apply id_ | apply is_)); (case side2 => with_reducible repeat (first | exact HB.out | apply ba_ | apply bn_ | apply bd_ | refine below_set ?_ (IsS71.ge HI0.out))); rintro e w27 ⟨rfl, hi, hb, hk⟩; replace HO_8 := mk0 (Kd.R_mono (Kd.R_keep (IsS71.apart (show IsS71 w0 _ g s0_0 x1001_14 from by with_reducible repeat (first | exact HI0.out | apply ia_ | apply in_ | apply id_ | apply is_)) (by (with_reducible repeat (first | apply Ra_ | apply Rn_ | apply Rd_)); exact HO_8.out) (by decide)) hk (fun _ h => h.2)) (fun _ h => h.1)); replace HK := mk0 (KeepBut.trans (by with_reducible repeat (first | exact HK.out | apply ks_ | apply kn_ | apply kd_ | apply ka_)) hk (.inl rfl)); replace HB := mk0 (hb); replace HI0 := mk0 (hi); clear hb hk hi))
       go_meet
       case rel => exact ⟨_, ((t451 == 0)), (t452), (by first | rfl | (simp; done) | (simp [*]; done)), H', ⟨by have := HJ4.out; have := HJ14.out; first | omega | exact Nat.le_refl _⟩, ⟨by (with_reducible repeat (first | apply Ra_ | apply Rn_ | apply Rd_)); exact HO_8.out⟩, ⟨by with_reducible repeat (first | exact HI0.out | apply ia_ | apply in_ | apply id_ | apply is_)⟩, ⟨by with_reducible repeat (first | exact HK.out | apply ks_ | apply kn_ | apply kd_ | apply ka_)⟩, ⟨by with_reducible repeat (first | exact HB.out | apply ba_ | apply bn_ | apply bd_ | refine below_set ?_ (IsS71.ge HI0.out))⟩⟩
      ·
       rw [if_neg c24] at H
       have c24b0 : decide (0 < (x8_14.length : Int)) = false := decide_eq_false c24
       have c24b1 : decide (0 < x8_14.length) = false := decide_eq_false (by omega)
       clear c24
       (first | rw [c24b0] | (simp only [i64_w, i32_w]; rw [c24b0]) | skip)
       have H' := mk0 H
       clear H
       obtain ⟨Ao28, co28, eo28⟩ := Kd.R_slice HO_8.out
       subst eo28
       go_wp2
       go_meet
       case rel => exact ⟨_, (false), (x1001_14), (by first | rfl | (simp; done) | (simp [*]; done)), H', ⟨by have := HJ4.out; have := HJ14.out; first | omega | exact Nat.le_refl _⟩, ⟨by (with_reducible repeat (first | apply Ra_ | apply Rn_ | apply Rd_)); exact HO_8.out⟩, ⟨by with_reducible repeat (first | exact HI0.out | apply ia_ | apply in_ | apply id_ | apply is_)⟩, ⟨by with_reducible repeat (first | exact HK.out | apply ks_ | apply kn_ | apply kd_ | apply ka_)⟩, ⟨by with_reducible repeat (first | exact HB.out | apply ba_ | apply bn_ | apply bd_ | refine below_set ?_ (IsS71.ge HI0.out))⟩⟩
     case rest =>
      clear HC23
      try clear c1
      try clear c2
      try clear p2
      try clear q2
      try clear c5
      try clear p6
      try clear c9
      try clear c10
      try clear c10b0
      try clear c10b1
      try clear c16
      try clear c18
      try clear c18b0
      try clear c18b1
      try clear c19
      try clear c19b0
      try clear c19b1
      try clear q22
      try clear c24
      try clear c24b0
      try clear c24b1
      try clear p2
      try clear p6
      try clear q2
      try clear q22
      obtain ⟨kq, x43_22, x1001_22, rfl, HA, HJ22, HO_8, HI0, HK, HB⟩ := hcut
      cases kq with
      | zero => exact absurd HA.out (by simp [spec_anyLog.j2])
      | succ kj22 =>
       have H := HA.out
       clear HA
       simp only [spec_anyLog.j2] at H
       by_cases c29 : x43_22 = true
       ·
        subst c29
        rw [if_pos rfl] at H
        replace H := bE_ H
        obtain ⟨⟨t453, t454⟩, A300, H⟩ := H
        have A30 := mk0 A300
        clear A300
        obtain ⟨y455, hy455⟩ : ∃ y_ : List Int, y_ = (([0, 5, 201] : List Int)) := ⟨_, rfl⟩
        replace H : ((spec_reader_one.f kj22 s0_0 t454 y455).bind fun bt458 => ((spec_reader_pick.f kj22 s0_0 bt458.2 9).bind fun bt460 => ((spec_reader_pick.f kj22 s0_0 bt460.2 2).bind fun bt462 => (if 0 ≤ t453 then (if t453 < (x8_14.length : Int) then (some ((x8_14.set (t453 : Int).toNat (⟨bt458.1, bt460.1, (bt462.1 == 0)⟩ : S30)), bt462.2)) else (none)) else (none))))) = some (r1, r2) := by first | (rw [hy455]; with_reducible exact H) | (rw [hy455]; exact (Option.bind_some _ _).symm.trans H) | (rw [hy455]; exact H) | exact H
        have Ny455 := mk0 hy455
        clear hy455
        replace H := bE_ H
        obtain ⟨⟨t458, t459⟩, A310, H⟩ := H
        have A31 := mk0 A310
        clear A310
        replace H := bE_ H
        obtain ⟨⟨t460, t461⟩, A320, H⟩ := H
        have A32 := mk0 A320
        clear A320
        replace H := bE_ H
        obtain ⟨⟨t462, t463⟩, A330, H⟩ := H
        have A33 := mk0 A330
        clear A330
        by_cases c34 : 0 ≤ t453
        ·
         rw [if_pos c34] at H
         have c34b0 : decide (0 ≤ t453) = true := decide_eq_true c34
         clear c34
         by_cases c35 : t453 < (x8_14.length : Int)
         ·
          rw [if_pos c35] at H
          have c35b0 : decide (t453 < (x8_14.length : Int)) = true := decide_eq_true c35
          clear c35
          obtain ⟨y464, hy464⟩ : ∃ y_ : List (S30), y_ = (x8_14.set (t453 : Int).toNat (⟨t458, t460, (t462 == 0)⟩ : S30)) := ⟨_, rfl⟩
          replace H : (some (y464, t463)) = some (r1, r2) := by first | (rw [hy464]; with_reducible exact H) | (rw [hy464]; exact (Option.bind_some _ _).symm.trans H) | (rw [hy464]; exact H) | exact H
          have Ny464 := mk0 hy464
          clear hy464
          simp only [Option.some.injEq, Prod.mk.injEq] at H
          obtain ⟨rfl, rfl⟩ := H
          obtain ⟨Ao37, co37, eo37⟩ := Kd.R_slice HO_8.out
          subst eo37
          go_wp2_with (first | ((with_reducible refine gate_callee (f := 56) rfl ?_); refine goesL_ (some 48) rfl rfl Tryd.func56 (by kernel_rfl) rfl #[.pointer (some ⟨g, 0, none⟩), .int .i64 (x8_14.length : Int)] rfl (by (try simp only [List.map_toArray, List.map_cons, List.map_nil]); first | done | rfl | (simp only [List.length_drop, List.length_take]; rfl)) ?_; (with_reducible refine (spec_reader_pick.calls kj22 g s0_0 x1001_22 (x8_14.length : Int) t453 t454 w0 _ ?side1 ?side2 A30.out).mono ?_); (case side1 => with_reducible repeat (first | exact HI0.out | apply ia_ | apply in_ | apply id_ | apply is_)); (case side2 => with_reducible repeat (first | exact HB.out | apply ba_ | apply bn_ | apply bd_ | refine below_set ?_ (IsS71.ge HI0.out))); rintro e w38 ⟨rfl, hi, hb, hk⟩; refine ⟨_, rfl, ?_⟩; replace HO_8 := mk0 (Kd.R_mono (Kd.R_keep (IsS71.apart (show IsS71 w0 _ g s0_0 x1001_22 from by with_reducible repeat (first | exact HI0.out | apply ia_ | apply in_ | apply id_ | apply is_)) (by (with_reducible repeat (first | apply Ra_ | apply Rn_ | apply Rd_)); exact HO_8.out) (by decide)) hk (fun _ h => h.2)) (fun _ h => h.1)); replace HK := mk0 (KeepBut.trans (by with_reducible repeat (first | exact HK.out | apply ks_ | apply kn_ | apply kd_ | apply ka_)) hk (.inl rfl)); replace HB := mk0 (hb); replace HI0 := mk0 (hi); clear hb hk hi) | ((with_reducible refine gate_dst (N := 50) rfl ?_); refine Kd.R_lit (Kd.int .i64) _ 3 ?hg (N := 50) ?hd (xs := ([0, 5, 201] : List Int)) (inner := [.int .i64 0, .int .i64 5, .int .i64 201]) (ok := fun _ => True) (okp := fun _ => True) ?hr ?hp (fun _ hk => hk) trivial (Below.refl _ _) (Nat.le_refl _) (by simp) ?_; (case hd => rfl); (case hg => rfl); (case hr => first | (go_simp; done) | (go_simp; rfl)); (case hp => exact (Reps.one (show Kd.M (Kd.int .i64) _ _ _ 0 [.int .i64 0] from rfl) (Reps.one (show Kd.M (Kd.int .i64) _ _ _ 5 [.int .i64 5] from rfl) (Reps.one (show Kd.M (Kd.int .i64) _ _ _ 201 [.int .i64 201] from rfl) (Reps.none _ _))))); intro v456 w39 ho40 hb hg_ hnew_; clear hg_ hnew_; (first | rw [← Ny455.out] at ho40 | (simp only [Int.reduceToNat] at ho40; rw [← Ny455.out] at ho40)); replace HO_8 := mk0 (Kd.R_below (by (with_reducible repeat (first | apply Ra_ | apply Rn_ | apply Rd_)); exact HO_8.out) hb); have HO457 := mk0 (Kd.R_lower ho40 (keep_size (w := w) (g := g) (row := none) (by with_reducible repeat (first | exact HK.out | apply ks_ | apply kn_ | apply kd_ | apply ka_)))); replace HK := mk0 (KeepBut.trans (by with_reducible repeat (first | exact HK.out | apply ks_ | apply kn_ | apply kd_ | apply ka_)) (KeepBut.of_below hb g none) (.inl rfl)); replace HB := mk0 (below_step (by with_reducible repeat (first | exact HB.out | apply ba_ | apply bn_ | apply bd_ | refine below_set ?_ (IsS71.ge HI0.out))) hb); replace HI0 := mk0 (IsS71.below (by with_reducible repeat (first | exact HI0.out | apply ia_ | apply in_ | apply id_ | apply is_)) hb); clear hb ho40; obtain ⟨Ao41, co41, eo41⟩ := Kd.R_slice HO457.out; subst eo41) | ((with_reducible refine gate_callee (f := 57) rfl ?_); refine goesL_ (some 51) rfl rfl Tryd.func57 (by kernel_rfl) rfl #[.pointer (some ⟨g, 0, none⟩), .slice Ao41 y455.length co41] rfl (by (try simp only [List.map_toArray, List.map_cons, List.map_nil]); first | done | rfl | (simp only [List.length_drop, List.length_take]; rfl)) ?_; (with_reducible refine (spec_reader_one.calls kj22 g s0_0 t454 _ _ y455 t458 t459 w0 _ ?side1 ?side2 ?side3 ?side4 ?side5 A31.out).mono ?_); (case side1 => with_reducible repeat (first | exact HI0.out | apply ia_ | apply in_ | apply id_ | apply is_)); (case side2 => with_reducible repeat (first | exact HB.out | apply ba_ | apply bn_ | apply bd_ | refine below_set ?_ (IsS71.ge HI0.out))); (case side3 => repeat (first | exact (Kd.R_reads' HO457.out).2.2 | (with_reducible first | refine Ca_ ?_ _ | refine Cn_ ?_ _ | refine Cd_ ?_))); (case side4 => exact (Kd.R_reads' HO457.out).2.1); (case side5 => exact far_slice (IsS71.own_ne HI0.out HO457.out (by decide))); rintro e w42 ⟨rfl, hi, hb, hk⟩; refine ⟨_, rfl, ?_⟩; replace HO_8 := mk0 (Kd.R_mono (Kd.R_keep (IsS71.apart (show IsS71 w0 _ g s0_0 t454 from by with_reducible repeat (first | exact HI0.out | apply ia_ | apply in_ | apply id_ | apply is_)) (by (with_reducible repeat (first | apply Ra_ | apply Rn_ | apply Rd_)); exact HO_8.out) (by decide)) hk (fun _ h => h.2)) (fun _ h => h.1)); replace HO457 := mk0 (Kd.R_mono (Kd.R_keep (IsS71.apart (show IsS71 w0 _ g s0_0 t454 from by with_reducible repeat (first | exact HI0.out | apply ia_ | apply in_ | apply id_ | apply is_)) (by (with_reducible repeat (first | apply Ra_ | apply Rn_ | apply Rd_)); exact HO457.out) (by decide)) hk (fun _ h => h.2)) (fun _ h => h.1)); replace HK := mk0 (KeepBut.trans (by with_reducible repeat (first | exact HK.out | apply ks_ | apply kn_ | apply kd_ | apply ka_)) hk (.inl rfl)); replace HB := mk0 (hb); replace HI0 := mk0 (hi); clear hb hk hi) | ((with_reducible refine gate_callee (f := 56) rfl ?_); refine goesL_ (some 53) rfl rfl Tryd.func56 (by kernel_rfl) rfl #[.pointer (some ⟨g, 0, none⟩), .int .i64 9] rfl (by (try simp only [List.map_toArray, List.map_cons, List.map_nil]); first | done | rfl | (simp only [List.length_drop, List.length_take]; rfl)) ?_; (with_reducible refine (spec_reader_pick.calls kj22 g s0_0 t459 9 t460 t461 w0 _ ?side1 ?side2 A32.out).mono ?_); (case side1 => with_reducible repeat (first | exact HI0.out | apply ia_ | apply in_ | apply id_ | apply is_)); (case side2 => with_reducible repeat (first | exact HB.out | apply ba_ | apply bn_ | apply bd_ | refine below_set ?_ (IsS71.ge HI0.out))); rintro e w43 ⟨rfl, hi, hb, hk⟩; refine ⟨_, rfl, ?_⟩; replace HO_8 := mk0 (Kd.R_mono (Kd.R_keep (IsS71.apart (show IsS71 w0 _ g s0_0 t459 from by with_reducible repeat (first | exact HI0.out | apply ia_ | apply in_ | apply id_ | apply is_)) (by (with_reducible repeat (first | apply Ra_ | apply Rn_ | apply Rd_)); exact HO_8.out) (by decide)) hk (fun _ h => h.2)) (fun _ h => h.1)); replace HO457 := mk0 (Kd.R_mono (Kd.R_keep (IsS71.apart (show IsS71 w0 _ g s0_0 t459 from by with_reducible repeat (first | exact HI0.out | apply ia_ | apply in_ | apply id_ | apply is_)) (by (with_reducible repeat (first | apply Ra_ | apply Rn_ | apply Rd_)); exact HO457.out) (by decide)) hk (fun _ h => h.2)) (fun _ h => h.1)); replace HK := mk0 (KeepBut.trans (by with_reducible repeat (first | exact HK.out | apply ks_ | apply kn_ | apply kd_ | apply ka_)) hk (.inl rfl)); replace HB := mk0 (hb); replace HI0 := mk0 (hi); clear hb hk hi) | ((with_reducible refine gate_callee (f := 56) rfl ?_); refine goesL_ (some 55) rfl rfl Tryd.func56 (by kernel_rfl) rfl #[.pointer (some ⟨g, 0, none⟩), .int .i64 2] rfl (by (try simp only [List.map_toArray, List.map_cons, List.map_nil]); first | done | rfl | (simp only [List.length_drop, List.length_take]; rfl)) ?_; (with_reducible refine (spec_reader_pick.calls kj22 g s0_0 t461 2 t462 t463 w0 _ ?side1 ?side2 A33.out).mono ?_); (case side1 => with_reducible repeat (first | exact HI0.out | apply ia_ | apply in_ | apply id_ | apply is_)); (case side2 => with_reducible repeat (first | exact HB.out | apply ba_ | apply bn_ | apply bd_ | refine below_set ?_ (IsS71.ge HI0.out))); rintro e w44 ⟨rfl, hi, hb, hk⟩; refine ⟨_, rfl, ?_⟩; replace HO_8 := mk0 (Kd.R_mono (Kd.R_keep (IsS71.apart (show IsS71 w0 _ g s0_0 t461 from by with_reducible repeat (first | exact HI0.out | apply ia_ | apply in_ | apply id_ | apply is_)) (by (with_reducible repeat (first | apply Ra_ | apply Rn_ | apply Rd_)); exact HO_8.out) (by decide)) hk (fun _ h => h.2)) (fun _ h => h.1)); replace HO457 := mk0 (Kd.R_mono (Kd.R_keep (IsS71.apart (show IsS71 w0 _ g s0_0 t461 from by with_reducible repeat (first | exact HI0.out | apply ia_ | apply in_ | apply id_ | apply is_)) (by (with_reducible repeat (first | apply Ra_ | apply Rn_ | apply Rd_)); exact HO457.out) (by decide)) hk (fun _ h => h.2)) (fun _ h => h.1)); replace HK := mk0 (KeepBut.trans (by with_reducible repeat (first | exact HK.out | apply ks_ | apply kn_ | apply kd_ | apply ka_)) hk (.inl rfl)); replace HB := mk0 (hb); replace HI0 := mk0 (hi); clear hb hk hi; have p36 : 0 ≤ (t453 : Int) := od_ (by with_reducible assumption); have q36 : (t453 : Int) < ((x8_14.length : Int) : Int) := od_ (by with_reducible assumption); obtain ⟨go36, co36, eo36, gb36, gl36, cl36, HG36⟩ := Kd.R_form HO_8.out (by omega); (first | cases eo36 | (injection eo36 with ea_ en_ ec_; (first | subst ea_ | (injection ea_ with ea_; subst ea_)); subst ec_; clear en_)); have GB36 := mk0 gb36; have GG36 := mk0 HG36; clear gb36 gl36 HG36; obtain ⟨ce36, hcl36, hM36, hcc36, hfr36⟩ := Kd.R_elem HO_8.out z30 (t453 : Int) p36 q36; obtain rfl := k30_openM hM36; have hx36_0 : w44.cell? ⟨go36, (t453 : Int).toNat * 3, none⟩ = some (.int .i64 ((rd_T30 x8_14 t453).f0)) := hcc36 0 _ rfl; have hx36_1 : w44.cell? ⟨go36, (t453 : Int).toNat * 3 + 1, none⟩ = some (.int .i64 ((rd_T30 x8_14 t453).f1)) := hcc36 1 _ rfl; have hx36_2 : w44.cell? ⟨go36, (t453 : Int).toNat * 3 + 2, none⟩ = some (.bool ((rd_T30 x8_14 t453).f2)) := hcc36 2 _ rfl; have hf36_0 : w44.frozen? ⟨go36, (t453 : Int).toNat * 3, none⟩ = false := hfr36 0; have hf36_1 : w44.frozen? ⟨go36, (t453 : Int).toNat * 3 + 1, none⟩ = false := hfr36 1; have hf36_2 : w44.frozen? ⟨go36, (t453 : Int).toNat * 3 + 2, none⟩ = false := hfr36 2; clear hcl36 hcc36 hfr36 hM36; replace p36 := eq_true p36; replace q36 := eq_true q36; have HX45 := mk0 (show Kd.R k30 75 w44 w.heap.size (fun _ => True) (.slice (some ⟨go36, 0, none⟩) x8_14.length co37) x8_14 from (by (with_reducible repeat (first | apply Ra_ | apply Rn_ | apply Rd_)); exact HO_8.out)); obtain ⟨ce45, hcl45, hM45, hcc45, hfr45⟩ := Kd.R_elem HX45.out z30 (t453 : Int) (od_ (by with_reducible assumption)) (by have h_ : (t453 : Int) < ((x8_14.length : Int) : Int) := od_ (by with_reducible assumption); first | exact h_ | (have e_ := (Kd.R_reads' HO_8.out).1; omega) | simpa using h_); obtain rfl := k30_openM hM45; have HP45 := Kd.R_seg HX45.out (t453 : Int) (od_ (by with_reducible assumption)) (by have h_ : (t453 : Int) < ((x8_14.length : Int) : Int) := od_ (by with_reducible assumption); first | exact h_ | (have e_ := (Kd.R_reads' HO_8.out).1; omega) | simpa using h_) (seg := [.int .i64 t458, .int .i64 t460, .bool (t462 == 0)]) (j := 0) hcl45 hcc45 (show 3 ≤ 3 from by decide) (x' := (⟨t458, t460, (t462 == 0)⟩ : S30)) (k30_mkM _ _ _ (⟨t458, t460, (t462 == 0)⟩ : S30) ) (fun _ hk => hk); have hx45_0 := hcc45 0 _ rfl; (try simp only [show (k30).sz = 3 from rfl, Nat.mul_one, Nat.add_zero] at hx45_0); have hf45_0 := hfr45 0; (try simp only [show (k30).sz = 3 from rfl, Nat.mul_one, Nat.add_zero] at hf45_0); have hx45_1 := hcc45 1 _ rfl; (try simp only [show (k30).sz = 3 from rfl, Nat.mul_one, Nat.add_zero] at hx45_1); have hf45_1 := hfr45 1; (try simp only [show (k30).sz = 3 from rfl, Nat.mul_one, Nat.add_zero] at hf45_1); have hx45_2 := hcc45 2 _ rfl; (try simp only [show (k30).sz = 3 from rfl, Nat.mul_one, Nat.add_zero] at hx45_2); have hf45_2 := hfr45 2; (try simp only [show (k30).sz = 3 from rfl, Nat.mul_one, Nat.add_zero] at hf45_2); clear hcl45 hcc45 hfr45 hM45) | ((with_reducible refine gate_store (t := 75) (p := 58) rfl ?_); refine store_event (t := 75) (p := 58) (v := ?vo_w46) (w1 := (((w44.setCell ⟨go36, (t453 : Int).toNat * 3, none⟩ (.int .i64 t458)).setCell ⟨go36, (t453 : Int).toNat * 3 + 1, none⟩ (.int .i64 t460)).setCell ⟨go36, (t453 : Int).toNat * 3 + 2, none⟩ (.bool (t462 == 0)))) ?hg ?ho ?hn ?hr ?_; (case ho => rfl); (case hg => rfl); (case hn => rfl); (case hr => first | (go_simp; done) | (go_simp; rfl)); intro w46 hw; have hg : w44.grownBy w46 (some go36) := (by rw [hw]; exact HP45.2); have hp_ : Kd.R k30 75 w46 w.heap.size (fun _ => True) (.slice (some ⟨go36, 0, none⟩) x8_14.length co37) y464 := (by rw [hw, Ny464.out]; exact HP45.1); clear HP45; replace HI0 := mk0 (IsS71.grown (by with_reducible repeat (first | exact HI0.out | apply ia_ | apply in_ | apply id_ | apply is_)) hg (IsS71.own_ne HI0.out HO_8.out (by decide))); replace HO457 := mk0 (Kd.R_over' (v := (.slice (some ⟨go36, 0, none⟩) x8_14.length co37)) (by (with_reducible repeat (first | apply Ra_ | apply Rn_ | apply Rd_)); exact HO457.out) (Kd.R_typed HO_8.out) (by decide) hg); replace HB := mk0 ((by rw [hw]; exact below_set (below_set (below_set (HB.out) (Nat.le_trans HL.out GB36.out)) (Nat.le_trans HL.out GB36.out)) (Nat.le_trans HL.out GB36.out) : Below w0.heap.size w0 w46)); replace HK := mk0 (KeepBut.trans (by with_reducible repeat (first | exact HK.out | apply ks_ | apply kn_ | apply kd_ | apply ka_)) (KeepBut.of_grown hg g) (Kd.R_base2 HO_8.out)); replace HO_8 := mk0 (hp_); clear hg hw hp_))
          go_ret
          exact ⟨_, by first | rfl | (simp [errW_none, errW_some] <;> rfl) | (simp [*, errW_none, errW_some] <;> rfl), by (with_reducible repeat (first | apply Ra_ | apply Rn_ | apply Rd_)); exact HO_8.out, by with_reducible repeat (first | exact HI0.out | apply ia_ | apply in_ | apply id_ | apply is_), by with_reducible repeat (first | exact HB.out | apply ba_ | apply bn_ | apply bd_ | refine below_set ?_ (IsS71.ge HI0.out)), by with_reducible repeat (first | exact HK.out | apply ks_ | apply kn_ | apply kd_ | apply ka_)⟩
         ·
          rw [if_neg c35] at H
          exact nn_ H
        ·
         rw [if_neg c34] at H
         exact nn_ H
       ·
        replace c29 := Bool.eq_false_iff.mpr c29
        subst c29
        rw [if_neg (show ¬ (false = true) by decide)] at H
        simp only [Option.some.injEq, Prod.mk.injEq] at H
        obtain ⟨rfl, rfl⟩ := H
        go_wp2
        go_ret
        exact ⟨_, by first | rfl | (simp [errW_none, errW_some] <;> rfl) | (simp [*, errW_none, errW_some] <;> rfl), by (with_reducible repeat (first | apply Ra_ | apply Rn_ | apply Rd_)); exact HO_8.out, by with_reducible repeat (first | exact HI0.out | apply ia_ | apply in_ | apply id_ | apply is_), by with_reducible repeat (first | exact HB.out | apply ba_ | apply bn_ | apply bd_ | refine below_set ?_ (IsS71.ge HI0.out)), by with_reducible repeat (first | exact HK.out | apply ks_ | apply kn_ | apply kd_ | apply ka_)⟩
-- NOT PRINTED: function 23 (spec_DrawDoneBy)
-- NOT PRINTED: function 59 (impl_set_all)
-- NOT PRINTED: function 61 (impl_set_list)
end Go.Proofs.YtpmfghbjkampkaaDoor.PFnValidLog
